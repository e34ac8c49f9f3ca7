/- A table of functions, put together of its entries. -/
import Derived.Test.YtpoobhhdgjgdgaaGreatAiCallSym
import Derived.Test.YtpoobhhdgjgdgaaGreatAiCpsRunLo
set_option linter.all false
namespace Go.Ai
def Entry (P:Program) (f:Nat) (x:AFn):Prop:=∃ fn,P.funcs[f]?=some fn∧(fn.name == "runtime.NumGoroutine")=false∧fn.body.isNone=false∧∃ m,abA P fn m=some x
def Entries (P:Program):List (Nat × AFn)→Prop
  | []=>True
  | e::l=>Entry P e.1 e.2∧Entries P l
theorem Entries.mem {P:Program}:∀ {l:List (Nat × AFn)},Entries P l→∀ {f x},(f,x)∈l→Entry P f x
  | e::l,h,f,x,hm=>by
    rcases gk.1 hm with rfl | hm
    · exact h.1
    · exact Entries.mem h.2 hm
theorem ahD {P:Program} {fn:Func} {m:Bool} {x:AFn} (h:abA P fn m=some x):∃ ps body res,x = .code ps body res:=by
  unfold abA at h
  simp only [fT] at h
  obtain ⟨c,_,ac,_,rs,_,h⟩:=h
  split at h
  · cases h; exact ⟨_,_,_,rfl⟩
  · cases h
theorem TblOk.prim_set {P:Program} {tbl:Tr AFn} (T:TblOk P tbl) {f:Nat} {g:List AV→Heap→aa} (hp:acZ P f g) (hm:∀ vs H v H',H.ro≤H.nx→g vs H = .ret v H'→eo H H') (he:Enters P f):TblOk P (tbl.set (key f) (.prim g)):={
  mixed:=T.mixed
  mono f' g' hg:=by
    by_cases e:f=f'
    · subst e; rw [Tr.ft] at hg; cases hg; exact hm
    · rw [Tr.fq (fun k=>e (CC k))] at hg; exact T.mono f' g' hg
  enters f' x hx:=by
    by_cases e:f=f'
    · subst e; exact he
    · rw [Tr.fq (fun k=>e (CC k))] at hx; exact T.enters f' x hx
  code f' ps body res hx:=by
    by_cases e:f=f'
    · subst e; rw [Tr.ft] at hx; cases hx
    · rw [Tr.fq (fun k=>e (CC k))] at hx; exact T.code f' ps body res hx
  prim f' g' hg:=by
    by_cases e:f=f'
    · subst e; rw [Tr.ft] at hg; cases hg; exact hp
    · rw [Tr.fq (fun k=>e (CC k))] at hg; exact T.prim f' g' hg }
end Go.Ai
/- The table of all functions that the compiler takes, calls beside loads with the heap shut where that may be: for the printed functions in continuation style. -/
namespace Go.Ai
def YE (P:Program) (f:Nat):Option AFn:=(P.funcs[f]?).bind fun fn=>if fn.name == "runtime.NumGoroutine" then none else match abA P fn true with
  | some x=>some x
  | none=>abA P fn
theorem K2 {P:Program} {f:Nat} {x:AFn} (h:YE P f=some x):Entry P f x:=by
  unfold YE at h
  simp only [fT] at h
  obtain ⟨fn,h1,h2⟩:=h
  split at h2
  · cases h2
  · rename_i hn
    have:∃ m,abA P fn m=some x:=by
      split at h2
      · rename_i y hy; cases h2; exact ⟨true,hy⟩
      · exact ⟨false,h2⟩
    obtain ⟨m,h2⟩:=this
    refine ⟨fn,h1,by simpa using hn,?_,m,h2⟩
    unfold abA at h2
    simp only [fT] at h2
    obtain ⟨c,hc,_⟩:=h2
    rw [hc]; rfl
noncomputable def ajn (P:Program):Nat→Tr AFn
  | 0=>.leaf
  | n+1=>match YE P n with
    | some x=>(ajn P n).set (key n) x
    | none=>ajn P n
theorem akK (P:Program):∀ (n f:Nat),(ajn P n).get (key f)=if f<n then YE P f else none
  | 0,f=>by rw [ajn,Tr.fC,if_neg (by omega)]
  | n+1,f=>by
    have ih:=akK P n f
    cases hc:YE P n with
    | none=>
      simp only [ajn,hc]
      rw [ih]
      by_cases h:f<n
      · rw [if_pos h,if_pos (by omega)]
      · rw [if_neg h]
        by_cases h':f=n
        · subst h'; rw [if_pos (by omega),hc]
        · rw [if_neg (by omega)]
    | some x=>
      simp only [ajn,hc]
      by_cases h':n=f
      · subst h'; rw [Tr.ft,if_pos (by omega),hc]
      · rw [Tr.fq (fun k=>h' (CC k)),ih]
        by_cases h:f<n
        · rw [if_pos h,if_pos (by omega)]
        · rw [if_neg h,if_neg (by omega)]
noncomputable def tblS (P:Program):Tr AFn:=ajn P P.funcs.size
theorem UO (P:Program) (f:Nat):(tblS P).get (key f)=YE P f:=by
  unfold tblS
  rw [akK]
  split
  · rfl
  · rename_i h
    unfold YE
    rw [Array.getElem?_eq_none (by omega)]; rfl
theorem tblS_ok {P:Program} (hm:P.follows .mixedOrders=true):TblOk P (tblS P):={
  mixed:=hm
  mono f g hg:=by
    rw [UO] at hg
    obtain ⟨fn,_,_,_,_,hc⟩:=K2 hg
    obtain ⟨_,_,_,e⟩:=ahD hc
    cases e
  enters f x hx:=by
    rw [UO] at hx
    obtain ⟨fn,h1,h2,h3,_⟩:=K2 hx
    exact ⟨fn,h1,h2,h3⟩
  code f ps body res hx:=by
    rw [UO] at hx
    obtain ⟨fn,h1,_,_,m,h4⟩:=K2 hx
    exact ⟨fn,m,h1,h4⟩
  prim f g hg:=by
    rw [UO] at hg
    obtain ⟨fn,_,_,_,_,hc⟩:=K2 hg
    obtain ⟨_,_,_,e⟩:=ahD hc
    cases e }
theorem xb {tbl:Tr AFn} {f g:Nat} {x:AFn} {y:Option AFn} (e:Nat.beq g f=false) (h:tbl.get (key f)=y):(tbl.set (key g) x).get (key f)=y:=by
  rw [Tr.fq (fun k=>by rw [CC k,Nat.beq_refl] at e; cases e)]
  exact h
end Go.Ai
/- What printed functions compute, forward: rules for runs, what the operations do, slices of numbers in the heap. -/
namespace Go.Ai
def aH {K R:Type} (ap:K→R→aa) (f:K→aa) (Q:R→Prop):Prop:=∃ r,Q r∧∀ k,f k=ap k r
def ap0 (k:Heap→aa) (r:Heap):aa:=k r
def ap1 {α:Type} (k:α→Heap→aa) (r:α × Heap):aa:=k r.1 r.2
def ap2 {α β:Type} (k:α→β→Heap→aa) (r:α × β × Heap):aa:=k r.1 r.2.1 r.2.2
def ap3 {α β γ:Type} (k:α→β→γ→Heap→aa) (r:α × β × γ × Heap):aa:=k r.1 r.2.1 r.2.2.1 r.2.2.2
def dl (f:(Heap→aa)→aa) (Q:Heap→Prop):Prop:=aH ap0 f Q
def aM {α:Type} (f:(α→Heap→aa)→aa) (Q:α→Heap→Prop):Prop:=aH ap1 f fun r=>Q r.1 r.2
def dr {α β:Type} (f:(α→β→Heap→aa)→aa) (Q:α→β→Heap→Prop):Prop:=aH ap2 f fun r=>Q r.1 r.2.1 r.2.2
def Run3 {α β γ:Type} (f:(α→β→γ→Heap→aa)→aa) (Q:α→β→γ→Heap→Prop):Prop:=aH ap3 f fun r=>Q r.1 r.2.1 r.2.2.1 r.2.2.2
section
variable {K R:Type} {ap:K→R→aa} {Q Q':R→Prop} {α β γ:Type}
theorem aH.mono {f:K→aa} (h:aH ap f Q) (hq:∀ r,Q r→Q' r):aH ap f Q':=by
  obtain ⟨r,h1,h2⟩:=h; exact ⟨r,hq r h1,h2⟩
theorem aM.mono {f:(α→Heap→aa)→aa} {Q Q':α→Heap→Prop} (h:aM f Q) (hq:∀ a h,Q a h→Q' a h):aM f Q':=aH.mono h fun r=>hq r.1 r.2
theorem ret0 {h:Heap} {Q:Heap→Prop} (hq:Q h):aH ap0 (fun k=>k h) Q:=⟨h,hq,fun _=>rfl⟩
theorem jL {a:α} {h:Heap} {Q:α × Heap→Prop} (hq:Q (a,h)):aH ap1 (fun k=>k a h) Q:=⟨(a,h),hq,fun _=>rfl⟩
theorem EV {a:α} {b:β} {h:Heap} {Q:α × β × Heap→Prop} (hq:Q (a,b,h)):aH ap2 (fun k=>k a b h) Q:=⟨(a,b,h),hq,fun _=>rfl⟩
theorem agf {a:α} {b:β} {c:γ} {h:Heap} {Q:α × β × γ × Heap→Prop} (hq:Q (a,b,c,h)):aH ap3 (fun k=>k a b c h) Q:=⟨(a,b,c,h),hq,fun _=>rfl⟩
theorem dl.bind {f:(Heap→aa)→aa} {P:Heap→Prop} (hf:dl f P) {g:K→Heap→aa} (h:∀ h',P h'→aH ap (fun k=>g k h') Q):aH ap (fun k=>f (g k)) Q:=by
  obtain ⟨r,h1,h2⟩:=hf
  obtain ⟨s,h3,h4⟩:=h r h1
  exact ⟨s,h3,fun k=>(h2 _).trans (h4 k)⟩
theorem aM.bind {f:(α→Heap→aa)→aa} {P:α→Heap→Prop} (hf:aM f P) {g:K→α→Heap→aa} (h:∀ a h',P a h'→aH ap (fun k=>g k a h') Q):aH ap (fun k=>f (g k)) Q:=by
  obtain ⟨r,h1,h2⟩:=hf
  obtain ⟨s,h3,h4⟩:=h _ _ h1
  exact ⟨s,h3,fun k=>(h2 _).trans (h4 k)⟩
theorem dr.bind {f:(α→β→Heap→aa)→aa} {P:α→β→Heap→Prop} (hf:dr f P) {g:K→α→β→Heap→aa} (h:∀ a b h',P a b h'→aH ap (fun k=>g k a b h') Q):aH ap (fun k=>f (g k)) Q:=by
  obtain ⟨r,h1,h2⟩:=hf
  obtain ⟨s,h3,h4⟩:=h _ _ _ h1
  exact ⟨s,h3,fun k=>(h2 _).trans (h4 k)⟩
theorem Run3.bind {f:(α→β→γ→Heap→aa)→aa} {P:α→β→γ→Heap→Prop} (hf:Run3 f P) {g:K→α→β→γ→Heap→aa} (h:∀ a b c h',P a b c h'→aH ap (fun k=>g k a b c h') Q):aH ap (fun k=>f (g k)) Q:=by
  obtain ⟨r,h1,h2⟩:=hf
  obtain ⟨s,h3,h4⟩:=h _ _ _ _ h1
  exact ⟨s,h3,fun k=>(h2 _).trans (h4 k)⟩
theorem aH.ifB {c:Bool} {f g:K→aa} (ht:c=true→aH ap f Q) (hf:c=false→aH ap g Q):aH ap (fun k=>ifB c (f k) (g k)) Q:=by
  cases c with
  | true=>exact ht rfl
  | false=>exact hf rfl
end
attribute [simp] mS pU Bn It alW Z0 ali amN zG agN agK amV FV Qh kg JQ al5 agD agL agE aqo apQ rm
@[simp] theorem Cp (a b:aa):ifB true a b=a:=rfl
@[simp] theorem D5 (a b:aa):ifB false a b=b:=rfl
@[simp] theorem yR {α:Type} (a:α) (k:α→aa):oC (some a) k=k a:=rfl
@[simp] theorem ama (n:Nat) (k:Nat→aa):ahY (n:Int) k=k n:=rfl
theorem amo {i:Int} (h:0≤i) (k:Nat→aa):ahY i k=k i.toNat:=by
  obtain ⟨n,rfl⟩:=gi h; rfl
@[simp] theorem aaf (q:IntKind) (n:Int) (k:Int→aa):D9 q (.int q n) k=k n:=by cases q<;>rfl
@[simp] theorem Zl (b:Bool) (k:Bool→aa):JN (.bool b) k=k b:=rfl
@[simp] theorem BM (b o:Nat) (k:Nat→Nat→aa):akI (.ptr b o) k=k b o:=rfl
@[simp] theorem aeP (b o l e:Nat) (p:Bool) (k:Nat→Nat→Nat→aa):asSlc (.slice b o l e p) k=k b o l:=rfl
@[simp] theorem ak9 (l:List AV) (k:List AV→aa):asAgg (.agg l) k=k l:=rfl
@[simp] theorem akR (b:Nat) (k:Nat→aa):asMap (.map b) k=k b:=rfl
@[simp] theorem aoJ (b o:Nat) (k:aa):P2 (.ptr b o) k=k:=rfl
@[simp] theorem alY (b o l e:Nat) (p:Bool) (k:Int→aa):jC (.slice b o l e p) k=k l:=rfl
@[simp] theorem apA (k:Int→aa):jC .nilslice k=k 0:=rfl
@[simp] theorem agH (d b o:Nat) (k:AV→aa):faK d (.ptr b o) k=k (.ptr b (o+d)):=by simp [faK]
@[simp] theorem boxK_agg (H:Heap) (l:List AV) (c:Nat→Heap→aa):qR H (.agg l) c=c H.nx (H.add (.cells l true 0)):=by
  show lG H (.cells l true 0) c=_; simp
theorem nfa_eq (d b o:Nat) (k:AV→aa):nfa d (.ptr b o) k=k (.ptr b (o+d)):=by simp [nfa]
attribute [simp] nfa_eq
def andZ (a b:Int):Int:=IntKind.i64.wrap (BitVec.ofInt 64 a &&& BitVec.ofInt 64 b).toNat
@[simp] theorem bitK_and (a b:Int) (c:Int→aa):ae8 .and .i64 a b c=c (andZ a b):=by
  show oC (some _) _=_
  rw [yR,pU]; rfl
theorem abw {q:IntKind} {a b:Int} (h:b≠0) (c:Int→aa):quoK q a b c=c (q.wrap (a.tdiv b)):=by
  unfold quoK; rw [al5,ge h]; simp
theorem PR {q:IntKind} {a b:Int} (h:b≠0) (c:Int→aa):afl q a b c=c (a.tmod b):=by
  unfold afl; rw [al5,ge h]; simp
theorem abl {q:IntKind} {a b:Int} (h:0≤b) (c:Int→aa):shlK q a b c=c (q.wrap (shlF q a b.toNat)):=by
  unfold shlK; rw [amo h]; simp
def Heap.cl (h:Heap) (b:Nat) (l:List AV):Prop:=b<h.nx∧∃ rw g,h.get b=some (.cells l rw g)
theorem gS {h:Heap} {b:Nat} {l:List AV} (hb:h.cl b l) (c:List AV→aa):GO h b c=c l:=by
  obtain ⟨_,rw_,g,hb⟩:=hb
  unfold GO
  rw [aaK]
  have:h.t.get (key b)=some (.cells l rw_ g):=hb
  rw [this]; rfl
@[simp] theorem aph (h:Heap) (b off:Nat) (k:AV→aa):jg h (.ptr b off) 1 false k=GO h b fun l=>oC l[off]? k:=by
  unfold jg
  simp only [BM,D5,agB]; rfl
@[simp] theorem apy (h:Heap) (b off n:Nat) (k:AV→aa):jg h (.ptr b off) n true k=GO h b fun l=>oC (sub l off n) fun cs=>k (.agg cs):=by
  unfold jg
  simp only [BM,Cp]
@[simp] theorem ldI_ptr (q:IntKind) (h:Heap) (b off:Nat) (k:Int→aa):ldI q h (.ptr b off) k=GO h b fun l=>oC l[off]? fun v=>D9 q v k:=by unfold ldI; simp
@[simp] theorem ldB_ptr (h:Heap) (b off:Nat) (k:Bool→aa):ldB h (.ptr b off) k=GO h b fun l=>oC l[off]? fun v=>JN v k:=by unfold ldB; simp
@[simp] theorem fldI_ptr (q:IntKind) (d:Nat) (h:Heap) (b off:Nat) (k:AV→Int→aa):jy q d h (.ptr b off) k=GO h b fun l=>oC l[off+d]? fun v=>D9 q v (k (.ptr b (off+d))):=by unfold jy; simp
@[simp] theorem fldB_ptr (d:Nat) (h:Heap) (b off:Nat) (k:AV→Bool→aa):fldB d h (.ptr b off) k=GO h b fun l=>oC l[off+d]? fun v=>JN v (k (.ptr b (off+d))):=by unfold fldB; simp
@[simp] theorem fld_ptr1 (d:Nat) (h:Heap) (b off:Nat) (k:AV→AV→aa):fld d h (.ptr b off) 1 false k=GO h b fun l=>oC l[off+d]? (k (.ptr b (off+d))):=by unfold fld; simp
@[simp] theorem fld_ptrN (d:Nat) (h:Heap) (b off n:Nat) (k:AV→AV→aa):fld d h (.ptr b off) n true k=GO h b fun l=>oC (sub l (off+d) n) fun cs=>k (.ptr b (off+d)) (.agg cs):=by unfold fld; simp
@[simp] theorem aqT (q:IntKind) (d:Nat) (h:Heap) (b off:Nat) (k:AV→Int→aa):nfldI q d h (.ptr b off) k=jy q d h (.ptr b off) k:=by unfold nfldI; simp
@[simp] theorem aq9 (d:Nat) (h:Heap) (b off:Nat) (k:AV→Bool→aa):nfldB d h (.ptr b off) k=fldB d h (.ptr b off) k:=by unfold nfldB; simp
@[simp] theorem nfld_ptr (d:Nat) (h:Heap) (b off n:Nat) (g:Bool) (k:AV→AV→aa):nfld d h (.ptr b off) n g k=fld d h (.ptr b off) n g k:=by unfold nfld; simp
theorem ai2 {h:Heap} {b off n:Nat} {l cs:List AV} (hb:h.cl b l) (hs:(l.drop off).take n=cs) (hn:off+n≤l.length) (k:AV→aa):jg h (.ptr b off) n true k=k (.agg cs):=by
  unfold jg
  rw [BM,gS hb,Cp,nP,if_pos (by rw [List.length_drop]; omega),hs]; rfl
theorem ag5 {h:Heap} {b off:Nat} {l:List AV} {v:AV} (hb:h.cl b l) (hs:l[off]?=some v) (k:AV→aa):jg h (.ptr b off) 1 false k=k v:=by
  unfold jg
  rw [BM,gS hb,D5]
  show ifB true _ _=_
  rw [Cp,agB,hs]; rfl
theorem fldI_of {h:Heap} {b off d:Nat} {l:List AV} {q:IntKind} {n:Int} (hb:h.cl b l) (hs:l[off+d]?=some (.int q n)) (k:AV→Int→aa):jy q d h (.ptr b off) k=k (.ptr b (off+d)) n:=by
  unfold jy; rw [agH,ag5 hb hs,aaf]
theorem fld_of {h:Heap} {b off d:Nat} {l:List AV} {v:AV} (hb:h.cl b l) (hs:l[off+d]?=some v) (k:AV→AV→aa):fld d h (.ptr b off) 1 false k=k (.ptr b (off+d)) v:=by
  unfold fld; rw [agH,ag5 hb hs]
structure aY (h h':Heap):Prop where
  nx:h.nx≤h'.nx
  ro:h'.ro=h.ro
  old:∀ b,b<h.nx→h'.get b=h.get b
theorem aY.refl {h:Heap}:aY h h:=⟨fY _,rfl,fun _ _=>rfl⟩
theorem aY.trans {h h' h'':Heap} (a:aY h h') (b:aY h' h''):aY h h'':=⟨ga a.nx b.nx,b.ro.trans a.ro,fun c hc=>(b.old c (fW hc a.nx)).trans (a.old c hc)⟩
theorem aY.add {h:Heap} {x:Blk}:aY h (h.add x):=⟨by simp,by simp,fun b hb=>by rw [Heap.fy,if_neg (by omega)]⟩
theorem aY.cl {h h':Heap} (g:aY h h') {b:Nat} {l:List AV} (hb:h.cl b l):h'.cl b l:=by
  obtain ⟨h1,rw_,q,h2⟩:=hb
  exact ⟨fW h1 g.nx,rw_,q,(g.old b h1).trans h2⟩
theorem cl_add (h:Heap) (l:List AV) (rw_:Bool) (g:Nat):(h.add (.cells l rw_ g)).cl h.nx l:=⟨by simp,rw_,g,by rw [Heap.fy,if_pos rfl]⟩
theorem aY.shut {h h':Heap} (g:aY (h.shut true) h'):aY h (h'.back h.ro):=⟨g.nx,rfl,fun b hb=>g.old b hb⟩
theorem Heap.cl.shut {h:Heap} {b:Nat} {l:List AV} (hb:h.cl b l):(h.shut true).cl b l:=hb
theorem m7 (h:Heap) (l:List AV):aM (qR h (.agg l)) fun x h'=>h'.cl x l∧aY h h':=⟨(h.nx,h.add (.cells l true 0)),⟨cl_add ..,aY.add⟩,fun k=>boxK_agg ..⟩
structure Own (h:Heap) (b:Nat) (l:List AV) (g:Nat):Prop where
  lt:b<h.nx
  ro:h.ro≤b
  get:h.get b=some (.cells l true g)
theorem Own.cl {h:Heap} {b:Nat} {l:List AV} {g:Nat} (o:Own h b l g):h.cl b l:=⟨o.lt,true,g,o.get⟩
theorem Own.grow {h h':Heap} {b:Nat} {l:List AV} {q:Nat} (o:Own h b l q) (g:aY h h'):Own h' b l q:=⟨fW o.lt g.nx,by rw [g.ro]; exact o.ro,(g.old b o.lt).trans o.get⟩
theorem DV {h:Heap} (hro:h.ro≤h.nx) (l:List AV) (g:Nat):aM (lG h (.cells l true g)) fun x h'=>h.nx≤x∧Own h' x l g∧aY h h':=
  ⟨(h.nx,h.add (.cells l true g)),⟨fY _,⟨by simp,by simpa using hro,by rw [Heap.fy,if_pos rfl]⟩,aY.add⟩,fun k=>FV ..⟩
theorem aY.le {h h':Heap} (g:aY h h') (hro:h.ro≤h.nx):h'.ro≤h'.nx:=by rw [g.ro]; exact ga hro g.nx
theorem aob {h:Heap} {b:Nat} {l:List AV} {g:Nat} (o:Own h b l g) (c:List AV→Nat→aa):ownX h b c=c l g:=by
  unfold ownX
  have:Nat.blt b h.ro=false:=by rw [blt_eq]; simp; exact o.ro
  rw [this,D5,aaK]
  have h2:h.t.get (key b)=some (.cells l true g):=o.get
  rw [h2]; rfl
structure Put (h:Heap) (b:Nat) (l:List AV) (g:Nat) (h':Heap):Prop where
  own:Own h' b l g
  nx:h'.nx=h.nx
  ro:h'.ro=h.ro
  other:∀ c,c≠b→h'.get c=h.get c
theorem Put.grow {h₀ h h':Heap} {b:Nat} {l:List AV} {q:Nat} (p:Put h b l q h') (g:aY h₀ h) (hb:h₀.nx≤b):aY h₀ h':=⟨by rw [p.nx]; exact g.nx,by rw [p.ro]; exact g.ro,fun c hc=>by rw [p.other c (by omega)]; exact g.old c hc⟩
theorem Put.cl {h h':Heap} {b c:Nat} {l l':List AV} {q:Nat} (p:Put h b l q h') (hc:c≠b) (o:h.cl c l'):h'.cl c l':=by
  obtain ⟨h1,rw_,g,h2⟩:=o
  exact ⟨by rw [p.nx]; exact h1,rw_,g,by rw [p.other c hc]; exact h2⟩
theorem Put.ownO {h h':Heap} {b c:Nat} {l l':List AV} {q q':Nat} (p:Put h b l q h') (hc:c≠b) (o:Own h c l' q'):Own h' c l' q':=
  ⟨by rw [p.nx]; exact o.lt,by rw [p.ro]; exact o.ro,by rw [p.other c hc]; exact o.get⟩
theorem apT {h:Heap} {b:Nat} {l:List AV} {q:Nat} (o:Own h b l q) (l':List AV):Put h b l' q (h.set b (.cells l' true q)):=
  ⟨⟨by simpa using o.lt,by simpa using o.ro,Heap.ft ..⟩,by simp,by simp,fun c hc=>Heap.fq _ (fun e=>hc e.symm) _⟩
theorem Qv {h:Heap} {b off n:Nat} {l cs:List AV} {g:Nat} (o:Own h b l g) (hn:cs.length=n) (hl:off+n≤l.length):dl (jf h (.ptr b off) n (.agg cs)) (Put h b (Bb cs l off) g):=by
  refine ⟨h.set b (.cells (Bb cs l off) true g),apT o _,fun k=>?_⟩
  unfold jf
  rw [BM,aob o]
  show ifB (Nat.beq (sZ cs) n) _ _=_
  rw [rm,hn,Nat.beq_refl,Cp,abx,if_pos (by omega),Qh]; rfl
theorem sI {h:Heap} {b off:Nat} {l:List AV} {g:Nat} {u:AV} (o:Own h b l g) (hl:off<l.length) (hu:u.fD=true):dl (jf h (.ptr b off) 1 u) (Put h b (l.set off u) g):=by
  refine ⟨h.set b (.cells (l.set off u) true g),apT o _,fun k=>?_⟩
  unfold jf
  rw [BM,aob o]
  have:akQ u (fun cs=>ifB (Nat.beq (sZ cs) 1) (alb cs l off fun l=>setX h b (.cells l true g) k) .err) (ifB (Nat.beq 1 1) (aib u l off fun l=>setX h b (.cells l true g) k) .err)=ifB (Nat.beq 1 1) (aib u l off fun l=>setX h b (.cells l true g) k) .err:=by
    cases u<;>first | rfl | cases hu
  rw [this]
  show ifB true _ _=_
  rw [Cp,aaA,if_pos hl,Qh]; rfl
theorem Ix (cs l:List AV) (h:cs.length=l.length):Bb cs l 0=cs:=by
  rw [WY _ _ (by omega),h,List.drop_length,List.append_nil]
theorem G1 {h:Heap} (hro:h.ro≤h.nx) {z cs:List AV} {n:Nat} (hz:z.length=n) (hc:cs.length=n) :
    aM (fun K=>lG h (.cells z true 0) fun x h1=>jf h1 (.ptr x 0) n (.agg cs) (K x)) fun x h'=>h.nx≤x∧Own h' x cs 0∧aY h h':=by
  refine aM.bind (DV hro z 0) ?_
  rintro x h1 ⟨hx,ho,g⟩
  refine dl.bind (Qv ho hc (by omega)) ?_
  intro h2 hp
  rw [Ix _ _ (by omega)] at hp
  exact jL ⟨hx,hp.own,hp.grow g hx⟩
theorem akZ {h:Heap} (hro:h.ro≤h.nx) {z u:AV} (hu:u.fD=true) :
    aM (fun K=>lG h (.cells [z] true 0) fun x h1=>jf h1 (.ptr x 0) 1 u (K x)) fun x h'=>h.nx≤x∧Own h' x [u] 0∧aY h h':=by
  refine aM.bind (DV hro [z] 0) ?_
  rintro x h1 ⟨hx,ho,g⟩
  refine dl.bind (sI ho (by simp) hu) ?_
  intro h2 hp
  exact jL ⟨hx,hp.own,hp.grow g hx⟩
theorem idxA_of {l:List AV} {n i:Nat} (hn:l.length=n) (hi:i<n) (k:AV→aa):aeA 1 n false (.agg l) (i:Int) k=k (l[i]'(by omega)):=by
  unfold aeA
  rw [ak9,ama]
  have h1:Nat.blt i n=true:=by rw [blt_eq]; simpa using hi
  rw [h1,Cp,mS,nP,if_pos (by rw [List.length_drop,Nat.mul_eq,Nat.mul_one]; omega),yR]
  have:(l.drop (Nat.mul i 1)).take 1 = [l[i]'(by omega)]:=by
    rw [Nat.mul_eq,Nat.mul_one,gc (by omega)]; rfl
  rw [this]; rfl
def bI (h:Heap) (v:AV) (sz n:Nat) (f:Nat→List AV):Prop:=n≤9223372036854775807∧
  ((v = .nilslice∧n=0)∨∃ b off ext opn,v = .slice b off n ext opn∧(0<n→∃ l,h.cl b l∧∀ i,i<n→off+i*sz+sz≤l.length∧(l.drop (off+i*sz)).take sz=f i))
theorem bI.grow {h h':Heap} {v:AV} {sz n:Nat} {f:Nat→List AV} (s:bI h v sz n f) (g:aY h h'):bI h' v sz n f:=by
  obtain ⟨hn,s⟩:=s
  rcases s with s | ⟨b,off,ext,opn,h1,h2⟩
  · exact ⟨hn,.inl s⟩
  · exact ⟨hn,.inr ⟨b,off,ext,opn,h1,fun h0=>have ⟨l,h3,h4⟩:=h2 h0; ⟨l,g.cl h3,h4⟩⟩⟩
theorem bI.len {h:Heap} {v:AV} {sz n:Nat} {f:Nat→List AV} (s:bI h v sz n f) (k:Int→aa):jC v k=k n:=by
  rcases s with ⟨_,⟨rfl,rfl⟩ | ⟨b,off,ext,opn,rfl,_⟩⟩<;>rfl
def elP (v:AV) (sz:Nat) (i:Int):AV:=match v with
  | .slice b off _ _ _=>.ptr b (off+i.toNat*sz)
  | v=>v
theorem bI.ia {h:Heap} {v:AV} {sz n:Nat} {f:Nat→List AV} (s:bI h v sz n f) {i:Int} (h0:0≤i) (hi:i<n) (k:AV→aa):Qc sz v i k=k (elP v sz i):=by
  rcases s with ⟨_,⟨rfl,rfl⟩ | ⟨b,off,ext,opn,rfl,_⟩⟩
  · omega
  · unfold Qc
    rw [aeP,amo h0]
    have:Nat.blt i.toNat n=true:=by rw [blt_eq]; simp; omega
    rw [this,Cp]; simp [elP]
theorem bI.at_ {h:Heap} {v:AV} {sz n:Nat} {f:Nat→List AV} (s:bI h v sz n f) {i:Int} (h0:0≤i) (hi:i<n) :
    ∃ b off l,elP v sz i = .ptr b off∧h.cl b l∧off+sz≤l.length∧(l.drop off).take sz=f i.toNat:=by
  rcases s with ⟨_,⟨rfl,rfl⟩ | ⟨b,off,ext,opn,rfl,h1⟩⟩
  · omega
  · obtain ⟨l,h1,h2⟩:=h1 (by omega)
    obtain ⟨h3,h4⟩:=h2 i.toNat (by omega)
    exact ⟨b,_,l,rfl,h1,h3,h4⟩
theorem bI.eld {h:Heap} {v:AV} {sz n:Nat} {f:Nat→List AV} (s:bI h v sz n f) {i:Int} (h0:0≤i) (hi:i<n) (k:AV→AV→aa):eld sz h v i sz true k=k (elP v sz i) (.agg (f i.toNat)):=by
  unfold Ai.eld
  rw [s.ia h0 hi]
  obtain ⟨b,off,l,e,h1,h2,h3⟩:=s.at_ h0 hi
  rw [e,ai2 h1 h3 h2]
def AV.shut:AV→Bool
  | .slice _ _ _ _ opn=>!opn
  | _=>true
theorem bI.take {h:Heap} {v:AV} {sz n:Nat} {f:Nat→List AV} (s:bI h v sz n f) (hs:v.shut=true) {i:Int} (h0:0≤i) (hi:i≤n):∃ v',bI h v' sz i.toNat f∧∀ k,slK (.sl sz) v none (some (.int .i64 i)) none k=k v':=by
  obtain ⟨m,rfl⟩:=gi h0
  obtain ⟨hn,⟨rfl,rfl⟩ | ⟨b,off,ext,opn,rfl,h1⟩⟩:=s
  · have:m=0:=by omega
    subst this
    exact ⟨.nilslice,⟨by simp,.inl ⟨rfl,rfl⟩⟩,fun k=>rfl⟩
  · obtain rfl:opn=false:=by simpa [AV.shut] using hs
    refine ⟨.slice b off m (n+ext-m) false,⟨by simp; omega,.inr ⟨b,off,_,false,rfl,fun h0=>have ⟨l,h3,h4⟩:=h1 (by simp at h0; omega); ⟨l,h3,fun j hj=>h4 j (by simp at hj; omega)⟩⟩⟩,fun k=>?_⟩
    have hm:m≤n+ext:=by omega
    unfold slK
    have:slV (.sl sz) (.slice b off n ext false) none (some (.int .i64 (m:Int))) none=some (.slice b off m (n+ext-m) false):=by
      have e1:Xh (some (.int .i64 (m:Int))) n (n+ext)=some m:=by
        have h2:Nat.ble m (n+ext)=true:=fG hm
        show Bool.casesOn (motive:=fun _=>Option Nat) (Nat.ble m (n+ext)) none (some m)=_
        rw [h2]
      simp only [slV]
      have e0:Xh none (n+ext) (n+ext)=some (n+ext):=rfl
      rw [e0]; dsimp only; rw [e1]; dsimp only
      have e2:Xh none 0 m=some 0:=rfl
      rw [e2]; dsimp only
      simp
    rw [this,yR,Bn]
def nz (l:List Int) (i:Nat):Int:=l.getD i 0
theorem LH {l:List Int} {i:Nat} (h:i<l.length):nz l i=l[i]:=by unfold nz; rw [gh,fU h]; rfl
def cK (h:Heap) (q:IntKind) (v:AV) (l:List Int):Prop:=bI h v 1 l.length fun i=>[.int q (nz l i)]
theorem cK.grow {h h':Heap} {q:IntKind} {v:AV} {l:List Int} (s:cK h q v l) (g:aY h h'):cK h' q v l:=bI.grow s g
theorem cK.len {h:Heap} {q:IntKind} {v:AV} {l:List Int} (s:cK h q v l) (k:Int→aa):jC v k=k l.length:=bI.len s k
theorem cK.small {h:Heap} {q:IntKind} {v:AV} {l:List Int} (s:cK h q v l):l.length≤9223372036854775807:=s.1
theorem cK.el {h:Heap} {q:IntKind} {v:AV} {l:List Int} (s:cK h q v l) {i:Int} (h0:0≤i) (hi:i<l.length) (k:AV→Int→aa):Xg q 1 h v i k=k (elP v 1 i) (nz l i.toNat):=by
  unfold Xg
  rw [bI.ia s h0 hi]
  obtain ⟨b,off,l',e,h1,h2,h3⟩:=bI.at_ s h0 hi
  have h4:l'[off]?=some (.int q (nz l i.toNat)):=by
    have:=congrArg (·[0]?) h3
    simpa using this
  rw [e,ag5 h1 h4,aaf]
theorem cK.elN {h:Heap} {q:IntKind} {v:AV} {l:List Int} (s:cK h q v l) {i:Nat} (hi:i<l.length) (k:AV→Int→aa):Xg q 1 h v i k=k (elP v 1 i) (nz l i):=s.el (fP i) (by omega) k
theorem apI {h:Heap} {b:Nat} {q:IntKind} {l:List Int} (hb:h.cl b (l.map (.int q))) (hl:l.length≤9223372036854775807) (ext:Nat) (opn:Bool):cK h q (.slice b 0 l.length ext opn) l:=by
  refine ⟨hl,.inr ⟨b,0,ext,opn,rfl,fun _=>⟨_,hb,fun i hi=>⟨by simp; omega,?_⟩⟩⟩⟩
  simp only [Nat.zero_add,Nat.mul_one]
  rw [LH hi, ← List.map_drop, ← List.map_take]
  rw [gc hi]; rfl
theorem wi {h:Heap} {len:Nat} {z l:List AV} {parts:List (Nat × Nat × AV)} (hf:∀ k,aiM parts z k=k l):aM (l8 h len z parts) fun v h'=>v = .slice h.nx 0 len 0 false∧h'.cl h.nx l∧aY h h':=by
  refine ⟨(.slice h.nx 0 len 0 false,h.add (.cells l true 0)),⟨rfl,cl_add ..,aY.add⟩,fun k=>?_⟩
  unfold l8
  rw [hf,FV]; rfl
theorem aeC {h:Heap} {q:IntKind} (xs:List Int) {z:List AV} {parts:List (Nat × Nat × AV)} (hf:∀ k,aiM parts z k=k (xs.map (.int q))) (hl:xs.length≤9223372036854775807):aM (l8 h xs.length z parts) fun v h'=>cK h' q v xs∧aY h h':=
  (wi hf).mono fun _ _ ⟨h1,h2,h3⟩=>⟨by rw [h1]; exact apI h2 hl 0 false,h3⟩
theorem m9 {n:Int} (h0 : -9223372036854775808≤n) (h1:n≤9223372036854775807):IntKind.i64.wrap n=n:=by
  rw [IntKind.wrap_i64]; omega
theorem ahh {n:Int} (h0:0≤n) (h1:n<18446744073709551616):IntKind.u64.wrap n=n:=by
  simp only [IntKind.wrap,IntKind.signed,IntKind.bits]; simp; omega
theorem jq {i:Nat} (h:i≤9223372036854775806):IntKind.i64.wrap ((i:Int)+1)=((i+1:Nat):Int):=by
  rw [m9 (by omega) (by omega)]; simp
end Go.Ai
/- Configurations: what chapter 11 says may be, as plain functions; how one lies in the heap. -/
namespace Go.Ai
structure cU where
  eZ:List Int
  order:Int
  user:Int
  tables:Int
  spaces:Int
  fj:Int
  fi:Int
  slots:Int
structure bA where
  frames:Int
  eY:Int
  ways:Int
  l1sets:Int
  l1ways:Int
  tlb:Int
  l1:Int
  llc:Int
  miss:Int
  fault:Int
  step:Int
  disk:Int
  slice:Int
  pad:Int
  first:Int
  fh:List Int
  parts:List cU
def zE (z:bA):List AV:=[.int .u64 z.l1,.int .u64 z.llc,.int .u64 z.miss,.int .u64 z.fault,.int .u64 z.step,.int .u64 z.disk]
def qr (z:bA) (t p:AV):List AV:=[.int .i64 z.frames,.int .i64 z.eY,.int .i64 z.ways,.int .i64 z.l1sets,.int .i64 z.l1ways,.int .i64 z.tlb,
  .int .u64 z.l1,.int .u64 z.llc,.int .u64 z.miss,.int .u64 z.fault,.int .u64 z.step,.int .u64 z.disk,.int .u64 z.slice,.int .u64 z.pad,.int .u64 z.first,t,p]
def tJ (x:cU) (s:AV):List AV:=[s,.int .i64 x.order,.int .i64 x.user,.int .i64 x.tables,.int .i64 x.spaces,.int .i64 x.fj,.int .i64 x.fi,.int .i64 x.slots]
instance:Inhabited cU:=⟨⟨[],0,0,0,0,0,0,0⟩⟩
def di (h:Heap) (v:AV) (ps:List cU):Prop:=v.shut=true∧∃ S:Nat→AV,bI h v 8 ps.length (fun i=>tJ (ps.getD i default) (S i))∧∀ i,i<ps.length→cK h .i64 (S i) (ps.getD i default).eZ
theorem di.grow {h h':Heap} {v:AV} {ps:List cU} (s:di h v ps) (g:aY h h'):di h' v ps:=by
  obtain ⟨h0,S,h1,h2⟩:=s
  exact ⟨h0,S,h1.grow g,fun i hi=>(h2 i hi).grow g⟩
def Cfg (h:Heap) (z:bA) (c:List AV):Prop:=∃ t p,c=qr z t p∧cK h .i64 t z.fh∧di h p z.parts
theorem Cfg.grow {h h':Heap} {z:bA} {c:List AV} (s:Cfg h z c) (g:aY h h'):Cfg h' z c:=by
  obtain ⟨t,p,h1,h2,h3⟩:=s
  exact ⟨t,p,h1,h2.grow g,h3.grow g⟩
def jd (n a b:Int):Bool:=decide (a≤n)&&decide (n≤b)
def WO (n Zj:Int):Bool:=jd n 1 Zj&&(andZ n (IntKind.i64.wrap (n-1))==0)
def nK (z:bA):Bool:=WO z.eY 16&&(jd z.frames 1 4096&&(z.frames.tmod z.eY==0&&(WO z.l1sets 4096&&(jd z.ways 1 16&&(jd z.l1ways 1 16&&
  (jd z.tlb 1 64&&jd z.parts.length 1 8))))))
def ail (z:bA):Int:=IntKind.i64.wrap (z.frames.tdiv z.eY)
def tz (a b:Int):Bool:=decide (a≤b)&&decide (b≤65536)
def apS (z:bA):Bool:=tz 1 z.l1&&(tz z.l1 z.llc&&(tz z.llc z.miss&&(tz 1 z.fault&&(tz 1 z.step&&tz 1 z.disk))))
def aak (z:bA):Int:=if apS z then 0 else 100
def ZF (last:Option Int) (x:Int):Bool:=match last with | none=>true | some y=>decide (y<x)
def zq (z:bA) (ps:List cU) (last:Option Int):List Int→Bool
  | []=>true
  | x::l=>decide (0≤x)&&(decide (x<z.eY)&&(ZF last x&&(ps.all (fun q=>!decide (x∈q.eZ))&&zq z ps (some x) l)))
theorem Fu (z:bA) (ps:List cU) (last:Option Int) (x:Int) (l:List Int):zq z ps last (x::l)=(decide (0≤x)&&(decide (x<z.eY)&&(ZF last x&&(ps.all (fun q=>!decide (x∈q.eZ))&&zq z ps (some x) l)))):=rfl
def jH (z:bA) (p:Nat):cU:=z.parts.getD p default
def aa0 (z:bA) (p:Nat):Bool:=zq z (z.parts.take p) none (jH z p).eZ&&decide (0<(jH z p).eZ.length)
def ab7 (z:bA) (p:Nat):Int:=IntKind.i64.wrap ((jH z p).eZ.length*ail z)
theorem cfg_0 (z:bA) (t p:AV):(qr z t p)[0]?=some (.int .i64 z.frames):=rfl
theorem cfg_1 (z:bA) (t p:AV):(qr z t p)[1]?=some (.int .i64 z.eY):=rfl
theorem cfg_2 (z:bA) (t p:AV):(qr z t p)[2]?=some (.int .i64 z.ways):=rfl
theorem cfg_3 (z:bA) (t p:AV):(qr z t p)[3]?=some (.int .i64 z.l1sets):=rfl
theorem cfg_4 (z:bA) (t p:AV):(qr z t p)[4]?=some (.int .i64 z.l1ways):=rfl
theorem cfg_5 (z:bA) (t p:AV):(qr z t p)[5]?=some (.int .i64 z.tlb):=rfl
theorem cfg_6 (z:bA) (t p:AV):(qr z t p)[6]?=some (.int .u64 z.l1):=rfl
theorem cfg_7 (z:bA) (t p:AV):(qr z t p)[7]?=some (.int .u64 z.llc):=rfl
theorem cfg_8 (z:bA) (t p:AV):(qr z t p)[8]?=some (.int .u64 z.miss):=rfl
theorem cfg_9 (z:bA) (t p:AV):(qr z t p)[9]?=some (.int .u64 z.fault):=rfl
theorem cfg_10 (z:bA) (t p:AV):(qr z t p)[10]?=some (.int .u64 z.step):=rfl
theorem cfg_11 (z:bA) (t p:AV):(qr z t p)[11]?=some (.int .u64 z.disk):=rfl
theorem cfg_12 (z:bA) (t p:AV):(qr z t p)[12]?=some (.int .u64 z.slice):=rfl
theorem cfg_13 (z:bA) (t p:AV):(qr z t p)[13]?=some (.int .u64 z.pad):=rfl
theorem cfg_14 (z:bA) (t p:AV):(qr z t p)[14]?=some (.int .u64 z.first):=rfl
theorem cfg_15 (z:bA) (t p:AV):(qr z t p)[15]?=some t:=rfl
theorem cfg_16 (z:bA) (t p:AV):(qr z t p)[16]?=some p:=rfl
theorem part_0 (x:cU) (s:AV):(tJ x s)[0]?=some s:=rfl
theorem part_1 (x:cU) (s:AV):(tJ x s)[1]?=some (.int .i64 x.order):=rfl
theorem part_2 (x:cU) (s:AV):(tJ x s)[2]?=some (.int .i64 x.user):=rfl
theorem apt (x:cU) (s:AV):(tJ x s)[3]?=some (.int .i64 x.tables):=rfl
theorem apo (x:cU) (s:AV):(tJ x s)[4]?=some (.int .i64 x.spaces):=rfl
theorem ao9 (x:cU) (s:AV):(tJ x s)[5]?=some (.int .i64 x.fj):=rfl
theorem part_6 (x:cU) (s:AV):(tJ x s)[6]?=some (.int .i64 x.fi):=rfl
theorem amB (x:cU) (s:AV):(tJ x s)[7]?=some (.int .i64 x.slots):=rfl
theorem sub_cfg (z:bA) (t p:AV):sub (qr z t p) 0 17=some (qr z t p):=by rw [nP]; rfl
theorem sub_cost (z:bA) (t p:AV):sub (qr z t p) 6 6=some (zE z):=by rw [nP]; rfl
theorem cost_0 (z:bA):(zE z)[0]?=some (.int .u64 z.l1):=rfl
theorem cost_1 (z:bA):(zE z)[1]?=some (.int .u64 z.llc):=rfl
theorem cost_2 (z:bA):(zE z)[2]?=some (.int .u64 z.miss):=rfl
theorem cost_3 (z:bA):(zE z)[3]?=some (.int .u64 z.fault):=rfl
theorem cost_4 (z:bA):(zE z)[4]?=some (.int .u64 z.step):=rfl
theorem cost_5 (z:bA):(zE z)[5]?=some (.int .u64 z.disk):=rfl
theorem aqG (z:bA):sub (zE z) 0 6=some (zE z):=by rw [nP]; rfl
def alU (ps:List cU) (a:Int):Int:=ps.foldl (fun a q=>if jd q.slots 1 1024 then IntKind.i64.wrap (a+q.slots) else a) a
def Qe (x:cU):Int:=IntKind.i64.wrap (shlF .i64 1 x.order.toNat)
def needZ (x:cU):Int:=IntKind.i64.wrap (IntKind.i64.wrap (IntKind.i64.wrap (IntKind.i64.wrap (IntKind.i64.wrap (Qe x+x.user)+x.tables)+x.spaces)+x.fj)+x.fi)
def qt (z:bA) (p:Nat):Bool:=jd (jH z p).order 0 3&&(jd (jH z p).user 2 4096&&(jd (jH z p).tables 4 4096&&(jd (jH z p).spaces 1 4096&&(jd (jH z p).fj 1 4096&&
  (jd (jH z p).fi 1 4096&&(jd (jH z p).slots 1 1024&&(decide (alU (z.parts.take (p+1)) 0≤1024)&&(!nK z||(decide (Qe (jH z p)≤ail z)&&decide (needZ (jH z p)≤ab7 z p))))))))))
def Uk (z:bA) (p:Nat):Int:=if aa0 z p then (if qt z p then 0 else 111) else 110
theorem afu {z:bA} (h:nK z=true):z.eY≠0:=by
  simp [nK,WO,jd] at h; omega
def w64 (n:Int):Int:=IntKind.u64.wrap n
structure dg where
  image:Int
  user:Int
  limit:Int
  nodes:Int
def zf (s:dg):List AV:=[.int .i64 s.image,.int .i64 s.user,.int .i64 s.limit,.int .i64 s.nodes]
theorem shape_0 (s:dg):(zf s)[0]?=some (.int .i64 s.image):=rfl
theorem shape_1 (s:dg):(zf s)[1]?=some (.int .i64 s.user):=rfl
theorem shape_2 (s:dg):(zf s)[2]?=some (.int .i64 s.limit):=rfl
theorem shape_3 (s:dg):(zf s)[3]?=some (.int .i64 s.nodes):=rfl
theorem aqy (s:dg):sub (zf s) 0 4=some (zf s):=by rw [nP]; rfl
def maxZ (a b:Int):Int:=if a<b then b else a
def minZ (a b:Int):Int:=if b<a then b else a
def pageC (z:bA):Int:=w64 (z.step+w64 (2*z.miss))
def allC (z:bA) (s:dg):Int:=w64 (w64 s.limit*pageC z)
def apJ (z:bA) (s:dg):Int:=w64 (w64 (w64 (w64 (2*w64 s.user)+1)*z.step)+z.disk)
def apZ (z:bA):Int:=w64 (113*z.miss)
def akP (z:bA):Int:=w64 (64*pageC z)
def abW (z:bA) (s:dg):List Int:=[0,w64 (17*z.miss),w64 (allC z s+z.miss),w64 (w64 (z.miss+w64 (w64 (16*w64 s.nodes)*z.miss))+allC z s),apZ z,akP z,
  w64 (w64 (64*w64 (z.step+z.miss))+z.miss),maxZ (apZ z) (akP z),w64 (w64 (w64 (w64 (26*z.miss)+z.fault)+apJ z s)+z.disk),
  w64 (w64 (w64 (w64 (64*z.miss)+w64 (2*z.fault))+w64 (2*apJ z s))+z.disk),0]
def mostC (z:bA) (s:dg):Int:=w64 (w64 (w64 s.image*z.miss)+(abW z s).foldl maxZ 0)
def ah7 (z:bA) (s:dg):Int:=if aak z=0 then (if (decide (s.image=1)||(decide (s.image=2)||(decide (s.image=4)||decide (s.image=8))))&&(jd s.user 2 4096&&(jd s.limit 1 5120&&jd s.nodes 1 4096)) then 0 else 2) else aak z
def ah2 (z:bA) (p:Nat):dg:=⟨Qe (jH z p),(jH z p).user,minZ (IntKind.i64.wrap (IntKind.i64.wrap ((jH z p).user+(jH z p).slots)-1)) (IntKind.i64.wrap (16*(jH z p).fi)),(jH z p).tables⟩
def Xa (z:bA) (lines trans:Int):Int:=if aak z=0 then (if jd lines 0 65536&&jd trans 0 64 then 0 else 2) else aak z
def aqg (z:bA) (lines trans:Int):Int:=w64 (w64 (IntKind.i64.wrap (lines+trans))*z.step)
def yG (z:bA) (p:Nat):Bool:=!decide (Uk z p=0)||(decide (ah7 z (ah2 z p)=0)&&decide (mostC z (ah2 z p)≤z.slice))
def zX (z:bA):Bool:=decide (1≤z.slice)&&(decide (z.slice≤4194304)&&(decide (z.pad≤4194304)&&(decide (z.first<1099511627776)&&(!nK z||(!decide (aak z=0)||
  (decide (Xa z (IntKind.i64.wrap (z.l1sets*z.l1ways)) z.tlb=0)&&(decide (aqg z (IntKind.i64.wrap (z.l1sets*z.l1ways)) z.tlb≤z.pad)&&(List.range z.parts.length).all (yG z))))))))
def aaZ (z:bA):Bool:=jd z.fh.length 1 64&&z.fh.all fun p=>jd p 0 (IntKind.i64.wrap (z.parts.length-1))
def uD (z:bA):Bool:=nK z&&(decide (aak z=0)&&(zX z&&(aaZ z&&(List.range (min z.parts.length 8)).all fun p=>decide (Uk z p=0))))
end Go.Ai
/- The facts by which a printed function is read, in one. -/
namespace Go.Ai
set_option linter.defProp false
theorem getAt0 (a:AV) (l:List AV):(a::l)[0]?=some a:=rfl
theorem getAtS (a:AV) (l:List AV) (n:Nat):(a::l)[n+1]?=l[n]?:=rfl
def aB:=And.intro @mS (And.intro @pU (And.intro @Bn (And.intro @It (And.intro @alW (And.intro @Z0 (And.intro @ali (And.intro @amN (And.intro @zG (And.intro @agN (And.intro @agK (And.intro @amV (And.intro @kg (And.intro @JQ (And.intro @Cp (And.intro @D5 (And.intro @yR (And.intro @ama (And.intro @aaf (And.intro @Zl (And.intro @BM (And.intro @aeP (And.intro @ak9 (And.intro @akR (And.intro @aoJ (And.intro @alY (And.intro @apA (And.intro @agH (And.intro @nfa_eq (And.intro @bitK_and (And.intro @aph (And.intro @apy (And.intro @ldI_ptr (And.intro @ldB_ptr (And.intro @fldI_ptr (And.intro @fldB_ptr (And.intro @fld_ptr1 (And.intro @fld_ptrN (And.intro @aqT (And.intro @aq9 (And.intro @nfld_ptr (And.intro @Nat.zero_add (And.intro @Nat.add_zero (And.intro @getAt0 (@getAtS))))))))))))))))))))))))))))))))))))))))))))
def bC:=And.intro @cfg_0 (And.intro @cfg_1 (And.intro @cfg_2 (And.intro @cfg_3 (And.intro @cfg_4 (And.intro @cfg_5 (And.intro @cfg_6 (And.intro @cfg_7 (And.intro @cfg_8 (And.intro @cfg_9 (And.intro @cfg_10 (And.intro @cfg_11 (And.intro @cfg_12 (And.intro @cfg_13 (And.intro @cfg_14 (And.intro @cfg_15 (And.intro @cfg_16 (And.intro @part_0 (And.intro @part_1 (And.intro @part_2 (And.intro @apt (And.intro @apo (And.intro @ao9 (And.intro @part_6 (And.intro @amB (And.intro @sub_cfg (And.intro @sub_cost (And.intro @aqG (And.intro @cost_0 (And.intro @cost_1 (And.intro @cost_2 (And.intro @cost_3 (And.intro @cost_4 (And.intro @cost_5 (And.intro @shape_0 (And.intro @shape_1 (And.intro @shape_2 (And.intro @shape_3 (@aqy))))))))))))))))))))))))))))))))))))))
end Go.Ai
