/- A table of functions, put together of its entries. -/
import Derived.Test.YtpoobhhdgjgdgaaGreatAiCallSym
import Derived.Test.YtpoobhhdgjgdgaaGreatAiCpsRunLo
set_option linter.all false
namespace Go.Ai
def Entry (P:Program) (f:Nat) (x:AFn):Prop:=∃ fn,P.funcs[f]?=some fn∧(fn.name == "runtime.NumGoroutine")=false∧fn.body.isNone=false∧∃ m,aaw P fn m=some x
def Entries (P:Program):List (Nat × AFn)→Prop
  | []=>True
  | e::l=>Entry P e.1 e.2∧Entries P l
theorem Entries.mem {P:Program}:∀ {l:List (Nat × AFn)},Entries P l→∀ {f x},(f,x)∈l→Entry P f x
  | e::l,h,f,x,hm=>by
    rcases gl.1 hm with rfl | hm
    · exact h.1
    · exact Entries.mem h.2 hm
theorem ahL {P:Program} {fn:Func} {m:Bool} {x:AFn} (h:aaw P fn m=some x):∃ ps body res,x = .code ps body res:=by
  unfold aaw at h
  simp only [fU] at h
  obtain ⟨c,_,ac,_,rs,_,h⟩:=h
  split at h
  · cases h; exact ⟨_,_,_,rfl⟩
  · cases h
theorem TblOk.prim_set {P:Program} {tbl:Tr AFn} (T:TblOk P tbl) {f:Nat} {g:List AV→Heap→aa} (hp:ac9 P f g) (hm:∀ vs H v H',H.ro≤H.nx→g vs H = .ret v H'→eu H H') (he:Enters P f):TblOk P (tbl.set (key f) (.prim g)):={
  mixed:=T.mixed
  mono f' g' hg:=by
    by_cases e:f=f'
    · subst e; rw [Tr.fu] at hg; cases hg; exact hm
    · rw [Tr.ft (fun k=>e (Dg k))] at hg; exact T.mono f' g' hg
  enters f' x hx:=by
    by_cases e:f=f'
    · subst e; exact he
    · rw [Tr.ft (fun k=>e (Dg k))] at hx; exact T.enters f' x hx
  code f' ps body res hx:=by
    by_cases e:f=f'
    · subst e; rw [Tr.fu] at hx; cases hx
    · rw [Tr.ft (fun k=>e (Dg k))] at hx; exact T.code f' ps body res hx
  prim f' g' hg:=by
    by_cases e:f=f'
    · subst e; rw [Tr.fu] at hg; cases hg; exact hp
    · rw [Tr.ft (fun k=>e (Dg k))] at hg; exact T.prim f' g' hg }
end Go.Ai
/- The table of all functions that the compiler takes, calls beside loads with the heap shut where that may be: for the printed functions in continuation style. -/
namespace Go.Ai
def Yt (P:Program) (f:Nat):Option AFn:=(P.funcs[f]?).bind fun fn=>if fn.name == "runtime.NumGoroutine" then none else match aaw P fn true with
  | some x=>some x
  | none=>aaw P fn
theorem Lk {P:Program} {f:Nat} {x:AFn} (h:Yt P f=some x):Entry P f x:=by
  unfold Yt at h
  simp only [fU] at h
  obtain ⟨fn,h1,h2⟩:=h
  split at h2
  · cases h2
  · rename_i hn
    have:∃ m,aaw P fn m=some x:=by
      split at h2
      · rename_i y hy; cases h2; exact ⟨true,hy⟩
      · exact ⟨false,h2⟩
    obtain ⟨m,h2⟩:=this
    refine ⟨fn,h1,by simpa using hn,?_,m,h2⟩
    unfold aaw at h2
    simp only [fU] at h2
    obtain ⟨c,hc,_⟩:=h2
    rw [hc]; rfl
noncomputable def ahS (P:Program):Nat→Tr AFn
  | 0=>.leaf
  | n+1=>match Yt P n with
    | some x=>(ahS P n).set (key n) x
    | none=>ahS P n
theorem alM (P:Program):∀ (n f:Nat),(ahS P n).get (key f)=if f<n then Yt P f else none
  | 0,f=>by rw [ahS,Tr.fD,if_neg (by omega)]
  | n+1,f=>by
    have ih:=alM P n f
    cases hc:Yt P n with
    | none=>
      simp only [ahS,hc]
      rw [ih]
      by_cases h:f<n
      · rw [if_pos h,if_pos (by omega)]
      · rw [if_neg h]
        by_cases h':f=n
        · subst h'; rw [if_pos (by omega),hc]
        · rw [if_neg (by omega)]
    | some x=>
      simp only [ahS,hc]
      by_cases h':n=f
      · subst h'; rw [Tr.fu,if_pos (by omega),hc]
      · rw [Tr.ft (fun k=>h' (Dg k)),ih]
        by_cases h:f<n
        · rw [if_pos h,if_pos (by omega)]
        · rw [if_neg h,if_neg (by omega)]
noncomputable def tblS (P:Program):Tr AFn:=ahS P P.funcs.size
theorem WM (P:Program) (f:Nat):(tblS P).get (key f)=Yt P f:=by
  unfold tblS
  rw [alM]
  split
  · rfl
  · rename_i h
    unfold Yt
    rw [Array.getElem?_eq_none (by omega)]; rfl
theorem tblS_ok {P:Program} (hm:P.follows .mixedOrders=true):TblOk P (tblS P):={
  mixed:=hm
  mono f g hg:=by
    rw [WM] at hg
    obtain ⟨fn,_,_,_,_,hc⟩:=Lk hg
    obtain ⟨_,_,_,e⟩:=ahL hc
    cases e
  enters f x hx:=by
    rw [WM] at hx
    obtain ⟨fn,h1,h2,h3,_⟩:=Lk hx
    exact ⟨fn,h1,h2,h3⟩
  code f ps body res hx:=by
    rw [WM] at hx
    obtain ⟨fn,h1,_,_,m,h4⟩:=Lk hx
    exact ⟨fn,m,h1,h4⟩
  prim f g hg:=by
    rw [WM] at hg
    obtain ⟨fn,_,_,_,_,hc⟩:=Lk hg
    obtain ⟨_,_,_,e⟩:=ahL hc
    cases e }
theorem xx {tbl:Tr AFn} {f g:Nat} {x:AFn} {y:Option AFn} (e:Nat.beq g f=false) (h:tbl.get (key f)=y):(tbl.set (key g) x).get (key f)=y:=by
  rw [Tr.ft (fun k=>by rw [Dg k,Nat.beq_refl] at e; cases e)]
  exact h
end Go.Ai
/- What printed functions compute, forward: rules for runs, what the operations do, slices of numbers in the heap. -/
namespace Go.Ai
def aJ {K R:Type} (ap:K→R→aa) (f:K→aa) (Q:R→Prop):Prop:=∃ r,Q r∧∀ k,f k=ap k r
def ap0 (k:Heap→aa) (r:Heap):aa:=k r
def ap1 {α:Type} (k:α→Heap→aa) (r:α × Heap):aa:=k r.1 r.2
def ap2 {α β:Type} (k:α→β→Heap→aa) (r:α × β × Heap):aa:=k r.1 r.2.1 r.2.2
def ap3 {α β γ:Type} (k:α→β→γ→Heap→aa) (r:α × β × γ × Heap):aa:=k r.1 r.2.1 r.2.2.1 r.2.2.2
def dy (f:(Heap→aa)→aa) (Q:Heap→Prop):Prop:=aJ ap0 f Q
def aR {α:Type} (f:(α→Heap→aa)→aa) (Q:α→Heap→Prop):Prop:=aJ ap1 f fun r=>Q r.1 r.2
def c9 {α β:Type} (f:(α→β→Heap→aa)→aa) (Q:α→β→Heap→Prop):Prop:=aJ ap2 f fun r=>Q r.1 r.2.1 r.2.2
def Run3 {α β γ:Type} (f:(α→β→γ→Heap→aa)→aa) (Q:α→β→γ→Heap→Prop):Prop:=aJ ap3 f fun r=>Q r.1 r.2.1 r.2.2.1 r.2.2.2
section
variable {K R:Type} {ap:K→R→aa} {Q Q':R→Prop} {α β γ:Type}
theorem aJ.mono {f:K→aa} (h:aJ ap f Q) (hq:∀ r,Q r→Q' r):aJ ap f Q':=by
  obtain ⟨r,h1,h2⟩:=h; exact ⟨r,hq r h1,h2⟩
theorem aR.mono {f:(α→Heap→aa)→aa} {Q Q':α→Heap→Prop} (h:aR f Q) (hq:∀ a h,Q a h→Q' a h):aR f Q':=aJ.mono h fun r=>hq r.1 r.2
theorem ret0 {h:Heap} {Q:Heap→Prop} (hq:Q h):aJ ap0 (fun k=>k h) Q:=⟨h,hq,fun _=>rfl⟩
theorem jT {a:α} {h:Heap} {Q:α × Heap→Prop} (hq:Q (a,h)):aJ ap1 (fun k=>k a h) Q:=⟨(a,h),hq,fun _=>rfl⟩
theorem B1 {a:α} {b:β} {h:Heap} {Q:α × β × Heap→Prop} (hq:Q (a,b,h)):aJ ap2 (fun k=>k a b h) Q:=⟨(a,b,h),hq,fun _=>rfl⟩
theorem ag0 {a:α} {b:β} {c:γ} {h:Heap} {Q:α × β × γ × Heap→Prop} (hq:Q (a,b,c,h)):aJ ap3 (fun k=>k a b c h) Q:=⟨(a,b,c,h),hq,fun _=>rfl⟩
theorem dy.bind {f:(Heap→aa)→aa} {P:Heap→Prop} (hf:dy f P) {g:K→Heap→aa} (h:∀ h',P h'→aJ ap (fun k=>g k h') Q):aJ ap (fun k=>f (g k)) Q:=by
  obtain ⟨r,h1,h2⟩:=hf
  obtain ⟨s,h3,h4⟩:=h r h1
  exact ⟨s,h3,fun k=>(h2 _).trans (h4 k)⟩
theorem aR.bind {f:(α→Heap→aa)→aa} {P:α→Heap→Prop} (hf:aR f P) {g:K→α→Heap→aa} (h:∀ a h',P a h'→aJ ap (fun k=>g k a h') Q):aJ ap (fun k=>f (g k)) Q:=by
  obtain ⟨r,h1,h2⟩:=hf
  obtain ⟨s,h3,h4⟩:=h _ _ h1
  exact ⟨s,h3,fun k=>(h2 _).trans (h4 k)⟩
theorem c9.bind {f:(α→β→Heap→aa)→aa} {P:α→β→Heap→Prop} (hf:c9 f P) {g:K→α→β→Heap→aa} (h:∀ a b h',P a b h'→aJ ap (fun k=>g k a b h') Q):aJ ap (fun k=>f (g k)) Q:=by
  obtain ⟨r,h1,h2⟩:=hf
  obtain ⟨s,h3,h4⟩:=h _ _ _ h1
  exact ⟨s,h3,fun k=>(h2 _).trans (h4 k)⟩
theorem Run3.bind {f:(α→β→γ→Heap→aa)→aa} {P:α→β→γ→Heap→Prop} (hf:Run3 f P) {g:K→α→β→γ→Heap→aa} (h:∀ a b c h',P a b c h'→aJ ap (fun k=>g k a b c h') Q):aJ ap (fun k=>f (g k)) Q:=by
  obtain ⟨r,h1,h2⟩:=hf
  obtain ⟨s,h3,h4⟩:=h _ _ _ _ h1
  exact ⟨s,h3,fun k=>(h2 _).trans (h4 k)⟩
theorem aJ.ifB {c:Bool} {f g:K→aa} (ht:c=true→aJ ap f Q) (hf:c=false→aJ ap g Q):aJ ap (fun k=>ifB c (f k) (g k)) Q:=by
  cases c with
  | true=>exact ht rfl
  | false=>exact hf rfl
end
attribute [simp] my qh Ei Nc anp Xv amI anx zW ahw ahz am4 Dy QV kj JU amQ ahm ahl aht aqQ aqT rx
@[simp] theorem wV (a b:aa):ifB true a b=a:=rfl
@[simp] theorem Bs (a b:aa):ifB false a b=b:=rfl
@[simp] theorem AD {α:Type} (a:α) (k:α→aa):oC (some a) k=k a:=rfl
@[simp] theorem XE (n:Nat) (k:Nat→aa):aio (n:Int) k=k n:=rfl
theorem anE {i:Int} (h:0≤i) (k:Nat→aa):aio i k=k i.toNat:=by
  obtain ⟨n,rfl⟩:=gj h; rfl
@[simp] theorem aaT (q:IntKind) (n:Int) (k:Int→aa):Gc q (.int q n) k=k n:=by cases q<;>rfl
@[simp] theorem Z9 (b:Bool) (k:Bool→aa):Kf (.bool b) k=k b:=rfl
@[simp] theorem BL (b o:Nat) (k:Nat→Nat→aa):alZ (.ptr b o) k=k b o:=rfl
@[simp] theorem WL (b o l e:Nat) (p:Bool) (k:Nat→Nat→Nat→aa):asSlc (.slice b o l e p) k=k b o l:=rfl
@[simp] theorem alA (l:List AV) (k:List AV→aa):asAgg (.agg l) k=k l:=rfl
@[simp] theorem alX (b:Nat) (k:Nat→aa):asMap (.map b) k=k b:=rfl
@[simp] theorem apg (b o:Nat) (k:aa):Ql (.ptr b o) k=k:=rfl
@[simp] theorem amd (b o l e:Nat) (p:Bool) (k:Int→aa):jA (.slice b o l e p) k=k l:=rfl
@[simp] theorem apR (k:Int→aa):jA .nilslice k=k 0:=rfl
@[simp] theorem amD (d b o:Nat) (k:AV→aa):faK d (.ptr b o) k=k (.ptr b (o+d)):=by simp [faK]
@[simp] theorem boxK_agg (H:Heap) (l:List AV) (c:Nat→Heap→aa):pZ H (.agg l) c=c H.nx (H.add (.cells l true 0)):=by
  show lG H (.cells l true 0) c=_; simp
theorem nfa_eq (d b o:Nat) (k:AV→aa):nfa d (.ptr b o) k=k (.ptr b (o+d)):=by simp [nfa]
attribute [simp] nfa_eq
def andZ (a b:Int):Int:=IntKind.i64.wrap (BitVec.ofInt 64 a &&& BitVec.ofInt 64 b).toNat
@[simp] theorem bitK_and (a b:Int) (c:Int→aa):agA .and .i64 a b c=c (andZ a b):=by
  show oC (some _) _=_
  rw [AD,qh]; rfl
theorem abt {q:IntKind} {a b:Int} (h:b≠0) (c:Int→aa):quoK q a b c=c (q.wrap (a.tdiv b)):=by
  unfold quoK; rw [amQ,gf h]; simp
theorem aho {q:IntKind} {a b:Int} (h:b≠0) (c:Int→aa):remK q a b c=c (a.tmod b):=by
  unfold remK; rw [amQ,gf h]; simp
theorem acx {q:IntKind} {a b:Int} (h:0≤b) (c:Int→aa):shlK q a b c=c (q.wrap (shlF q a b.toNat)):=by
  unfold shlK; rw [anE h]; simp
def Heap.cl (h:Heap) (b:Nat) (l:List AV):Prop:=b<h.nx∧∃ rw g,h.get b=some (.cells l rw g)
theorem gU {h:Heap} {b:Nat} {l:List AV} (hb:h.cl b l) (c:List AV→aa):Hy h b c=c l:=by
  obtain ⟨_,rw_,g,hb⟩:=hb
  unfold Hy
  rw [acM]
  have:h.t.get (key b)=some (.cells l rw_ g):=hb
  rw [this]; rfl
@[simp] theorem apG (h:Heap) (b off:Nat) (k:AV→aa):jd h (.ptr b off) 1 false k=Hy h b fun l=>oC l[off]? k:=by
  unfold jd
  simp only [BL,Bs,ahy]; rfl
@[simp] theorem aqB (h:Heap) (b off n:Nat) (k:AV→aa):jd h (.ptr b off) n true k=Hy h b fun l=>oC (sub l off n) fun cs=>k (.agg cs):=by
  unfold jd
  simp only [BL,wV]
@[simp] theorem ldI_ptr (q:IntKind) (h:Heap) (b off:Nat) (k:Int→aa):ldI q h (.ptr b off) k=Hy h b fun l=>oC l[off]? fun v=>Gc q v k:=by unfold ldI; simp
@[simp] theorem ldB_ptr (h:Heap) (b off:Nat) (k:Bool→aa):ldB h (.ptr b off) k=Hy h b fun l=>oC l[off]? fun v=>Kf v k:=by unfold ldB; simp
@[simp] theorem fldI_ptr (q:IntKind) (d:Nat) (h:Heap) (b off:Nat) (k:AV→Int→aa):jK q d h (.ptr b off) k=Hy h b fun l=>oC l[off+d]? fun v=>Gc q v (k (.ptr b (off+d))):=by unfold jK; simp
@[simp] theorem fldB_ptr (d:Nat) (h:Heap) (b off:Nat) (k:AV→Bool→aa):fldB d h (.ptr b off) k=Hy h b fun l=>oC l[off+d]? fun v=>Kf v (k (.ptr b (off+d))):=by unfold fldB; simp
@[simp] theorem fld_ptr1 (d:Nat) (h:Heap) (b off:Nat) (k:AV→AV→aa):fld d h (.ptr b off) 1 false k=Hy h b fun l=>oC l[off+d]? (k (.ptr b (off+d))):=by unfold fld; simp
@[simp] theorem fld_ptrN (d:Nat) (h:Heap) (b off n:Nat) (k:AV→AV→aa):fld d h (.ptr b off) n true k=Hy h b fun l=>oC (sub l (off+d) n) fun cs=>k (.ptr b (off+d)) (.agg cs):=by unfold fld; simp
@[simp] theorem arJ (q:IntKind) (d:Nat) (h:Heap) (b off:Nat) (k:AV→Int→aa):nfldI q d h (.ptr b off) k=jK q d h (.ptr b off) k:=by unfold nfldI; simp
@[simp] theorem arL (d:Nat) (h:Heap) (b off:Nat) (k:AV→Bool→aa):nfldB d h (.ptr b off) k=fldB d h (.ptr b off) k:=by unfold nfldB; simp
@[simp] theorem nfld_ptr (d:Nat) (h:Heap) (b off n:Nat) (g:Bool) (k:AV→AV→aa):nfld d h (.ptr b off) n g k=fld d h (.ptr b off) n g k:=by unfold nfld; simp
theorem abo {h:Heap} {b off n:Nat} {l cs:List AV} (hb:h.cl b l) (hs:(l.drop off).take n=cs) (hn:off+n≤l.length) (k:AV→aa):jd h (.ptr b off) n true k=k (.agg cs):=by
  unfold jd
  rw [BL,gU hb,wV,pG,if_pos (by rw [List.length_drop]; omega),hs]; rfl
theorem aaM {h:Heap} {b off:Nat} {l:List AV} {v:AV} (hb:h.cl b l) (hs:l[off]?=some v) (k:AV→aa):jd h (.ptr b off) 1 false k=k v:=by
  unfold jd
  rw [BL,gU hb,Bs]
  show ifB true _ _=_
  rw [wV,ahy,hs]; rfl
theorem fldI_of {h:Heap} {b off d:Nat} {l:List AV} {q:IntKind} {n:Int} (hb:h.cl b l) (hs:l[off+d]?=some (.int q n)) (k:AV→Int→aa):jK q d h (.ptr b off) k=k (.ptr b (off+d)) n:=by
  unfold jK; rw [amD,aaM hb hs,aaT]
theorem fld_of {h:Heap} {b off d:Nat} {l:List AV} {v:AV} (hb:h.cl b l) (hs:l[off+d]?=some v) (k:AV→AV→aa):fld d h (.ptr b off) 1 false k=k (.ptr b (off+d)) v:=by
  unfold fld; rw [amD,aaM hb hs]
structure ba (h h':Heap):Prop where
  nx:h.nx≤h'.nx
  ro:h'.ro=h.ro
  old:∀ b,b<h.nx→h'.get b=h.get b
theorem ba.refl {h:Heap}:ba h h:=⟨fZ _,rfl,fun _ _=>rfl⟩
theorem ba.trans {h h' h'':Heap} (a:ba h h') (b:ba h' h''):ba h h'':=⟨gb a.nx b.nx,b.ro.trans a.ro,fun c hc=>(b.old c (fX hc a.nx)).trans (a.old c hc)⟩
theorem ba.add {h:Heap} {x:Blk}:ba h (h.add x):=⟨by simp,by simp,fun b hb=>by rw [Heap.fB,if_neg (by omega)]⟩
theorem ba.cl {h h':Heap} (g:ba h h') {b:Nat} {l:List AV} (hb:h.cl b l):h'.cl b l:=by
  obtain ⟨h1,rw_,q,h2⟩:=hb
  exact ⟨fX h1 g.nx,rw_,q,(g.old b h1).trans h2⟩
theorem cl_add (h:Heap) (l:List AV) (rw_:Bool) (g:Nat):(h.add (.cells l rw_ g)).cl h.nx l:=⟨by simp,rw_,g,by rw [Heap.fB,if_pos rfl]⟩
theorem ba.shut {h h':Heap} (g:ba (h.shut true) h'):ba h (h'.back h.ro):=⟨g.nx,rfl,fun b hb=>g.old b hb⟩
theorem Heap.cl.shut {h:Heap} {b:Nat} {l:List AV} (hb:h.cl b l):(h.shut true).cl b l:=hb
theorem mr (h:Heap) (l:List AV):aR (pZ h (.agg l)) fun x h'=>h'.cl x l∧ba h h':=⟨(h.nx,h.add (.cells l true 0)),⟨cl_add ..,ba.add⟩,fun k=>boxK_agg ..⟩
structure Own (h:Heap) (b:Nat) (l:List AV) (g:Nat):Prop where
  lt:b<h.nx
  ro:h.ro≤b
  get:h.get b=some (.cells l true g)
theorem Own.cl {h:Heap} {b:Nat} {l:List AV} {g:Nat} (o:Own h b l g):h.cl b l:=⟨o.lt,true,g,o.get⟩
theorem Own.grow {h h':Heap} {b:Nat} {l:List AV} {q:Nat} (o:Own h b l q) (g:ba h h'):Own h' b l q:=⟨fX o.lt g.nx,by rw [g.ro]; exact o.ro,(g.old b o.lt).trans o.get⟩
theorem DN {h:Heap} (hro:h.ro≤h.nx) (l:List AV) (g:Nat):aR (lG h (.cells l true g)) fun x h'=>h.nx≤x∧Own h' x l g∧ba h h':=
  ⟨(h.nx,h.add (.cells l true g)),⟨fZ _,⟨by simp,by simpa using hro,by rw [Heap.fB,if_pos rfl]⟩,ba.add⟩,fun k=>Dy ..⟩
theorem ba.le {h h':Heap} (g:ba h h') (hro:h.ro≤h.nx):h'.ro≤h'.nx:=by rw [g.ro]; exact gb hro g.nx
theorem aoJ {h:Heap} {b:Nat} {l:List AV} {g:Nat} (o:Own h b l g) (c:List AV→Nat→aa):ownX h b c=c l g:=by
  unfold ownX
  have:Nat.blt b h.ro=false:=by rw [blt_eq]; simp; exact o.ro
  rw [this,Bs,acM]
  have h2:h.t.get (key b)=some (.cells l true g):=o.get
  rw [h2]; rfl
structure Put (h:Heap) (b:Nat) (l:List AV) (g:Nat) (h':Heap):Prop where
  own:Own h' b l g
  nx:h'.nx=h.nx
  ro:h'.ro=h.ro
  other:∀ c,c≠b→h'.get c=h.get c
theorem Put.grow {h₀ h h':Heap} {b:Nat} {l:List AV} {q:Nat} (p:Put h b l q h') (g:ba h₀ h) (hb:h₀.nx≤b):ba h₀ h':=⟨by rw [p.nx]; exact g.nx,by rw [p.ro]; exact g.ro,fun c hc=>by rw [p.other c (by omega)]; exact g.old c hc⟩
theorem Put.cl {h h':Heap} {b c:Nat} {l l':List AV} {q:Nat} (p:Put h b l q h') (hc:c≠b) (o:h.cl c l'):h'.cl c l':=by
  obtain ⟨h1,rw_,g,h2⟩:=o
  exact ⟨by rw [p.nx]; exact h1,rw_,g,by rw [p.other c hc]; exact h2⟩
theorem Put.ownO {h h':Heap} {b c:Nat} {l l':List AV} {q q':Nat} (p:Put h b l q h') (hc:c≠b) (o:Own h c l' q'):Own h' c l' q':=
  ⟨by rw [p.nx]; exact o.lt,by rw [p.ro]; exact o.ro,by rw [p.other c hc]; exact o.get⟩
theorem aq4 {h:Heap} {b:Nat} {l:List AV} {q:Nat} (o:Own h b l q) (l':List AV):Put h b l' q (h.set b (.cells l' true q)):=
  ⟨⟨by simpa using o.lt,by simpa using o.ro,Heap.fu ..⟩,by simp,by simp,fun c hc=>Heap.ft _ (fun e=>hc e.symm) _⟩
theorem XC {h:Heap} {b off n:Nat} {l cs:List AV} {g:Nat} (o:Own h b l g) (hn:cs.length=n) (hl:off+n≤l.length):dy (jh h (.ptr b off) n (.agg cs)) (Put h b (Bp cs l off) g):=by
  refine ⟨h.set b (.cells (Bp cs l off) true g),aq4 o _,fun k=>?_⟩
  unfold jh
  rw [BL,aoJ o]
  show ifB (Nat.beq (sq cs) n) _ _=_
  rw [rx,hn,Nat.beq_refl,wV,acP,if_pos (by omega),QV]; rfl
theorem vT {h:Heap} {b off:Nat} {l:List AV} {g:Nat} {u:AV} (o:Own h b l g) (hl:off<l.length) (hu:u.fE=true):dy (jh h (.ptr b off) 1 u) (Put h b (l.set off u) g):=by
  refine ⟨h.set b (.cells (l.set off u) true g),aq4 o _,fun k=>?_⟩
  unfold jh
  rw [BL,aoJ o]
  have:alH u (fun cs=>ifB (Nat.beq (sq cs) 1) (alI cs l off fun l=>setX h b (.cells l true g) k) .err) (ifB (Nat.beq 1 1) (ajF u l off fun l=>setX h b (.cells l true g) k) .err)=ifB (Nat.beq 1 1) (ajF u l off fun l=>setX h b (.cells l true g) k) .err:=by
    cases u<;>first | rfl | cases hu
  rw [this]
  show ifB true _ _=_
  rw [wV,aat,if_pos hl,QV]; rfl
theorem Oh (cs l:List AV) (h:cs.length=l.length):Bp cs l 0=cs:=by
  rw [XH _ _ (by omega),h,List.drop_length,List.append_nil]
theorem GQ {h:Heap} (hro:h.ro≤h.nx) {z cs:List AV} {n:Nat} (hz:z.length=n) (hc:cs.length=n) :
    aR (fun K=>lG h (.cells z true 0) fun x h1=>jh h1 (.ptr x 0) n (.agg cs) (K x)) fun x h'=>h.nx≤x∧Own h' x cs 0∧ba h h':=by
  refine aR.bind (DN hro z 0) ?_
  rintro x h1 ⟨hx,ho,g⟩
  refine dy.bind (XC ho hc (by omega)) ?_
  intro h2 hp
  rw [Oh _ _ (by omega)] at hp
  exact jT ⟨hx,hp.own,hp.grow g hx⟩
theorem als {h:Heap} (hro:h.ro≤h.nx) {z u:AV} (hu:u.fE=true) :
    aR (fun K=>lG h (.cells [z] true 0) fun x h1=>jh h1 (.ptr x 0) 1 u (K x)) fun x h'=>h.nx≤x∧Own h' x [u] 0∧ba h h':=by
  refine aR.bind (DN hro [z] 0) ?_
  rintro x h1 ⟨hx,ho,g⟩
  refine dy.bind (vT ho (by simp) hu) ?_
  intro h2 hp
  exact jT ⟨hx,hp.own,hp.grow g hx⟩
theorem idxA_of {l:List AV} {n i:Nat} (hn:l.length=n) (hi:i<n) (k:AV→aa):afy 1 n false (.agg l) (i:Int) k=k (l[i]'(by omega)):=by
  unfold afy
  rw [alA,XE]
  have h1:Nat.blt i n=true:=by rw [blt_eq]; simpa using hi
  rw [h1,wV,my,pG,if_pos (by rw [List.length_drop,Nat.mul_eq,Nat.mul_one]; omega),AD]
  have:(l.drop (Nat.mul i 1)).take 1 = [l[i]'(by omega)]:=by
    rw [Nat.mul_eq,Nat.mul_one,gd (by omega)]; rfl
  rw [this]; rfl
def bK (h:Heap) (v:AV) (sz n:Nat) (f:Nat→List AV):Prop:=n≤9223372036854775807∧
  ((v = .nilslice∧n=0)∨∃ b off ext opn,v = .slice b off n ext opn∧(0<n→∃ l,h.cl b l∧∀ i,i<n→off+i*sz+sz≤l.length∧(l.drop (off+i*sz)).take sz=f i))
theorem bK.grow {h h':Heap} {v:AV} {sz n:Nat} {f:Nat→List AV} (s:bK h v sz n f) (g:ba h h'):bK h' v sz n f:=by
  obtain ⟨hn,s⟩:=s
  rcases s with s | ⟨b,off,ext,opn,h1,h2⟩
  · exact ⟨hn,.inl s⟩
  · exact ⟨hn,.inr ⟨b,off,ext,opn,h1,fun h0=>have ⟨l,h3,h4⟩:=h2 h0; ⟨l,g.cl h3,h4⟩⟩⟩
theorem bK.len {h:Heap} {v:AV} {sz n:Nat} {f:Nat→List AV} (s:bK h v sz n f) (k:Int→aa):jA v k=k n:=by
  rcases s with ⟨_,⟨rfl,rfl⟩ | ⟨b,off,ext,opn,rfl,_⟩⟩<;>rfl
def elP (v:AV) (sz:Nat) (i:Int):AV:=match v with
  | .slice b off _ _ _=>.ptr b (off+i.toNat*sz)
  | v=>v
theorem bK.ia {h:Heap} {v:AV} {sz n:Nat} {f:Nat→List AV} (s:bK h v sz n f) {i:Int} (h0:0≤i) (hi:i<n) (k:AV→aa):Bm sz v i k=k (elP v sz i):=by
  rcases s with ⟨_,⟨rfl,rfl⟩ | ⟨b,off,ext,opn,rfl,_⟩⟩
  · omega
  · unfold Bm
    rw [WL,anE h0]
    have:Nat.blt i.toNat n=true:=by rw [blt_eq]; simp; omega
    rw [this,wV]; simp [elP]
theorem bK.at_ {h:Heap} {v:AV} {sz n:Nat} {f:Nat→List AV} (s:bK h v sz n f) {i:Int} (h0:0≤i) (hi:i<n) :
    ∃ b off l,elP v sz i = .ptr b off∧h.cl b l∧off+sz≤l.length∧(l.drop off).take sz=f i.toNat:=by
  rcases s with ⟨_,⟨rfl,rfl⟩ | ⟨b,off,ext,opn,rfl,h1⟩⟩
  · omega
  · obtain ⟨l,h1,h2⟩:=h1 (by omega)
    obtain ⟨h3,h4⟩:=h2 i.toNat (by omega)
    exact ⟨b,_,l,rfl,h1,h3,h4⟩
theorem bK.eld {h:Heap} {v:AV} {sz n:Nat} {f:Nat→List AV} (s:bK h v sz n f) {i:Int} (h0:0≤i) (hi:i<n) (k:AV→AV→aa):eld sz h v i sz true k=k (elP v sz i) (.agg (f i.toNat)):=by
  unfold Ai.eld
  rw [s.ia h0 hi]
  obtain ⟨b,off,l,e,h1,h2,h3⟩:=s.at_ h0 hi
  rw [e,abo h1 h3 h2]
def AV.shut:AV→Bool
  | .slice _ _ _ _ opn=>!opn
  | _=>true
theorem bK.take {h:Heap} {v:AV} {sz n:Nat} {f:Nat→List AV} (s:bK h v sz n f) (hs:v.shut=true) {i:Int} (h0:0≤i) (hi:i≤n):∃ v',bK h v' sz i.toNat f∧∀ k,slK (.sl sz) v none (some (.int .i64 i)) none k=k v':=by
  obtain ⟨m,rfl⟩:=gj h0
  obtain ⟨hn,⟨rfl,rfl⟩ | ⟨b,off,ext,opn,rfl,h1⟩⟩:=s
  · have:m=0:=by omega
    subst this
    exact ⟨.nilslice,⟨by simp,.inl ⟨rfl,rfl⟩⟩,fun k=>rfl⟩
  · obtain rfl:opn=false:=by simpa [AV.shut] using hs
    refine ⟨.slice b off m (n+ext-m) false,⟨by simp; omega,.inr ⟨b,off,_,false,rfl,fun h0=>have ⟨l,h3,h4⟩:=h1 (by simp at h0; omega); ⟨l,h3,fun j hj=>h4 j (by simp at hj; omega)⟩⟩⟩,fun k=>?_⟩
    have hm:m≤n+ext:=by omega
    unfold slK
    have:slV (.sl sz) (.slice b off n ext false) none (some (.int .i64 (m:Int))) none=some (.slice b off m (n+ext-m) false):=by
      have e1:XQ (some (.int .i64 (m:Int))) n (n+ext)=some m:=by
        have h2:Nat.ble m (n+ext)=true:=fH hm
        show Bool.casesOn (motive:=fun _=>Option Nat) (Nat.ble m (n+ext)) none (some m)=_
        rw [h2]
      simp only [slV]
      have e0:XQ none (n+ext) (n+ext)=some (n+ext):=rfl
      rw [e0]; dsimp only; rw [e1]; dsimp only
      have e2:XQ none 0 m=some 0:=rfl
      rw [e2]; dsimp only
      simp
    rw [this,AD,Ei]
def nz (l:List Int) (i:Nat):Int:=l.getD i 0
theorem GD {l:List Int} {i:Nat} (h:i<l.length):nz l i=l[i]:=by unfold nz; rw [gi,fV h]; rfl
def cQ (h:Heap) (q:IntKind) (v:AV) (l:List Int):Prop:=bK h v 1 l.length fun i=>[.int q (nz l i)]
theorem cQ.grow {h h':Heap} {q:IntKind} {v:AV} {l:List Int} (s:cQ h q v l) (g:ba h h'):cQ h' q v l:=bK.grow s g
theorem cQ.len {h:Heap} {q:IntKind} {v:AV} {l:List Int} (s:cQ h q v l) (k:Int→aa):jA v k=k l.length:=bK.len s k
theorem cQ.small {h:Heap} {q:IntKind} {v:AV} {l:List Int} (s:cQ h q v l):l.length≤9223372036854775807:=s.1
theorem cQ.el {h:Heap} {q:IntKind} {v:AV} {l:List Int} (s:cQ h q v l) {i:Int} (h0:0≤i) (hi:i<l.length) (k:AV→Int→aa):Ma q 1 h v i k=k (elP v 1 i) (nz l i.toNat):=by
  unfold Ma
  rw [bK.ia s h0 hi]
  obtain ⟨b,off,l',e,h1,h2,h3⟩:=bK.at_ s h0 hi
  have h4:l'[off]?=some (.int q (nz l i.toNat)):=by
    have:=congrArg (·[0]?) h3
    simpa using this
  rw [e,aaM h1 h4,aaT]
theorem cQ.elN {h:Heap} {q:IntKind} {v:AV} {l:List Int} (s:cQ h q v l) {i:Nat} (hi:i<l.length) (k:AV→Int→aa):Ma q 1 h v i k=k (elP v 1 i) (nz l i):=s.el (fQ i) (by omega) k
theorem apO {h:Heap} {b:Nat} {q:IntKind} {l:List Int} (hb:h.cl b (l.map (.int q))) (hl:l.length≤9223372036854775807) (ext:Nat) (opn:Bool):cQ h q (.slice b 0 l.length ext opn) l:=by
  refine ⟨hl,.inr ⟨b,0,ext,opn,rfl,fun _=>⟨_,hb,fun i hi=>⟨by simp; omega,?_⟩⟩⟩⟩
  simp only [Nat.zero_add,Nat.mul_one]
  rw [GD hi, ← List.map_drop, ← List.map_take]
  rw [gd hi]; rfl
theorem D3 {h:Heap} {len:Nat} {z l:List AV} {parts:List (Nat × Nat × AV)} (hf:∀ k,ajS parts z k=k l):aR (mI h len z parts) fun v h'=>v = .slice h.nx 0 len 0 false∧h'.cl h.nx l∧ba h h':=by
  refine ⟨(.slice h.nx 0 len 0 false,h.add (.cells l true 0)),⟨rfl,cl_add ..,ba.add⟩,fun k=>?_⟩
  unfold mI
  rw [hf,Dy]; rfl
theorem afO {h:Heap} {q:IntKind} (xs:List Int) {z:List AV} {parts:List (Nat × Nat × AV)} (hf:∀ k,ajS parts z k=k (xs.map (.int q))) (hl:xs.length≤9223372036854775807):aR (mI h xs.length z parts) fun v h'=>cQ h' q v xs∧ba h h':=
  (D3 hf).mono fun _ _ ⟨h1,h2,h3⟩=>⟨by rw [h1]; exact apO h2 hl 0 false,h3⟩
theorem ot {n:Int} (h0 : -9223372036854775808≤n) (h1:n≤9223372036854775807):IntKind.i64.wrap n=n:=by
  rw [IntKind.wrap_i64]; omega
theorem amb {n:Int} (h0:0≤n) (h1:n<18446744073709551616):IntKind.u64.wrap n=n:=by
  simp only [IntKind.wrap,IntKind.signed,IntKind.bits]; simp; omega
theorem js {i:Nat} (h:i≤9223372036854775806):IntKind.i64.wrap ((i:Int)+1)=((i+1:Nat):Int):=by
  rw [ot (by omega) (by omega)]; simp
end Go.Ai
/- Configurations: what chapter 11 says may be, as plain functions; how one lies in the heap. -/
namespace Go.Ai
structure cV where
  fb:List Int
  order:Int
  user:Int
  tables:Int
  spaces:Int
  fk:Int
  fj:Int
  slots:Int
structure bA where
  frames:Int
  eZ:Int
  ways:Int
  l1sets:Int
  l1ways:Int
  tlb:Int
  l1:Int
  llc:Int
  miss:Int
  fault:Int
  step:Int
  disk:Int
  slice:Int
  pad:Int
  first:Int
  fi:List Int
  parts:List cV
def zT (z:bA):List AV:=[.int .u64 z.l1,.int .u64 z.llc,.int .u64 z.miss,.int .u64 z.fault,.int .u64 z.step,.int .u64 z.disk]
def ry (z:bA) (t p:AV):List AV:=[.int .i64 z.frames,.int .i64 z.eZ,.int .i64 z.ways,.int .i64 z.l1sets,.int .i64 z.l1ways,.int .i64 z.tlb,
  .int .u64 z.l1,.int .u64 z.llc,.int .u64 z.miss,.int .u64 z.fault,.int .u64 z.step,.int .u64 z.disk,.int .u64 z.slice,.int .u64 z.pad,.int .u64 z.first,t,p]
def tJ (x:cV) (s:AV):List AV:=[s,.int .i64 x.order,.int .i64 x.user,.int .i64 x.tables,.int .i64 x.spaces,.int .i64 x.fk,.int .i64 x.fj,.int .i64 x.slots]
instance:Inhabited cV:=⟨⟨[],0,0,0,0,0,0,0⟩⟩
def dB (h:Heap) (v:AV) (ps:List cV):Prop:=v.shut=true∧∃ S:Nat→AV,bK h v 8 ps.length (fun i=>tJ (ps.getD i default) (S i))∧∀ i,i<ps.length→cQ h .i64 (S i) (ps.getD i default).fb
theorem dB.grow {h h':Heap} {v:AV} {ps:List cV} (s:dB h v ps) (g:ba h h'):dB h' v ps:=by
  obtain ⟨h0,S,h1,h2⟩:=s
  exact ⟨h0,S,h1.grow g,fun i hi=>(h2 i hi).grow g⟩
def Cfg (h:Heap) (z:bA) (c:List AV):Prop:=∃ t p,c=ry z t p∧cQ h .i64 t z.fi∧dB h p z.parts
theorem Cfg.grow {h h':Heap} {z:bA} {c:List AV} (s:Cfg h z c) (g:ba h h'):Cfg h' z c:=by
  obtain ⟨t,p,h1,h2,h3⟩:=s
  exact ⟨t,p,h1,h2.grow g,h3.grow g⟩
def ji (n a b:Int):Bool:=decide (a≤n)&&decide (n≤b)
def VH (n UL:Int):Bool:=ji n 1 UL&&(andZ n (IntKind.i64.wrap (n-1))==0)
def nQ (z:bA):Bool:=VH z.eZ 16&&(ji z.frames 1 4096&&(z.frames.tmod z.eZ==0&&(VH z.l1sets 4096&&(ji z.ways 1 16&&(ji z.l1ways 1 16&&
  (ji z.tlb 1 64&&ji z.parts.length 1 8))))))
def ajX (z:bA):Int:=IntKind.i64.wrap (z.frames.tdiv z.eZ)
def tR (a b:Int):Bool:=decide (a≤b)&&decide (b≤65536)
def aqM (z:bA):Bool:=tR 1 z.l1&&(tR z.l1 z.llc&&(tR z.llc z.miss&&(tR 1 z.fault&&(tR 1 z.step&&tR 1 z.disk))))
def abM (z:bA):Int:=if aqM z then 0 else 100
def aad (last:Option Int) (x:Int):Bool:=match last with | none=>true | some y=>decide (y<x)
def zJ (z:bA) (ps:List cV) (last:Option Int):List Int→Bool
  | []=>true
  | x::l=>decide (0≤x)&&(decide (x<z.eZ)&&(aad last x&&(ps.all (fun q=>!decide (x∈q.fb))&&zJ z ps (some x) l)))
theorem F0 (z:bA) (ps:List cV) (last:Option Int) (x:Int) (l:List Int):zJ z ps last (x::l)=(decide (0≤x)&&(decide (x<z.eZ)&&(aad last x&&(ps.all (fun q=>!decide (x∈q.fb))&&zJ z ps (some x) l)))):=rfl
def jE (z:bA) (p:Nat):cV:=z.parts.getD p default
def ace (z:bA) (p:Nat):Bool:=zJ z (z.parts.take p) none (jE z p).fb&&decide (0<(jE z p).fb.length)
def Bq (z:bA) (p:Nat):Int:=IntKind.i64.wrap ((jE z p).fb.length*ajX z)
theorem cfg_0 (z:bA) (t p:AV):(ry z t p)[0]?=some (.int .i64 z.frames):=rfl
theorem cfg_1 (z:bA) (t p:AV):(ry z t p)[1]?=some (.int .i64 z.eZ):=rfl
theorem cfg_2 (z:bA) (t p:AV):(ry z t p)[2]?=some (.int .i64 z.ways):=rfl
theorem cfg_3 (z:bA) (t p:AV):(ry z t p)[3]?=some (.int .i64 z.l1sets):=rfl
theorem cfg_4 (z:bA) (t p:AV):(ry z t p)[4]?=some (.int .i64 z.l1ways):=rfl
theorem cfg_5 (z:bA) (t p:AV):(ry z t p)[5]?=some (.int .i64 z.tlb):=rfl
theorem cfg_6 (z:bA) (t p:AV):(ry z t p)[6]?=some (.int .u64 z.l1):=rfl
theorem cfg_7 (z:bA) (t p:AV):(ry z t p)[7]?=some (.int .u64 z.llc):=rfl
theorem cfg_8 (z:bA) (t p:AV):(ry z t p)[8]?=some (.int .u64 z.miss):=rfl
theorem cfg_9 (z:bA) (t p:AV):(ry z t p)[9]?=some (.int .u64 z.fault):=rfl
theorem cfg_10 (z:bA) (t p:AV):(ry z t p)[10]?=some (.int .u64 z.step):=rfl
theorem cfg_11 (z:bA) (t p:AV):(ry z t p)[11]?=some (.int .u64 z.disk):=rfl
theorem cfg_12 (z:bA) (t p:AV):(ry z t p)[12]?=some (.int .u64 z.slice):=rfl
theorem cfg_13 (z:bA) (t p:AV):(ry z t p)[13]?=some (.int .u64 z.pad):=rfl
theorem cfg_14 (z:bA) (t p:AV):(ry z t p)[14]?=some (.int .u64 z.first):=rfl
theorem cfg_15 (z:bA) (t p:AV):(ry z t p)[15]?=some t:=rfl
theorem cfg_16 (z:bA) (t p:AV):(ry z t p)[16]?=some p:=rfl
theorem part_0 (x:cV) (s:AV):(tJ x s)[0]?=some s:=rfl
theorem part_1 (x:cV) (s:AV):(tJ x s)[1]?=some (.int .i64 x.order):=rfl
theorem part_2 (x:cV) (s:AV):(tJ x s)[2]?=some (.int .i64 x.user):=rfl
theorem ap6 (x:cV) (s:AV):(tJ x s)[3]?=some (.int .i64 x.tables):=rfl
theorem apP (x:cV) (s:AV):(tJ x s)[4]?=some (.int .i64 x.spaces):=rfl
theorem apI (x:cV) (s:AV):(tJ x s)[5]?=some (.int .i64 x.fk):=rfl
theorem part_6 (x:cV) (s:AV):(tJ x s)[6]?=some (.int .i64 x.fj):=rfl
theorem am7 (x:cV) (s:AV):(tJ x s)[7]?=some (.int .i64 x.slots):=rfl
theorem sub_cfg (z:bA) (t p:AV):sub (ry z t p) 0 17=some (ry z t p):=by rw [pG]; rfl
theorem sub_cost (z:bA) (t p:AV):sub (ry z t p) 6 6=some (zT z):=by rw [pG]; rfl
theorem cost_0 (z:bA):(zT z)[0]?=some (.int .u64 z.l1):=rfl
theorem cost_1 (z:bA):(zT z)[1]?=some (.int .u64 z.llc):=rfl
theorem cost_2 (z:bA):(zT z)[2]?=some (.int .u64 z.miss):=rfl
theorem cost_3 (z:bA):(zT z)[3]?=some (.int .u64 z.fault):=rfl
theorem cost_4 (z:bA):(zT z)[4]?=some (.int .u64 z.step):=rfl
theorem cost_5 (z:bA):(zT z)[5]?=some (.int .u64 z.disk):=rfl
theorem ard (z:bA):sub (zT z) 0 6=some (zT z):=by rw [pG]; rfl
def amh (ps:List cV) (a:Int):Int:=ps.foldl (fun a q=>if ji q.slots 1 1024 then IntKind.i64.wrap (a+q.slots) else a) a
def Qd (x:cV):Int:=IntKind.i64.wrap (shlF .i64 1 x.order.toNat)
def needZ (x:cV):Int:=IntKind.i64.wrap (IntKind.i64.wrap (IntKind.i64.wrap (IntKind.i64.wrap (IntKind.i64.wrap (Qd x+x.user)+x.tables)+x.spaces)+x.fk)+x.fj)
def qG (z:bA) (p:Nat):Bool:=ji (jE z p).order 0 3&&(ji (jE z p).user 2 4096&&(ji (jE z p).tables 4 4096&&(ji (jE z p).spaces 1 4096&&(ji (jE z p).fk 1 4096&&
  (ji (jE z p).fj 1 4096&&(ji (jE z p).slots 1 1024&&(decide (amh (z.parts.take (p+1)) 0≤1024)&&(!nQ z||(decide (Qd (jE z p)≤ajX z)&&decide (needZ (jE z p)≤Bq z p))))))))))
def Ul (z:bA) (p:Nat):Int:=if ace z p then (if qG z p then 0 else 111) else 110
theorem Sz {z:bA} (h:nQ z=true):z.eZ≠0:=by
  simp [nQ,VH,ji] at h; omega
def w64 (n:Int):Int:=IntKind.u64.wrap n
structure dc where
  image:Int
  user:Int
  limit:Int
  nodes:Int
def zr (s:dc):List AV:=[.int .i64 s.image,.int .i64 s.user,.int .i64 s.limit,.int .i64 s.nodes]
theorem shape_0 (s:dc):(zr s)[0]?=some (.int .i64 s.image):=rfl
theorem shape_1 (s:dc):(zr s)[1]?=some (.int .i64 s.user):=rfl
theorem shape_2 (s:dc):(zr s)[2]?=some (.int .i64 s.limit):=rfl
theorem shape_3 (s:dc):(zr s)[3]?=some (.int .i64 s.nodes):=rfl
theorem arl (s:dc):sub (zr s) 0 4=some (zr s):=by rw [pG]; rfl
def maxZ (a b:Int):Int:=if a<b then b else a
def minZ (a b:Int):Int:=if b<a then b else a
def pageC (z:bA):Int:=w64 (z.step+w64 (2*z.miss))
def allC (z:bA) (s:dc):Int:=w64 (w64 s.limit*pageC z)
def aqa (z:bA) (s:dc):Int:=w64 (w64 (w64 (w64 (2*w64 s.user)+1)*z.step)+z.disk)
def aq8 (z:bA):Int:=w64 (113*z.miss)
def alo (z:bA):Int:=w64 (64*pageC z)
def abB (z:bA) (s:dc):List Int:=[0,w64 (17*z.miss),w64 (allC z s+z.miss),w64 (w64 (z.miss+w64 (w64 (16*w64 s.nodes)*z.miss))+allC z s),aq8 z,alo z,
  w64 (w64 (64*w64 (z.step+z.miss))+z.miss),maxZ (aq8 z) (alo z),w64 (w64 (w64 (w64 (26*z.miss)+z.fault)+aqa z s)+z.disk),
  w64 (w64 (w64 (w64 (64*z.miss)+w64 (2*z.fault))+w64 (2*aqa z s))+z.disk),0]
def mostC (z:bA) (s:dc):Int:=w64 (w64 (w64 s.image*z.miss)+(abB z s).foldl maxZ 0)
def ajD (z:bA) (s:dc):Int:=if abM z=0 then (if (decide (s.image=1)||(decide (s.image=2)||(decide (s.image=4)||decide (s.image=8))))&&(ji s.user 2 4096&&(ji s.limit 1 5120&&ji s.nodes 1 4096)) then 0 else 2) else abM z
def aj6 (z:bA) (p:Nat):dc:=⟨Qd (jE z p),(jE z p).user,minZ (IntKind.i64.wrap (IntKind.i64.wrap ((jE z p).user+(jE z p).slots)-1)) (IntKind.i64.wrap (16*(jE z p).fj)),(jE z p).tables⟩
def XN (z:bA) (lines trans:Int):Int:=if abM z=0 then (if ji lines 0 65536&&ji trans 0 64 then 0 else 2) else abM z
def aqF (z:bA) (lines trans:Int):Int:=w64 (w64 (IntKind.i64.wrap (lines+trans))*z.step)
def ye (z:bA) (p:Nat):Bool:=!decide (Ul z p=0)||(decide (ajD z (aj6 z p)=0)&&decide (mostC z (aj6 z p)≤z.slice))
def Ax (z:bA):Bool:=decide (1≤z.slice)&&(decide (z.slice≤4194304)&&(decide (z.pad≤4194304)&&(decide (z.first<1099511627776)&&(!nQ z||(!decide (abM z=0)||
  (decide (XN z (IntKind.i64.wrap (z.l1sets*z.l1ways)) z.tlb=0)&&(decide (aqF z (IntKind.i64.wrap (z.l1sets*z.l1ways)) z.tlb≤z.pad)&&(List.range z.parts.length).all (ye z))))))))
def aaA (z:bA):Bool:=ji z.fi.length 1 64&&z.fi.all fun p=>ji p 0 (IntKind.i64.wrap (z.parts.length-1))
def uP (z:bA):Bool:=nQ z&&(decide (abM z=0)&&(Ax z&&(aaA z&&(List.range (min z.parts.length 8)).all fun p=>decide (Ul z p=0))))
end Go.Ai
/- The facts by which a printed function is read, in one. -/
namespace Go.Ai
set_option linter.defProp false
theorem getAt0 (a:AV) (l:List AV):(a::l)[0]?=some a:=rfl
theorem getAtS (a:AV) (l:List AV) (n:Nat):(a::l)[n+1]?=l[n]?:=rfl
def aD:=And.intro @my (And.intro @qh (And.intro @Ei (And.intro @Nc (And.intro @anp (And.intro @Xv (And.intro @amI (And.intro @anx (And.intro @zW (And.intro @ahw (And.intro @ahz (And.intro @am4 (And.intro @kj (And.intro @JU (And.intro @wV (And.intro @Bs (And.intro @AD (And.intro @XE (And.intro @aaT (And.intro @Z9 (And.intro @BL (And.intro @WL (And.intro @alA (And.intro @alX (And.intro @apg (And.intro @amd (And.intro @apR (And.intro @amD (And.intro @nfa_eq (And.intro @bitK_and (And.intro @apG (And.intro @aqB (And.intro @ldI_ptr (And.intro @ldB_ptr (And.intro @fldI_ptr (And.intro @fldB_ptr (And.intro @fld_ptr1 (And.intro @fld_ptrN (And.intro @arJ (And.intro @arL (And.intro @nfld_ptr (And.intro @Nat.zero_add (And.intro @Nat.add_zero (And.intro @getAt0 (@getAtS))))))))))))))))))))))))))))))))))))))))))))
def bC:=And.intro @cfg_0 (And.intro @cfg_1 (And.intro @cfg_2 (And.intro @cfg_3 (And.intro @cfg_4 (And.intro @cfg_5 (And.intro @cfg_6 (And.intro @cfg_7 (And.intro @cfg_8 (And.intro @cfg_9 (And.intro @cfg_10 (And.intro @cfg_11 (And.intro @cfg_12 (And.intro @cfg_13 (And.intro @cfg_14 (And.intro @cfg_15 (And.intro @cfg_16 (And.intro @part_0 (And.intro @part_1 (And.intro @part_2 (And.intro @ap6 (And.intro @apP (And.intro @apI (And.intro @part_6 (And.intro @am7 (And.intro @sub_cfg (And.intro @sub_cost (And.intro @ard (And.intro @cost_0 (And.intro @cost_1 (And.intro @cost_2 (And.intro @cost_3 (And.intro @cost_4 (And.intro @cost_5 (And.intro @shape_0 (And.intro @shape_1 (And.intro @shape_2 (And.intro @shape_3 (@arl))))))))))))))))))))))))))))))))))))))
end Go.Ai
