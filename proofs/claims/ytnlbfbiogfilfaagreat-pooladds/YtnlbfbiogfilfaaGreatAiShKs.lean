/- The table of all functions that the compiler takes, calls beside loads with the heap shut where that may be: for the printed functions in continuation style. -/
import Derived.Test.YtnlbfbiogfilfaaGreatAiCpsRun
import Derived.Test.YtnlbfbiogfilfaaGreatAiXTbl
set_option linter.all false
namespace Go.Ai
def amb (P:Program) (f:Nat):Option AFn:=(P.funcs[f]?).bind fun fn=>if fn.name == "runtime.NumGoroutine" then none else match amq P fn true with
  | some x=>some x
  | none=>amq P fn
theorem WB {P:Program} {f:Nat} {x:AFn} (h:amb P f=some x):Entry P f x:=by
  unfold amb at h
  simp only [Option.bind_eq_some_iff] at h
  obtain ⟨fn,h1,h2⟩:=h
  split at h2
  · cases h2
  · rename_i hn
    have:∃ m,amq P fn m=some x:=by
      split at h2
      · rename_i y hy; cases h2; exact ⟨true,hy⟩
      · exact ⟨false,h2⟩
    obtain ⟨m,h2⟩:=this
    refine ⟨fn,h1,by simpa using hn,?_,m,h2⟩
    unfold amq at h2
    simp only [Option.bind_eq_some_iff] at h2
    obtain ⟨c,hc,_⟩:=h2
    rw [hc]; rfl
noncomputable def asR (P:Program):Nat→Tr AFn
  | 0=>.leaf
  | n+1=>match amb P n with
    | some x=>(asR P n).set (key n) x
    | none=>asR P n
theorem au1 (P:Program):∀ (n f:Nat),(asR P n).get (key f)=if f<n then amb P f else none
  | 0,f=>by rw [asR,Tr.get_leaf,if_neg (by omega)]
  | n+1,f=>by
    have ih:=au1 P n f
    cases hc:amb P n with
    | none=>
      simp only [asR,hc]
      rw [ih]
      by_cases h:f<n
      · rw [if_pos h,if_pos (by omega)]
      · rw [if_neg h]
        by_cases h':f=n
        · subst h'; rw [if_pos (by omega),hc]
        · rw [if_neg (by omega)]
    | some x=>
      simp only [asR,hc]
      by_cases h':n=f
      · subst h'; rw [Tr.get_set_same,if_pos (by omega),hc]
      · rw [Tr.get_set_other (fun k=>h' (G5 k)),ih]
        by_cases h:f<n
        · rw [if_pos h,if_pos (by omega)]
        · rw [if_neg h,if_neg (by omega)]
noncomputable def tblS (P:Program):Tr AFn:=asR P P.funcs.size
theorem aaN (P:Program) (f:Nat):(tblS P).get (key f)=amb P f:=by
  unfold tblS
  rw [au1]
  split
  · rfl
  · rename_i h
    unfold amb
    rw [Array.getElem?_eq_none (by omega)]; rfl
theorem tblS_ok {P:Program} (hm:P.follows .mixedOrders=true):TblOk P (tblS P):={
  mixed:=hm
  mono f g hg:=by
    rw [aaN] at hg
    obtain ⟨fn,_,_,_,_,hc⟩:=WB hg
    obtain ⟨_,_,_,e⟩:=arF hc
    cases e
  enters f x hx:=by
    rw [aaN] at hx
    obtain ⟨fn,h1,h2,h3,_⟩:=WB hx
    exact ⟨fn,h1,h2,h3⟩
  code f ps body res hx:=by
    rw [aaN] at hx
    obtain ⟨fn,h1,_,_,m,h4⟩:=WB hx
    exact ⟨fn,m,h1,h4⟩
  prim f g hg:=by
    rw [aaN] at hg
    obtain ⟨fn,_,_,_,_,hc⟩:=WB hg
    obtain ⟨_,_,_,e⟩:=arF hc
    cases e }
theorem IJ {tbl:Tr AFn} {f g:Nat} {x:AFn} {y:Option AFn} (e:Nat.beq g f=false) (h:tbl.get (key f)=y):(tbl.set (key g) x).get (key f)=y:=by
  rw [Tr.get_set_other (fun k=>by rw [G5 k,Nat.beq_refl] at e; cases e)]
  exact h
end Go.Ai
/- What printed functions compute, forward: rules for runs, what the operations do, slices of numbers in the heap. -/
namespace Go.Ai
def RunG {K R:Type} (ap:K→R→CRes) (f:K→CRes) (Q:R→Prop):Prop:=∃ r,Q r∧∀ k,f k=ap k r
def ap0 (k:Heap→CRes) (r:Heap):CRes:=k r
def ap1 {α:Type} (k:α→Heap→CRes) (r:α × Heap):CRes:=k r.1 r.2
def ap2 {α β:Type} (k:α→β→Heap→CRes) (r:α × β × Heap):CRes:=k r.1 r.2.1 r.2.2
def Run0 (f:(Heap→CRes)→CRes) (Q:Heap→Prop):Prop:=RunG ap0 f Q
def Run1 {α:Type} (f:(α→Heap→CRes)→CRes) (Q:α→Heap→Prop):Prop:=RunG ap1 f fun r=>Q r.1 r.2
def Run2 {α β:Type} (f:(α→β→Heap→CRes)→CRes) (Q:α→β→Heap→Prop):Prop:=RunG ap2 f fun r=>Q r.1 r.2.1 r.2.2
section
variable {K R:Type} {ap:K→R→CRes} {Q Q':R→Prop} {α β γ:Type}
theorem RunG.mono {f:K→CRes} (h:RunG ap f Q) (hq:∀ r,Q r→Q' r):RunG ap f Q':=by
  obtain ⟨r,h1,h2⟩:=h; exact ⟨r,hq r h1,h2⟩
theorem Run0.mono {f:(Heap→CRes)→CRes} {Q Q':Heap→Prop} (h:Run0 f Q) (hq:∀ r,Q r→Q' r):Run0 f Q':=RunG.mono h hq
theorem Run1.mono {f:(α→Heap→CRes)→CRes} {Q Q':α→Heap→Prop} (h:Run1 f Q) (hq:∀ a h,Q a h→Q' a h):Run1 f Q':=RunG.mono h fun r=>hq r.1 r.2
theorem Run2.mono {f:(α→β→Heap→CRes)→CRes} {Q Q':α→β→Heap→Prop} (h:Run2 f Q) (hq:∀ a b h,Q a b h→Q' a b h):Run2 f Q':=RunG.mono h fun r=>hq r.1 r.2.1 r.2.2
theorem ret0 {h:Heap} {Q:Heap→Prop} (hq:Q h):RunG ap0 (fun k=>k h) Q:=⟨h,hq,fun _=>rfl⟩
theorem je {a:α} {h:Heap} {Q:α × Heap→Prop} (hq:Q (a,h)):RunG ap1 (fun k=>k a h) Q:=⟨(a,h),hq,fun _=>rfl⟩
theorem XA {a:α} {b:β} {h:Heap} {Q:α × β × Heap→Prop} (hq:Q (a,b,h)):RunG ap2 (fun k=>k a b h) Q:=⟨(a,b,h),hq,fun _=>rfl⟩
theorem Run0.bind {f:(Heap→CRes)→CRes} {P:Heap→Prop} (hf:Run0 f P) {g:K→Heap→CRes} (h:∀ h',P h'→RunG ap (fun k=>g k h') Q):RunG ap (fun k=>f (g k)) Q:=by
  obtain ⟨r,h1,h2⟩:=hf
  obtain ⟨s,h3,h4⟩:=h r h1
  exact ⟨s,h3,fun k=>(h2 _).trans (h4 k)⟩
theorem Run1.bind {f:(α→Heap→CRes)→CRes} {P:α→Heap→Prop} (hf:Run1 f P) {g:K→α→Heap→CRes} (h:∀ a h',P a h'→RunG ap (fun k=>g k a h') Q):RunG ap (fun k=>f (g k)) Q:=by
  obtain ⟨r,h1,h2⟩:=hf
  obtain ⟨s,h3,h4⟩:=h _ _ h1
  exact ⟨s,h3,fun k=>(h2 _).trans (h4 k)⟩
theorem Run2.bind {f:(α→β→Heap→CRes)→CRes} {P:α→β→Heap→Prop} (hf:Run2 f P) {g:K→α→β→Heap→CRes} (h:∀ a b h',P a b h'→RunG ap (fun k=>g k a b h') Q):RunG ap (fun k=>f (g k)) Q:=by
  obtain ⟨r,h1,h2⟩:=hf
  obtain ⟨s,h3,h4⟩:=h _ _ _ h1
  exact ⟨s,h3,fun k=>(h2 _).trans (h4 k)⟩
theorem RunG.ifB {c:Bool} {f g:K→CRes} (ht:c=true→RunG ap f Q) (hf:c=false→RunG ap g Q):RunG ap (fun k=>ifB c (f k) (g k)) Q:=by
  cases c with
  | true=>exact ht rfl
  | false=>exact hf rfl
end
attribute [simp] gw lW pQ yq abY aiv aiL amR DY arq arB aru uE O6 y4 zj awN amx amC ams aAk az5 jC
@[simp] theorem xN (a b:CRes):ifB true a b=a:=rfl
@[simp] theorem yH (a b:CRes):ifB false a b=b:=rfl
@[simp] theorem sN {α:Type} (a:α) (k:α→CRes):oC (some a) k=k a:=rfl
@[simp] theorem ama (n:Nat) (k:Nat→CRes):aqw (n:Int) k=k n:=rfl
theorem aAm {i:Int} (h:0≤i) (k:Nat→CRes):aqw i k=k i.toNat:=by
  obtain ⟨n,rfl⟩:=Int.eq_ofNat_of_zero_le h; rfl
@[simp] theorem asE (q:IntKind) (n:Int) (k:Int→CRes):Wa q (.int q n) k=k n:=by cases q<;>rfl
@[simp] theorem azx (b:Bool) (k:Bool→CRes):Te (.bool b) k=k b:=rfl
@[simp] theorem IK (b o:Nat) (k:Nat→Nat→CRes):au3 (.ptr b o) k=k b o:=rfl
@[simp] theorem agW (b o l e:Nat) (p:Bool) (k:Nat→Nat→Nat→CRes):asSlc (.slice b o l e p) k=k b o l:=rfl
@[simp] theorem avp (l:List AV) (k:List AV→CRes):asAgg (.agg l) k=k l:=rfl
@[simp] theorem avD (b:Nat) (k:Nat→CRes):asMap (.map b) k=k b:=rfl
@[simp] theorem apF (b o:Nat) (k:CRes):Tw (.ptr b o) k=k:=rfl
@[simp] theorem av6 (b o l e:Nat) (p:Bool) (k:Int→CRes):fH (.slice b o l e p) k=k l:=rfl
@[simp] theorem azh (k:Int→CRes):fH .nilslice k=k 0:=rfl
@[simp] theorem arw (d b o:Nat) (k:AV→CRes):faK d (.ptr b o) k=k (.ptr b (o+d)):=by simp [faK]
@[simp] theorem at1 (H:Heap) (l:List AV) (c:Nat→Heap→CRes):Dh H (.agg l) c=c H.nx (H.add (.cells l true 0)):=by
  show Bv H (.cells l true 0) c=_; simp
theorem nfa_eq (d b o:Nat) (k:AV→CRes):nfa d (.ptr b o) k=k (.ptr b (o+d)):=by simp [nfa]
attribute [simp] nfa_eq
def andZ (a b:Int):Int:=IntKind.i64.wrap (BitVec.ofInt 64 a &&& BitVec.ofInt 64 b).toNat
@[simp] theorem bitK_and (a b:Int) (c:Int→CRes):aol .and .i64 a b c=c (andZ a b):=by
  show oC (some _) _=_
  rw [sN,lW]; rfl
theorem ary {q:IntKind} {a b:Int} (h:b≠0) (c:Int→CRes):quoK q a b c=c (q.wrap (a.tdiv b)):=by
  unfold quoK; rw [awN,decide_eq_false h]; simp
theorem aiO {q:IntKind} {a b:Int} (h:b≠0) (c:Int→CRes):asT q a b c=c (a.tmod b):=by
  unfold asT; rw [awN,decide_eq_false h]; simp
theorem TZ {q:IntKind} {a b:Int} (h:0≤b) (c:Int→CRes):al0 q a b c=c (q.wrap (aly q a b.toNat)):=by
  unfold al0; rw [aAm h]; simp
def Heap.cl (h:Heap) (b:Nat) (l:List AV):Prop:=b<h.nx∧∃ rw g,h.get b=some (.cells l rw g)
theorem bM {h:Heap} {b:Nat} {l:List AV} (hb:h.cl b l) (c:List AV→CRes):Rk h b c=c l:=by
  obtain ⟨_,rw_,g,hb⟩:=hb
  unfold Rk
  rw [amS]
  have:h.t.get (key b)=some (.cells l rw_ g):=hb
  rw [this]; rfl
@[simp] theorem atL (h:Heap) (b off:Nat) (k:AV→CRes):f8 h (.ptr b off) 1 false k=Rk h b fun l=>oC l[off]? k:=by
  unfold f8
  simp only [IK,yH,art]; rfl
@[simp] theorem azQ (h:Heap) (b off n:Nat) (k:AV→CRes):f8 h (.ptr b off) n true k=Rk h b fun l=>oC (sub l off n) fun cs=>k (.agg cs):=by
  unfold f8
  simp only [IK,xN]
@[simp] theorem ldI_ptr (q:IntKind) (h:Heap) (b off:Nat) (k:Int→CRes):ldI q h (.ptr b off) k=Rk h b fun l=>oC l[off]? fun v=>Wa q v k:=by unfold ldI; simp
@[simp] theorem ldB_ptr (h:Heap) (b off:Nat) (k:Bool→CRes):ldB h (.ptr b off) k=Rk h b fun l=>oC l[off]? fun v=>Te v k:=by unfold ldB; simp
@[simp] theorem fldI_ptr (q:IntKind) (d:Nat) (h:Heap) (b off:Nat) (k:AV→Int→CRes):iY q d h (.ptr b off) k=Rk h b fun l=>oC l[off+d]? fun v=>Wa q v (k (.ptr b (off+d))):=by unfold iY; simp
@[simp] theorem fldB_ptr (d:Nat) (h:Heap) (b off:Nat) (k:AV→Bool→CRes):fldB d h (.ptr b off) k=Rk h b fun l=>oC l[off+d]? fun v=>Te v (k (.ptr b (off+d))):=by unfold fldB; simp
@[simp] theorem fld_ptr1 (d:Nat) (h:Heap) (b off:Nat) (k:AV→AV→CRes):fld d h (.ptr b off) 1 false k=Rk h b fun l=>oC l[off+d]? (k (.ptr b (off+d))):=by unfold fld; simp
@[simp] theorem fld_ptrN (d:Nat) (h:Heap) (b off n:Nat) (k:AV→AV→CRes):fld d h (.ptr b off) n true k=Rk h b fun l=>oC (sub l (off+d) n) fun cs=>k (.ptr b (off+d)) (.agg cs):=by unfold fld; simp
@[simp] theorem aBb (q:IntKind) (d:Nat) (h:Heap) (b off:Nat) (k:AV→Int→CRes):arD q d h (.ptr b off) k=iY q d h (.ptr b off) k:=by unfold arD; simp
@[simp] theorem aAV (d:Nat) (h:Heap) (b off:Nat) (k:AV→Bool→CRes):nfldB d h (.ptr b off) k=fldB d h (.ptr b off) k:=by unfold nfldB; simp
@[simp] theorem nfld_ptr (d:Nat) (h:Heap) (b off n:Nat) (g:Bool) (k:AV→AV→CRes):TE d h (.ptr b off) n g k=fld d h (.ptr b off) n g k:=by unfold TE; simp
theorem load_agg {h:Heap} {b off n:Nat} {l cs:List AV} (hb:h.cl b l) (hs:(l.drop off).take n=cs) (hn:off+n≤l.length) (k:AV→CRes):f8 h (.ptr b off) n true k=k (.agg cs):=by
  unfold f8
  rw [IK,bM hb,xN,oB,if_pos (by rw [List.length_drop]; omega),hs]; rfl
theorem atW {h:Heap} {b off:Nat} {l:List AV} {v:AV} (hb:h.cl b l) (hs:l[off]?=some v) (k:AV→CRes):f8 h (.ptr b off) 1 false k=k v:=by
  unfold f8
  rw [IK,bM hb,yH]
  show ifB true _ _=_
  rw [xN,art,hs]; rfl
theorem air {h:Heap} {b off d:Nat} {l:List AV} {q:IntKind} {n:Int} (hb:h.cl b l) (hs:l[off+d]?=some (.int q n)) (k:AV→Int→CRes):iY q d h (.ptr b off) k=k (.ptr b (off+d)) n:=by
  unfold iY; rw [arw,atW hb hs,asE]
theorem fld_of {h:Heap} {b off d:Nat} {l:List AV} {v:AV} (hb:h.cl b l) (hs:l[off+d]?=some v) (k:AV→AV→CRes):fld d h (.ptr b off) 1 false k=k (.ptr b (off+d)) v:=by
  unfold fld; rw [arw,atW hb hs]
structure Grow (h h':Heap):Prop where
  nx:h.nx≤h'.nx
  ro:h'.ro=h.ro
  old:∀ b,b<h.nx→h'.get b=h.get b
theorem Grow.refl {h:Heap}:Grow h h:=⟨Nat.le_refl _,rfl,fun _ _=>rfl⟩
theorem Grow.trans {h h' h'':Heap} (a:Grow h h') (b:Grow h' h''):Grow h h'':=⟨Nat.le_trans a.nx b.nx,b.ro.trans a.ro,fun c hc=>(b.old c (Nat.lt_of_lt_of_le hc a.nx)).trans (a.old c hc)⟩
theorem Grow.add {h:Heap} {x:Blk}:Grow h (h.add x):=⟨by simp,by simp,fun b hb=>by rw [Heap.get_add,if_neg (by omega)]⟩
theorem Grow.cl {h h':Heap} (g:Grow h h') {b:Nat} {l:List AV} (hb:h.cl b l):h'.cl b l:=by
  obtain ⟨h1,rw_,q,h2⟩:=hb
  exact ⟨Nat.lt_of_lt_of_le h1 g.nx,rw_,q,(g.old b h1).trans h2⟩
theorem ayW (h:Heap) (l:List AV) (rw_:Bool) (g:Nat):(h.add (.cells l rw_ g)).cl h.nx l:=⟨by simp,rw_,g,by rw [Heap.get_add,if_pos rfl]⟩
theorem Grow.shut {h h':Heap} (g:Grow (h.shut true) h'):Grow h (h'.back h.ro):=⟨g.nx,rfl,fun b hb=>g.old b hb⟩
theorem Heap.cl.shut {h:Heap} {b:Nat} {l:List AV} (hb:h.cl b l):(h.shut true).cl b l:=hb
theorem zw (h:Heap) (l:List AV):Run1 (Dh h (.agg l)) fun x h'=>h'.cl x l∧Grow h h':=⟨(h.nx,h.add (.cells l true 0)),⟨ayW ..,Grow.add⟩,fun k=>at1 ..⟩
structure Own (h:Heap) (b:Nat) (l:List AV) (g:Nat):Prop where
  lt:b<h.nx
  ro:h.ro≤b
  get:h.get b=some (.cells l true g)
theorem Own.cl {h:Heap} {b:Nat} {l:List AV} {g:Nat} (o:Own h b l g):h.cl b l:=⟨o.lt,true,g,o.get⟩
theorem Own.grow {h h':Heap} {b:Nat} {l:List AV} {q:Nat} (o:Own h b l q) (g:Grow h h'):Own h' b l q:=⟨Nat.lt_of_lt_of_le o.lt g.nx,by rw [g.ro]; exact o.ro,(g.old b o.lt).trans o.get⟩
theorem aqf {h:Heap} (hro:h.ro≤h.nx) (l:List AV) (g:Nat):Run1 (Bv h (.cells l true g)) fun x h'=>h.nx≤x∧Own h' x l g∧Grow h h':=
  ⟨(h.nx,h.add (.cells l true g)),⟨Nat.le_refl _,⟨by simp,by simpa using hro,by rw [Heap.get_add,if_pos rfl]⟩,Grow.add⟩,fun k=>uE ..⟩
theorem Grow.le {h h':Heap} (g:Grow h h') (hro:h.ro≤h.nx):h'.ro≤h'.nx:=by rw [g.ro]; exact Nat.le_trans hro g.nx
theorem Grow.set {h h':Heap} (g:Grow h h') {b:Nat} (hb:h.nx≤b) (x:Blk):Grow h (h'.set b x):=⟨by simp [g.nx],by simp [g.ro],fun c hc=>by rw [Heap.get_set_other _ (by omega)]; exact g.old c hc⟩
theorem ax4 {h:Heap} {b:Nat} {l:List AV} {g:Nat} (o:Own h b l g) (c:List AV→Nat→CRes):ownX h b c=c l g:=by
  unfold ownX
  have:Nat.blt b h.ro=false:=by rw [blt_eq]; simp; exact o.ro
  rw [this,yH,amS]
  have h2:h.t.get (key b)=some (.cells l true g):=o.get
  rw [h2]; rfl
structure Put (h:Heap) (b:Nat) (l:List AV) (g:Nat) (h':Heap):Prop where
  own:Own h' b l g
  nx:h'.nx=h.nx
  ro:h'.ro=h.ro
  other:∀ c,c≠b→h'.get c=h.get c
theorem Put.grow {h₀ h h':Heap} {b:Nat} {l:List AV} {q:Nat} (p:Put h b l q h') (g:Grow h₀ h) (hb:h₀.nx≤b):Grow h₀ h':=⟨by rw [p.nx]; exact g.nx,by rw [p.ro]; exact g.ro,fun c hc=>by rw [p.other c (by omega)]; exact g.old c hc⟩
theorem Put.cl {h h':Heap} {b c:Nat} {l l':List AV} {q:Nat} (p:Put h b l q h') (hc:c≠b) (o:h.cl c l'):h'.cl c l':=by
  obtain ⟨h1,rw_,g,h2⟩:=o
  exact ⟨by rw [p.nx]; exact h1,rw_,g,by rw [p.other c hc]; exact h2⟩
theorem al6 {h:Heap} {b:Nat} {l:List AV} {q:Nat} (o:Own h b l q) (l':List AV):Put h b l' q (h.set b (.cells l' true q)):=
  ⟨⟨by simpa using o.lt,by simpa using o.ro,Heap.get_set_same ..⟩,by simp,by simp,fun c hc=>Heap.get_set_other _ (fun e=>hc e.symm) _⟩
theorem abC {h:Heap} {b off n:Nat} {l cs:List AV} {g:Nat} (o:Own h b l g) (hn:cs.length=n) (hl:off+n≤l.length):Run0 (lS h (.ptr b off) n (.agg cs)) (Put h b (zP cs l off) g):=by
  refine ⟨h.set b (.cells (zP cs l off) true g),al6 o _,fun k=>?_⟩
  unfold lS
  rw [IK,ax4 o]
  show ifB (Nat.beq (mv cs) n) _ _=_
  rw [jC,hn,Nat.beq_refl,xN,afV,if_pos (by omega),O6]; rfl
theorem G1 {h:Heap} {b off:Nat} {l:List AV} {g:Nat} {u:AV} (o:Own h b l g) (hl:off<l.length) (hu:u.isCell=true):Run0 (lS h (.ptr b off) 1 u) (Put h b (l.set off u) g):=by
  refine ⟨h.set b (.cells (l.set off u) true g),al6 o _,fun k=>?_⟩
  unfold lS
  rw [IK,ax4 o]
  have:avz u (fun cs=>ifB (Nat.beq (mv cs) 1) (avf cs l off fun l=>setX h b (.cells l true g) k) .err) (ifB (Nat.beq 1 1) (atr u l off fun l=>setX h b (.cells l true g) k) .err)=ifB (Nat.beq 1 1) (atr u l off fun l=>setX h b (.cells l true g) k) .err:=by
    cases u<;>first | rfl | cases hu
  rw [this]
  show ifB true _ _=_
  rw [xN,afZ,if_pos hl,O6]; rfl
theorem aaD (cs l:List AV) (h:cs.length=l.length):zP cs l 0=cs:=by
  rw [aiC _ _ (by omega),h,List.drop_length,List.append_nil]
theorem asl {h:Heap} (hro:h.ro≤h.nx) {z cs:List AV} {n:Nat} (hz:z.length=n) (hc:cs.length=n) :
    Run1 (fun K=>Bv h (.cells z true 0) fun x h1=>lS h1 (.ptr x 0) n (.agg cs) (K x)) fun x h'=>h.nx≤x∧Own h' x cs 0∧Grow h h':=by
  refine Run1.bind (aqf hro z 0) ?_
  rintro x h1 ⟨hx,ho,g⟩
  refine Run0.bind (abC ho hc (by omega)) ?_
  intro h2 hp
  rw [aaD _ _ (by omega)] at hp
  exact je ⟨hx,hp.own,hp.grow g hx⟩
theorem avw {h:Heap} (hro:h.ro≤h.nx) {z u:AV} (hu:u.isCell=true) :
    Run1 (fun K=>Bv h (.cells [z] true 0) fun x h1=>lS h1 (.ptr x 0) 1 u (K x)) fun x h'=>h.nx≤x∧Own h' x [u] 0∧Grow h h':=by
  refine Run1.bind (aqf hro [z] 0) ?_
  rintro x h1 ⟨hx,ho,g⟩
  refine Run0.bind (G1 ho (by simp) hu) ?_
  intro h2 hp
  exact je ⟨hx,hp.own,hp.grow g hx⟩
theorem axc {l:List AV} {n i:Nat} (hn:l.length=n) (hi:i<n) (k:AV→CRes):aes 1 n false (.agg l) (i:Int) k=k (l[i]'(by omega)):=by
  unfold aes
  rw [avp,ama]
  have h1:Nat.blt i n=true:=by rw [blt_eq]; simpa using hi
  rw [h1,xN,gw,oB,if_pos (by rw [List.length_drop,Nat.mul_eq,Nat.mul_one]; omega),sN]
  have:(l.drop (Nat.mul i 1)).take 1 = [l[i]'(by omega)]:=by
    rw [Nat.mul_eq,Nat.mul_one,List.drop_eq_getElem_cons (by omega)]; rfl
  rw [this]; rfl
def SlAt (h:Heap) (v:AV) (sz n:Nat) (f:Nat→List AV):Prop:=n≤9223372036854775807∧
  ((v = .nilslice∧n=0)∨∃ b off ext opn,v = .slice b off n ext opn∧(0<n→∃ l,h.cl b l∧∀ i,i<n→off+i*sz+sz≤l.length∧(l.drop (off+i*sz)).take sz=f i))
theorem SlAt.grow {h h':Heap} {v:AV} {sz n:Nat} {f:Nat→List AV} (s:SlAt h v sz n f) (g:Grow h h'):SlAt h' v sz n f:=by
  obtain ⟨hn,s⟩:=s
  rcases s with s | ⟨b,off,ext,opn,h1,h2⟩
  · exact ⟨hn,.inl s⟩
  · exact ⟨hn,.inr ⟨b,off,ext,opn,h1,fun h0=>have ⟨l,h3,h4⟩:=h2 h0; ⟨l,g.cl h3,h4⟩⟩⟩
theorem SlAt.len {h:Heap} {v:AV} {sz n:Nat} {f:Nat→List AV} (s:SlAt h v sz n f) (k:Int→CRes):fH v k=k n:=by
  rcases s with ⟨_,⟨rfl,rfl⟩ | ⟨b,off,ext,opn,rfl,_⟩⟩<;>rfl
def elP (v:AV) (sz:Nat) (i:Int):AV:=match v with
  | .slice b off _ _ _=>.ptr b (off+i.toNat*sz)
  | v=>v
theorem SlAt.ia {h:Heap} {v:AV} {sz n:Nat} {f:Nat→List AV} (s:SlAt h v sz n f) {i:Int} (h0:0≤i) (hi:i<n) (k:AV→CRes):LC sz v i k=k (elP v sz i):=by
  rcases s with ⟨_,⟨rfl,rfl⟩ | ⟨b,off,ext,opn,rfl,_⟩⟩
  · omega
  · unfold LC
    rw [agW,aAm h0]
    have:Nat.blt i.toNat n=true:=by rw [blt_eq]; simp; omega
    rw [this,xN]; simp [elP]
theorem SlAt.at_ {h:Heap} {v:AV} {sz n:Nat} {f:Nat→List AV} (s:SlAt h v sz n f) {i:Int} (h0:0≤i) (hi:i<n) :
    ∃ b off l,elP v sz i = .ptr b off∧h.cl b l∧off+sz≤l.length∧(l.drop off).take sz=f i.toNat:=by
  rcases s with ⟨_,⟨rfl,rfl⟩ | ⟨b,off,ext,opn,rfl,h1⟩⟩
  · omega
  · obtain ⟨l,h1,h2⟩:=h1 (by omega)
    obtain ⟨h3,h4⟩:=h2 i.toNat (by omega)
    exact ⟨b,_,l,rfl,h1,h3,h4⟩
theorem SlAt.eld {h:Heap} {v:AV} {sz n:Nat} {f:Nat→List AV} (s:SlAt h v sz n f) {i:Int} (h0:0≤i) (hi:i<n) (k:AV→AV→CRes):eld sz h v i sz true k=k (elP v sz i) (.agg (f i.toNat)):=by
  unfold Ai.eld
  rw [s.ia h0 hi]
  obtain ⟨b,off,l,e,h1,h2,h3⟩:=s.at_ h0 hi
  rw [e,load_agg h1 h3 h2]
def AV.shut:AV→Bool
  | .slice _ _ _ _ opn=>!opn
  | _=>true
theorem SlAt.take {h:Heap} {v:AV} {sz n:Nat} {f:Nat→List AV} (s:SlAt h v sz n f) (hs:v.shut=true) {i:Int} (h0:0≤i) (hi:i≤n):∃ v',SlAt h v' sz i.toNat f∧∀ k,slK (.sl sz) v none (some (.int .i64 i)) none k=k v':=by
  obtain ⟨m,rfl⟩:=Int.eq_ofNat_of_zero_le h0
  obtain ⟨hn,⟨rfl,rfl⟩ | ⟨b,off,ext,opn,rfl,h1⟩⟩:=s
  · have:m=0:=by omega
    subst this
    exact ⟨.nilslice,⟨by simp,.inl ⟨rfl,rfl⟩⟩,fun k=>rfl⟩
  · obtain rfl:opn=false:=by simpa [AV.shut] using hs
    refine ⟨.slice b off m (n+ext-m) false,⟨by simp; omega,.inr ⟨b,off,_,false,rfl,fun h0=>have ⟨l,h3,h4⟩:=h1 (by simp at h0; omega); ⟨l,h3,fun j hj=>h4 j (by simp at hj; omega)⟩⟩⟩,fun k=>?_⟩
    have hm:m≤n+ext:=by omega
    unfold slK
    have:slV (.sl sz) (.slice b off n ext false) none (some (.int .i64 (m:Int))) none=some (.slice b off m (n+ext-m) false):=by
      have e1:Lv (some (.int .i64 (m:Int))) n (n+ext)=some m:=by
        have h2:Nat.ble m (n+ext)=true:=Nat.ble_eq_true_of_le hm
        show Bool.casesOn (motive:=fun _=>Option Nat) (Nat.ble m (n+ext)) none (some m)=_
        rw [h2]
      simp only [slV]
      have e0:Lv none (n+ext) (n+ext)=some (n+ext):=rfl
      rw [e0]; dsimp only; rw [e1]; dsimp only
      have e2:Lv none 0 m=some 0:=rfl
      rw [e2]; dsimp only
      simp
    rw [this,sN,pQ]
def nz (l:List Int) (i:Nat):Int:=l.getD i 0
theorem kC {l:List Int} {i:Nat} (h:i<l.length):nz l i=l[i]:=by unfold nz; rw [List.getD_eq_getElem?_getD,List.getElem?_eq_getElem h]; rfl
def Ints (h:Heap) (q:IntKind) (v:AV) (l:List Int):Prop:=SlAt h v 1 l.length fun i=>[.int q (nz l i)]
theorem Ints.grow {h h':Heap} {q:IntKind} {v:AV} {l:List Int} (s:Ints h q v l) (g:Grow h h'):Ints h' q v l:=SlAt.grow s g
theorem Ints.len {h:Heap} {q:IntKind} {v:AV} {l:List Int} (s:Ints h q v l) (k:Int→CRes):fH v k=k l.length:=SlAt.len s k
theorem Ints.small {h:Heap} {q:IntKind} {v:AV} {l:List Int} (s:Ints h q v l):l.length≤9223372036854775807:=s.1
theorem Ints.el {h:Heap} {q:IntKind} {v:AV} {l:List Int} (s:Ints h q v l) {i:Int} (h0:0≤i) (hi:i<l.length) (k:AV→Int→CRes):Lw q 1 h v i k=k (elP v 1 i) (nz l i.toNat):=by
  unfold Lw
  rw [SlAt.ia s h0 hi]
  obtain ⟨b,off,l',e,h1,h2,h3⟩:=SlAt.at_ s h0 hi
  have h4:l'[off]?=some (.int q (nz l i.toNat)):=by
    have:=congrArg (·[0]?) h3
    simpa using this
  rw [e,atW h1 h4,asE]
theorem Ints.elN {h:Heap} {q:IntKind} {v:AV} {l:List Int} (s:Ints h q v l) {i:Nat} (hi:i<l.length) (k:AV→Int→CRes):Lw q 1 h v i k=k (elP v 1 i) (nz l i):=s.el (Int.natCast_nonneg i) (by omega) k
theorem aza {h:Heap} {b:Nat} {q:IntKind} {l:List Int} (hb:h.cl b (l.map (.int q))) (hl:l.length≤9223372036854775807) (ext:Nat) (opn:Bool):Ints h q (.slice b 0 l.length ext opn) l:=by
  refine ⟨hl,.inr ⟨b,0,ext,opn,rfl,fun _=>⟨_,hb,fun i hi=>⟨by simp; omega,?_⟩⟩⟩⟩
  simp only [Nat.zero_add,Nat.mul_one]
  rw [kC hi, ← List.map_drop, ← List.map_take]
  rw [List.drop_eq_getElem_cons hi]; rfl
theorem Ip {h:Heap} {len:Nat} {z l:List AV} {parts:List (Nat × Nat × AV)} (hf:∀ k,ap6 parts z k=k l):Run1 (pG h len z parts) fun v h'=>v = .slice h.nx 0 len 0 false∧h'.cl h.nx l∧Grow h h':=by
  refine ⟨(.slice h.nx 0 len 0 false,h.add (.cells l true 0)),⟨rfl,ayW ..,Grow.add⟩,fun k=>?_⟩
  unfold pG
  rw [hf,uE]; rfl
theorem ap5 {h:Heap} {q:IntKind} (xs:List Int) {z:List AV} {parts:List (Nat × Nat × AV)} (hf:∀ k,ap6 parts z k=k (xs.map (.int q))) (hl:xs.length≤9223372036854775807):Run1 (pG h xs.length z parts) fun v h'=>Ints h' q v xs∧Grow h h':=
  (Ip hf).mono fun _ _ ⟨h1,h2,h3⟩=>⟨by rw [h1]; exact aza h2 hl 0 false,h3⟩
theorem Ints.nil {h:Heap} {q:IntKind}:Ints h q .nilslice []:=⟨by simp,.inl ⟨rfl,rfl⟩⟩
theorem jU {n:Int} (h0 : -9223372036854775808≤n) (h1:n≤9223372036854775807):IntKind.i64.wrap n=n:=by
  rw [IntKind.wrap_i64]; omega
theorem wrap_u {n:Int} (h0:0≤n) (h1:n<18446744073709551616):IntKind.u64.wrap n=n:=by
  simp only [IntKind.wrap,IntKind.signed,IntKind.bits]; simp; omega
theorem fW {i:Nat} (h:i≤9223372036854775806):IntKind.i64.wrap ((i:Int)+1)=((i+1:Nat):Int):=by
  rw [jU (by omega) (by omega)]; simp
end Go.Ai
/- Configurations: what chapter 11 says may be, as plain functions; how one lies in the heap. -/
namespace Go.Ai
structure PartZ where
  cols:List Int
  order:Int
  user:Int
  tables:Int
  spaces:Int
  regions:Int
  records:Int
  slots:Int
structure CfgZ where
  frames:Int
  colours:Int
  ways:Int
  l1sets:Int
  l1ways:Int
  tlb:Int
  l1:Int
  llc:Int
  miss:Int
  fault:Int
  step:Int
  disk:Int
  slice:Int
  pad:Int
  first:Int
  turns:List Int
  parts:List PartZ
def G2 (z:CfgZ):List AV:=[.int .u64 z.l1,.int .u64 z.llc,.int .u64 z.miss,.int .u64 z.fault,.int .u64 z.step,.int .u64 z.disk]
def Es (z:CfgZ) (t p:AV):List AV:=[.int .i64 z.frames,.int .i64 z.colours,.int .i64 z.ways,.int .i64 z.l1sets,.int .i64 z.l1ways,.int .i64 z.tlb,
  .int .u64 z.l1,.int .u64 z.llc,.int .u64 z.miss,.int .u64 z.fault,.int .u64 z.step,.int .u64 z.disk,.int .u64 z.slice,.int .u64 z.pad,.int .u64 z.first,t,p]
def zA (x:PartZ) (s:AV):List AV:=[s,.int .i64 x.order,.int .i64 x.user,.int .i64 x.tables,.int .i64 x.spaces,.int .i64 x.regions,.int .i64 x.records,.int .i64 x.slots]
instance:Inhabited PartZ:=⟨⟨[],0,0,0,0,0,0,0⟩⟩
def Parts (h:Heap) (v:AV) (ps:List PartZ):Prop:=v.shut=true∧∃ S:Nat→AV,SlAt h v 8 ps.length (fun i=>zA (ps.getD i default) (S i))∧∀ i,i<ps.length→Ints h .i64 (S i) (ps.getD i default).cols
theorem Parts.grow {h h':Heap} {v:AV} {ps:List PartZ} (s:Parts h v ps) (g:Grow h h'):Parts h' v ps:=by
  obtain ⟨h0,S,h1,h2⟩:=s
  exact ⟨h0,S,h1.grow g,fun i hi=>(h2 i hi).grow g⟩
def Cfg (h:Heap) (z:CfgZ) (c:List AV):Prop:=∃ t p,c=Es z t p∧Ints h .i64 t z.turns∧Parts h p z.parts
theorem Cfg.grow {h h':Heap} {z:CfgZ} {c:List AV} (s:Cfg h z c) (g:Grow h h'):Cfg h' z c:=by
  obtain ⟨t,p,h1,h2,h3⟩:=s
  exact ⟨t,p,h1,h2.grow g,h3.grow g⟩
def cR (n a b:Int):Bool:=decide (a≤n)&&decide (n≤b)
def alx (n TI:Int):Bool:=cR n 1 TI&&(andZ n (IntKind.i64.wrap (n-1))==0)
def qG (z:CfgZ):Bool:=alx z.colours 16&&(cR z.frames 1 4096&&(z.frames.tmod z.colours==0&&(alx z.l1sets 4096&&(cR z.ways 1 16&&(cR z.l1ways 1 16&&
  (cR z.tlb 1 64&&cR z.parts.length 1 8))))))
def aso (z:CfgZ):Int:=IntKind.i64.wrap (z.frames.tdiv z.colours)
def xv (a b:Int):Bool:=decide (a≤b)&&decide (b≤65536)
def az0 (z:CfgZ):Bool:=xv 1 z.l1&&(xv z.l1 z.llc&&(xv z.llc z.miss&&(xv 1 z.fault&&(xv 1 z.step&&xv 1 z.disk))))
def anl (z:CfgZ):Int:=if az0 z then 0 else 100
def alc (last:Option Int) (x:Int):Bool:=match last with | none=>true | some y=>decide (y<x)
def Gr (z:CfgZ) (ps:List PartZ) (last:Option Int):List Int→Bool
  | []=>true
  | x::l=>decide (0≤x)&&(decide (x<z.colours)&&(alc last x&&(ps.all (fun q=>!decide (x∈q.cols))&&Gr z ps (some x) l)))
theorem OO (z:CfgZ) (ps:List PartZ) (last:Option Int) (x:Int) (l:List Int):Gr z ps last (x::l)=(decide (0≤x)&&(decide (x<z.colours)&&(alc last x&&(ps.all (fun q=>!decide (x∈q.cols))&&Gr z ps (some x) l)))):=rfl
def cL (z:CfgZ) (p:Nat):PartZ:=z.parts.getD p default
def ang (z:CfgZ) (p:Nat):Bool:=Gr z (z.parts.take p) none (cL z p).cols&&decide (0<(cL z p).cols.length)
def vj (z:CfgZ) (p:Nat):Int:=IntKind.i64.wrap ((cL z p).cols.length*aso z)
theorem cfg_0 (z:CfgZ) (t p:AV):(Es z t p)[0]?=some (.int .i64 z.frames):=rfl
theorem cfg_1 (z:CfgZ) (t p:AV):(Es z t p)[1]?=some (.int .i64 z.colours):=rfl
theorem cfg_2 (z:CfgZ) (t p:AV):(Es z t p)[2]?=some (.int .i64 z.ways):=rfl
theorem cfg_3 (z:CfgZ) (t p:AV):(Es z t p)[3]?=some (.int .i64 z.l1sets):=rfl
theorem cfg_4 (z:CfgZ) (t p:AV):(Es z t p)[4]?=some (.int .i64 z.l1ways):=rfl
theorem cfg_5 (z:CfgZ) (t p:AV):(Es z t p)[5]?=some (.int .i64 z.tlb):=rfl
theorem cfg_6 (z:CfgZ) (t p:AV):(Es z t p)[6]?=some (.int .u64 z.l1):=rfl
theorem cfg_7 (z:CfgZ) (t p:AV):(Es z t p)[7]?=some (.int .u64 z.llc):=rfl
theorem cfg_8 (z:CfgZ) (t p:AV):(Es z t p)[8]?=some (.int .u64 z.miss):=rfl
theorem cfg_9 (z:CfgZ) (t p:AV):(Es z t p)[9]?=some (.int .u64 z.fault):=rfl
theorem cfg_10 (z:CfgZ) (t p:AV):(Es z t p)[10]?=some (.int .u64 z.step):=rfl
theorem cfg_11 (z:CfgZ) (t p:AV):(Es z t p)[11]?=some (.int .u64 z.disk):=rfl
theorem cfg_12 (z:CfgZ) (t p:AV):(Es z t p)[12]?=some (.int .u64 z.slice):=rfl
theorem cfg_13 (z:CfgZ) (t p:AV):(Es z t p)[13]?=some (.int .u64 z.pad):=rfl
theorem cfg_14 (z:CfgZ) (t p:AV):(Es z t p)[14]?=some (.int .u64 z.first):=rfl
theorem cfg_15 (z:CfgZ) (t p:AV):(Es z t p)[15]?=some t:=rfl
theorem cfg_16 (z:CfgZ) (t p:AV):(Es z t p)[16]?=some p:=rfl
theorem part_0 (x:PartZ) (s:AV):(zA x s)[0]?=some s:=rfl
theorem part_1 (x:PartZ) (s:AV):(zA x s)[1]?=some (.int .i64 x.order):=rfl
theorem part_2 (x:PartZ) (s:AV):(zA x s)[2]?=some (.int .i64 x.user):=rfl
theorem part_3 (x:PartZ) (s:AV):(zA x s)[3]?=some (.int .i64 x.tables):=rfl
theorem part_4 (x:PartZ) (s:AV):(zA x s)[4]?=some (.int .i64 x.spaces):=rfl
theorem part_5 (x:PartZ) (s:AV):(zA x s)[5]?=some (.int .i64 x.regions):=rfl
theorem part_6 (x:PartZ) (s:AV):(zA x s)[6]?=some (.int .i64 x.records):=rfl
theorem part_7 (x:PartZ) (s:AV):(zA x s)[7]?=some (.int .i64 x.slots):=rfl
theorem sub_cfg (z:CfgZ) (t p:AV):sub (Es z t p) 0 17=some (Es z t p):=by rw [oB]; rfl
theorem sub_cost (z:CfgZ) (t p:AV):sub (Es z t p) 6 6=some (G2 z):=by rw [oB]; rfl
theorem cost_0 (z:CfgZ):(G2 z)[0]?=some (.int .u64 z.l1):=rfl
theorem cost_1 (z:CfgZ):(G2 z)[1]?=some (.int .u64 z.llc):=rfl
theorem cost_2 (z:CfgZ):(G2 z)[2]?=some (.int .u64 z.miss):=rfl
theorem cost_3 (z:CfgZ):(G2 z)[3]?=some (.int .u64 z.fault):=rfl
theorem cost_4 (z:CfgZ):(G2 z)[4]?=some (.int .u64 z.step):=rfl
theorem cost_5 (z:CfgZ):(G2 z)[5]?=some (.int .u64 z.disk):=rfl
theorem aAX (z:CfgZ):sub (G2 z) 0 6=some (G2 z):=by rw [oB]; rfl
def awH (ps:List PartZ) (a:Int):Int:=ps.foldl (fun a q=>if cR q.slots 1 1024 then IntKind.i64.wrap (a+q.slots) else a) a
def abK (x:PartZ):Int:=IntKind.i64.wrap (aly .i64 1 x.order.toNat)
def needZ (x:PartZ):Int:=IntKind.i64.wrap (IntKind.i64.wrap (IntKind.i64.wrap (IntKind.i64.wrap (IntKind.i64.wrap (abK x+x.user)+x.tables)+x.spaces)+x.regions)+x.records)
def sQ (z:CfgZ) (p:Nat):Bool:=cR (cL z p).order 0 3&&(cR (cL z p).user 2 4096&&(cR (cL z p).tables 4 4096&&(cR (cL z p).spaces 1 4096&&(cR (cL z p).regions 1 4096&&
  (cR (cL z p).records 1 4096&&(cR (cL z p).slots 1 1024&&(decide (awH (z.parts.take (p+1)) 0≤1024)&&(!qG z||(decide (abK (cL z p)≤aso z)&&decide (needZ (cL z p)≤vj z p))))))))))
def ahM (z:CfgZ) (p:Nat):Int:=if ang z p then (if sQ z p then 0 else 111) else 110
theorem aeg {z:CfgZ} (h:qG z=true):z.colours≠0:=by
  simp [qG,alx,cR] at h; omega
def w64 (n:Int):Int:=IntKind.u64.wrap n
structure ShapeZ where
  image:Int
  user:Int
  limit:Int
  nodes:Int
def FC (s:ShapeZ):List AV:=[.int .i64 s.image,.int .i64 s.user,.int .i64 s.limit,.int .i64 s.nodes]
theorem shape_0 (s:ShapeZ):(FC s)[0]?=some (.int .i64 s.image):=rfl
theorem shape_1 (s:ShapeZ):(FC s)[1]?=some (.int .i64 s.user):=rfl
theorem shape_2 (s:ShapeZ):(FC s)[2]?=some (.int .i64 s.limit):=rfl
theorem shape_3 (s:ShapeZ):(FC s)[3]?=some (.int .i64 s.nodes):=rfl
theorem aAC (s:ShapeZ):sub (FC s) 0 4=some (FC s):=by rw [oB]; rfl
def maxZ (a b:Int):Int:=if a<b then b else a
def minZ (a b:Int):Int:=if b<a then b else a
def pageC (z:CfgZ):Int:=w64 (z.step+w64 (2*z.miss))
def allC (z:CfgZ) (s:ShapeZ):Int:=w64 (w64 s.limit*pageC z)
def azi (z:CfgZ) (s:ShapeZ):Int:=w64 (w64 (w64 (w64 (2*w64 s.user)+1)*z.step)+z.disk)
def azR (z:CfgZ):Int:=w64 (113*z.miss)
def avC (z:CfgZ):Int:=w64 (64*pageC z)
def amz (z:CfgZ) (s:ShapeZ):List Int:=[0,w64 (17*z.miss),w64 (allC z s+z.miss),w64 (w64 (z.miss+w64 (w64 (16*w64 s.nodes)*z.miss))+allC z s),azR z,avC z,
  w64 (w64 (64*w64 (z.step+z.miss))+z.miss),maxZ (azR z) (avC z),w64 (w64 (w64 (w64 (26*z.miss)+z.fault)+azi z s)+z.disk),
  w64 (w64 (w64 (w64 (64*z.miss)+w64 (2*z.fault))+w64 (2*azi z s))+z.disk),0]
def mostC (z:CfgZ) (s:ShapeZ):Int:=w64 (w64 (w64 s.image*z.miss)+(amz z s).foldl maxZ 0)
def asb (z:CfgZ) (s:ShapeZ):Int:=if anl z=0 then (if (decide (s.image=1)||(decide (s.image=2)||(decide (s.image=4)||decide (s.image=8))))&&(cR s.user 2 4096&&(cR s.limit 1 5120&&cR s.nodes 1 4096)) then 0 else 2) else anl z
def atP (z:CfgZ) (p:Nat):ShapeZ:=⟨abK (cL z p),(cL z p).user,minZ (IntKind.i64.wrap (IntKind.i64.wrap ((cL z p).user+(cL z p).slots)-1)) (IntKind.i64.wrap (16*(cL z p).records)),(cL z p).tables⟩
def aiA (z:CfgZ) (lines trans:Int):Int:=if anl z=0 then (if cR lines 0 65536&&cR trans 0 64 then 0 else 2) else anl z
def aAc (z:CfgZ) (lines trans:Int):Int:=w64 (w64 (IntKind.i64.wrap (lines+trans))*z.step)
def Ej (z:CfgZ) (p:Nat):Bool:=!decide (ahM z p=0)||(decide (asb z (atP z p)=0)&&decide (mostC z (atP z p)≤z.slice))
def HD (z:CfgZ):Bool:=decide (1≤z.slice)&&(decide (z.slice≤4194304)&&(decide (z.pad≤4194304)&&(decide (z.first<1099511627776)&&(!qG z||(!decide (anl z=0)||
  (decide (aiA z (IntKind.i64.wrap (z.l1sets*z.l1ways)) z.tlb=0)&&(decide (aAc z (IntKind.i64.wrap (z.l1sets*z.l1ways)) z.tlb≤z.pad)&&(List.range z.parts.length).all (Ej z))))))))
def am2 (z:CfgZ):Bool:=cR z.turns.length 1 64&&z.turns.all fun p=>cR p 0 (IntKind.i64.wrap (z.parts.length-1))
def Qm (z:CfgZ):Bool:=qG z&&(decide (anl z=0)&&(HD z&&(am2 z&&(List.range (min z.parts.length 8)).all fun p=>decide (ahM z p=0))))
end Go.Ai
/- The facts by which a printed function is read, in one. -/
namespace Go.Ai
set_option linter.defProp false
theorem getAt0 (a:AV) (l:List AV):(a::l)[0]?=some a:=rfl
theorem getAtS (a:AV) (l:List AV) (n:Nat):(a::l)[n+1]?=l[n]?:=rfl
def cJ:=And.intro @gw (And.intro @lW (And.intro @pQ (And.intro @yq (And.intro @abY (And.intro @aiv (And.intro @aiL (And.intro @amR (And.intro @DY (And.intro @arq (And.intro @arB (And.intro @aru (And.intro @y4 (And.intro @zj (And.intro @xN (And.intro @yH (And.intro @sN (And.intro @ama (And.intro @asE (And.intro @azx (And.intro @IK (And.intro @agW (And.intro @avp (And.intro @avD (And.intro @apF (And.intro @av6 (And.intro @azh (And.intro @arw (And.intro @nfa_eq (And.intro @bitK_and (And.intro @atL (And.intro @azQ (And.intro @ldI_ptr (And.intro @ldB_ptr (And.intro @fldI_ptr (And.intro @fldB_ptr (And.intro @fld_ptr1 (And.intro @fld_ptrN (And.intro @aBb (And.intro @aAV (And.intro @nfld_ptr (And.intro @Nat.zero_add (And.intro @Nat.add_zero (And.intro @getAt0 (@getAtS))))))))))))))))))))))))))))))))))))))))))))
def gL:=And.intro @cfg_0 (And.intro @cfg_1 (And.intro @cfg_2 (And.intro @cfg_3 (And.intro @cfg_4 (And.intro @cfg_5 (And.intro @cfg_6 (And.intro @cfg_7 (And.intro @cfg_8 (And.intro @cfg_9 (And.intro @cfg_10 (And.intro @cfg_11 (And.intro @cfg_12 (And.intro @cfg_13 (And.intro @cfg_14 (And.intro @cfg_15 (And.intro @cfg_16 (And.intro @part_0 (And.intro @part_1 (And.intro @part_2 (And.intro @part_3 (And.intro @part_4 (And.intro @part_5 (And.intro @part_6 (And.intro @part_7 (And.intro @sub_cfg (And.intro @sub_cost (And.intro @aAX (And.intro @cost_0 (And.intro @cost_1 (And.intro @cost_2 (And.intro @cost_3 (And.intro @cost_4 (And.intro @cost_5 (And.intro @shape_0 (And.intro @shape_1 (And.intro @shape_2 (And.intro @shape_3 (@aAC))))))))))))))))))))))))))))))))))))))
end Go.Ai
