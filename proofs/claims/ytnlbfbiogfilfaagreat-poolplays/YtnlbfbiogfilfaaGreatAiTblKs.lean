/- A table of functions, put together of its entries. -/
import Derived.Test.YtnlbfbiogfilfaaGreatAiCallSym
import Derived.Test.YtnlbfbiogfilfaaGreatAiCpsRunLo
set_option linter.all false
namespace Go.Ai
def aDW (P:Program) (f:Nat) (x:AFn):Prop:=∃ fn,P.funcs[f]?=some fn∧(fn.name == "runtime.NumGoroutine")=false∧fn.body.isNone=false∧∃ m,auk P fn m=some x
def Entries (P:Program):List (Nat × AFn)→Prop
  | []=>True
  | e::l=>aDW P e.1 e.2∧Entries P l
theorem Entries.mem {P:Program}:∀ {l:List (Nat × AFn)},Entries P l→∀ {f x},(f,x)∈l→aDW P f x
  | e::l,h,f,x,hm=>by
    rcases iP.1 hm with rfl | hm
    · exact h.1
    · exact Entries.mem h.2 hm
theorem as9 {P:Program} {fn:Func} {m:Bool} {x:AFn} (h:auk P fn m=some x):∃ ps body res,x = .code ps body res:=by
  unfold auk at h
  simp only [iu] at h
  obtain ⟨c,_,ac,_,rs,_,h⟩:=h
  split at h
  · cases h; exact ⟨_,_,_,rfl⟩
  · cases h
theorem gr.prim_set {P:Program} {tbl:Tr AFn} (T:gr P tbl) {f:Nat} {g:List AV→ad→ah} (hp:avJ P f g) (hm:∀ vs H v H',H.ro≤H.nx→g vs H = .ret v H'→fG H H') (he:Enters P f):gr P (tbl.set (key f) (.prim g)):={
  mixed:=T.mixed
  mono f' g' hg:=by
    by_cases e:f=f'
    · subst e; rw [Tr.gS] at hg; cases hg; exact hm
    · rw [Tr.gR (fun k=>e (Mn k))] at hg; exact T.mono f' g' hg
  enters f' x hx:=by
    by_cases e:f=f'
    · subst e; exact he
    · rw [Tr.gR (fun k=>e (Mn k))] at hx; exact T.enters f' x hx
  code f' ps body res hx:=by
    by_cases e:f=f'
    · subst e; rw [Tr.gS] at hx; cases hx
    · rw [Tr.gR (fun k=>e (Mn k))] at hx; exact T.code f' ps body res hx
  prim f' g' hg:=by
    by_cases e:f=f'
    · subst e; rw [Tr.gS] at hg; cases hg; exact hp
    · rw [Tr.gR (fun k=>e (Mn k))] at hg; exact T.prim f' g' hg }
end Go.Ai
/- The table of all functions that the compiler takes, calls beside loads with the heap shut where that may be: for the printed functions in continuation style. -/
namespace Go.Ai
def ar5 (P:Program) (f:Nat):Option AFn:=(P.funcs[f]?).bind fun fn=>if fn.name == "runtime.NumGoroutine" then none else match auk P fn true with
  | some x=>some x
  | none=>auk P fn
theorem aib {P:Program} {f:Nat} {x:AFn} (h:ar5 P f=some x):aDW P f x:=by
  unfold ar5 at h
  simp only [iu] at h
  obtain ⟨fn,h1,h2⟩:=h
  split at h2
  · cases h2
  · rename_i hn
    have:∃ m,auk P fn m=some x:=by
      split at h2
      · rename_i y hy; cases h2; exact ⟨true,hy⟩
      · exact ⟨false,h2⟩
    obtain ⟨m,h2⟩:=this
    refine ⟨fn,h1,by simpa using hn,?_,m,h2⟩
    unfold auk at h2
    simp only [iu] at h2
    obtain ⟨c,hc,_⟩:=h2
    rw [hc]; rfl
noncomputable def ayc (P:Program):Nat→Tr AFn
  | 0=>.leaf
  | n+1=>match ar5 P n with
    | some x=>(ayc P n).set (key n) x
    | none=>ayc P n
theorem aAC (P:Program):∀ (n f:Nat),(ayc P n).get (key f)=if f<n then ar5 P f else none
  | 0,f=>by rw [ayc,Tr.gX,if_neg (by omega)]
  | n+1,f=>by
    have ih:=aAC P n f
    cases hc:ar5 P n with
    | none=>
      simp only [ayc,hc]
      rw [ih]
      by_cases h:f<n
      · rw [if_pos h,if_pos (by omega)]
      · rw [if_neg h]
        by_cases h':f=n
        · subst h'; rw [if_pos (by omega),hc]
        · rw [if_neg (by omega)]
    | some x=>
      simp only [ayc,hc]
      by_cases h':n=f
      · subst h'; rw [Tr.gS,if_pos (by omega),hc]
      · rw [Tr.gR (fun k=>h' (Mn k)),ih]
        by_cases h:f<n
        · rw [if_pos h,if_pos (by omega)]
        · rw [if_neg h,if_neg (by omega)]
noncomputable def tblS (P:Program):Tr AFn:=ayc P P.funcs.size
theorem apG (P:Program) (f:Nat):(tblS P).get (key f)=ar5 P f:=by
  unfold tblS
  rw [aAC]
  split
  · rfl
  · rename_i h
    unfold ar5
    rw [Array.getElem?_eq_none (by omega)]; rfl
theorem tblS_ok {P:Program} (hm:P.follows .mixedOrders=true):gr P (tblS P):={
  mixed:=hm
  mono f g hg:=by
    rw [apG] at hg
    obtain ⟨fn,_,_,_,_,hc⟩:=aib hg
    obtain ⟨_,_,_,e⟩:=as9 hc
    cases e
  enters f x hx:=by
    rw [apG] at hx
    obtain ⟨fn,h1,h2,h3,_⟩:=aib hx
    exact ⟨fn,h1,h2,h3⟩
  code f ps body res hx:=by
    rw [apG] at hx
    obtain ⟨fn,h1,_,_,m,h4⟩:=aib hx
    exact ⟨fn,m,h1,h4⟩
  prim f g hg:=by
    rw [apG] at hg
    obtain ⟨fn,_,_,_,_,hc⟩:=aib hg
    obtain ⟨_,_,_,e⟩:=as9 hc
    cases e }
theorem C3 {tbl:Tr AFn} {f g:Nat} {x:AFn} {y:Option AFn} (e:Nat.beq g f=false) (h:tbl.get (key f)=y):(tbl.set (key g) x).get (key f)=y:=by
  rw [Tr.gR (fun k=>by rw [Mn k,Nat.beq_refl] at e; cases e)]
  exact h
end Go.Ai
/- What printed functions compute, forward: rules for runs, what the operations do, slices of numbers in the heap. -/
namespace Go.Ai
def aL {K R:Type} (ap:K→R→ah) (f:K→ah) (Q:R→Prop):Prop:=∃ r,Q r∧∀ k,f k=ap k r
def ap0 (k:ad→ah) (r:ad):ah:=k r
def ap1 {α:Type} (k:α→ad→ah) (r:α × ad):ah:=k r.1 r.2
def ap2 {α β:Type} (k:α→β→ad→ah) (r:α × β × ad):ah:=k r.1 r.2.1 r.2.2
def ed (f:(ad→ah)→ah) (Q:ad→Prop):Prop:=aL ap0 f Q
def aF {α:Type} (f:(α→ad→ah)→ah) (Q:α→ad→Prop):Prop:=aL ap1 f fun r=>Q r.1 r.2
def dM {α β:Type} (f:(α→β→ad→ah)→ah) (Q:α→β→ad→Prop):Prop:=aL ap2 f fun r=>Q r.1 r.2.1 r.2.2
section
variable {K R:Type} {ap:K→R→ah} {Q Q':R→Prop} {α β γ:Type}
theorem aL.mono {f:K→ah} (h:aL ap f Q) (hq:∀ r,Q r→Q' r):aL ap f Q':=by
  obtain ⟨r,h1,h2⟩:=h; exact ⟨r,hq r h1,h2⟩
theorem aF.mono {f:(α→ad→ah)→ah} {Q Q':α→ad→Prop} (h:aF f Q) (hq:∀ a h,Q a h→Q' a h):aF f Q':=aL.mono h fun r=>hq r.1 r.2
theorem ret0 {h:ad} {Q:ad→Prop} (hq:Q h):aL ap0 (fun k=>k h) Q:=⟨h,hq,fun _=>rfl⟩
theorem nT {a:α} {h:ad} {Q:α × ad→Prop} (hq:Q (a,h)):aL ap1 (fun k=>k a h) Q:=⟨(a,h),hq,fun _=>rfl⟩
theorem KS {a:α} {b:β} {h:ad} {Q:α × β × ad→Prop} (hq:Q (a,b,h)):aL ap2 (fun k=>k a b h) Q:=⟨(a,b,h),hq,fun _=>rfl⟩
theorem ed.bind {f:(ad→ah)→ah} {P:ad→Prop} (hf:ed f P) {g:K→ad→ah} (h:∀ h',P h'→aL ap (fun k=>g k h') Q):aL ap (fun k=>f (g k)) Q:=by
  obtain ⟨r,h1,h2⟩:=hf
  obtain ⟨s,h3,h4⟩:=h r h1
  exact ⟨s,h3,fun k=>(h2 _).trans (h4 k)⟩
theorem aF.bind {f:(α→ad→ah)→ah} {P:α→ad→Prop} (hf:aF f P) {g:K→α→ad→ah} (h:∀ a h',P a h'→aL ap (fun k=>g k a h') Q):aL ap (fun k=>f (g k)) Q:=by
  obtain ⟨r,h1,h2⟩:=hf
  obtain ⟨s,h3,h4⟩:=h _ _ h1
  exact ⟨s,h3,fun k=>(h2 _).trans (h4 k)⟩
theorem dM.bind {f:(α→β→ad→ah)→ah} {P:α→β→ad→Prop} (hf:dM f P) {g:K→α→β→ad→ah} (h:∀ a b h',P a b h'→aL ap (fun k=>g k a b h') Q):aL ap (fun k=>f (g k)) Q:=by
  obtain ⟨r,h1,h2⟩:=hf
  obtain ⟨s,h3,h4⟩:=h _ _ _ h1
  exact ⟨s,h3,fun k=>(h2 _).trans (h4 k)⟩
theorem aL.ifB {c:Bool} {f g:K→ah} (ht:c=true→aL ap f Q) (hf:c=false→aL ap g Q):aL ap (fun k=>ifB c (f k) (g k)) Q:=by
  cases c with
  | true=>exact ht rfl
  | false=>exact hf rfl
end
attribute [simp] rV E2 EW N6 amE aqP aB5 aCv aa4 aCt aCj aBR QN alr yA Mr aCA axF axG axD aFV aFv uP
@[simp] theorem zw (a b:ah):ifB true a b=a:=rfl
@[simp] theorem Bw (a b:ah):ifB false a b=b:=rfl
@[simp] theorem Aa {α:Type} (a:α) (k:α→ah):oC (some a) k=k a:=rfl
@[simp] theorem aaZ (n:Nat) (k:Nat→ah):axl (n:Int) k=k n:=rfl
theorem aFD {i:Int} (h:0≤i) (k:Nat→ah):axl i k=k i.toNat:=by
  obtain ⟨n,rfl⟩:=iM h; rfl
@[simp] theorem auh (q:IntKind) (n:Int) (k:Int→ah):ac0 q (.int q n) k=k n:=by cases q<;>rfl
@[simp] theorem asG (b:Bool) (k:Bool→ah):aoK (.bool b) k=k b:=rfl
@[simp] theorem VB (b o:Nat) (k:Nat→Nat→ah):aAB (.ptr b o) k=k b o:=rfl
@[simp] theorem UX (b o l e:Nat) (p:Bool) (k:Nat→Nat→Nat→ah):asSlc (.slice b o l e p) k=k b o l:=rfl
@[simp] theorem aAV (l:List AV) (k:List AV→ah):asAgg (.agg l) k=k l:=rfl
@[simp] theorem aA9 (b:Nat) (k:Nat→ah):asMap (.map b) k=k b:=rfl
@[simp] theorem awr (b o:Nat) (k:ah):ahr (.ptr b o) k=k:=rfl
@[simp] theorem aCm (b o l e:Nat) (p:Bool) (k:Int→ah):mX (.slice b o l e p) k=k l:=rfl
@[simp] theorem aFm (k:Int→ah):mX .nilslice k=k 0:=rfl
@[simp] theorem atu (d b o:Nat) (k:AV→ah):faK d (.ptr b o) k=k (.ptr b (o+d)):=by simp [faK]
@[simp] theorem auR (H:ad) (l:List AV) (c:Nat→ad→ah):Ad H (.agg l) c=c H.nx (H.add (.cells l true 0)):=by
  show Jr H (.cells l true 0) c=_; simp
theorem nfa_eq (d b o:Nat) (k:AV→ah):nfa d (.ptr b o) k=k (.ptr b (o+d)):=by simp [nfa]
attribute [simp] nfa_eq
def andZ (a b:Int):Int:=IntKind.i64.wrap (BitVec.ofInt 64 a &&& BitVec.ofInt 64 b).toNat
@[simp] theorem bitK_and (a b:Int) (c:Int→ah):bitK .and .i64 a b c=c (andZ a b):=by
  show oC (some _) _=_
  rw [Aa,E2]; rfl
theorem ah7 {q:IntKind} {a b:Int} (h:b≠0) (c:Int→ah):aw1 q a b c=c (q.wrap (a.tdiv b)):=by
  unfold aw1; rw [aCA,iJ h]; simp
theorem aqo {q:IntKind} {a b:Int} (h:b≠0) (c:Int→ah):remK q a b c=c (a.tmod b):=by
  unfold remK; rw [aCA,iJ h]; simp
theorem IL {q:IntKind} {a b:Int} (h:0≤b) (c:Int→ah):ak4 q a b c=c (q.wrap (an4 q a b.toNat)):=by
  unfold ak4; rw [aFD h]; simp
def ad.cl (h:ad) (b:Nat) (l:List AV):Prop:=b<h.nx∧∃ rw g,h.get b=some (.cells l rw g)
theorem jC {h:ad} {b:Nat} {l:List AV} (hb:h.cl b l) (c:List AV→ah):acN h b c=c l:=by
  obtain ⟨_,rw_,g,hb⟩:=hb
  unfold acN
  rw [at7]
  have:h.t.get (key b)=some (.cells l rw_ g):=hb
  rw [this]; rfl
@[simp] theorem aak (h:ad) (b off:Nat) (k:AV→ah):nq h (.ptr b off) 1 false k=acN h b fun l=>oC l[off]? k:=by
  unfold nq
  simp only [VB,Bw,axz]; rfl
@[simp] theorem aEd (h:ad) (b off n:Nat) (k:AV→ah):nq h (.ptr b off) n true k=acN h b fun l=>oC (sub l off n) fun cs=>k (.agg cs):=by
  unfold nq
  simp only [VB,zw]
@[simp] theorem ldI_ptr (q:IntKind) (h:ad) (b off:Nat) (k:Int→ah):ldI q h (.ptr b off) k=acN h b fun l=>oC l[off]? fun v=>ac0 q v k:=by unfold ldI; simp
@[simp] theorem ldB_ptr (h:ad) (b off:Nat) (k:Bool→ah):ldB h (.ptr b off) k=acN h b fun l=>oC l[off]? fun v=>aoK v k:=by unfold ldB; simp
@[simp] theorem fldI_ptr (q:IntKind) (d:Nat) (h:ad) (b off:Nat) (k:AV→Int→ah):oq q d h (.ptr b off) k=acN h b fun l=>oC l[off+d]? fun v=>ac0 q v (k (.ptr b (off+d))):=by unfold oq; simp
@[simp] theorem fldB_ptr (d:Nat) (h:ad) (b off:Nat) (k:AV→Bool→ah):fldB d h (.ptr b off) k=acN h b fun l=>oC l[off+d]? fun v=>aoK v (k (.ptr b (off+d))):=by unfold fldB; simp
@[simp] theorem fld_ptr1 (d:Nat) (h:ad) (b off:Nat) (k:AV→AV→ah):fld d h (.ptr b off) 1 false k=acN h b fun l=>oC l[off+d]? (k (.ptr b (off+d))):=by unfold fld; simp
@[simp] theorem fld_ptrN (d:Nat) (h:ad) (b off n:Nat) (k:AV→AV→ah):fld d h (.ptr b off) n true k=acN h b fun l=>oC (sub l (off+d) n) fun cs=>k (.ptr b (off+d)) (.agg cs):=by unfold fld; simp
@[simp] theorem aGn (q:IntKind) (d:Nat) (h:ad) (b off:Nat) (k:AV→Int→ah):ayS q d h (.ptr b off) k=oq q d h (.ptr b off) k:=by unfold ayS; simp
@[simp] theorem aGx (d:Nat) (h:ad) (b off:Nat) (k:AV→Bool→ah):aDq d h (.ptr b off) k=fldB d h (.ptr b off) k:=by unfold aDq; simp
@[simp] theorem nfld_ptr (d:Nat) (h:ad) (b off n:Nat) (g:Bool) (k:AV→AV→ah):ys d h (.ptr b off) n g k=fld d h (.ptr b off) n g k:=by unfold ys; simp
theorem load_agg {h:ad} {b off n:Nat} {l cs:List AV} (hb:h.cl b l) (hs:(l.drop off).take n=cs) (hn:off+n≤l.length) (k:AV→ah):nq h (.ptr b off) n true k=k (.agg cs):=by
  unfold nq
  rw [VB,jC hb,zw,zj,if_pos (by rw [List.length_drop]; omega),hs]; rfl
theorem azP {h:ad} {b off:Nat} {l:List AV} {v:AV} (hb:h.cl b l) (hs:l[off]?=some v) (k:AV→ah):nq h (.ptr b off) 1 false k=k v:=by
  unfold nq
  rw [VB,jC hb,Bw]
  show ifB true _ _=_
  rw [zw,axz,hs]; rfl
theorem fldI_of {h:ad} {b off d:Nat} {l:List AV} {q:IntKind} {n:Int} (hb:h.cl b l) (hs:l[off+d]?=some (.int q n)) (k:AV→Int→ah):oq q d h (.ptr b off) k=k (.ptr b (off+d)) n:=by
  unfold oq; rw [atu,azP hb hs,auh]
theorem fld_of {h:ad} {b off d:Nat} {l:List AV} {v:AV} (hb:h.cl b l) (hs:l[off+d]?=some v) (k:AV→AV→ah):fld d h (.ptr b off) 1 false k=k (.ptr b (off+d)) v:=by
  unfold fld; rw [atu,azP hb hs]
structure be (h h':ad):Prop where
  nx:h.nx≤h'.nx
  ro:h'.ro=h.ro
  old:∀ b,b<h.nx→h'.get b=h.get b
theorem be.refl {h:ad}:be h h:=⟨iA _,rfl,fun _ _=>rfl⟩
theorem be.trans {h h' h'':ad} (a:be h h') (b:be h' h''):be h h'':=⟨iE a.nx b.nx,b.ro.trans a.ro,fun c hc=>(b.old c (iy hc a.nx)).trans (a.old c hc)⟩
theorem be.add {h:ad} {x:Blk}:be h (h.add x):=⟨by simp,by simp,fun b hb=>by rw [ad.gV,if_neg (by omega)]⟩
theorem be.cl {h h':ad} (g:be h h') {b:Nat} {l:List AV} (hb:h.cl b l):h'.cl b l:=by
  obtain ⟨h1,rw_,q,h2⟩:=hb
  exact ⟨iy h1 g.nx,rw_,q,(g.old b h1).trans h2⟩
theorem aE3 (h:ad) (l:List AV) (rw_:Bool) (g:Nat):(h.add (.cells l rw_ g)).cl h.nx l:=⟨by simp,rw_,g,by rw [ad.gV,if_pos rfl]⟩
theorem be.shut {h h':ad} (g:be (h.shut true) h'):be h (h'.back h.ro):=⟨g.nx,rfl,fun b hb=>g.old b hb⟩
theorem ad.cl.shut {h:ad} {b:Nat} {l:List AV} (hb:h.cl b l):(h.shut true).cl b l:=hb
theorem wh (h:ad) (l:List AV):aF (Ad h (.agg l)) fun x h'=>h'.cl x l∧be h h':=⟨(h.nx,h.add (.cells l true 0)),⟨aE3 ..,be.add⟩,fun k=>auR ..⟩
structure Own (h:ad) (b:Nat) (l:List AV) (g:Nat):Prop where
  lt:b<h.nx
  ro:h.ro≤b
  get:h.get b=some (.cells l true g)
theorem Own.cl {h:ad} {b:Nat} {l:List AV} {g:Nat} (o:Own h b l g):h.cl b l:=⟨o.lt,true,g,o.get⟩
theorem Own.grow {h h':ad} {b:Nat} {l:List AV} {q:Nat} (o:Own h b l q) (g:be h h'):Own h' b l q:=⟨iy o.lt g.nx,by rw [g.ro]; exact o.ro,(g.old b o.lt).trans o.get⟩
theorem ahy {h:ad} (hro:h.ro≤h.nx) (l:List AV) (g:Nat):aF (Jr h (.cells l true g)) fun x h'=>h.nx≤x∧Own h' x l g∧be h h':=
  ⟨(h.nx,h.add (.cells l true g)),⟨iA _,⟨by simp,by simpa using hro,by rw [ad.gV,if_pos rfl]⟩,be.add⟩,fun k=>QN ..⟩
theorem be.le {h h':ad} (g:be h h') (hro:h.ro≤h.nx):h'.ro≤h'.nx:=by rw [g.ro]; exact iE hro g.nx
theorem aC5 {h:ad} {b:Nat} {l:List AV} {g:Nat} (o:Own h b l g) (c:List AV→Nat→ah):ownX h b c=c l g:=by
  unfold ownX
  have:Nat.blt b h.ro=false:=by rw [blt_eq]; simp; exact o.ro
  rw [this,Bw,at7]
  have h2:h.t.get (key b)=some (.cells l true g):=o.get
  rw [h2]; rfl
structure Put (h:ad) (b:Nat) (l:List AV) (g:Nat) (h':ad):Prop where
  own:Own h' b l g
  nx:h'.nx=h.nx
  ro:h'.ro=h.ro
  other:∀ c,c≠b→h'.get c=h.get c
theorem Put.grow {h₀ h h':ad} {b:Nat} {l:List AV} {q:Nat} (p:Put h b l q h') (g:be h₀ h) (hb:h₀.nx≤b):be h₀ h':=⟨by rw [p.nx]; exact g.nx,by rw [p.ro]; exact g.ro,fun c hc=>by rw [p.other c (by omega)]; exact g.old c hc⟩
theorem Put.cl {h h':ad} {b c:Nat} {l l':List AV} {q:Nat} (p:Put h b l q h') (hc:c≠b) (o:h.cl c l'):h'.cl c l':=by
  obtain ⟨h1,rw_,g,h2⟩:=o
  exact ⟨by rw [p.nx]; exact h1,rw_,g,by rw [p.other c hc]; exact h2⟩
theorem Put.ownO {h h':ad} {b c:Nat} {l l':List AV} {q q':Nat} (p:Put h b l q h') (hc:c≠b) (o:Own h c l' q'):Own h' c l' q':=
  ⟨by rw [p.nx]; exact o.lt,by rw [p.ro]; exact o.ro,by rw [p.other c hc]; exact o.get⟩
theorem aup {h:ad} {b:Nat} {l:List AV} {q:Nat} (o:Own h b l q) (l':List AV):Put h b l' q (h.set b (.cells l' true q)):=
  ⟨⟨by simpa using o.lt,by simpa using o.ro,ad.gS ..⟩,by simp,by simp,fun c hc=>ad.gR _ (fun e=>hc e.symm) _⟩
theorem Um {h:ad} {b off n:Nat} {l cs:List AV} {g:Nat} (o:Own h b l g) (hn:cs.length=n) (hl:off+n≤l.length):ed (qT h (.ptr b off) n (.agg cs)) (Put h b (L1 cs l off) g):=by
  refine ⟨h.set b (.cells (L1 cs l off) true g),aup o _,fun k=>?_⟩
  unfold qT
  rw [VB,aC5 o]
  show ifB (Nat.beq (Ao cs) n) _ _=_
  rw [uP,hn,Nat.beq_refl,zw,auv,if_pos (by omega),alr]; rfl
theorem uI {h:ad} {b off:Nat} {l:List AV} {g:Nat} {u:AV} (o:Own h b l g) (hl:off<l.length) (hu:u.gY=true):ed (qT h (.ptr b off) 1 u) (Put h b (l.set off u) g):=by
  refine ⟨h.set b (.cells (l.set off u) true g),aup o _,fun k=>?_⟩
  unfold qT
  rw [VB,aC5 o]
  have:aAE u (fun cs=>ifB (Nat.beq (Ao cs) 1) (aAO cs l off fun l=>setX h b (.cells l true g) k) .err) (ifB (Nat.beq 1 1) (axU u l off fun l=>setX h b (.cells l true g) k) .err)=ifB (Nat.beq 1 1) (axU u l off fun l=>setX h b (.cells l true g) k) .err:=by
    cases u<;>first | rfl | cases hu
  rw [this]
  show ifB true _ _=_
  rw [zw,auH,if_pos hl,alr]; rfl
theorem Wq (cs l:List AV) (h:cs.length=l.length):L1 cs l 0=cs:=by
  rw [aqB _ _ (by omega),h,List.drop_length,List.append_nil]
theorem asu {h:ad} (hro:h.ro≤h.nx) {z cs:List AV} {n:Nat} (hz:z.length=n) (hc:cs.length=n) :
    aF (fun K=>Jr h (.cells z true 0) fun x h1=>qT h1 (.ptr x 0) n (.agg cs) (K x)) fun x h'=>h.nx≤x∧Own h' x cs 0∧be h h':=by
  refine aF.bind (ahy hro z 0) ?_
  rintro x h1 ⟨hx,ho,g⟩
  refine ed.bind (Um ho hc (by omega)) ?_
  intro h2 hp
  rw [Wq _ _ (by omega)] at hp
  exact nT ⟨hx,hp.own,hp.grow g hx⟩
theorem aAJ {h:ad} (hro:h.ro≤h.nx) {z u:AV} (hu:u.gY=true) :
    aF (fun K=>Jr h (.cells [z] true 0) fun x h1=>qT h1 (.ptr x 0) 1 u (K x)) fun x h'=>h.nx≤x∧Own h' x [u] 0∧be h h':=by
  refine aF.bind (ahy hro [z] 0) ?_
  rintro x h1 ⟨hx,ho,g⟩
  refine ed.bind (uI ho (by simp) hu) ?_
  intro h2 hp
  exact nT ⟨hx,hp.own,hp.grow g hx⟩
theorem aCq {l:List AV} {n i:Nat} (hn:l.length=n) (hi:i<n) (k:AV→ah):apC 1 n false (.agg l) (i:Int) k=k (l[i]'(by omega)):=by
  unfold apC
  rw [aAV,aaZ]
  have h1:Nat.blt i n=true:=by rw [blt_eq]; simpa using hi
  rw [h1,zw,rV,zj,if_pos (by rw [List.length_drop,Nat.mul_eq,Nat.mul_one]; omega),Aa]
  have:(l.drop (Nat.mul i 1)).take 1 = [l[i]'(by omega)]:=by
    rw [Nat.mul_eq,Nat.mul_one,iH (by omega)]; rfl
  rw [this]; rfl
def eD (h:ad) (v:AV) (sz n:Nat) (f:Nat→List AV):Prop:=n≤9223372036854775807∧
  ((v = .nilslice∧n=0)∨∃ b off ext opn,v = .slice b off n ext opn∧(0<n→∃ l,h.cl b l∧∀ i,i<n→off+i*sz+sz≤l.length∧(l.drop (off+i*sz)).take sz=f i))
theorem eD.grow {h h':ad} {v:AV} {sz n:Nat} {f:Nat→List AV} (s:eD h v sz n f) (g:be h h'):eD h' v sz n f:=by
  obtain ⟨hn,s⟩:=s
  rcases s with s | ⟨b,off,ext,opn,h1,h2⟩
  · exact ⟨hn,.inl s⟩
  · exact ⟨hn,.inr ⟨b,off,ext,opn,h1,fun h0=>have ⟨l,h3,h4⟩:=h2 h0; ⟨l,g.cl h3,h4⟩⟩⟩
theorem eD.len {h:ad} {v:AV} {sz n:Nat} {f:Nat→List AV} (s:eD h v sz n f) (k:Int→ah):mX v k=k n:=by
  rcases s with ⟨_,⟨rfl,rfl⟩ | ⟨b,off,ext,opn,rfl,_⟩⟩<;>rfl
def elP (v:AV) (sz:Nat) (i:Int):AV:=match v with
  | .slice b off _ _ _=>.ptr b (off+i.toNat*sz)
  | v=>v
theorem eD.ia {h:ad} {v:AV} {sz n:Nat} {f:Nat→List AV} (s:eD h v sz n f) {i:Int} (h0:0≤i) (hi:i<n) (k:AV→ah):agV sz v i k=k (elP v sz i):=by
  rcases s with ⟨_,⟨rfl,rfl⟩ | ⟨b,off,ext,opn,rfl,_⟩⟩
  · omega
  · unfold agV
    rw [UX,aFD h0]
    have:Nat.blt i.toNat n=true:=by rw [blt_eq]; simp; omega
    rw [this,zw]; simp [elP]
theorem eD.at_ {h:ad} {v:AV} {sz n:Nat} {f:Nat→List AV} (s:eD h v sz n f) {i:Int} (h0:0≤i) (hi:i<n) :
    ∃ b off l,elP v sz i = .ptr b off∧h.cl b l∧off+sz≤l.length∧(l.drop off).take sz=f i.toNat:=by
  rcases s with ⟨_,⟨rfl,rfl⟩ | ⟨b,off,ext,opn,rfl,h1⟩⟩
  · omega
  · obtain ⟨l,h1,h2⟩:=h1 (by omega)
    obtain ⟨h3,h4⟩:=h2 i.toNat (by omega)
    exact ⟨b,_,l,rfl,h1,h3,h4⟩
theorem eD.eld {h:ad} {v:AV} {sz n:Nat} {f:Nat→List AV} (s:eD h v sz n f) {i:Int} (h0:0≤i) (hi:i<n) (k:AV→AV→ah):eld sz h v i sz true k=k (elP v sz i) (.agg (f i.toNat)):=by
  unfold Ai.eld
  rw [s.ia h0 hi]
  obtain ⟨b,off,l,e,h1,h2,h3⟩:=s.at_ h0 hi
  rw [e,load_agg h1 h3 h2]
def AV.shut:AV→Bool
  | .slice _ _ _ _ opn=>!opn
  | _=>true
theorem eD.take {h:ad} {v:AV} {sz n:Nat} {f:Nat→List AV} (s:eD h v sz n f) (hs:v.shut=true) {i:Int} (h0:0≤i) (hi:i≤n):∃ v',eD h v' sz i.toNat f∧∀ k,slK (.sl sz) v none (some (.int .i64 i)) none k=k v':=by
  obtain ⟨m,rfl⟩:=iM h0
  obtain ⟨hn,⟨rfl,rfl⟩ | ⟨b,off,ext,opn,rfl,h1⟩⟩:=s
  · have:m=0:=by omega
    subst this
    exact ⟨.nilslice,⟨by simp,.inl ⟨rfl,rfl⟩⟩,fun k=>rfl⟩
  · obtain rfl:opn=false:=by simpa [AV.shut] using hs
    refine ⟨.slice b off m (n+ext-m) false,⟨by simp; omega,.inr ⟨b,off,_,false,rfl,fun h0=>have ⟨l,h3,h4⟩:=h1 (by simp at h0; omega); ⟨l,h3,fun j hj=>h4 j (by simp at hj; omega)⟩⟩⟩,fun k=>?_⟩
    have hm:m≤n+ext:=by omega
    unfold slK
    have:slV (.sl sz) (.slice b off n ext false) none (some (.int .i64 (m:Int))) none=some (.slice b off m (n+ext-m) false):=by
      have e1:Yt (some (.int .i64 (m:Int))) n (n+ext)=some m:=by
        have h2:Nat.ble m (n+ext)=true:=hO hm
        show Bool.casesOn (motive:=fun _=>Option Nat) (Nat.ble m (n+ext)) none (some m)=_
        rw [h2]
      simp only [slV]
      have e0:Yt none (n+ext) (n+ext)=some (n+ext):=rfl
      rw [e0]; dsimp only; rw [e1]; dsimp only
      have e2:Yt none 0 m=some 0:=rfl
      rw [e2]; dsimp only
      simp
    rw [this,Aa,EW]
def nz (l:List Int) (i:Nat):Int:=l.getD i 0
theorem un {l:List Int} {i:Nat} (h:i<l.length):nz l i=l[i]:=by unfold nz; rw [iL,iv h]; rfl
def dP (h:ad) (q:IntKind) (v:AV) (l:List Int):Prop:=eD h v 1 l.length fun i=>[.int q (nz l i)]
theorem dP.grow {h h':ad} {q:IntKind} {v:AV} {l:List Int} (s:dP h q v l) (g:be h h'):dP h' q v l:=eD.grow s g
theorem dP.len {h:ad} {q:IntKind} {v:AV} {l:List Int} (s:dP h q v l) (k:Int→ah):mX v k=k l.length:=eD.len s k
theorem dP.small {h:ad} {q:IntKind} {v:AV} {l:List Int} (s:dP h q v l):l.length≤9223372036854775807:=s.1
theorem dP.el {h:ad} {q:IntKind} {v:AV} {l:List Int} (s:dP h q v l) {i:Int} (h0:0≤i) (hi:i<l.length) (k:AV→Int→ah):Ga q 1 h v i k=k (elP v 1 i) (nz l i.toNat):=by
  unfold Ga
  rw [eD.ia s h0 hi]
  obtain ⟨b,off,l',e,h1,h2,h3⟩:=eD.at_ s h0 hi
  have h4:l'[off]?=some (.int q (nz l i.toNat)):=by
    have:=congrArg (·[0]?) h3
    simpa using this
  rw [e,azP h1 h4,auh]
theorem dP.elN {h:ad} {q:IntKind} {v:AV} {l:List Int} (s:dP h q v l) {i:Nat} (hi:i<l.length) (k:AV→Int→ah):Ga q 1 h v i k=k (elP v 1 i) (nz l i):=s.el (il i) (by omega) k
theorem aEc {h:ad} {b:Nat} {q:IntKind} {l:List Int} (hb:h.cl b (l.map (.int q))) (hl:l.length≤9223372036854775807) (ext:Nat) (opn:Bool):dP h q (.slice b 0 l.length ext opn) l:=by
  refine ⟨hl,.inr ⟨b,0,ext,opn,rfl,fun _=>⟨_,hb,fun i hi=>⟨by simp; omega,?_⟩⟩⟩⟩
  simp only [Nat.zero_add,Nat.mul_one]
  rw [un hi, ← List.map_drop, ← List.map_take]
  rw [iH hi]; rfl
theorem Dv {h:ad} {len:Nat} {z l:List AV} {parts:List (Nat × Nat × AV)} (hf:∀ k,awC parts z k=k l):aF (pZ h len z parts) fun v h'=>v = .slice h.nx 0 len 0 false∧h'.cl h.nx l∧be h h':=by
  refine ⟨(.slice h.nx 0 len 0 false,h.add (.cells l true 0)),⟨rfl,aE3 ..,be.add⟩,fun k=>?_⟩
  unfold pZ
  rw [hf,QN]; rfl
theorem awk {h:ad} {q:IntKind} (xs:List Int) {z:List AV} {parts:List (Nat × Nat × AV)} (hf:∀ k,awC parts z k=k (xs.map (.int q))) (hl:xs.length≤9223372036854775807):aF (pZ h xs.length z parts) fun v h'=>dP h' q v xs∧be h h':=
  (Dv hf).mono fun _ _ ⟨h1,h2,h3⟩=>⟨by rw [h1]; exact aEc h2 hl 0 false,h3⟩
theorem rK {n:Int} (h0 : -9223372036854775808≤n) (h1:n≤9223372036854775807):IntKind.i64.wrap n=n:=by
  rw [IntKind.wrap_i64]; omega
theorem wrap_u {n:Int} (h0:0≤n) (h1:n<18446744073709551616):IntKind.u64.wrap n=n:=by
  simp only [IntKind.wrap,IntKind.signed,IntKind.bits]; simp; omega
theorem mt {i:Nat} (h:i≤9223372036854775806):IntKind.i64.wrap ((i:Int)+1)=((i+1:Nat):Int):=by
  rw [rK (by omega) (by omega)]; simp
end Go.Ai
/- Configurations: what chapter 11 says may be, as plain functions; how one lies in the heap. -/
namespace Go.Ai
structure eK where
  gH:List Int
  order:Int
  user:Int
  tables:Int
  spaces:Int
  gO:Int
  gN:Int
  slots:Int
structure bq where
  frames:Int
  gG:Int
  ways:Int
  l1sets:Int
  l1ways:Int
  tlb:Int
  l1:Int
  llc:Int
  miss:Int
  fault:Int
  step:Int
  disk:Int
  slice:Int
  pad:Int
  first:Int
  gM:List Int
  parts:List eK
def Ko (z:bq):List AV:=[.int .u64 z.l1,.int .u64 z.llc,.int .u64 z.miss,.int .u64 z.fault,.int .u64 z.step,.int .u64 z.disk]
def Hx (z:bq) (t p:AV):List AV:=[.int .i64 z.frames,.int .i64 z.gG,.int .i64 z.ways,.int .i64 z.l1sets,.int .i64 z.l1ways,.int .i64 z.tlb,
  .int .u64 z.l1,.int .u64 z.llc,.int .u64 z.miss,.int .u64 z.fault,.int .u64 z.step,.int .u64 z.disk,.int .u64 z.slice,.int .u64 z.pad,.int .u64 z.first,t,p]
def Ij (x:eK) (s:AV):List AV:=[s,.int .i64 x.order,.int .i64 x.user,.int .i64 x.tables,.int .i64 x.spaces,.int .i64 x.gO,.int .i64 x.gN,.int .i64 x.slots]
instance:Inhabited eK:=⟨⟨[],0,0,0,0,0,0,0⟩⟩
def Parts (h:ad) (v:AV) (ps:List eK):Prop:=v.shut=true∧∃ S:Nat→AV,eD h v 8 ps.length (fun i=>Ij (ps.getD i default) (S i))∧∀ i,i<ps.length→dP h .i64 (S i) (ps.getD i default).gH
theorem Parts.grow {h h':ad} {v:AV} {ps:List eK} (s:Parts h v ps) (g:be h h'):Parts h' v ps:=by
  obtain ⟨h0,S,h1,h2⟩:=s
  exact ⟨h0,S,h1.grow g,fun i hi=>(h2 i hi).grow g⟩
def Cfg (h:ad) (z:bq) (c:List AV):Prop:=∃ t p,c=Hx z t p∧dP h .i64 t z.gM∧Parts h p z.parts
def kG (n a b:Int):Bool:=decide (a≤n)&&decide (n≤b)
def SM (n UH:Int):Bool:=kG n 1 UH&&(andZ n (IntKind.i64.wrap (n-1))==0)
def sS (z:bq):Bool:=SM z.gG 16&&(kG z.frames 1 4096&&(z.frames.tmod z.gG==0&&(SM z.l1sets 4096&&(kG z.ways 1 16&&(kG z.l1ways 1 16&&
  (kG z.tlb 1 64&&kG z.parts.length 1 8))))))
def amL (z:bq):Int:=IntKind.i64.wrap (z.frames.tdiv z.gG)
def qZ (a b:Int):Bool:=decide (a≤b)&&decide (b≤65536)
def amq (z:bq):Bool:=qZ 1 z.l1&&(qZ z.l1 z.llc&&(qZ z.llc z.miss&&(qZ 1 z.fault&&(qZ 1 z.step&&qZ 1 z.disk))))
def Lq (z:bq):Int:=if amq z then 0 else 100
def ZT (last:Option Int) (x:Int):Bool:=match last with | none=>true | some y=>decide (y<x)
def G5 (z:bq) (ps:List eK) (last:Option Int):List Int→Bool
  | []=>true
  | x::l=>decide (0≤x)&&(decide (x<z.gG)&&(ZT last x&&(ps.all (fun q=>!decide (x∈q.gH))&&G5 z ps (some x) l)))
theorem TL (z:bq) (ps:List eK) (last:Option Int) (x:Int) (l:List Int):G5 z ps last (x::l)=(decide (0≤x)&&(decide (x<z.gG)&&(ZT last x&&(ps.all (fun q=>!decide (x∈q.gH))&&G5 z ps (some x) l)))):=rfl
def lI (z:bq) (p:Nat):eK:=z.parts.getD p default
def afl (z:bq) (p:Nat):Bool:=G5 z (z.parts.take p) none (lI z p).gH&&decide (0<(lI z p).gH.length)
def UN (z:bq) (p:Nat):Int:=IntKind.i64.wrap ((lI z p).gH.length*amL z)
theorem cfg_0 (z:bq) (t p:AV):(Hx z t p)[0]?=some (.int .i64 z.frames):=rfl
theorem cfg_1 (z:bq) (t p:AV):(Hx z t p)[1]?=some (.int .i64 z.gG):=rfl
theorem cfg_2 (z:bq) (t p:AV):(Hx z t p)[2]?=some (.int .i64 z.ways):=rfl
theorem cfg_3 (z:bq) (t p:AV):(Hx z t p)[3]?=some (.int .i64 z.l1sets):=rfl
theorem cfg_4 (z:bq) (t p:AV):(Hx z t p)[4]?=some (.int .i64 z.l1ways):=rfl
theorem cfg_5 (z:bq) (t p:AV):(Hx z t p)[5]?=some (.int .i64 z.tlb):=rfl
theorem cfg_6 (z:bq) (t p:AV):(Hx z t p)[6]?=some (.int .u64 z.l1):=rfl
theorem cfg_7 (z:bq) (t p:AV):(Hx z t p)[7]?=some (.int .u64 z.llc):=rfl
theorem cfg_8 (z:bq) (t p:AV):(Hx z t p)[8]?=some (.int .u64 z.miss):=rfl
theorem cfg_9 (z:bq) (t p:AV):(Hx z t p)[9]?=some (.int .u64 z.fault):=rfl
theorem cfg_10 (z:bq) (t p:AV):(Hx z t p)[10]?=some (.int .u64 z.step):=rfl
theorem cfg_11 (z:bq) (t p:AV):(Hx z t p)[11]?=some (.int .u64 z.disk):=rfl
theorem cfg_12 (z:bq) (t p:AV):(Hx z t p)[12]?=some (.int .u64 z.slice):=rfl
theorem cfg_13 (z:bq) (t p:AV):(Hx z t p)[13]?=some (.int .u64 z.pad):=rfl
theorem cfg_14 (z:bq) (t p:AV):(Hx z t p)[14]?=some (.int .u64 z.first):=rfl
theorem cfg_15 (z:bq) (t p:AV):(Hx z t p)[15]?=some t:=rfl
theorem cfg_16 (z:bq) (t p:AV):(Hx z t p)[16]?=some p:=rfl
theorem part_0 (x:eK) (s:AV):(Ij x s)[0]?=some s:=rfl
theorem part_1 (x:eK) (s:AV):(Ij x s)[1]?=some (.int .i64 x.order):=rfl
theorem part_2 (x:eK) (s:AV):(Ij x s)[2]?=some (.int .i64 x.user):=rfl
theorem part_3 (x:eK) (s:AV):(Ij x s)[3]?=some (.int .i64 x.tables):=rfl
theorem part_4 (x:eK) (s:AV):(Ij x s)[4]?=some (.int .i64 x.spaces):=rfl
theorem part_5 (x:eK) (s:AV):(Ij x s)[5]?=some (.int .i64 x.gO):=rfl
theorem part_6 (x:eK) (s:AV):(Ij x s)[6]?=some (.int .i64 x.gN):=rfl
theorem part_7 (x:eK) (s:AV):(Ij x s)[7]?=some (.int .i64 x.slots):=rfl
theorem sub_cfg (z:bq) (t p:AV):sub (Hx z t p) 0 17=some (Hx z t p):=by rw [zj]; rfl
theorem sub_cost (z:bq) (t p:AV):sub (Hx z t p) 6 6=some (Ko z):=by rw [zj]; rfl
theorem cost_0 (z:bq):(Ko z)[0]?=some (.int .u64 z.l1):=rfl
theorem cost_1 (z:bq):(Ko z)[1]?=some (.int .u64 z.llc):=rfl
theorem cost_2 (z:bq):(Ko z)[2]?=some (.int .u64 z.miss):=rfl
theorem cost_3 (z:bq):(Ko z)[3]?=some (.int .u64 z.fault):=rfl
theorem cost_4 (z:bq):(Ko z)[4]?=some (.int .u64 z.step):=rfl
theorem cost_5 (z:bq):(Ko z)[5]?=some (.int .u64 z.disk):=rfl
theorem aGU (z:bq):sub (Ko z) 0 6=some (Ko z):=by rw [zj]; rfl
def alT (ps:List eK) (a:Int):Int:=ps.foldl (fun a q=>if kG q.slots 1 1024 then IntKind.i64.wrap (a+q.slots) else a) a
def N9 (x:eK):Int:=IntKind.i64.wrap (an4 .i64 1 x.order.toNat)
def aCO (x:eK):Int:=IntKind.i64.wrap (IntKind.i64.wrap (IntKind.i64.wrap (IntKind.i64.wrap (IntKind.i64.wrap (N9 x+x.user)+x.tables)+x.spaces)+x.gO)+x.gN)
def yk (z:bq) (p:Nat):Bool:=kG (lI z p).order 0 3&&(kG (lI z p).user 2 4096&&(kG (lI z p).tables 4 4096&&(kG (lI z p).spaces 1 4096&&(kG (lI z p).gO 1 4096&&
  (kG (lI z p).gN 1 4096&&(kG (lI z p).slots 1 1024&&(decide (alT (z.parts.take (p+1)) 0≤1024)&&(!sS z||(decide (N9 (lI z p)≤amL z)&&decide (aCO (lI z p)≤UN z p))))))))))
def Yb (z:bq) (p:Nat):Int:=if afl z p then (if yk z p then 0 else 111) else 110
theorem acZ {z:bq} (h:sS z=true):z.gG≠0:=by
  simp [sS,SM,kG] at h; omega
def w64 (n:Int):Int:=IntKind.u64.wrap n
structure dt where
  image:Int
  user:Int
  limit:Int
  nodes:Int
def Fs (s:dt):List AV:=[.int .i64 s.image,.int .i64 s.user,.int .i64 s.limit,.int .i64 s.nodes]
theorem shape_0 (s:dt):(Fs s)[0]?=some (.int .i64 s.image):=rfl
theorem shape_1 (s:dt):(Fs s)[1]?=some (.int .i64 s.user):=rfl
theorem shape_2 (s:dt):(Fs s)[2]?=some (.int .i64 s.limit):=rfl
theorem shape_3 (s:dt):(Fs s)[3]?=some (.int .i64 s.nodes):=rfl
theorem aGv (s:dt):sub (Fs s) 0 4=some (Fs s):=by rw [zj]; rfl
def WY (a b:Int):Int:=if a<b then b else a
def minZ (a b:Int):Int:=if b<a then b else a
def aDm (z:bq):Int:=w64 (z.step+w64 (2*z.miss))
def allC (z:bq) (s:dt):Int:=w64 (w64 s.limit*aDm z)
def azw (z:bq) (s:dt):Int:=w64 (w64 (w64 (w64 (2*w64 s.user)+1)*z.step)+z.disk)
def aCh (z:bq):Int:=w64 (113*z.miss)
def aqx (z:bq):Int:=w64 (64*aDm z)
def IQ (z:bq) (s:dt):List Int:=[0,w64 (17*z.miss),w64 (allC z s+z.miss),w64 (w64 (z.miss+w64 (w64 (16*w64 s.nodes)*z.miss))+allC z s),aCh z,aqx z,
  w64 (w64 (64*w64 (z.step+z.miss))+z.miss),WY (aCh z) (aqx z),w64 (w64 (w64 (w64 (26*z.miss)+z.fault)+azw z s)+z.disk),
  w64 (w64 (w64 (w64 (64*z.miss)+w64 (2*z.fault))+w64 (2*azw z s))+z.disk),0]
def ayK (z:bq) (s:dt):Int:=w64 (w64 (w64 s.image*z.miss)+(IQ z s).foldl WY 0)
def asK (z:bq) (s:dt):Int:=if Lq z=0 then (if (decide (s.image=1)||(decide (s.image=2)||(decide (s.image=4)||decide (s.image=8))))&&(kG s.user 2 4096&&(kG s.limit 1 5120&&kG s.nodes 1 4096)) then 0 else 2) else Lq z
def Sw (z:bq) (p:Nat):dt:=⟨N9 (lI z p),(lI z p).user,minZ (IntKind.i64.wrap (IntKind.i64.wrap ((lI z p).user+(lI z p).slots)-1)) (IntKind.i64.wrap (16*(lI z p).gN)),(lI z p).tables⟩
def ON (z:bq) (lines trans:Int):Int:=if Lq z=0 then (if kG lines 0 65536&&kG trans 0 64 then 0 else 2) else Lq z
def aqN (z:bq) (lines trans:Int):Int:=w64 (w64 (IntKind.i64.wrap (lines+trans))*z.step)
def yK (z:bq) (p:Nat):Bool:=!decide (Yb z p=0)||(decide (asK z (Sw z p)=0)&&decide (ayK z (Sw z p)≤z.slice))
def Cx (z:bq):Bool:=decide (1≤z.slice)&&(decide (z.slice≤4194304)&&(decide (z.pad≤4194304)&&(decide (z.first<1099511627776)&&(!sS z||(!decide (Lq z=0)||
  (decide (ON z (IntKind.i64.wrap (z.l1sets*z.l1ways)) z.tlb=0)&&(decide (aqN z (IntKind.i64.wrap (z.l1sets*z.l1ways)) z.tlb≤z.pad)&&(List.range z.parts.length).all (yK z))))))))
def Mx (z:bq):Bool:=kG z.gM.length 1 64&&z.gM.all fun p=>kG p 0 (IntKind.i64.wrap (z.parts.length-1))
def PO (z:bq):Bool:=sS z&&(decide (Lq z=0)&&(Cx z&&(Mx z&&(List.range (min z.parts.length 8)).all fun p=>decide (Yb z p=0))))
end Go.Ai
/- The facts by which a printed function is read, in one. -/
namespace Go.Ai
set_option linter.defProp false
theorem getAt0 (a:AV) (l:List AV):(a::l)[0]?=some a:=rfl
theorem getAtS (a:AV) (l:List AV) (n:Nat):(a::l)[n+1]?=l[n]?:=rfl
def au:=And.intro @rV (And.intro @E2 (And.intro @EW (And.intro @N6 (And.intro @amE (And.intro @aqP (And.intro @aB5 (And.intro @aCv (And.intro @aa4 (And.intro @aCt (And.intro @aCj (And.intro @aBR (And.intro @yA (And.intro @Mr (And.intro @zw (And.intro @Bw (And.intro @Aa (And.intro @aaZ (And.intro @auh (And.intro @asG (And.intro @VB (And.intro @UX (And.intro @aAV (And.intro @aA9 (And.intro @awr (And.intro @aCm (And.intro @aFm (And.intro @atu (And.intro @nfa_eq (And.intro @bitK_and (And.intro @aak (And.intro @aEd (And.intro @ldI_ptr (And.intro @ldB_ptr (And.intro @fldI_ptr (And.intro @fldB_ptr (And.intro @fld_ptr1 (And.intro @fld_ptrN (And.intro @aGn (And.intro @aGx (And.intro @nfld_ptr (And.intro @Nat.zero_add (And.intro @Nat.add_zero (And.intro @getAt0 (@getAtS))))))))))))))))))))))))))))))))))))))))))))
def bg:=And.intro @cfg_0 (And.intro @cfg_1 (And.intro @cfg_2 (And.intro @cfg_3 (And.intro @cfg_4 (And.intro @cfg_5 (And.intro @cfg_6 (And.intro @cfg_7 (And.intro @cfg_8 (And.intro @cfg_9 (And.intro @cfg_10 (And.intro @cfg_11 (And.intro @cfg_12 (And.intro @cfg_13 (And.intro @cfg_14 (And.intro @cfg_15 (And.intro @cfg_16 (And.intro @part_0 (And.intro @part_1 (And.intro @part_2 (And.intro @part_3 (And.intro @part_4 (And.intro @part_5 (And.intro @part_6 (And.intro @part_7 (And.intro @sub_cfg (And.intro @sub_cost (And.intro @aGU (And.intro @cost_0 (And.intro @cost_1 (And.intro @cost_2 (And.intro @cost_3 (And.intro @cost_4 (And.intro @cost_5 (And.intro @shape_0 (And.intro @shape_1 (And.intro @shape_2 (And.intro @shape_3 (@aGv))))))))))))))))))))))))))))))))))))))
end Go.Ai
