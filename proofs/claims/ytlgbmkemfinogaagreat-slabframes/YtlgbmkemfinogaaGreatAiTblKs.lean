/- A table of functions, put together of its entries. -/
import Derived.Test.YtlgbmkemfinogaaGreatAiCallSym
import Derived.Test.YtlgbmkemfinogaaGreatAiCpsRunLo
set_option linter.all false
namespace Go.Ai
def Entry (P:Program) (f:Nat) (x:AFn):Prop:=∃ fn,P.funcs[f]?=some fn∧(fn.name == "runtime.NumGoroutine")=false∧fn.body.isNone=false∧∃ m,abR P fn m=some x
def Entries (P:Program):List (Nat × AFn)→Prop
  | []=>True
  | e::l=>Entry P e.1 e.2∧Entries P l
theorem Entries.mem {P:Program}:∀ {l:List (Nat × AFn)},Entries P l→∀ {f x},(f,x)∈l→Entry P f x
  | e::l,h,f,x,hm=>by
    rcases gG.1 hm with rfl | hm
    · exact h.1
    · exact Entries.mem h.2 hm
theorem ahc {P:Program} {fn:Func} {m:Bool} {x:AFn} (h:abR P fn m=some x):∃ ps body res,x = .code ps body res:=by
  unfold abR at h
  simp only [gj] at h
  obtain ⟨c,_,ac,_,rs,_,h⟩:=h
  split at h
  · cases h; exact ⟨_,_,_,rfl⟩
  · cases h
theorem fq.prim_set {P:Program} {tbl:Tr AFn} (T:fq P tbl) {f:Nat} {g:List AV→Heap→ab} (hp:fx P f g) (hm:∀ vs H v H',H.ro≤H.nx→g vs H = .ret v H'→eo H H') (he:Enters P f):fq P (tbl.set (key f) (.prim g)):={
  mixed:=T.mixed
  mono f' g' hg:=by
    by_cases e:f=f'
    · subst e; rw [Tr.fN] at hg; cases hg; exact hm
    · rw [Tr.fM (fun k=>e (xb k))] at hg; exact T.mono f' g' hg
  enters f' x hx:=by
    by_cases e:f=f'
    · subst e; exact he
    · rw [Tr.fM (fun k=>e (xb k))] at hx; exact T.enters f' x hx
  code f' ps body res hx:=by
    by_cases e:f=f'
    · subst e; rw [Tr.fN] at hx; cases hx
    · rw [Tr.fM (fun k=>e (xb k))] at hx; exact T.code f' ps body res hx
  prim f' g' hg:=by
    by_cases e:f=f'
    · subst e; rw [Tr.fN] at hg; cases hg; exact hp
    · rw [Tr.fM (fun k=>e (xb k))] at hg; exact T.prim f' g' hg }
end Go.Ai
/- The table of all functions that the compiler takes, calls beside loads with the heap shut where that may be: for the printed functions in continuation style. -/
namespace Go.Ai
def W9 (P:Program) (f:Nat):Option AFn:=(P.funcs[f]?).bind fun fn=>if fn.name == "runtime.NumGoroutine" then none else match abR P fn true with
  | some x=>some x
  | none=>abR P fn
theorem Qz {P:Program} {f:Nat} {x:AFn} (h:W9 P f=some x):Entry P f x:=by
  unfold W9 at h
  simp only [gj] at h
  obtain ⟨fn,h1,h2⟩:=h
  split at h2
  · cases h2
  · rename_i hn
    have:∃ m,abR P fn m=some x:=by
      split at h2
      · rename_i y hy; cases h2; exact ⟨true,hy⟩
      · exact ⟨false,h2⟩
    obtain ⟨m,h2⟩:=this
    refine ⟨fn,h1,by simpa using hn,?_,m,h2⟩
    unfold abR at h2
    simp only [gj] at h2
    obtain ⟨c,hc,_⟩:=h2
    rw [hc]; rfl
noncomputable def ail (P:Program):Nat→Tr AFn
  | 0=>.leaf
  | n+1=>match W9 P n with
    | some x=>(ail P n).set (key n) x
    | none=>ail P n
theorem ajR (P:Program):∀ (n f:Nat),(ail P n).get (key f)=if f<n then W9 P f else none
  | 0,f=>by rw [ail,Tr.fS,if_neg (by omega)]
  | n+1,f=>by
    have ih:=ajR P n f
    cases hc:W9 P n with
    | none=>
      simp only [ail,hc]
      rw [ih]
      by_cases h:f<n
      · rw [if_pos h,if_pos (by omega)]
      · rw [if_neg h]
        by_cases h':f=n
        · subst h'; rw [if_pos (by omega),hc]
        · rw [if_neg (by omega)]
    | some x=>
      simp only [ail,hc]
      by_cases h':n=f
      · subst h'; rw [Tr.fN,if_pos (by omega),hc]
      · rw [Tr.fM (fun k=>h' (xb k)),ih]
        by_cases h:f<n
        · rw [if_pos h,if_pos (by omega)]
        · rw [if_neg h,if_neg (by omega)]
noncomputable def tblS (P:Program):Tr AFn:=ail P P.funcs.size
theorem Xw (P:Program) (f:Nat):(tblS P).get (key f)=W9 P f:=by
  unfold tblS
  rw [ajR]
  split
  · rfl
  · rename_i h
    unfold W9
    rw [Array.getElem?_eq_none (by omega)]; rfl
theorem tblS_ok {P:Program} (hm:P.follows .mixedOrders=true):fq P (tblS P):={
  mixed:=hm
  mono f g hg:=by
    rw [Xw] at hg
    obtain ⟨fn,_,_,_,_,hc⟩:=Qz hg
    obtain ⟨_,_,_,e⟩:=ahc hc
    cases e
  enters f x hx:=by
    rw [Xw] at hx
    obtain ⟨fn,h1,h2,h3,_⟩:=Qz hx
    exact ⟨fn,h1,h2,h3⟩
  code f ps body res hx:=by
    rw [Xw] at hx
    obtain ⟨fn,h1,_,_,m,h4⟩:=Qz hx
    exact ⟨fn,m,h1,h4⟩
  prim f g hg:=by
    rw [Xw] at hg
    obtain ⟨fn,_,_,_,_,hc⟩:=Qz hg
    obtain ⟨_,_,_,e⟩:=ahc hc
    cases e }
theorem qy {tbl:Tr AFn} {f g:Nat} {x:AFn} {y:Option AFn} (e:Nat.beq g f=false) (h:tbl.get (key f)=y):(tbl.set (key g) x).get (key f)=y:=by
  rw [Tr.fM (fun k=>by rw [xb k,Nat.beq_refl] at e; cases e)]
  exact h
end Go.Ai
/- What printed functions compute, forward: rules for runs, what the operations do, slices of numbers in the heap. -/
namespace Go.Ai
def aR {K R:Type} (ap:K→R→ab) (f:K→ab) (Q:R→Prop):Prop:=∃ r,Q r∧∀ k,f k=ap k r
def ap0 (k:Heap→ab) (r:Heap):ab:=k r
def ap1 {α:Type} (k:α→Heap→ab) (r:α × Heap):ab:=k r.1 r.2
def ap2 {α β:Type} (k:α→β→Heap→ab) (r:α × β × Heap):ab:=k r.1 r.2.1 r.2.2
def dz (f:(Heap→ab)→ab) (Q:Heap→Prop):Prop:=aR ap0 f Q
def aJ {α:Type} (f:(α→Heap→ab)→ab) (Q:α→Heap→Prop):Prop:=aR ap1 f fun r=>Q r.1 r.2
def dY {α β:Type} (f:(α→β→Heap→ab)→ab) (Q:α→β→Heap→Prop):Prop:=aR ap2 f fun r=>Q r.1 r.2.1 r.2.2
section
variable {K R:Type} {ap:K→R→ab} {Q Q':R→Prop} {α β γ:Type}
theorem aR.mono {f:K→ab} (h:aR ap f Q) (hq:∀ r,Q r→Q' r):aR ap f Q':=by
  obtain ⟨r,h1,h2⟩:=h; exact ⟨r,hq r h1,h2⟩
theorem aJ.mono {f:(α→Heap→ab)→ab} {Q Q':α→Heap→Prop} (h:aJ f Q) (hq:∀ a h,Q a h→Q' a h):aJ f Q':=aR.mono h fun r=>hq r.1 r.2
theorem ret0 {h:Heap} {Q:Heap→Prop} (hq:Q h):aR ap0 (fun k=>k h) Q:=⟨h,hq,fun _=>rfl⟩
theorem mQ {a:α} {h:Heap} {Q:α × Heap→Prop} (hq:Q (a,h)):aR ap1 (fun k=>k a h) Q:=⟨(a,h),hq,fun _=>rfl⟩
theorem K6 {a:α} {b:β} {h:Heap} {Q:α × β × Heap→Prop} (hq:Q (a,b,h)):aR ap2 (fun k=>k a b h) Q:=⟨(a,b,h),hq,fun _=>rfl⟩
theorem dz.bind {f:(Heap→ab)→ab} {P:Heap→Prop} (hf:dz f P) {g:K→Heap→ab} (h:∀ h',P h'→aR ap (fun k=>g k h') Q):aR ap (fun k=>f (g k)) Q:=by
  obtain ⟨r,h1,h2⟩:=hf
  obtain ⟨s,h3,h4⟩:=h r h1
  exact ⟨s,h3,fun k=>(h2 _).trans (h4 k)⟩
theorem aJ.bind {f:(α→Heap→ab)→ab} {P:α→Heap→Prop} (hf:aJ f P) {g:K→α→Heap→ab} (h:∀ a h',P a h'→aR ap (fun k=>g k a h') Q):aR ap (fun k=>f (g k)) Q:=by
  obtain ⟨r,h1,h2⟩:=hf
  obtain ⟨s,h3,h4⟩:=h _ _ h1
  exact ⟨s,h3,fun k=>(h2 _).trans (h4 k)⟩
theorem dY.bind {f:(α→β→Heap→ab)→ab} {P:α→β→Heap→Prop} (hf:dY f P) {g:K→α→β→Heap→ab} (h:∀ a b h',P a b h'→aR ap (fun k=>g k a b h') Q):aR ap (fun k=>f (g k)) Q:=by
  obtain ⟨r,h1,h2⟩:=hf
  obtain ⟨s,h3,h4⟩:=h _ _ _ h1
  exact ⟨s,h3,fun k=>(h2 _).trans (h4 k)⟩
theorem aR.ifB {c:Bool} {f g:K→ab} (ht:c=true→aR ap f Q) (hf:c=false→aR ap g Q):aR ap (fun k=>ifB c (f k) (g k)) Q:=by
  cases c with
  | true=>exact ht rfl
  | false=>exact hf rfl
end
attribute [simp] nd qZ tf xK Ue Yf akV aku Lc akl alg ak7 AJ P0 nw wy alD agq agm agl aoW aoH mU
@[simp] theorem tO (a b:ab):ifB true a b=a:=rfl
@[simp] theorem B6 (a b:ab):ifB false a b=b:=rfl
@[simp] theorem pX {α:Type} (a:α) (k:α→ab):oC (some a) k=k a:=rfl
@[simp] theorem NL (n:Nat) (k:Nat→ab):afS (n:Int) k=k n:=rfl
theorem ak5 {i:Int} (h:0≤i) (k:Nat→ab):afS i k=k i.toNat:=by
  obtain ⟨n,rfl⟩:=gE h; rfl
@[simp] theorem agH (q:IntKind) (n:Int) (k:Int→ab):Pr q (.int q n) k=k n:=by cases q<;>rfl
@[simp] theorem anz (b:Bool) (k:Bool→ab):Vc (.bool b) k=k b:=rfl
@[simp] theorem FS (b o:Nat) (k:Nat→Nat→ab):ajM (.ptr b o) k=k b o:=rfl
@[simp] theorem KR (b o l e:Nat) (p:Bool) (k:Nat→Nat→Nat→ab):asSlc (.slice b o l e p) k=k b o l:=rfl
@[simp] theorem ajX (l:List AV) (k:List AV→ab):asAgg (.agg l) k=k l:=rfl
@[simp] theorem aef (b:Nat) (k:Nat→ab):asMap (.map b) k=k b:=rfl
@[simp] theorem afw (b o:Nat) (k:ab):PP (.ptr b o) k=k:=rfl
@[simp] theorem ak2 (b o l e:Nat) (p:Bool) (k:Int→ab):lz (.slice b o l e p) k=k l:=rfl
@[simp] theorem anN (k:Int→ab):lz .nilslice k=k 0:=rfl
@[simp] theorem alb (d b o:Nat) (k:AV→ab):faK d (.ptr b o) k=k (.ptr b (o+d)):=by simp [faK]
@[simp] theorem abT (H:Heap) (l:List AV) (c:Nat→Heap→ab):A5 H (.agg l) c=c H.nx (H.add (.cells l true 0)):=by
  show zy H (.cells l true 0) c=_; simp
theorem nfa_eq (d b o:Nat) (k:AV→ab):nfa d (.ptr b o) k=k (.ptr b (o+d)):=by simp [nfa]
attribute [simp] nfa_eq
def andZ (a b:Int):Int:=IntKind.i64.wrap (BitVec.ofInt 64 a &&& BitVec.ofInt 64 b).toNat
@[simp] theorem agy (a b:Int) (c:Int→ab):aa3 .and .i64 a b c=c (andZ a b):=by
  show oC (some _) _=_
  rw [pX,qZ]; rfl
theorem N6 {q:IntKind} {a b:Int} (h:b≠0) (c:Int→ab):VN q a b c=c (q.wrap (a.tdiv b)):=by
  unfold VN; rw [alD,gz h]; simp
theorem JP {q:IntKind} {a b:Int} (h:b≠0) (c:Int→ab):afN q a b c=c (a.tmod b):=by
  unfold afN; rw [alD,gz h]; simp
theorem ND {q:IntKind} {a b:Int} (h:0≤b) (c:Int→ab):aeC q a b c=c (q.wrap (YO q a b.toNat)):=by
  unfold aeC; rw [ak5 h]; simp
def Heap.cl (h:Heap) (b:Nat) (l:List AV):Prop:=b<h.nx∧∃ rw g,h.get b=some (.cells l rw g)
theorem iR {h:Heap} {b:Nat} {l:List AV} (hb:h.cl b l) (c:List AV→ab):LR h b c=c l:=by
  obtain ⟨_,rw_,g,hb⟩:=hb
  unfold LR
  rw [acV]
  have:h.t.get (key b)=some (.cells l rw_ g):=hb
  rw [this]; rfl
@[simp] theorem agI (h:Heap) (b off:Nat) (k:AV→ab):me h (.ptr b off) 1 false k=LR h b fun l=>oC l[off]? k:=by
  unfold me
  simp only [FS,B6,ags]; rfl
@[simp] theorem an8 (h:Heap) (b off n:Nat) (k:AV→ab):me h (.ptr b off) n true k=LR h b fun l=>oC (sub l off n) fun cs=>k (.agg cs):=by
  unfold me
  simp only [FS,tO]
@[simp] theorem ldI_ptr (q:IntKind) (h:Heap) (b off:Nat) (k:Int→ab):ldI q h (.ptr b off) k=LR h b fun l=>oC l[off]? fun v=>Pr q v k:=by unfold ldI; simp
@[simp] theorem ldB_ptr (h:Heap) (b off:Nat) (k:Bool→ab):ldB h (.ptr b off) k=LR h b fun l=>oC l[off]? fun v=>Vc v k:=by unfold ldB; simp
@[simp] theorem fldI_ptr (q:IntKind) (d:Nat) (h:Heap) (b off:Nat) (k:AV→Int→ab):nR q d h (.ptr b off) k=LR h b fun l=>oC l[off+d]? fun v=>Pr q v (k (.ptr b (off+d))):=by unfold nR; simp
@[simp] theorem fldB_ptr (d:Nat) (h:Heap) (b off:Nat) (k:AV→Bool→ab):fldB d h (.ptr b off) k=LR h b fun l=>oC l[off+d]? fun v=>Vc v (k (.ptr b (off+d))):=by unfold fldB; simp
@[simp] theorem fld_ptr1 (d:Nat) (h:Heap) (b off:Nat) (k:AV→AV→ab):fld d h (.ptr b off) 1 false k=LR h b fun l=>oC l[off+d]? (k (.ptr b (off+d))):=by unfold fld; simp
@[simp] theorem fld_ptrN (d:Nat) (h:Heap) (b off n:Nat) (k:AV→AV→ab):fld d h (.ptr b off) n true k=LR h b fun l=>oC (sub l (off+d) n) fun cs=>k (.ptr b (off+d)) (.agg cs):=by unfold fld; simp
@[simp] theorem apS (q:IntKind) (d:Nat) (h:Heap) (b off:Nat) (k:AV→Int→ab):Og q d h (.ptr b off) k=nR q d h (.ptr b off) k:=by unfold Og; simp
@[simp] theorem ap6 (d:Nat) (h:Heap) (b off:Nat) (k:AV→Bool→ab):nfldB d h (.ptr b off) k=fldB d h (.ptr b off) k:=by unfold nfldB; simp
@[simp] theorem nfld_ptr (d:Nat) (h:Heap) (b off n:Nat) (g:Bool) (k:AV→AV→ab):CB d h (.ptr b off) n g k=fld d h (.ptr b off) n g k:=by unfold CB; simp
theorem load_agg {h:Heap} {b off n:Nat} {l cs:List AV} (hb:h.cl b l) (hs:(l.drop off).take n=cs) (hn:off+n≤l.length) (k:AV→ab):me h (.ptr b off) n true k=k (.agg cs):=by
  unfold me
  rw [FS,iR hb,tO,pN,if_pos (by rw [List.length_drop]; omega),hs]; rfl
theorem ams {h:Heap} {b off:Nat} {l:List AV} {v:AV} (hb:h.cl b l) (hs:l[off]?=some v) (k:AV→ab):me h (.ptr b off) 1 false k=k v:=by
  unfold me
  rw [FS,iR hb,B6]
  show ifB true _ _=_
  rw [tO,ags,hs]; rfl
theorem agn {h:Heap} {b off d:Nat} {l:List AV} {q:IntKind} {n:Int} (hb:h.cl b l) (hs:l[off+d]?=some (.int q n)) (k:AV→Int→ab):nR q d h (.ptr b off) k=k (.ptr b (off+d)) n:=by
  unfold nR; rw [alb,ams hb hs,agH]
structure bo (h h':Heap):Prop where
  nx:h.nx≤h'.nx
  ro:h'.ro=h.ro
  old:∀ b,b<h.nx→h'.get b=h.get b
theorem bo.refl {h:Heap}:bo h h:=⟨gp _,rfl,fun _ _=>rfl⟩
theorem bo.trans {h h' h'':Heap} (a:bo h h') (b:bo h' h''):bo h h'':=⟨gu a.nx b.nx,b.ro.trans a.ro,fun c hc=>(b.old c (gm hc a.nx)).trans (a.old c hc)⟩
theorem bo.add {h:Heap} {x:Blk}:bo h (h.add x):=⟨by simp,by simp,fun b hb=>by rw [Heap.fQ,if_neg (by omega)]⟩
theorem bo.cl {h h':Heap} (g:bo h h') {b:Nat} {l:List AV} (hb:h.cl b l):h'.cl b l:=by
  obtain ⟨h1,rw_,q,h2⟩:=hb
  exact ⟨gm h1 g.nx,rw_,q,(g.old b h1).trans h2⟩
theorem akm (h:Heap) (l:List AV) (rw_:Bool) (g:Nat):(h.add (.cells l rw_ g)).cl h.nx l:=⟨by simp,rw_,g,by rw [Heap.fQ,if_pos rfl]⟩
theorem bo.shut {h h':Heap} (g:bo (h.shut true) h'):bo h (h'.back h.ro):=⟨g.nx,rfl,fun b hb=>g.old b hb⟩
theorem Heap.cl.shut {h:Heap} {b:Nat} {l:List AV} (hb:h.cl b l):(h.shut true).cl b l:=hb
theorem AO (h:Heap) (l:List AV):aJ (A5 h (.agg l)) fun x h'=>h'.cl x l∧bo h h':=⟨(h.nx,h.add (.cells l true 0)),⟨akm ..,bo.add⟩,fun k=>abT ..⟩
structure Own (h:Heap) (b:Nat) (l:List AV) (g:Nat):Prop where
  lt:b<h.nx
  ro:h.ro≤b
  get:h.get b=some (.cells l true g)
theorem Own.cl {h:Heap} {b:Nat} {l:List AV} {g:Nat} (o:Own h b l g):h.cl b l:=⟨o.lt,true,g,o.get⟩
theorem Own.grow {h h':Heap} {b:Nat} {l:List AV} {q:Nat} (o:Own h b l q) (g:bo h h'):Own h' b l q:=⟨gm o.lt g.nx,by rw [g.ro]; exact o.ro,(g.old b o.lt).trans o.get⟩
theorem aeY {h:Heap} (hro:h.ro≤h.nx) (l:List AV) (g:Nat):aJ (zy h (.cells l true g)) fun x h'=>h.nx≤x∧Own h' x l g∧bo h h':=
  ⟨(h.nx,h.add (.cells l true g)),⟨gp _,⟨by simp,by simpa using hro,by rw [Heap.fQ,if_pos rfl]⟩,bo.add⟩,fun k=>AJ ..⟩
theorem bo.le {h h':Heap} (g:bo h h') (hro:h.ro≤h.nx):h'.ro≤h'.nx:=by rw [g.ro]; exact gu hro g.nx
theorem amN {h:Heap} {b:Nat} {l:List AV} {g:Nat} (o:Own h b l g) (c:List AV→Nat→ab):ownX h b c=c l g:=by
  unfold ownX
  have:Nat.blt b h.ro=false:=by rw [blt_eq]; simp; exact o.ro
  rw [this,B6,acV]
  have h2:h.t.get (key b)=some (.cells l true g):=o.get
  rw [h2]; rfl
structure Put (h:Heap) (b:Nat) (l:List AV) (g:Nat) (h':Heap):Prop where
  own:Own h' b l g
  nx:h'.nx=h.nx
  ro:h'.ro=h.ro
  other:∀ c,c≠b→h'.get c=h.get c
theorem Put.grow {h₀ h h':Heap} {b:Nat} {l:List AV} {q:Nat} (p:Put h b l q h') (g:bo h₀ h) (hb:h₀.nx≤b):bo h₀ h':=⟨by rw [p.nx]; exact g.nx,by rw [p.ro]; exact g.ro,fun c hc=>by rw [p.other c (by omega)]; exact g.old c hc⟩
theorem Put.cl {h h':Heap} {b c:Nat} {l l':List AV} {q:Nat} (p:Put h b l q h') (hc:c≠b) (o:h.cl c l'):h'.cl c l':=by
  obtain ⟨h1,rw_,g,h2⟩:=o
  exact ⟨by rw [p.nx]; exact h1,rw_,g,by rw [p.other c hc]; exact h2⟩
theorem Put.ownO {h h':Heap} {b c:Nat} {l l':List AV} {q q':Nat} (p:Put h b l q h') (hc:c≠b) (o:Own h c l' q'):Own h' c l' q':=
  ⟨by rw [p.nx]; exact o.lt,by rw [p.ro]; exact o.ro,by rw [p.other c hc]; exact o.get⟩
theorem acx {h:Heap} {b:Nat} {l:List AV} {q:Nat} (o:Own h b l q) (l':List AV):Put h b l' q (h.set b (.cells l' true q)):=
  ⟨⟨by simpa using o.lt,by simpa using o.ro,Heap.fN ..⟩,by simp,by simp,fun c hc=>Heap.fM _ (fun e=>hc e.symm) _⟩
theorem Yu {h:Heap} {b off n:Nat} {l cs:List AV} {g:Nat} (o:Own h b l g) (hn:cs.length=n) (hl:off+n≤l.length):dz (nu h (.ptr b off) n (.agg cs)) (Put h b (Aq cs l off) g):=by
  refine ⟨h.set b (.cells (Aq cs l off) true g),acx o _,fun k=>?_⟩
  unfold nu
  rw [FS,amN o]
  show ifB (Nat.beq (qh cs) n) _ _=_
  rw [mU,hn,Nat.beq_refl,tO,ada,if_pos (by omega),P0]; rfl
theorem wd {h:Heap} {b off:Nat} {l:List AV} {g:Nat} {u:AV} (o:Own h b l g) (hl:off<l.length) (hu:u.fT=true):dz (nu h (.ptr b off) 1 u) (Put h b (l.set off u) g):=by
  refine ⟨h.set b (.cells (l.set off u) true g),acx o _,fun k=>?_⟩
  unfold nu
  rw [FS,amN o]
  have:ajx u (fun cs=>ifB (Nat.beq (qh cs) 1) (ajC cs l off fun l=>setX h b (.cells l true g) k) .err) (ifB (Nat.beq 1 1) (ahe u l off fun l=>setX h b (.cells l true g) k) .err)=ifB (Nat.beq 1 1) (ahe u l off fun l=>setX h b (.cells l true g) k) .err:=by
    cases u<;>first | rfl | cases hu
  rw [this]
  show ifB true _ _=_
  rw [tO,abG,if_pos hl,P0]; rfl
theorem VU (cs l:List AV) (h:cs.length=l.length):Aq cs l 0=cs:=by
  rw [Yo _ _ (by omega),h,List.drop_length,List.append_nil]
theorem agX {h:Heap} (hro:h.ro≤h.nx) {z cs:List AV} {n:Nat} (hz:z.length=n) (hc:cs.length=n) :
    aJ (fun K=>zy h (.cells z true 0) fun x h1=>nu h1 (.ptr x 0) n (.agg cs) (K x)) fun x h'=>h.nx≤x∧Own h' x cs 0∧bo h h':=by
  refine aJ.bind (aeY hro z 0) ?_
  rintro x h1 ⟨hx,ho,g⟩
  refine dz.bind (Yu ho hc (by omega)) ?_
  intro h2 hp
  rw [VU _ _ (by omega)] at hp
  exact mQ ⟨hx,hp.own,hp.grow g hx⟩
theorem aj6 {h:Heap} (hro:h.ro≤h.nx) {z u:AV} (hu:u.fT=true) :
    aJ (fun K=>zy h (.cells [z] true 0) fun x h1=>nu h1 (.ptr x 0) 1 u (K x)) fun x h'=>h.nx≤x∧Own h' x [u] 0∧bo h h':=by
  refine aJ.bind (aeY hro [z] 0) ?_
  rintro x h1 ⟨hx,ho,g⟩
  refine dz.bind (wd ho (by simp) hu) ?_
  intro h2 hp
  exact mQ ⟨hx,hp.own,hp.grow g hx⟩
theorem aoF {l:List AV} {n i:Nat} (hn:l.length=n) (hi:i<n) (k:AV→ab):acM 1 n false (.agg l) (i:Int) k=k (l[i]'(by omega)):=by
  unfold acM
  rw [ajX,NL]
  have h1:Nat.blt i n=true:=by rw [blt_eq]; simpa using hi
  rw [h1,tO,nd,pN,if_pos (by rw [List.length_drop,Nat.mul_eq,Nat.mul_one]; omega),pX]
  have:(l.drop (Nat.mul i 1)).take 1 = [l[i]'(by omega)]:=by
    rw [Nat.mul_eq,Nat.mul_one,gx (by omega)]; rfl
  rw [this]; rfl
def dF (h:Heap) (v:AV) (sz n:Nat) (f:Nat→List AV):Prop:=n≤9223372036854775807∧
  ((v = .nilslice∧n=0)∨∃ b off ext opn,v = .slice b off n ext opn∧(0<n→∃ l,h.cl b l∧∀ i,i<n→off+i*sz+sz≤l.length∧(l.drop (off+i*sz)).take sz=f i))
theorem dF.grow {h h':Heap} {v:AV} {sz n:Nat} {f:Nat→List AV} (s:dF h v sz n f) (g:bo h h'):dF h' v sz n f:=by
  obtain ⟨hn,s⟩:=s
  rcases s with s | ⟨b,off,ext,opn,h1,h2⟩
  · exact ⟨hn,.inl s⟩
  · exact ⟨hn,.inr ⟨b,off,ext,opn,h1,fun h0=>have ⟨l,h3,h4⟩:=h2 h0; ⟨l,g.cl h3,h4⟩⟩⟩
theorem dF.len {h:Heap} {v:AV} {sz n:Nat} {f:Nat→List AV} (s:dF h v sz n f) (k:Int→ab):lz v k=k n:=by
  rcases s with ⟨_,⟨rfl,rfl⟩ | ⟨b,off,ext,opn,rfl,_⟩⟩<;>rfl
def elP (v:AV) (sz:Nat) (i:Int):AV:=match v with
  | .slice b off _ _ _=>.ptr b (off+i.toNat*sz)
  | v=>v
theorem dF.ia {h:Heap} {v:AV} {sz n:Nat} {f:Nat→List AV} (s:dF h v sz n f) {i:Int} (h0:0≤i) (hi:i<n) (k:AV→ab):Rh sz v i k=k (elP v sz i):=by
  rcases s with ⟨_,⟨rfl,rfl⟩ | ⟨b,off,ext,opn,rfl,_⟩⟩
  · omega
  · unfold Rh
    rw [KR,ak5 h0]
    have:Nat.blt i.toNat n=true:=by rw [blt_eq]; simp; omega
    rw [this,tO]; simp [elP]
theorem dF.at_ {h:Heap} {v:AV} {sz n:Nat} {f:Nat→List AV} (s:dF h v sz n f) {i:Int} (h0:0≤i) (hi:i<n) :
    ∃ b off l,elP v sz i = .ptr b off∧h.cl b l∧off+sz≤l.length∧(l.drop off).take sz=f i.toNat:=by
  rcases s with ⟨_,⟨rfl,rfl⟩ | ⟨b,off,ext,opn,rfl,h1⟩⟩
  · omega
  · obtain ⟨l,h1,h2⟩:=h1 (by omega)
    obtain ⟨h3,h4⟩:=h2 i.toNat (by omega)
    exact ⟨b,_,l,rfl,h1,h3,h4⟩
theorem dF.eld {h:Heap} {v:AV} {sz n:Nat} {f:Nat→List AV} (s:dF h v sz n f) {i:Int} (h0:0≤i) (hi:i<n) (k:AV→AV→ab):eld sz h v i sz true k=k (elP v sz i) (.agg (f i.toNat)):=by
  unfold Ai.eld
  rw [s.ia h0 hi]
  obtain ⟨b,off,l,e,h1,h2,h3⟩:=s.at_ h0 hi
  rw [e,load_agg h1 h3 h2]
def AV.shut:AV→Bool
  | .slice _ _ _ _ opn=>!opn
  | _=>true
theorem dF.take {h:Heap} {v:AV} {sz n:Nat} {f:Nat→List AV} (s:dF h v sz n f) (hs:v.shut=true) {i:Int} (h0:0≤i) (hi:i≤n):∃ v',dF h v' sz i.toNat f∧∀ k,slK (.sl sz) v none (some (.int .i64 i)) none k=k v':=by
  obtain ⟨m,rfl⟩:=gE h0
  obtain ⟨hn,⟨rfl,rfl⟩ | ⟨b,off,ext,opn,rfl,h1⟩⟩:=s
  · have:m=0:=by omega
    subst this
    exact ⟨.nilslice,⟨by simp,.inl ⟨rfl,rfl⟩⟩,fun k=>rfl⟩
  · obtain rfl:opn=false:=by simpa [AV.shut] using hs
    refine ⟨.slice b off m (n+ext-m) false,⟨by simp; omega,.inr ⟨b,off,_,false,rfl,fun h0=>have ⟨l,h3,h4⟩:=h1 (by simp at h0; omega); ⟨l,h3,fun j hj=>h4 j (by simp at hj; omega)⟩⟩⟩,fun k=>?_⟩
    have hm:m≤n+ext:=by omega
    unfold slK
    have:slV (.sl sz) (.slice b off n ext false) none (some (.int .i64 (m:Int))) none=some (.slice b off m (n+ext-m) false):=by
      have e1:HP (some (.int .i64 (m:Int))) n (n+ext)=some m:=by
        have h2:Nat.ble m (n+ext)=true:=fW hm
        show Bool.casesOn (motive:=fun _=>Option Nat) (Nat.ble m (n+ext)) none (some m)=_
        rw [h2]
      simp only [slV]
      have e0:HP none (n+ext) (n+ext)=some (n+ext):=rfl
      rw [e0]; dsimp only; rw [e1]; dsimp only
      have e2:HP none 0 m=some 0:=rfl
      rw [e2]; dsimp only
      simp
    rw [this,pX,tf]
def nz (l:List Int) (i:Nat):Int:=l.getD i 0
theorem nQ {l:List Int} {i:Nat} (h:i<l.length):nz l i=l[i]:=by unfold nz; rw [gD,gk h]; rfl
def dh (h:Heap) (q:IntKind) (v:AV) (l:List Int):Prop:=dF h v 1 l.length fun i=>[.int q (nz l i)]
theorem dh.grow {h h':Heap} {q:IntKind} {v:AV} {l:List Int} (s:dh h q v l) (g:bo h h'):dh h' q v l:=dF.grow s g
theorem dh.len {h:Heap} {q:IntKind} {v:AV} {l:List Int} (s:dh h q v l) (k:Int→ab):lz v k=k l.length:=dF.len s k
theorem dh.small {h:Heap} {q:IntKind} {v:AV} {l:List Int} (s:dh h q v l):l.length≤9223372036854775807:=s.1
theorem dh.el {h:Heap} {q:IntKind} {v:AV} {l:List Int} (s:dh h q v l) {i:Int} (h0:0≤i) (hi:i<l.length) (k:AV→Int→ab):EE q 1 h v i k=k (elP v 1 i) (nz l i.toNat):=by
  unfold EE
  rw [dF.ia s h0 hi]
  obtain ⟨b,off,l',e,h1,h2,h3⟩:=dF.at_ s h0 hi
  have h4:l'[off]?=some (.int q (nz l i.toNat)):=by
    have:=congrArg (·[0]?) h3
    simpa using this
  rw [e,ams h1 h4,agH]
theorem dh.elN {h:Heap} {q:IntKind} {v:AV} {l:List Int} (s:dh h q v l) {i:Nat} (hi:i<l.length) (k:AV→Int→ab):EE q 1 h v i k=k (elP v 1 i) (nz l i):=s.el (gd i) (by omega) k
theorem aaY {h:Heap} {b:Nat} {q:IntKind} {l:List Int} (hb:h.cl b (l.map (.int q))) (hl:l.length≤9223372036854775807) (ext:Nat) (opn:Bool):dh h q (.slice b 0 l.length ext opn) l:=by
  refine ⟨hl,.inr ⟨b,0,ext,opn,rfl,fun _=>⟨_,hb,fun i hi=>⟨by simp; omega,?_⟩⟩⟩⟩
  simp only [Nat.zero_add,Nat.mul_one]
  rw [nQ hi, ← List.map_drop, ← List.map_take]
  rw [gx hi]; rfl
theorem Co {h:Heap} {len:Nat} {z l:List AV} {parts:List (Nat × Nat × AV)} (hf:∀ k,afb parts z k=k l):aJ (nS h len z parts) fun v h'=>v = .slice h.nx 0 len 0 false∧h'.cl h.nx l∧bo h h':=by
  refine ⟨(.slice h.nx 0 len 0 false,h.add (.cells l true 0)),⟨rfl,akm ..,bo.add⟩,fun k=>?_⟩
  unfold nS
  rw [hf,AJ]; rfl
theorem Qo {h:Heap} {q:IntKind} (xs:List Int) {z:List AV} {parts:List (Nat × Nat × AV)} (hf:∀ k,afb parts z k=k (xs.map (.int q))) (hl:xs.length≤9223372036854775807):aJ (nS h xs.length z parts) fun v h'=>dh h' q v xs∧bo h h':=
  (Co hf).mono fun _ _ ⟨h1,h2,h3⟩=>⟨by rw [h1]; exact aaY h2 hl 0 false,h3⟩
theorem dh.nil {h:Heap} {q:IntKind}:dh h q .nilslice []:=⟨by simp,.inl ⟨rfl,rfl⟩⟩
theorem mP {n:Int} (h0 : -9223372036854775808≤n) (h1:n≤9223372036854775807):IntKind.i64.wrap n=n:=by
  rw [IntKind.wrap_i64]; omega
theorem ag4 {n:Int} (h0:0≤n) (h1:n<18446744073709551616):IntKind.u64.wrap n=n:=by
  simp only [IntKind.wrap,IntKind.signed,IntKind.bits]; simp; omega
theorem kP {i:Nat} (h:i≤9223372036854775806):IntKind.i64.wrap ((i:Int)+1)=((i+1:Nat):Int):=by
  rw [mP (by omega) (by omega)]; simp
end Go.Ai
/- Configurations: what chapter 11 says may be, as plain functions; how one lies in the heap. -/
namespace Go.Ai
structure dR where
  fC:List Int
  order:Int
  user:Int
  tables:Int
  spaces:Int
  fJ:Int
  fI:Int
  slots:Int
structure br where
  frames:Int
  fB:Int
  ways:Int
  l1sets:Int
  l1ways:Int
  tlb:Int
  l1:Int
  llc:Int
  miss:Int
  fault:Int
  step:Int
  disk:Int
  slice:Int
  pad:Int
  first:Int
  fH:List Int
  parts:List dR
def Ey (z:br):List AV:=[.int .u64 z.l1,.int .u64 z.llc,.int .u64 z.miss,.int .u64 z.fault,.int .u64 z.step,.int .u64 z.disk]
def Bt (z:br) (t p:AV):List AV:=[.int .i64 z.frames,.int .i64 z.fB,.int .i64 z.ways,.int .i64 z.l1sets,.int .i64 z.l1ways,.int .i64 z.tlb,
  .int .u64 z.l1,.int .u64 z.llc,.int .u64 z.miss,.int .u64 z.fault,.int .u64 z.step,.int .u64 z.disk,.int .u64 z.slice,.int .u64 z.pad,.int .u64 z.first,t,p]
def A3 (x:dR) (s:AV):List AV:=[s,.int .i64 x.order,.int .i64 x.user,.int .i64 x.tables,.int .i64 x.spaces,.int .i64 x.fJ,.int .i64 x.fI,.int .i64 x.slots]
instance:Inhabited dR:=⟨⟨[],0,0,0,0,0,0,0⟩⟩
def Parts (h:Heap) (v:AV) (ps:List dR):Prop:=v.shut=true∧∃ S:Nat→AV,dF h v 8 ps.length (fun i=>A3 (ps.getD i default) (S i))∧∀ i,i<ps.length→dh h .i64 (S i) (ps.getD i default).fC
theorem Parts.grow {h h':Heap} {v:AV} {ps:List dR} (s:Parts h v ps) (g:bo h h'):Parts h' v ps:=by
  obtain ⟨h0,S,h1,h2⟩:=s
  exact ⟨h0,S,h1.grow g,fun i hi=>(h2 i hi).grow g⟩
def Cfg (h:Heap) (z:br) (c:List AV):Prop:=∃ t p,c=Bt z t p∧dh h .i64 t z.fH∧Parts h p z.parts
def jC (n a b:Int):Bool:=decide (a≤n)&&decide (n≤b)
def aa4 (n I8:Int):Bool:=jC n 1 I8&&(andZ n (IntKind.i64.wrap (n-1))==0)
def sL (z:br):Bool:=aa4 z.fB 16&&(jC z.frames 1 4096&&(z.frames.tmod z.fB==0&&(aa4 z.l1sets 4096&&(jC z.ways 1 16&&(jC z.l1ways 1 16&&
  (jC z.tlb 1 64&&jC z.parts.length 1 8))))))
def ahu (z:br):Int:=IntKind.i64.wrap (z.frames.tdiv z.fB)
def xR (a b:Int):Bool:=decide (a≤b)&&decide (b≤65536)
def aos (z:br):Bool:=xR 1 z.l1&&(xR z.l1 z.llc&&(xR z.llc z.miss&&(xR 1 z.fault&&(xR 1 z.step&&xR 1 z.disk))))
def abw (z:br):Int:=if aos z then 0 else 100
def aaL (last:Option Int) (x:Int):Bool:=match last with | none=>true | some y=>decide (y<x)
def Ej (z:br) (ps:List dR) (last:Option Int):List Int→Bool
  | []=>true
  | x::l=>decide (0≤x)&&(decide (x<z.fB)&&(aaL last x&&(ps.all (fun q=>!decide (x∈q.fC))&&Ej z ps (some x) l)))
theorem JY (z:br) (ps:List dR) (last:Option Int) (x:Int) (l:List Int):Ej z ps last (x::l)=(decide (0≤x)&&(decide (x<z.fB)&&(aaL last x&&(ps.all (fun q=>!decide (x∈q.fC))&&Ej z ps (some x) l)))):=rfl
def jk (z:br) (p:Nat):dR:=z.parts.getD p default
def ab1 (z:br) (p:Nat):Bool:=Ej z (z.parts.take p) none (jk z p).fC&&decide (0<(jk z p).fC.length)
def BD (z:br) (p:Nat):Int:=IntKind.i64.wrap ((jk z p).fC.length*ahu z)
theorem cfg_0 (z:br) (t p:AV):(Bt z t p)[0]?=some (.int .i64 z.frames):=rfl
theorem cfg_1 (z:br) (t p:AV):(Bt z t p)[1]?=some (.int .i64 z.fB):=rfl
theorem cfg_2 (z:br) (t p:AV):(Bt z t p)[2]?=some (.int .i64 z.ways):=rfl
theorem cfg_3 (z:br) (t p:AV):(Bt z t p)[3]?=some (.int .i64 z.l1sets):=rfl
theorem cfg_4 (z:br) (t p:AV):(Bt z t p)[4]?=some (.int .i64 z.l1ways):=rfl
theorem cfg_5 (z:br) (t p:AV):(Bt z t p)[5]?=some (.int .i64 z.tlb):=rfl
theorem cfg_6 (z:br) (t p:AV):(Bt z t p)[6]?=some (.int .u64 z.l1):=rfl
theorem cfg_7 (z:br) (t p:AV):(Bt z t p)[7]?=some (.int .u64 z.llc):=rfl
theorem cfg_8 (z:br) (t p:AV):(Bt z t p)[8]?=some (.int .u64 z.miss):=rfl
theorem cfg_9 (z:br) (t p:AV):(Bt z t p)[9]?=some (.int .u64 z.fault):=rfl
theorem cfg_10 (z:br) (t p:AV):(Bt z t p)[10]?=some (.int .u64 z.step):=rfl
theorem cfg_11 (z:br) (t p:AV):(Bt z t p)[11]?=some (.int .u64 z.disk):=rfl
theorem cfg_12 (z:br) (t p:AV):(Bt z t p)[12]?=some (.int .u64 z.slice):=rfl
theorem cfg_13 (z:br) (t p:AV):(Bt z t p)[13]?=some (.int .u64 z.pad):=rfl
theorem cfg_14 (z:br) (t p:AV):(Bt z t p)[14]?=some (.int .u64 z.first):=rfl
theorem cfg_15 (z:br) (t p:AV):(Bt z t p)[15]?=some t:=rfl
theorem cfg_16 (z:br) (t p:AV):(Bt z t p)[16]?=some p:=rfl
theorem part_0 (x:dR) (s:AV):(A3 x s)[0]?=some s:=rfl
theorem part_1 (x:dR) (s:AV):(A3 x s)[1]?=some (.int .i64 x.order):=rfl
theorem part_2 (x:dR) (s:AV):(A3 x s)[2]?=some (.int .i64 x.user):=rfl
theorem part_3 (x:dR) (s:AV):(A3 x s)[3]?=some (.int .i64 x.tables):=rfl
theorem part_4 (x:dR) (s:AV):(A3 x s)[4]?=some (.int .i64 x.spaces):=rfl
theorem part_5 (x:dR) (s:AV):(A3 x s)[5]?=some (.int .i64 x.fJ):=rfl
theorem part_6 (x:dR) (s:AV):(A3 x s)[6]?=some (.int .i64 x.fI):=rfl
theorem part_7 (x:dR) (s:AV):(A3 x s)[7]?=some (.int .i64 x.slots):=rfl
theorem sub_cfg (z:br) (t p:AV):sub (Bt z t p) 0 17=some (Bt z t p):=by rw [pN]; rfl
theorem sub_cost (z:br) (t p:AV):sub (Bt z t p) 6 6=some (Ey z):=by rw [pN]; rfl
theorem cost_0 (z:br):(Ey z)[0]?=some (.int .u64 z.l1):=rfl
theorem cost_1 (z:br):(Ey z)[1]?=some (.int .u64 z.llc):=rfl
theorem cost_2 (z:br):(Ey z)[2]?=some (.int .u64 z.miss):=rfl
theorem cost_3 (z:br):(Ey z)[3]?=some (.int .u64 z.fault):=rfl
theorem cost_4 (z:br):(Ey z)[4]?=some (.int .u64 z.step):=rfl
theorem cost_5 (z:br):(Ey z)[5]?=some (.int .u64 z.disk):=rfl
theorem apZ (z:br):sub (Ey z) 0 6=some (Ey z):=by rw [pN]; rfl
def alw (ps:List dR) (a:Int):Int:=ps.foldl (fun a q=>if jC q.slots 1 1024 then IntKind.i64.wrap (a+q.slots) else a) a
def TN (x:dR):Int:=IntKind.i64.wrap (YO .i64 1 x.order.toNat)
def needZ (x:dR):Int:=IntKind.i64.wrap (IntKind.i64.wrap (IntKind.i64.wrap (IntKind.i64.wrap (IntKind.i64.wrap (TN x+x.user)+x.tables)+x.spaces)+x.fJ)+x.fI)
def ug (z:br) (p:Nat):Bool:=jC (jk z p).order 0 3&&(jC (jk z p).user 2 4096&&(jC (jk z p).tables 4 4096&&(jC (jk z p).spaces 1 4096&&(jC (jk z p).fJ 1 4096&&
  (jC (jk z p).fI 1 4096&&(jC (jk z p).slots 1 1024&&(decide (alw (z.parts.take (p+1)) 0≤1024)&&(!sL z||(decide (TN (jk z p)≤ahu z)&&decide (needZ (jk z p)≤BD z p))))))))))
def WT (z:br) (p:Nat):Int:=if ab1 z p then (if ug z p then 0 else 111) else 110
theorem Up {z:br} (h:sL z=true):z.fB≠0:=by
  simp [sL,aa4,jC] at h; omega
def w64 (n:Int):Int:=IntKind.u64.wrap n
structure dH where
  image:Int
  user:Int
  limit:Int
  nodes:Int
def Dy (s:dH):List AV:=[.int .i64 s.image,.int .i64 s.user,.int .i64 s.limit,.int .i64 s.nodes]
theorem shape_0 (s:dH):(Dy s)[0]?=some (.int .i64 s.image):=rfl
theorem shape_1 (s:dH):(Dy s)[1]?=some (.int .i64 s.user):=rfl
theorem shape_2 (s:dH):(Dy s)[2]?=some (.int .i64 s.limit):=rfl
theorem shape_3 (s:dH):(Dy s)[3]?=some (.int .i64 s.nodes):=rfl
theorem apT (s:dH):sub (Dy s) 0 4=some (Dy s):=by rw [pN]; rfl
def maxZ (a b:Int):Int:=if a<b then b else a
def minZ (a b:Int):Int:=if b<a then b else a
def pageC (z:br):Int:=w64 (z.step+w64 (2*z.miss))
def allC (z:br) (s:dH):Int:=w64 (w64 s.limit*pageC z)
def an1 (z:br) (s:dH):Int:=w64 (w64 (w64 (w64 (2*w64 s.user)+1)*z.step)+z.disk)
def aoN (z:br):Int:=w64 (113*z.miss)
def ajv (z:br):Int:=w64 (64*pageC z)
def acq (z:br) (s:dH):List Int:=[0,w64 (17*z.miss),w64 (allC z s+z.miss),w64 (w64 (z.miss+w64 (w64 (16*w64 s.nodes)*z.miss))+allC z s),aoN z,ajv z,
  w64 (w64 (64*w64 (z.step+z.miss))+z.miss),maxZ (aoN z) (ajv z),w64 (w64 (w64 (w64 (26*z.miss)+z.fault)+an1 z s)+z.disk),
  w64 (w64 (w64 (w64 (64*z.miss)+w64 (2*z.fault))+w64 (2*an1 z s))+z.disk),0]
def mostC (z:br) (s:dH):Int:=w64 (w64 (w64 s.image*z.miss)+(acq z s).foldl maxZ 0)
def ah0 (z:br) (s:dH):Int:=if abw z=0 then (if (decide (s.image=1)||(decide (s.image=2)||(decide (s.image=4)||decide (s.image=8))))&&(jC s.user 2 4096&&(jC s.limit 1 5120&&jC s.nodes 1 4096)) then 0 else 2) else abw z
def ag8 (z:br) (p:Nat):dH:=⟨TN (jk z p),(jk z p).user,minZ (IntKind.i64.wrap (IntKind.i64.wrap ((jk z p).user+(jk z p).slots)-1)) (IntKind.i64.wrap (16*(jk z p).fI)),(jk z p).tables⟩
def Yw (z:br) (lines trans:Int):Int:=if abw z=0 then (if jC lines 0 65536&&jC trans 0 64 then 0 else 2) else abw z
def aoX (z:br) (lines trans:Int):Int:=w64 (w64 (IntKind.i64.wrap (lines+trans))*z.step)
def Cb (z:br) (p:Nat):Bool:=!decide (WT z p=0)||(decide (ah0 z (ag8 z p)=0)&&decide (mostC z (ag8 z p)≤z.slice))
def Fb (z:br):Bool:=decide (1≤z.slice)&&(decide (z.slice≤4194304)&&(decide (z.pad≤4194304)&&(decide (z.first<1099511627776)&&(!sL z||(!decide (abw z=0)||
  (decide (Yw z (IntKind.i64.wrap (z.l1sets*z.l1ways)) z.tlb=0)&&(decide (aoX z (IntKind.i64.wrap (z.l1sets*z.l1ways)) z.tlb≤z.pad)&&(List.range z.parts.length).all (Cb z))))))))
def ac2 (z:br):Bool:=jC z.fH.length 1 64&&z.fH.all fun p=>jC p 0 (IntKind.i64.wrap (z.parts.length-1))
def NX (z:br):Bool:=sL z&&(decide (abw z=0)&&(Fb z&&(ac2 z&&(List.range (min z.parts.length 8)).all fun p=>decide (WT z p=0))))
end Go.Ai
/- The facts by which a printed function is read, in one. -/
namespace Go.Ai
set_option linter.defProp false
theorem getAt0 (a:AV) (l:List AV):(a::l)[0]?=some a:=rfl
theorem getAtS (a:AV) (l:List AV) (n:Nat):(a::l)[n+1]?=l[n]?:=rfl
def au:=And.intro @nd (And.intro @qZ (And.intro @tf (And.intro @xK (And.intro @Ue (And.intro @Yf (And.intro @akV (And.intro @aku (And.intro @Lc (And.intro @akl (And.intro @alg (And.intro @ak7 (And.intro @nw (And.intro @wy (And.intro @tO (And.intro @B6 (And.intro @pX (And.intro @NL (And.intro @agH (And.intro @anz (And.intro @FS (And.intro @KR (And.intro @ajX (And.intro @aef (And.intro @afw (And.intro @ak2 (And.intro @anN (And.intro @alb (And.intro @nfa_eq (And.intro @agy (And.intro @agI (And.intro @an8 (And.intro @ldI_ptr (And.intro @ldB_ptr (And.intro @fldI_ptr (And.intro @fldB_ptr (And.intro @fld_ptr1 (And.intro @fld_ptrN (And.intro @apS (And.intro @ap6 (And.intro @nfld_ptr (And.intro @Nat.zero_add (And.intro @Nat.add_zero (And.intro @getAt0 (@getAtS))))))))))))))))))))))))))))))))))))))))))))
def ck:=And.intro @cfg_0 (And.intro @cfg_1 (And.intro @cfg_2 (And.intro @cfg_3 (And.intro @cfg_4 (And.intro @cfg_5 (And.intro @cfg_6 (And.intro @cfg_7 (And.intro @cfg_8 (And.intro @cfg_9 (And.intro @cfg_10 (And.intro @cfg_11 (And.intro @cfg_12 (And.intro @cfg_13 (And.intro @cfg_14 (And.intro @cfg_15 (And.intro @cfg_16 (And.intro @part_0 (And.intro @part_1 (And.intro @part_2 (And.intro @part_3 (And.intro @part_4 (And.intro @part_5 (And.intro @part_6 (And.intro @part_7 (And.intro @sub_cfg (And.intro @sub_cost (And.intro @apZ (And.intro @cost_0 (And.intro @cost_1 (And.intro @cost_2 (And.intro @cost_3 (And.intro @cost_4 (And.intro @cost_5 (And.intro @shape_0 (And.intro @shape_1 (And.intro @shape_2 (And.intro @shape_3 (@apT))))))))))))))))))))))))))))))))))))))
end Go.Ai
