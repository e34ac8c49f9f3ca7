/- A region that draws its order: every order ends where the written one ends. -/
import Derived.Test.YtpoobhhdgjgdgaaGreatAiAgain
set_option linter.all false
namespace Go.Ai
structure Comps (P:Program) (nt:Nat) (ops:Array Oper) (l:List Ins) (π:Nat→Nat):Prop where
  at_:∀ (i:Nat) (o:Oper),i<l.length→ops[π i]?=some o→∃ q x,l[i]?=some x∧xl P nt ops q o=some x
structure Inv (nt:Nat) (ops:Array Oper) (l:List Ins) (π:Nat→Nat) (T:Nat→Tr AV) (H:Nat→Heap) (V:Nat→AV) (M₀:Mp) (D₀:Nat→Prop) (w₀:World)
    (S:Array Bool) (M:Mp) (D:Nat→Prop) (k:Nat) (a:Act) (w:World):Prop where
  cl:eJ ops S
  asz:nt≤a.tmps.size
  df:a.defers = []
  t1:∀ t v,t<nt→val l π V (T 0) S l.length (key t)=some v→a.tmps.getD t undef=im M v∧okv D v
  t2:∀ j,j<l.length→On S (π j)→okv (fun b=>D b∧b<(H (j+1)).nx) (V j)
  k1:k≤l.length
  k2:∀ j x,j<k→l[j]?=some x→mw x = .eff→On S (π j)
  k3:∀ x,l[k]?=some x→mw x = .eff∧¬ On S (π k)
  rel:Rel M D (H k) w
  ext:Ext M₀ D₀ (H 0) w₀ M D (H k) w
  dom:∀ b,D b→D₀ b∨∃ j,j<l.length∧On S (π j)∧(H j).nx≤b∧b<(H (j+1)).nx
  okb:∀ m,m≤k→(∀ j x,m≤j→j<k→l[j]?=some x→mw x≠.eff)→∀ b,D b→b<(H m).nx→OkB (fun c=>D c∧c<(H m).nx) ((H k).get b)
  pend:∀ i x,i<k→l[i]?=some x→Jr x=true→¬ On S (π i)→∀ b,(H i).nx≤b→b<(H (i+1)).nx→(H k).get b=(H (i+1)).get b
theorem TK {c:Cl} (h:c≠.pure):U7 .eff c=true:=by cases c<;>simp_all [U7]
theorem anw {c:Cl} (h:c≠.pure):U7 c .eff=true:=by cases c<;>simp_all [U7]
theorem aog (l:List Ins) (i:Nat) (hi:i≤l.length):∃ k,i≤k∧k≤l.length∧(∀ j x,i≤j→j<k→l[j]?=some x→mw x≠.eff)∧(∀ x,l[k]?=some x→mw x = .eff):=by
  by_cases h:∃ k,i≤k∧∃ x,l[k]?=some x∧mw x = .eff
  · have key:∀ n,∀ k,k-i=n→i≤k→(∃ x,l[k]?=some x∧mw x = .eff)→∃ k,i≤k∧k≤l.length∧(∀ j x,i≤j→j<k→l[j]?=some x→mw x≠.eff)∧(∀ x,l[k]?=some x→mw x = .eff):=by
      intro n
      induction n using Nat.strongRecOn with
      | _ n ih=>
        intro k hk hik ⟨x,hx,he⟩
        by_cases hb:∃ j,i≤j∧j<k∧∃ y,l[j]?=some y∧mw y = .eff
        · obtain ⟨j,h1,h2,h3⟩:=hb
          exact ih (j-i) (by omega) j rfl h1 h3
        · refine ⟨k,hik,?_,fun j y h1 h2 h3 h4=>hb ⟨j,h1,h2,y,h3,h4⟩,fun y hy=>by rw [hx] at hy; cases hy; exact he⟩
          rcases fQ k l.length with h' | h'
          · omega
          · rw [gf h'] at hx; cases hx
    obtain ⟨k,h1,h2⟩:=h
    exact key _ k rfl h1 h2
  · refine ⟨l.length,hi,fY _,fun j x h1 _ h3 h4=>h ⟨j,h1,x,h3,h4⟩,fun x hx=>?_⟩
    rw [gf (fY _)] at hx; cases hx
theorem okv_and {D E:Nat→Prop}:∀ {v:AV},okv D v→(∀ b,D b→E b)→okv (fun b=>D b∧E b) v:=fun h he=>lh (fun b hb=>⟨hb,he b hb⟩) _ h
theorem am0 (l:List Ins) (i:Nat):∀ k,i≤k→(∀ j x,i≤j→j<k→l[j]?=some x→mw x≠.eff)∨∃ j x,i≤j∧j<k∧l[j]?=some x∧mw x = .eff∧∀ m y,j+1≤m→m<k→l[m]?=some y→mw y≠.eff
  | 0,h=>.inl fun j x h1 h2=>by omega
  | k+1,h=>by
    by_cases e:i=k+1
    · exact .inl fun j x h1 h2=>by omega
    · by_cases hk:∃ x,l[k]?=some x∧mw x = .eff
      · obtain ⟨x,hx,he⟩:=hk
        exact .inr ⟨k,x,by omega,by omega,hx,he,fun m y h1 h2=>by omega⟩
      · have hk':∀ x,l[k]?=some x→mw x≠.eff:=fun x hx he=>hk ⟨x,hx,he⟩
        rcases am0 l i k (by omega) with h1 | ⟨j,x,h1,h2,h3,h4,h5⟩
        · refine .inl fun j x h2 h3 hx=>?_
          by_cases ej:j=k
          · subst ej; exact hk' x hx
          · exact h1 j x h2 (by omega) hx
        · refine .inr ⟨j,x,h1,by omega,h3,h4,fun m y h6 h7 hy=>?_⟩
          by_cases em:m=k
          · subst em; exact hk' y hy
          · exact h5 m y h6 (by omega) hy
section
variable {P:Program} {nt:Nat} {ops:Array Oper} {l:List Ins} {π:Nat→Nat} {R:Nat→Nat→Prop} {cf:cj} {T:Nat→Tr AV} {H:Nat→Heap} {V:Nat→AV} {M₀:Mp} {D₀:Nat→Prop} {w₀:World}
  {S:Array Bool} {M:Mp} {D:Nat→Prop} {k:Nat} {a:Act} {w:World}
theorem Inv.put (d:Draws ops l π R) (h:Inv nt ops l π T H V M₀ D₀ w₀ S M D k a w) {i:Nat} (hi:π i∈Region.ready .any ops S) {o:Oper} {x:Ins} (hx:l[i]?=some x)
    {q:Bool} (hc:xl P nt ops q o=some x) {M':Mp} {D':Nat→Prop} (hk:∀ b,D b→D' b) (ha:∀ b,D b→M' b=M b) (hv:okv D' (V i)) :
    nt≤(a.put o.dst (im M' (V i))).tmps.size∧(a.put o.dst (im M' (V i))).defers = []∧
    ∀ t v,t<nt→val l π V (T 0) (S.setIfInBounds (π i) true) l.length (key t)=some v→(a.put o.dst (im M' (V i))).tmps.getD t undef=im M' v∧okv D' v:=by
  have hil:i<l.length:=by
    rcases fQ i l.length with h' | h'
    · exact h'
    · rw [gf h'] at hx; cases hx
  have hdst:∃ c,WV nt o.dst=some c∧x.dst=c:=by
    unfold xl at hc
    simp only [fT] at hc
    obtain ⟨g,_,c,hc',hc⟩:=hc
    refine ⟨c,hc',?_⟩
    split at hc
    · simp only [fT,Option.some.injEq] at hc
      obtain ⟨_,_,_,_,rfl⟩:=hc; rfl
    · simp only [fT,Option.some.injEq] at hc
      obtain ⟨_,_,rfl⟩:=hc; rfl
  obtain ⟨c,hcd,hxd⟩:=hdst
  have keep:∀ t v,t<nt→x.dst≠some (key t)→val l π V (T 0) (S.setIfInBounds (π i) true) l.length (key t)=some v→a.tmps.getD t undef=im M' v∧okv D' v:=by
    intro t v ht hne hv'
    rw [agO fun k y hk hy=>by
      have hkl:k<l.length:=by
        rcases fQ k l.length with h' | h'
        · exact h'
        · rw [gf h'] at hy; cases hy
      have:=d.inj k i hkl hil hk
      subst this
      rw [hx] at hy; cases hy; exact hne] at hv'
    obtain ⟨h1,h2⟩:=h.t1 t v ht hv'
    exact ⟨by rw [h1,o0 ha _ h2],lh hk _ h2⟩
  cases hod:o.dst with
  | none=>
    rw [hod] at hcd
    cases hcd
    refine ⟨h.asz,h.df,fun t v ht hv'=>keep t v ht (by rw [hxd]; simp) hv'⟩
  | some dd=>
    rw [hod] at hcd
    simp only [WV] at hcd
    split at hcd
    · rename_i hlt
      cases hcd
      refine ⟨by simp [Act.put]; exact h.asz,h.df,fun t v ht hv'=>?_⟩
      by_cases e:dd=t
      · subst e
        have hxd':x.dst=some (key dd):=by rw [hxd,Li]
        rw [abC (i:=i+1) (by omega) (fun j y h1 h2 hy hyd=>?_)] at hv'
        · rw [aoi hx (On.at_set (by rw [h.cl.size]; exact d.rng i hil)) hxd'] at hv'
          cases hv'
          refine ⟨?_,hv⟩
          have:=fW hlt h.asz
          simp [Act.put,this]
        · intro hon
          have hjl:j<l.length:=by
            rcases fQ j l.length with h' | h'
            · exact h'
            · rw [gf h'] at hy; cases hy
          rcases hon.of_set with e' | hon
          · have:=d.inj j i hjl hil e'; omega
          · rcases d.ord i j x y (by omega) hx hy with hb | ⟨hb,_⟩
            · exact (EP hi).1 (h.cl.bef d hon hb)
            · rw [touch_dd hxd' hyd] at hb; cases hb
      · obtain ⟨h1,h2⟩:=keep t v ht (by rw [hxd,Li]; intro e'; exact e (CC (by simpa using e'))) hv'
        refine ⟨?_,h2⟩
        rw [← h1]
        simp [Act.put,Array.getElem?_setIfInBounds_ne e]
    · cases hcd
theorem Inv.reads (d:Draws ops l π R) (hl:Lex cf l T H V) (hm:cH cf) (h0:HpOk (H 0)) (hd0:∀ b,D₀ b→b<(H 0).nx) (ht0:∀ t v,t<nt→(T 0).get (key t)=some v→okv D₀ v)
    (h:Inv nt ops l π T H V M₀ D₀ w₀ S M D k a w) {i:Nat} (hi:π i∈Region.ready .any ops S) {x:Ins} (hx:l[i]?=some x) :
    bX M (fun b=>D b∧b<(H i).nx) nt (RH x.reads (T i)) a:=by
  have hil:i<l.length:=by
    rcases fQ i l.length with h' | h'
    · exact h'
    · rw [gf h'] at hx; cases hx
  refine ⟨h.asz,fun t v ht hv=>?_⟩
  obtain ⟨hp,hg⟩:=Qj hv
  have early:∀ j y,j<i→l[j]?=some y→y.dst=some (key t)→On S (π j):=by
    intro j y hj hy hyd
    rcases d.ord j i y x hj hy hx with hb | ⟨hb,_⟩
    · exact h.cl.ready d hi hb
    · rw [touch_dr hyd hp] at hb; cases hb
  have e1:val l π V (T 0) S l.length (key t)=some v:=by
    rw [abC (i:=i) (by omega),amI hl (by omega) early,hg]
    intro j y h1 h2 hy hyd hon
    by_cases e:j=i
    · subst e; exact (EP hi).1 hon
    · rcases d.ord i j x y (by omega) hx hy with hb | ⟨hb,_⟩
      · exact (EP hi).1 (h.cl.bef d hon hb)
      · rw [touch_rd hp hyd] at hb; cases hb
  refine ⟨(h.t1 t v ht e1).1,?_⟩
  rcases apU hl (by omega) hg with h1 | ⟨j,y,hj,hy,hyd,rfl⟩
  · have:=Lex.nx hl hm h0 (i:=0) (j:=i) (by omega) (by omega)
    exact lh (fun b hb=>⟨h.ext.keep b hb,fW (hd0 b hb) this⟩) _ (ht0 t v ht h1)
  · have:=Lex.nx hl hm h0 (i:=j+1) (j:=i) (by omega) (by omega)
    exact lh (fun b hb=>⟨hb.1,fW hb.2 this⟩) _ (h.t2 j (by omega) (early j y hj hy hyd))
theorem Inv.step (d:Draws ops l π R) (cs:Comps P nt ops l π) (hk:eN P cf) (hm:cH cf) (hl:Lex cf l T H V) (hR:Redo cf l T H V R) (h0:HpOk (H 0)) (hd0:∀ b,D₀ b→b<(H 0).nx)
    (ht0:∀ t v,t<nt→(T 0).get (key t)=some v→okv D₀ v) {Q:Exit→Act→World→Prop} {K:Act→World→Prop}
    (h:Inv nt ops l π T H V M₀ D₀ w₀ S M D k a w) {i:Nat} (hil:i<l.length) (hi:π i∈Region.ready .any ops S)
    (hK:∀ a' w' M' D' k',Inv nt ops l π T H V M₀ D₀ w₀ (S.setIfInBounds (π i) true) M' D' k' a' w'→K a' w'):wpOp P ops Q (π i) K a w:=by
  obtain ⟨hoff,o,ho⟩:=EP hi
  obtain ⟨q,x,hx,hc⟩:=cs.at_ i o hil ho
  have inl:∀ {j:Nat} {y:Ins},l[j]?=some y→j<l.length:=fun {j y} hy=>by
    rcases fQ j l.length with h' | h'
    · exact h'
    · rw [gf h'] at hy; cases hy
  have ofs:∀ {j},j<l.length→On (S.setIfInBounds (π i) true) (π j)→j=i∨On S (π j):=fun {j} hj hon=>by
    rcases hon.of_set with e | hon
    · exact .inl (d.inj j i hj hil e)
    · exact .inr hon
  have hts:=h.reads d hl hm h0 hd0 ht0 hi hx
  have hcl':=h.cl.set hi
  have hiS:π i<S.size:=by rw [h.cl.size]; exact d.rng i hil
  have nxm:∀ {m n},m≤n→n≤l.length→(H m).nx≤(H n).nx:=fun a b=>Lex.nx hl hm h0 a b
  have hval:=hl.val i x hx
  have hcongr:∀ K,nQ cf x (RH x.reads (T i)) K=nQ cf x (T i) K:=fun K=>ao7 fun p hp=>aco hp
  have before:∀ j y,j<i→l[j]?=some y→U7 (mw y) (mw x)=true→¬ R j i→¬ Late y x→On S (π j):=by
    intro j y hj hy hcl hnr hnl
    rcases d.ord j i y x hj hy hx with hb | ⟨_,hb | hb | hb⟩
    · exact h.cl.ready d hi hb
    · rw [hcl] at hb; cases hb
    · exact (hnr hb).elim
    · exact (hnl hb).elim
  have after:∀ j y,i<j→l[j]?=some y→U7 (mw x) (mw y)=true→¬ R i j→¬ Late x y→¬ On S (π j):=by
    intro j y hj hy hcl hnr hnl hon
    rcases d.ord i j x y hj hx hy with hb | ⟨_,hb | hb | hb⟩
    · exact hoff (h.cl.bef d hon hb)
    · rw [hcl] at hb; cases hb
    · exact hnr hb
    · exact hnl hb
  have notL:mw x≠.load→(∀ j y,l[j]?=some y→mw y≠.load→¬ R j i∧¬ R i j):=fun hxl j y hy hyl=>by
    refine ⟨fun hr=>?_,fun hr=>?_⟩
    · rcases hR.kind j i y x hy hx hr with ⟨h1,_⟩ | ⟨_,h1⟩
      · exact hyl h1
      · exact hxl h1
    · rcases hR.kind i j x y hx hy hr with ⟨h1,_⟩ | ⟨_,h1⟩
      · exact hxl h1
      · exact hyl h1
  have effA:∀ {y:Ins},mw y = .eff→Jr y=false:=fun {y} hy=>by
    cases y with
    | op g d o=>
      have hy:agw o = .eff:=hy
      simp only [Jr,hy]
    | call g d q f args=>rfl
  have notD:∀ {j:Nat} {b:Nat},j<l.length→¬ On S (π j)→(H j).nx≤b→b<(H (j+1)).nx→¬ D b:=fun {j b} hj hn h1 h2 hD=>by
    rcases h.dom b hD with h3 | ⟨m,h3,h4,h5,h6⟩
    · have:=hd0 b h3
      have:=nxm (m:=0) (n:=j) (Nat.zero_le _) (by omega)
      omega
    · rcases fO m j with hmj | rfl | hmj
      · have:=nxm (m:=m+1) (n:=j) hmj (by omega); omega
      · exact hn h4
      · have:=nxm (m:=j+1) (n:=m) hmj (by omega); omega
  have pend':∀ j x',j<k→l[j]?=some x'→Jr x'=true→¬ On (S.setIfInBounds (π i) true) (π j)→∀ b,(H j).nx≤b→b<(H (j+1)).nx→(H k).get b=(H (j+1)).get b:=
    fun j x' h1 h2 h3 h4=>h.pend j x' h1 h2 h3 fun hon=>h4 hon.set
  have k2':mw x≠.eff→∀ j y,j<k→l[j]?=some y→mw y = .eff→On (S.setIfInBounds (π i) true) (π j):=fun _ j y h1 h2 h3=>(h.k2 j y h1 h2 h3).set
  have k3':mw x≠.eff→∀ y,l[k]?=some y→mw y = .eff∧¬ On (S.setIfInBounds (π i) true) (π k):=by
    intro he y hy
    obtain ⟨h1,h2⟩:=h.k3 y hy
    refine ⟨h1,fun hon=>?_⟩
    rcases ofs (inl hy) hon with e | hon
    · subst e; rw [hx] at hy; cases hy; exact he h1
    · exact h2 hon
  by_cases hp:mw x≠.eff∧H (i+1)=H i∧∀ K,nQ cf x (T i) K=some (V i,K)
  ·
    obtain ⟨he,hH,hany⟩:=hp
    let Hd:Heap:=⟨.leaf,(H i).nx,0⟩
    have hdead:∀ b,Hd.get b=none:=fun b=>Tr.fC _
    have hrd:Rel M (fun b=>D b∧b<(H i).nx) Hd w:=⟨fun b hb=>hb.2,fun b _=>by rw [hdead]; trivial,fun b c _ _ _ hw _=>by rw [hdead] at hw; exact hw.elim⟩
    refine Iu (q:=q) hk ⟨Nat.zero_le _,fun b hb=>by rw [hdead] at hb; exact hb.1.elim⟩ hc ho hts hrd (by rw [hcongr]; exact hany Hd) fun M' D' w' hr' hx' hv'=>?_
    have hfr:∀ c,c<w.heap.size→w'.heap[c]?=w.heap[c]?:=fun c hcs=>hx'.frame c hcs fun b _ hw=>by rw [hdead] at hw; exact hw.elim
    have hv1:okv (fun b=>D b∧b<(H i).nx) (V i):=lh (fun b hb=>hx'.old b hb (hr'.dom b hb)) _ hv'
    have hco:im M' (V i)=im M (V i):=o0 hx'.agree _ hv1
    rw [hco]
    have hvD:okv D (V i):=lh (fun b hb=>hb.1) _ hv1
    obtain ⟨p1,p2,p3⟩:=h.put d hi hx hc (M':=M) (D':=D) (fun _ h=>h) (fun _ _=>rfl) hvD
    refine hK _ _ M D k ⟨hcl',p1,p2,p3,fun j hjl hj=>?_,h.k1,k2' he,k3' he,?_,?_,?_,h.okb,pend'⟩
    · rcases ofs hjl hj with rfl | hj
      · rw [hH]; exact hv1
      · exact h.t2 j hjl hj
    · exact ⟨h.rel.dom,fun b hb=>(h.rel.blk b hb).keep (fun _ h=>h) (fun _ _=>rfl) (fun hlv=>hfr _ ((h.rel.blk b hb).lt hlv)) hx'.size,h.rel.inj⟩
    · exact { h.ext with
        frame:=fun c hc' hb=>by rw [hfr c (fW hc' h.ext.size)]; exact h.ext.frame c hc' hb
        size:=ga h.ext.size hx'.size
        os:=hx'.os.trans h.ext.os
        tape:=hx'.tape.trans h.ext.tape
        output:=hx'.output.trans h.ext.output }
    · intro b hb
      rcases h.dom b hb with h1 | ⟨j,h1,h2,h3⟩
      · exact .inl h1
      · exact .inr ⟨j,h1,h2.set,h3⟩
  have hpp:mw x≠.pure:=fun h'=>hp ⟨by rw [h']; simp,hl.pure hx h'⟩
  by_cases he:mw x = .eff
  ·
    have hki:k=i:=by
      rcases fO k i with hlt | rfl | hlt
      · have hky:l[k]?=some l[k]:=fU (by omega)
        obtain ⟨h1,h2⟩:=h.k3 _ hky
        exact (h2 (before k _ hlt hky (by rw [h1,he]; rfl) (notL (by rw [he]; simp) k _ hky (by rw [h1]; simp)).1 fun hlt=>by have:=effA h1; rw [hlt.1] at this; cases this)).elim
      · rfl
      · exact (hoff (h.k2 i x hlt hx he)).elim
    subst hki
    have hD:∀ b,D b→b<(H k).nx:=h.rel.dom
    have hts':bX M D nt (RH x.reads (T k)) a:=hts.mono (fun b hb=>hb.1) fun b _=>rfl
    refine Iu (q:=q) hk (hl.mono hm h0 k h.k1) hc ho hts' h.rel (by rw [hcongr]; exact hval) fun M' D' w' hr' hx' hv'=>?_
    obtain ⟨p1,p2,p3⟩:=h.put d hi hx hc (M':=M') (D':=D') hx'.keep hx'.agree hv'
    obtain ⟨k',g1,g2,g3,g4⟩:=aog l (k+1) (by omega)
    have calm:=fun b (hb:b<(H (k+1)).nx)=>(Lex.calm hl hm g1 g2 (fun m y h1 h2 h3=>g3 m y h1 h2 h3) b hb).2
    have hnx:=nxm g1 g2
    refine hK _ _ M' D' k' ⟨hcl',p1,p2,p3,fun j hjl hj=>?_,g2,?_,?_,hr'.later hnx calm,(h.ext.trans hx').later hr'.dom hnx calm,?_,?_,?_⟩
    · rcases ofs hjl hj with rfl | hj
      · exact okv_and hv' hr'.dom
      · exact lh (fun b hb=>⟨hx'.keep b hb.1,hb.2⟩) _ (h.t2 j hjl hj)
    · intro j y h1 h2 h3
      rcases fO j k with hlt | rfl | hlt
      · exact (h.k2 j y hlt h2 h3).set
      · exact On.at_set hiS
      · exact (g3 j y (by omega) h1 h2 h3).elim
    · intro y hy
      refine ⟨g4 y hy,fun hon=>?_⟩
      rcases ofs (inl hy) hon with e | hon
      · omega
      · exact after k' y (by omega) hy (by rw [he]; exact TK (by rw [g4 y hy]; simp)) (notL (by rw [he]; simp) k' y hy (by rw [g4 y hy]; simp)).2 (fun hlt=>by have:=effA he; rw [hlt.1] at this; cases this) hon
    · intro b hb
      by_cases hlt:b<(H k).nx
      · rcases h.dom b (hx'.old b hb hlt) with h1 | ⟨j,h1,h2,h3⟩
        · exact .inl h1
        · exact .inr ⟨j,h1,h2.set,h3⟩
      · exact .inr ⟨k,hil,On.at_set hiS,by omega,hr'.dom b hb⟩
    · intro m hmk hne b hb hbm
      have hm1:k+1≤m:=by
        rcases fQ k m with h' | h'
        · exact h'
        · exact (hne k x h' (by omega) hx he).elim
      have hnm:=nxm hm1 (by omega)
      rw [calm b (hr'.dom b hb)]
      exact (hr'.blk b hb).okB.mono fun c hc=>⟨hc,fW (hr'.dom c hc) hnm⟩
    · intro j x' h1 h2 h3 h4 b h5 h6
      have hjl:=inl h2
      rcases fO j k with hlt | rfl | hlt
      · have hn:¬ On S (π j):=fun hon=>h4 hon.set
        have hbk:b<(H k).nx:=fW h6 (nxm hlt h.k1)
        rw [calm b (fW hbk (nxm (Nat.le_succ k) (by omega))),hx'.unm b hbk (notD hjl hn h5 h6)]
        exact h.pend j x' hlt h2 h3 hn b h5 h6
      · rw [hx] at h2; cases h2
        have:=effA he; rw [h3] at this; cases this
      · exact (Lex.calm hl hm (i:=j+1) (j:=k') h1 g2 (fun m y h7 h8 h9=>g3 m y (by omega) h8 h9) b h6).2
  by_cases hld:mw x = .load
  ·
    have stage:∃ m,m≤k∧(∀ j y,m≤j→j<k→l[j]?=some y→mw y≠.eff)∧nQ cf x (T i) (H m)=some (V i,H m)∧
        (∀ b,D b→b<(H i).nx→b<(H m).nx)∧(okv (fun b=>D b∧b<(H m).nx) (V i)→okv (fun b=>D b∧b<(H (i+1)).nx) (V i)):=by
      have stay:∀ {m},(∃ H',nQ cf x (T i) (H m)=some (V i,H'))→nQ cf x (T i) (H m)=some (V i,H m):=fun ⟨H',hv⟩=>by
        have:=aqs hld hv
        rw [this] at hv; exact hv
      rcases fO k i with hlt | heq | hlt
      · have hky:l[k]?=some l[k]:=fU (by omega)
        obtain ⟨h1,h2⟩:=h.k3 _ hky
        refine ⟨k,fY _,fun j y h3 h4=>by omega,?_,fun b hb _=>h.rel.dom b hb,fun hv=>lh (fun b hb=>⟨hb.1,fW hb.2 (nxm (by omega) (by omega))⟩) _ hv⟩
        rcases d.ord k i _ x hlt hky hx with hb | ⟨_,hb | hb | hb⟩
        · exact (h2 (h.cl.ready d hi hb)).elim
        · rw [h1,hld] at hb; cases hb
        · exact stay (hR.bwd k i _ x hky hx hb hld)
        · have:=effA h1; rw [hb.1] at this; cases this
      · subst heq; exact (he (h.k3 x hx).1).elim
      · rcases am0 l i k (Nat.le_of_lt hlt) with h1 | ⟨j,y,h1,h2,h3,h4,h5⟩
        · refine ⟨i,Nat.le_of_lt hlt,h1,stay ⟨_,hval⟩,fun b _ hb=>hb,fun hv=>lh (fun b hb=>⟨hb.1,fW hb.2 (nxm (by omega) (by omega))⟩) _ hv⟩
        · have hij:i<j:=by
            rcases fQ i j with h6 | h6
            · exact h6
            · have:j=i:=by omega
              subst this; rw [hx] at h3; cases h3; exact (he h4).elim
          have hon:=h.k2 j y h2 h3 h4
          rcases d.ord i j x y hij hx h3 with hb | ⟨_,hb | hb | hb⟩
          · exact (hoff (h.cl.bef d hon hb)).elim
          · rw [hld,h4] at hb; cases hb
          rotate_left
          · have h6:mw x = .alloc:=by
              have:=hb.1
              cases x with
              | op g d o=>cases hc:agw o<;>simp_all [Jr,mw]
              | call g d q f args=>cases this
            rw [hld] at h6; cases h6
          · obtain ⟨h6,h7⟩:=hR.fwd i j x y hx h3 hb hld
            exact ⟨j+1,h2,h5,stay h6,fun b _ hb=>fW hb (nxm (by omega) (by have:=h.k1; omega)),
              fun hv=>lh (fun b hb=>⟨hb.1.1,fW hb.2 (nxm (by omega) (by omega))⟩) _ (lowA_ok h7 hv)⟩
    obtain ⟨m,hmk,hm2,hmv,hmr,hlow⟩:=stage
    have hml:m≤l.length:=ga hmk h.k1
    have calm:=fun b (hb:b<(H m).nx)=>(Lex.calm hl hm hmk h.k1 hm2 b hb).2
    have hrp:Rel M (fun b=>D b∧b<(H m).nx) (H m) w:=by
      refine ⟨fun b hb=>hb.2,fun b hb=>?_,fun b c hb hc' e hw hlv=>h.rel.inj b c hb.1 hc'.1 e (by rw [calm b hb.2]; exact hw) (by rw [calm c hc'.2]; exact hlv)⟩
      rw [← calm b hb.2]
      exact (h.rel.blk b hb.1).cut (h.okb m hmk hm2 b hb.1 hb.2)
    have hpk:=hl.mono hm h0 m hml
    have hts':bX M (fun b=>D b∧b<(H m).nx) nt (RH x.reads (T i)) a:=hts.mono (fun b hb=>⟨hb.1,hmr b hb.1 hb.2⟩) fun _ _=>rfl
    refine Iu (q:=q) hk hpk hc ho hts' hrp (by rw [hcongr]; exact hmv) fun M' D' w' hr' hx' hv'=>?_
    have sub:∀ b,D' b→D b∧b<(H m).nx:=fun b hb=>hx'.old b hb (hr'.dom b hb)
    have part:Part M M' D (fun b=>D b∧b<(H m).nx) D' (H k) (H m) (H m) w w':=
      ⟨h.rel,hx',hr',fun b hb=>hb.1,fun b hb=>calm b hb.2,fun b hb=>calm b (hr'.dom b hb),fun b hb hb'=>⟨hb,hr'.dom b hb'⟩,
        fun b hb=>fW (hr'.dom b hb) (nxm hmk h.k1),fun b hb hn _=>hn (sub b hb)⟩
    have hv1:okv (fun b=>D b∧b<(H m).nx) (V i):=lh sub _ hv'
    have hvD:okv (fun b=>D b∨D' b) (V i):=lh (fun b hb=>.inl hb.1) _ hv1
    have hco:im M' (V i)=im (Mp.join M M' D') (V i):=(o0 (fun b hb=>Mp.fE hb) _ hv').symm
    rw [hco]
    obtain ⟨p1,p2,p3⟩:=h.put d hi hx hc (M':=Mp.join M M' D') (D':=fun b=>D b∨D' b) (fun _ h=>.inl h) (fun b hb=>part.agree hb) hvD
    have both:∀ b,D b∨D' b→D b:=fun b hb=>hb.elim id fun h=>(sub b h).1
    refine hK _ _ (Mp.join M M' D') (fun b=>D b∨D' b) k ⟨hcl',p1,p2,p3,fun j hjl hj=>?_,h.k1,k2' he,k3' he,part.rel,part.ext h.ext (nxm (Nat.zero_le _) hml),?_,?_,pend'⟩
    · rcases ofs hjl hj with rfl | hj
      · exact lh (fun b hb=>⟨.inl hb.1,hb.2⟩) _ (hlow hv1)
      · exact lh (fun b hb=>⟨.inl hb.1,hb.2⟩) _ (h.t2 j hjl hj)
    · intro b hb
      rcases h.dom b (both b hb) with h1 | ⟨j,h1,h2,h3⟩
      · exact .inl h1
      · exact .inr ⟨j,h1,h2.set,h3⟩
    · intro m' hmk' hne b hb hbm
      exact (h.okb m' hmk' hne b (both b hb) hbm).mono fun c hc=>⟨.inl hc.1,hc.2⟩
  by_cases hal:Jr x=true
  ·
    have hca:mw x = .alloc:=by
      cases x with
      | op g d o=>cases hc:agw o<;>simp_all [Jr,mw]
      | call g d q f args=>cases hal
    have hik:i<k:=by
      rcases fO k i with hlt | heq | hlt
      · have hky:l[k]?=some l[k]:=fU (by omega)
        obtain ⟨h1,h2⟩:=h.k3 _ hky
        refine (h2 (before k _ hlt hky (by rw [h1]; exact TK hpp) (notL hld k _ hky (by rw [h1]; simp)).1 fun hlt=>?_)).elim
        have:=effA h1; rw [hlt.1] at this; cases this
      · subst heq; exact (he (h.k3 x hx).1).elim
      · exact hlt
    rcases aoS hal hval with ⟨h1,h2⟩ | ⟨blk,hH,hro,hany⟩
    · exact (hp ⟨he,h1,h2⟩).elim
    let Hd:Heap:=⟨.leaf,(H i).nx,0⟩
    have hdead:∀ b,Hd.get b=none:=fun b=>Tr.fC _
    have hnx1:(H (i+1)).nx=(H i).nx+1:=by rw [hH]; rfl
    have hrd:Rel M (fun b=>D b∧b<(H i).nx) Hd w:=⟨fun b hb=>hb.2,fun b _=>by rw [hdead]; trivial,fun b c _ _ _ hw _=>by rw [hdead] at hw; exact hw.elim⟩
    refine Iu (q:=q) hk ⟨Nat.zero_le _,fun b hb=>by rw [hdead] at hb; exact hb.1.elim⟩ hc ho hts hrd (by rw [hcongr]; exact hany Hd rfl) fun M' D' w' hr' hx' hv'=>?_
    have hdm:∀ b,D' b→b<(H i).nx+1:=fun b hb=>hr'.dom b hb
    have hgb:(H k).get (H i).nx=some blk:=by
      rw [h.pend i x hik hx hal hoff _ (fY _) (by omega),hH,Heap.fy,if_pos rfl]
    have hgd:(Hd.add blk).get (H i).nx=some blk:=by rw [Heap.fy,if_pos rfl]
    have fr:eR M M' D (fun b=>D b∧b<(H i).nx) D' (H k) Hd (Hd.add blk) w w' (H i).nx:=by
      refine ⟨h.rel,hx',hr',fun b hw=>by rw [hdead] at hw; exact hw.elim,fun b hb=>hb.1,fun b hb=>?_,notD hil hoff (fY _) (by omega),fW (show (H i).nx<(H (i+1)).nx by omega) (nxm hik h.k1),by rw [hgb,hgd],by rw [hgd]; exact hro⟩
      rcases fQ b (H i).nx with h1 | h1
      · exact .inl (hx'.old b hb h1)
      · have:=hdm b hb; exact .inr (by omega)
    have hvD:okv (fun b=>D b∨D' b) (V i):=lh (fun b hb=>.inr hb) _ hv'
    have hco:im M' (V i)=im (Mp.join M M' D') (V i):=(o0 (fun b hb=>Mp.fE hb) _ hv').symm
    rw [hco]
    obtain ⟨p1,p2,p3⟩:=h.put d hi hx hc (M':=Mp.join M M' D') (D':=fun b=>D b∨D' b) (fun _ h=>.inl h) (fun b hb=>fr.agree hb) hvD
    refine hK _ _ (Mp.join M M' D') (fun b=>D b∨D' b) k ⟨hcl',p1,p2,p3,fun j hjl hj=>?_,h.k1,k2' he,k3' he,fr.rel,fr.ext h.ext (nxm (Nat.zero_le _) (by omega)),?_,?_,pend'⟩
    · rcases ofs hjl hj with rfl | hj
      · exact lh (fun b hb=>⟨.inr hb,by rw [hnx1]; exact hdm b hb⟩) _ hv'
      · exact lh (fun b hb=>⟨.inl hb.1,hb.2⟩) _ (h.t2 j hjl hj)
    · intro b hb
      by_cases hD:D b
      · rcases h.dom b hD with h1 | ⟨j,h1,h2,h3⟩
        · exact .inl h1
        · exact .inr ⟨j,h1,h2.set,h3⟩
      · obtain ⟨rfl,_⟩:=fr.is hb hD
        exact .inr ⟨i,hil,On.at_set hiS,fY _,by omega⟩
    · intro m hmk hne b hb hbm
      by_cases hD:D b
      · exact (h.okb m hmk hne b hD hbm).mono fun c hc=>⟨.inl hc.1,hc.2⟩
      · obtain ⟨rfl,hb'⟩:=fr.is hb hD
        rw [hgb, ← hgd]
        exact (hr'.blk _ hb').okB.mono fun c hc=>⟨.inr hc,by have:=hdm c hc; omega⟩
  ·
    have hik:i<k:=by
      rcases fO k i with hlt | rfl | hlt
      · have hky:l[k]?=some l[k]:=fU (by omega)
        obtain ⟨h1,h2⟩:=h.k3 _ hky
        exact (h2 (before k _ hlt hky (by rw [h1]; exact TK hpp) (notL hld k _ hky (by rw [h1]; simp)).1 fun hlt=>by have:=effA h1; rw [hlt.1] at this; cases this)).elim
      · exact (he (h.k3 x hx).1).elim
      · exact hlt
    have quiet:∀ j y,i≤j→j<k→l[j]?=some y→mw y≠.eff:=by
      intro j y h1 h2 h3 h4
      have h5:=h.k2 j y h2 h3 h4
      by_cases e:j=i
      · subst e; exact hoff h5
      · exact after j y (by omega) h3 (by rw [h4]; exact anw hpp) (notL hld j y h3 (by rw [h4]; simp)).2 (fun hlt=>hal hlt.1) h5
    have calm:=fun b (hb:b<(H i).nx)=>(Lex.calm hl hm (Nat.le_of_lt hik) h.k1 quiet b hb).2
    have calm':=fun b (hb:b<(H (i+1)).nx)=>(Lex.calm hl hm (i:=i+1) hik h.k1 (fun m y h1 h2 h3=>quiet m y (by omega) h2 h3) b hb).2
    have hrp:Rel M (fun b=>D b∧b<(H i).nx) (H i) w:=by
      refine ⟨fun b hb=>hb.2,fun b hb=>?_,fun b c hb hc' e hw hlv=>h.rel.inj b c hb.1 hc'.1 e (by rw [calm b hb.2]; exact hw) (by rw [calm c hc'.2]; exact hlv)⟩
      rw [← calm b hb.2]
      exact (h.rel.blk b hb.1).cut (h.okb i (Nat.le_of_lt hik) quiet b hb.1 hb.2)
    have hpk:=hl.mono hm h0 i (by omega)
    refine Iu (q:=q) hk hpk hc ho hts hrp (by rw [hcongr]; exact hval) fun M' D' w' hr' hx' hv'=>?_
    have hmono:=Is hm hpk.ro hval
    have part:Part M M' D (fun b=>D b∧b<(H i).nx) D' (H k) (H i) (H (i+1)) w w':=by
      refine ⟨h.rel,hx',hr',fun b hb=>hb.1,fun b hb=>calm b hb.2,fun b hb=>calm' b (hr'.dom b hb),fun b hb hb'=>?_,fun b hb=>fW (hr'.dom b hb) (nxm hik h.k1),fun b hb hn hro=>?_⟩
      · refine ⟨hb,?_⟩
        rcases h.dom b hb with h1 | ⟨j,h1,h2,h3,h4⟩
        · exact fW (hd0 b h1) (nxm (Nat.zero_le _) (by omega))
        · have hlt:=hr'.dom b hb'
          rcases fO j i with hji | rfl | hji
          · exact fW h4 (nxm hji (by omega))
          · exact (hoff h2).elim
          · have:=nxm (m:=i+1) (n:=j) hji (by omega)
            omega
      · exact hn (hx'.old b hb (hpk.wf b (hmono.rd b hro)))
    have hvD:okv (fun b=>D b∨D' b) (V i):=lh (fun b hb=>.inr hb) _ hv'
    have hco:im M' (V i)=im (Mp.join M M' D') (V i):=(o0 (fun b hb=>Mp.fE hb) _ hv').symm
    rw [hco]
    obtain ⟨p1,p2,p3⟩:=h.put d hi hx hc (M':=Mp.join M M' D') (D':=fun b=>D b∨D' b) (fun _ h=>.inl h) (fun b hb=>part.agree hb) hvD
    refine hK _ _ (Mp.join M M' D') (fun b=>D b∨D' b) k ⟨hcl',p1,p2,p3,fun j hjl hj=>?_,h.k1,k2' he,k3' he,part.rel,part.ext h.ext (nxm (Nat.zero_le _) (by omega)),?_,?_,pend'⟩
    · rcases ofs hjl hj with rfl | hj
      · exact lh (fun b hb=>⟨.inr hb,hr'.dom b hb⟩) _ hv'
      · exact lh (fun b hb=>⟨.inl hb.1,hb.2⟩) _ (h.t2 j hjl hj)
    · intro b hb
      have old:D b→D₀ b∨∃ j,j<l.length∧On (S.setIfInBounds (π i) true) (π j)∧(H j).nx≤b∧b<(H (j+1)).nx:=fun hb=>by
        rcases h.dom b hb with h1 | ⟨j,h1,h2,h3⟩
        · exact .inl h1
        · exact .inr ⟨j,h1,h2.set,h3⟩
      rcases hb with hb | hb
      · exact old hb
      · by_cases hlt:b<(H i).nx
        · exact old (hx'.old b hb hlt).1
        · exact .inr ⟨i,hil,On.at_set hiS,by omega,hr'.dom b hb⟩
    · intro m hmk hne b hb hbm
      by_cases hDb:D b
      · exact (h.okb m hmk hne b hDb hbm).mono fun c hc=>⟨.inl hc.1,hc.2⟩
      · have hb':D' b:=hb.resolve_left hDb
        have hge:¬ b<(H i).nx:=fun hlt=>hDb (hx'.old b hb' hlt).1
        have hm1:i+1≤m:=by
          rcases fQ i m with h' | h'
          · exact h'
          · have:=nxm h' (by omega); omega
        have hnm:=nxm hm1 (by have:=h.k1; omega)
        rw [calm' b (hr'.dom b hb')]
        exact (hr'.blk b hb').okB.mono fun c hc=>⟨.inr hc,fW (hr'.dom c hc) hnm⟩
end
theorem akB {α:Type} {p q:α→Bool}:∀ {l:List α},(∀ x∈l,q x=true→p x=true)→(∃ x∈l,p x=true∧q x=false)→l.countP q<l.countP p
  | [],_,h=>by obtain ⟨x,hx,_⟩:=h; cases hx
  | y::l,hs,h=>by
    have le:∀ {l:List α},(∀ x∈l,q x=true→p x=true)→l.countP q≤l.countP p:=fun h=>List.countP_mono_left h
    have hl:∀ x∈l,q x=true→p x=true:=fun x hx=>hs x (by simp [hx])
    rw [List.countP_cons,List.countP_cons]
    by_cases hy:p y=true∧q y=false
    · have:=le hl
      simp [hy.1,hy.2]; omega
    · obtain ⟨x,hx,h1,h2⟩:=h
      have hxl:x∈l:=by
        rcases gk.1 hx with rfl | hx
        · exact (hy ⟨h1,h2⟩).elim
        · exact hx
      have ih:=akB hl ⟨x,hxl,h1,h2⟩
      have:=hs y (by simp)
      by_cases hq:q y=true
      · simp [hq,this hq]; exact ih
      · simp [hq]; omega
theorem aqV {P:Program} {ops:Array Oper} {Q:Exit→Act→World→Prop} {I:Array Bool→Act→World→Prop}
    (step:∀ S a w i,I S a w→i∈Region.ready .any ops S→wpOp P ops Q i (I (S.setIfInBounds i true)) a w)
    (done:∀ S a w,I S a w→Region.ready .any ops S = []→Q .normal a w) (size:∀ S a w,I S a w→S.size=ops.size) :
    ∀ (fuel:Nat) (S:Array Bool) (a:Act) (w:World),I S a w→(List.range ops.size).countP (fun j=>!S.getD j false)≤fuel→wpAny P .any ops Q fuel S a w:=by
  have none:∀ S,(List.range ops.size).countP (fun j=>!S.getD j false)=0→Region.ready .any ops S = []:=by
    intro S h
    rw [List.countP_eq_zero] at h
    refine List.eq_nil_iff_forall_not_mem.2 fun i hi=>?_
    obtain ⟨hoff,o,ho⟩:=EP hi
    have hlt:i<ops.size:=(fM.1 ho).1
    have:=h i (gv.2 hlt)
    simp only [Bool.not_eq_true',Bool.not_eq_false] at this
    exact hoff this
  intro fuel
  induction fuel with
  | zero=>intro S a w hI hc; exact ⟨none S (by omega),done S a w hI (none S (by omega))⟩
  | succ fuel ih=>
    intro S a w hI hc
    refine ⟨fun hr=>done S a w hI hr,fun i hi=>wpOp_mono (fun a' w' hI'=>ih _ a' w' hI' ?_) (step S a w i hI hi)⟩
    obtain ⟨hoff,o,ho⟩:=EP hi
    have hlt:i<ops.size:=(fM.1 ho).1
    have hs:i<S.size:=by rw [size S a w hI]; exact hlt
    have:(List.range ops.size).countP (fun j=>!(S.setIfInBounds i true).getD j false)<(List.range ops.size).countP (fun j=>!S.getD j false):=by
      refine akB (fun j _ hj=>?_) ⟨i,gv.2 hlt,?_,?_⟩
      · simp only [Bool.not_eq_true'] at hj ⊢
        cases hb:S.getD j false with
        | false=>rfl
        | true=>rw [getD_set_true hb] at hj; cases hj
      · simp only [Bool.not_eq_true']
        cases hb:S.getD i false with
        | false=>rfl
        | true=>exact (hoff hb).elim
      · have:=On.at_set hs; unfold On at this; rw [this]; rfl
    omega
end Go.Ai
