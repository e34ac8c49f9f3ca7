/- Loads that stand in no order with effects: done again, and held equal. -/
import Derived.Test.YtpoobhhdgjgdgaaGreatAiInsOrd
set_option linter.all false
namespace Go.Ai
theorem ikC_inj {k q:IntKind} (h:Nat.beq (ikC k) (ikC q)=true):k=q:=by
  cases k<;>cases q<;>first | rfl | cases h
theorem acn {a b:AV} (h:ahG a b=true):a=b:=by
  unfold ahG at h
  split at h
  · simp only [fN] at h; rw [h]
  · simp only [fV] at h
    have h2:=h.2
    rw [JQ,fN] at h2
    rw [ikC_inj h.1,h2]
  · rw [PT,fN] at h; rw [h]
  · simp only [fV] at h
    rw [gb h.1,gb h.2]
  · rfl
  · simp only [fV,fN] at h
    obtain ⟨⟨⟨⟨h1,h2⟩,h3⟩,h4⟩,h5⟩:=h
    rw [gb h1,gb h2,gb h3,gb h4,h5]
  · rfl
  · rw [gb h]
  · rfl
  · rfl
  · rfl
  · cases h
theorem Ox {f:AV→AV→Bool} (hf:∀ {a b},f a b=true→a=b):∀ {a b:List AV},adH f a b=true→a=b
  | [],[],_=>rfl
  | [],_::_,h=>by cases h
  | _::_,[],h=>by cases h
  | x::a,y::b,h=>by
    have h0:(Bool.casesOn (f x y) false (adH f a b):Bool)=true:=h
    cases hx:f x y with
    | false=>rw [hx] at h0; cases h0
    | true=>rw [hx] at h0; rw [hf hx,Ox hf h0]
theorem anE {a b:AV} (h:sameC a b=true):a=b:=by
  unfold sameC at h
  split at h
  · simp only [fV] at h
    rw [gb h.1.1,Ox acn h.1.2,Ox acn h.2]
  · exact acn h
theorem ane {a b:AV} (h:sameS a b=true):a=b:=by
  unfold sameS at h
  split at h
  · rw [Ox anE h]
  · exact anE h
theorem sameA_ok {a b:AV} (h:akN a b=true):a=b:=by
  unfold akN at h
  split at h
  · rw [Ox ane h]
  · exact ane h
theorem Ly {α:Type} {f:α→Bool}:∀ {l:List α},Xk f l=true→∀ x∈l,f x=true
  | [],_,x,hx=>by cases hx
  | y::l,h,x,hx=>by
    have h0:(Bool.casesOn (f y) false (Xk f l):Bool)=true:=h
    cases hy:f y with
    | false=>rw [hy] at h0; cases h0
    | true=>
      rw [hy] at h0
      rcases gk.1 hx with rfl | hx
      · exact hy
      · exact Ly h0 x hx
theorem ac6 {a b:Nat} (h:Nat.blt a b=true):a<b:=by simpa [Nat.blt_eq] using h
section
variable {D:Nat→Prop} {n:Nat}
theorem ahJ {a:AV} (h:aeg n a=true) (hv:okv D a):okv (fun b=>D b∧b<n) a:=by
  unfold aeg at h
  split at h
  case h_4=>simp only [okv] at hv ⊢; exact ⟨hv,ac6 h⟩
  case h_6=>simp only [okv] at hv ⊢; exact ⟨hv,ac6 h⟩
  case h_8=>simp only [okv] at hv ⊢; exact ⟨hv,ac6 h⟩
  all_goals first | (simp [okv]; done) | cases h
theorem ap4 {a:AV} (h:lowC n a=true) (hv:okv D a):okv (fun b=>D b∧b<n) a:=by
  unfold lowC at h
  split at h
  · rename_i f x c
    have h1:(Bool.casesOn (Xk (aeg n) x) false (Xk (aeg n) c):Bool)=true:=h
    cases hx:Xk (aeg n) x with
    | false=>rw [hx] at h1; cases h1
    | true=>
      rw [hx] at h1
      simp only [okv] at hv ⊢
      exact ⟨(nL _ _).2 fun v hm=>ahJ (Ly hx v hm) ((nL _ _).1 hv.1 v hm),(nL _ _).2 fun v hm=>ahJ (Ly h1 v hm) ((nL _ _).1 hv.2 v hm)⟩
  · exact ahJ h hv
theorem aql {a:AV} (h:lowS n a=true) (hv:okv D a):okv (fun b=>D b∧b<n) a:=by
  unfold lowS at h
  split at h
  · simp only [okv] at hv ⊢
    exact ⟨(nL _ _).2 fun x hx=>ap4 (Ly h x hx) ((nL _ _).1 hv.1 x hx),hv.2⟩
  · exact ap4 h hv
theorem lowA_ok {a:AV} (h:lowA n a=true) (hv:okv D a):okv (fun b=>D b∧b<n) a:=by
  unfold lowA at h
  split at h
  · simp only [okv] at hv ⊢
    exact (nL _ _).2 fun x hx=>aql (Ly h x hx) ((nL _ _).1 hv x hx)
  · exact aql h hv
end
theorem acK {α:Type} {n:Nat}:∀ {l:List (Nat × α)} {a:α},Gg n l=some a→(n,a)∈l
  | [],a,h=>by cases h
  | x::l,a,h=>by
    have h0:(Bool.casesOn (Nat.beq x.1 n) (Gg n l) (some x.2):Option α)=some a:=h
    cases hx:Nat.beq x.1 n with
    | false=>rw [hx] at h0; exact fL _ (acK h0)
    | true=>
      rw [hx] at h0
      cases h0
      rw [← gb hx]
      exact gp
theorem aop {cf:cj} {x:Ins} {tm:Tr AV} {H:Heap} {v:AV} (h:Kl cf x tm H v=true):∃ H',nQ cf x tm H=some (v,H'):=by
  unfold Kl at h
  cases hv:nQ cf x tm H with
  | none=>rw [hv] at h; cases h
  | some r=>rw [hv] at h; obtain ⟨a,b⟩:=r; rw [sameA_ok h]; exact ⟨b,rfl⟩
structure Again (cf:cj) (us:List UI) (T:Nat→Tr AV) (H:Nat→Heap) (V:Nat→AV):Prop where
  back:∀ i u,us[i]?=some u→∀ k∈u.back,∃ H',nQ cf u.x (T i) (H k)=some (V i,H')
  again:∀ j u,us[j]?=some u→∀ i∈u.again,∃ y,us[i]?=some y∧(∃ H',nQ cf y.x (T i) (H (j+1))=some (V i,H'))∧lowA (H i).nx (V i)=true
structure Redo (cf:cj) (l:List Ins) (T:Nat→Tr AV) (H:Nat→Heap) (V:Nat→AV) (R:Nat→Nat→Prop):Prop where
  kind:∀ i j x y,l[i]?=some x→l[j]?=some y→R i j→(mw x = .load∧mw y = .eff)∨(mw x = .eff∧mw y = .load)
  fwd:∀ i j x y,l[i]?=some x→l[j]?=some y→R i j→mw x = .load→(∃ H',nQ cf x (T i) (H (j+1))=some (V i,H'))∧lowA (H i).nx (V i)=true
  bwd:∀ i j x y,l[i]?=some x→l[j]?=some y→R i j→mw y = .load→∃ H',nQ cf y (T j) (H i)=some (V j,H')
theorem Redo.none (cf:cj) (l:List Ins) (T:Nat→Tr AV) (H:Nat→Heap) (V:Nat→AV):Redo cf l T H V fun _ _=>False:=
  ⟨fun _ _ _ _ _ _ h=>h.elim,fun _ _ _ _ _ _ h=>h.elim,fun _ _ _ _ _ _ h=>h.elim⟩
theorem ahB {us:List UI} {i j:Nat} (h:adI us i j=true):∃ p q,us[i]?=some p∧us[j]?=some q∧
    ((mw p.x = .load∧mw q.x = .eff∧i∈q.again)∨(mw p.x = .eff∧mw q.x = .load∧i∈q.back)):=by
  unfold adI at h
  split at h
  · rename_i p q hp hq
    refine ⟨p,q,hp,hq,?_⟩
    split at h
    · rename_i h1 h2; exact .inl ⟨h1,h2,by simpa using h⟩
    · rename_i h1 h2; exact .inr ⟨h1,h2,by simpa using h⟩
    · cases h
  · cases h
theorem Again.redo {cf:cj} {us:List UI} {T:Nat→Tr AV} {H:Nat→Heap} {V:Nat→AV} (h:Again cf us T H V):Redo cf (us.map UI.x) T H V fun i j=>adI us i j=true:=by
  have get:∀ {i:Nat} {x:Ins} {p:UI},(us.map UI.x)[i]?=some x→us[i]?=some p→x=p.x:=fun hx hp=>by
    rw [gy,hp] at hx; simpa using hx.symm
  refine ⟨fun i j x y hx hy hr=>?_,fun i j x y hx hy hr hl=>?_,fun i j x y hx hy hr hl=>?_⟩
  all_goals
    obtain ⟨p,q,hp,hq,hor⟩:=ahB hr
    have e1:=get hx hp
    have e2:=get hy hq
    subst e1 e2
  · rcases hor with ⟨h1,h2,_⟩ | ⟨h1,h2,_⟩
    · exact .inl ⟨h1,h2⟩
    · exact .inr ⟨h1,h2⟩
  · rcases hor with ⟨_,_,h3⟩ | ⟨h1,_,_⟩
    · obtain ⟨y,hy',h4,h5⟩:=h.again j q hq i h3
      rw [hp] at hy'; cases hy'
      exact ⟨h4,h5⟩
    · rw [h1] at hl; cases hl
  · rcases hor with ⟨_,h2,_⟩ | ⟨_,_,h3⟩
    · rw [h2] at hl; cases hl
    · exact h.back j q hq i h3
theorem am9 {cf:cj} {us:List UI} {T:Nat→Tr AV} {H:Nat→Heap} {V:Nat→AV} (lex:Lex cf (us.map UI.x) T H V) {e:Ex} {s':St} :
    ∀ (n j:Nat) {sn:List (Nat × Heap)} {sv:List (Nat × Sv)},j+n=us.length→Ky cf (us.drop j) j sn sv ⟨T j,H j⟩ = .fin e s'→
      (∀ p∈sn,p.2=H p.1)→(∀ p∈sv,∃ y,us[p.1]?=some y∧p.2=⟨y.x,T p.1,V p.1,(H p.1).nx⟩)→
      ∀ i u,j≤i→us[i]?=some u→(∀ k∈u.back,∃ H',nQ cf u.x (T i) (H k)=some (V i,H'))∧
        ∀ m∈u.again,∃ y,us[m]?=some y∧(∃ H',nQ cf y.x (T m) (H (i+1))=some (V m,H'))∧lowA (H m).nx (V m)=true:=by
  intro n
  induction n with
  | zero=>
    intro j sn sv hn h h1 h2 i u hi hu
    rw [gf (by omega)] at hu; cases hu
  | succ n ih=>
    intro j sn sv hn h h1 h2 i u hi hu
    have hj:j<us.length:=by omega
    have hx:us[j]?=some us[j]:=fU hj
    rw [gc hj] at h
    have hval:=lex.val j us[j].x (by rw [gy,hx]; rfl)
    have htm:=lex.tm j us[j].x (by rw [gy,hx]; rfl)
    simp only [Ky] at h
    rw [hval] at h
    dsimp only at h
    split at h
    · cases h
    · rename_i hok
      rw [fV] at hok
      by_cases e:j=i
      · subst e
        rw [hx] at hu; cases hu
        refine ⟨fun k hk=>?_,fun m hm=>?_⟩
        · have:=Ly hok.1 k hk
          cases hf:Gg k sn with
          | none=>rw [hf] at this; cases this
          | some K=>
            rw [hf] at this
            have hK:=h1 _ (acK hf)
            dsimp only at hK
            rw [← hK]
            exact aop this
        · have:=Ly hok.2 m hm
          cases hf:Gg m sv with
          | none=>rw [hf] at this; cases this
          | some s=>
            rw [hf] at this
            obtain ⟨y,hy,hs⟩:=h2 _ (acK hf)
            dsimp only at hy hs
            subst hs
            dsimp only at this
            cases hr:Kl cf y.x (T m) (H (j+1)) (V m) with
            | false=>rw [hr] at this; cases this
            | true=>rw [hr] at this; exact ⟨y,hy,aop hr,this⟩
      · rw [← htm] at h
        refine ih (j+1) (by omega) h ?_ ?_ i u (by omega) hu
        · intro p hp
          split at hp
          · rcases gk.1 hp with rfl | hp
            · rfl
            · exact h1 p hp
          · exact h1 p hp
        · intro p hp
          split at hp
          · rcases gk.1 hp with rfl | hp
            · exact ⟨_,hx,rfl⟩
            · exact h2 p hp
          · exact h2 p hp
theorem aqv {cf:cj} {us:List UI} {s s':St} {e:Ex} (h:Ky cf us 0 [] [] s = .fin e s') :
    ∃ T H V,Lex cf (us.map UI.x) T H V∧Again cf us T H V∧T 0=s.tm∧H 0=s.hp∧T us.length=s'.tm∧H us.length=s'.hp:=by
  obtain ⟨T,H,V,lex,t0,h0,tn,hn⟩:=WN (W3 h)
  rw [gu] at tn hn
  have hs:s=⟨T 0,H 0⟩:=by rw [t0,h0]
  subst hs
  have:=am9 lex us.length 0 (by omega) (by simpa using h) (fun p hp=>by cases hp) (fun p hp=>by cases hp)
  exact ⟨T,H,V,lex,⟨fun i u hu k hk=>(this i u (Nat.zero_le _) hu).1 k hk,fun j u hu i hi=>(this j u (Nat.zero_le _) hu).2 i hi⟩,rfl,rfl,tn,hn⟩
end Go.Ai
