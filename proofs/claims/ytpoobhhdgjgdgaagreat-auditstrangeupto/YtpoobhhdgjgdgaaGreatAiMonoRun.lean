/- What an operation of the interpreter does to its heap, with no model in sight: what it leaves alone, and what it reads. -/
import Derived.Test.YtpoobhhdgjgdgaaGreatAiCompOps
set_option linter.all false
namespace Go.Ai
def roB (x:Option Blk):Prop:=live x∧¬ wr x
structure eo (H H':Heap):Prop where
  ro:H'.ro=H.ro
  nx:H.nx≤H'.nx
  low:∀ b,b<H.ro→H'.get b=H.get b
  rd:∀ b,roB (H'.get b)→roB (H.get b)
theorem eo.refl {H:Heap}:eo H H:=⟨rfl,fY _,fun _ _=>rfl,fun _ h=>h⟩
theorem eo.trans {H H' H'':Heap} (h:eo H H') (k:eo H' H''):eo H H'':=
  ⟨k.ro.trans h.ro,ga h.nx k.nx,fun b hb=>(k.low b (by rw [h.ro]; exact hb)).trans (h.low b hb),fun b hb=>h.rd b (k.rd b hb)⟩
theorem eo.add {H:Heap} {x:Blk} (hr:H.ro≤H.nx) (hx:¬ roB (some x)):eo H (H.add x):=by
  refine ⟨by simp,by simp,fun b hb=>?_,fun b hb=>?_⟩
  · rw [Heap.fy,if_neg (by omega)]
  · rw [Heap.fy] at hb
    split at hb
    · exact (hx hb).elim
    · exact hb
theorem eo.set {H:Heap} {x:Blk} {b:Nat} (hr:H.ro≤b) (hx:¬ roB (some x)):eo H (H.set b x):=by
  refine ⟨by simp,by simp,fun c hc=>?_,fun c hc=>?_⟩
  · rw [Heap.fq _ (by omega)]
  · by_cases e:b=c
    · subst e; rw [Heap.ft] at hc; exact (hx hc).elim
    · rw [Heap.fq _ e] at hc; exact hc
theorem tN (l:List AV) (g:Nat):¬ roB (some (.cells l true g)):=fun h=>h.2 rfl
theorem aoM (es:List (AV × AV)):¬ roB (some (.mp es)):=fun h=>h.2 trivial
theorem roB_dead:¬ roB (some .dead):=fun h=>h.1
theorem WW {β:Type} {H:Heap} {b:Nat} {k:List AV→Nat→Option β} {r:β} (h:afi H b none k=some r):H.ro≤b∧∃ l g,H.get b=some (.cells l true g)∧k l g=some r:=by
  unfold afi at h
  obtain ⟨h1,h2⟩:=ZE h
  obtain ⟨x,hx,h3⟩:=iW h2
  refine ⟨by rw [blt_eq] at h1; simpa using h1,?_⟩
  cases x with
  | cells l rw g=>obtain ⟨e,h4⟩:=uy h3; subst e; exact ⟨l,g,hx,h4⟩
  | mp es=>cases h3
  | dead=>cases h3
section
variable {tm tm':Tr AV} {H H':Heap} {v:AV}
inductive Did (H:Heap):Heap→Prop where
  | same:Did H H
  | add (x:Blk) (hx:¬ roB (some x)):Did H (H.add x)
  | set (b:Nat) (x:Blk) (hb:H.ro≤b) (hx:¬ roB (some x)):Did H (H.set b x)
  | both (b:Nat) (x y:Blk) (hb:H.ro≤b) (hx:¬ roB (some x)) (hy:¬ roB (some y)):Did H ((H.set b x).add y)
theorem Did.mono (hr:H.ro≤H.nx) (h:Did H H'):eo H H':=by
  cases h with
  | same=>exact .refl
  | add x hx=>exact .add hr hx
  | set b x hb hx=>exact .set hb hx
  | both b x y hb hx hy=>exact (eo.set hb hx).trans (eo.add (by simpa using hr) hy)
theorem anc {sz:Nat} {s x:AV} (h:Ch H sz s x=some (v,H')):Did H H':=by
  unfold Ch at h
  obtain ⟨n,hn,h1⟩:=iW h
  clear h
  split at h1
  · split at h1
    · cases h1; exact .same
    · split at h1
      · obtain ⟨new,_,h2⟩:=iW h1
        obtain ⟨hb,l,g,_,h3⟩:=WW h2
        obtain ⟨_,h4⟩:=uy h3
        rw [vC,Heap.fu] at h4
        cases h4
        exact .set _ _ hb (tN _ _)
      · split at h1
        · cases h1
        · obtain ⟨l,_,h2⟩:=iW h1
          obtain ⟨old,_,h3⟩:=iW h2
          obtain ⟨new,_,h4⟩:=iW h3
          split at h4
          · obtain ⟨hb,l,g,_,h5⟩:=WW h4
            obtain ⟨_,h6⟩:=uy h5
            rw [Heap.fu,th,Heap.fx] at h6
            cases h6
            exact .both _ _ _ hb roB_dead (tN _ _)
          · rw [th,Heap.fx] at h4
            cases h4
            exact .add _ (tN _ _)
  · split at h1
    · cases h1; exact .same
    · split at h1
      · cases h1
      · obtain ⟨new,_,h2⟩:=iW h1
        rw [Heap.fx] at h2
        cases h2
        exact .add _ (tN _ _)
  · split at h1
    · cases h1; exact .same
    · cases h1
  · cases h1
theorem aq5 {sz:Nat} {d x:AV} (h:anq H sz d x=some (v,H')):Did H H':=by
  unfold anq at h
  split at h
  · obtain ⟨new,_,h2⟩:=iW h
    clear h
    split at h2
    · split at h2
      · cases h2; exact .same
      · obtain ⟨hb,l,g,_,h3⟩:=WW h2
        obtain ⟨_,h4⟩:=uy h3
        rw [vC,Heap.fu] at h4
        cases h4
        exact .set _ _ hb (tN _ _)
    · cases h2; exact .same
    · cases h2; exact .same
    · cases h2
  · cases h
theorem ao5 {z:List AV} {x:AV} (h:ady H z x=some (v,H')):Did H H':=by
  unfold ady at h
  split at h
  · cases h; exact .same
  · cases h; exact .same
  · cases h; exact .same
  · split at h
    · cases h; exact .same
    · obtain ⟨hb,l,g,_,h3⟩:=WW h
      obtain ⟨_,h4⟩:=uy h3
      rw [vC,Heap.fu] at h4
      cases h4
      exact .set _ _ hb (tN _ _)
  · cases h
theorem ahH {o:AOp} (hc:agw o = .pure):∃ f:Option AV,∀ H,opF o tm H=f.map fun r=>(r,H):=by
  refine ⟨(opF o tm ⟨.leaf,0,0⟩).map (·.1),fun H=>?_⟩
  cases o with
  | mov x=>simp only [opF]; cases ev tm x<;>rfl
  | pick c a b=>
    simp only [opF]
    cases ev tm c with
    | none=>rfl
    | some v=>
      cases v with
      | bool t=>
        cases t
        · dsimp only; cases ev tm b<;>rfl
        · dsimp only; cases ev tm a<;>rfl
      | _=>rfl
  | not x=>
    simp only [opF]
    cases ev tm x with
    | none=>rfl
    | some v=>
      cases v with
      | bool t=>cases t<;>rfl
      | _=>rfl
  | bin op x y=>
    simp only [opF]
    cases ev tm x
    · rfl
    · cases ev tm y
      · rfl
      · dsimp only; generalize binF _ _ _=z; cases z<;>rfl
  | eq k neg x y=>
    simp only [opF]
    cases ev tm x
    · rfl
    · cases ev tm y
      · rfl
      · dsimp only; generalize eqK _ _ _=z; cases z<;>rfl
  | conv k x=>
    simp only [opF]
    cases ev tm x with
    | none=>rfl
    | some v=>cases v<;>simp [uA]
  | build z parts=>simp only [opF]; cases KT tm parts z<;>rfl
  | nilchk x=>
    simp only [opF]
    cases ev tm x with
    | none=>rfl
    | some v=>cases v<;>rfl
  | fa k x=>
    simp only [opF]
    cases ev tm x with
    | none=>rfl
    | some v=>cases v<;>rfl
  | iaS sz x i=>
    simp only [opF]
    cases ev tm x with
    | none=>rfl
    | some v=>?_
    cases ev tm i with
    | none=>rfl
    | some u=>?_
    cases v<;>try rfl
    cases u<;>try rfl
    rename_i n
    cases n with
    | negSucc n=>rfl
    | ofNat n=>?_
    simp only [LG]
    generalize Nat.blt _ _=z
    cases z<;>rfl
  | iaA sz len x i=>
    simp only [opF]
    cases ev tm x with
    | none=>rfl
    | some v=>?_
    cases ev tm i with
    | none=>rfl
    | some u=>?_
    cases v<;>try rfl
    cases u<;>try rfl
    rename_i n
    cases n with
    | negSucc n=>rfl
    | ofNat n=>?_
    simp only [LG]
    generalize Nat.blt _ _=z
    cases z<;>rfl
  | idxA sz len agg x i=>
    simp only [opF]
    cases ev tm x with
    | none=>rfl
    | some v=>?_
    cases ev tm i with
    | none=>rfl
    | some u=>?_
    cases v<;>try rfl
    cases u<;>try rfl
    rename_i n
    cases n with
    | negSucc n=>rfl
    | ofNat n=>?_
    simp only [LG]
    generalize Nat.blt _ _=z
    cases z<;>try rfl
    dsimp only
    generalize sub _ _ _=z
    cases z<;>try rfl
    dsimp only
    generalize HE _ _=z
    cases z<;>rfl
  | idxS x i=>
    simp only [opF]
    cases ev tm x with
    | none=>rfl
    | some v=>?_
    cases ev tm i with
    | none=>rfl
    | some u=>?_
    cases v<;>try rfl
    cases u<;>try rfl
    rename_i n
    cases n with
    | negSucc n=>rfl
    | ofNat n=>?_
    simp only [LG]
    generalize nth _ _=z
    cases z<;>rfl
  | sl k x lo hi mx=>
    simp only [opF]
    cases ev tm x
    · rfl
    · dsimp only; generalize slF _ _ _ _ _ _=z; cases z<;>rfl
  | ext ix x=>
    simp only [opF]
    cases ev tm x with
    | none=>rfl
    | some v=>cases v<;>try rfl
              dsimp only
              generalize nth _ _=z
              cases z<;>rfl
  | mkfunc f a c=>
    simp only [opF]
    cases evs tm a
    · rfl
    · cases evs tm c<;>rfl
  | len k x=>
    simp only [opF]
    cases ev tm x with
    | none=>rfl
    | some v=>
      cases k with
      | mp=>cases hc
      | _=>cases v<;>rfl
  | minmax mx xs=>
    simp only [opF]
    cases evs tm xs with
    | none=>rfl
    | some vs=>
      cases vs with
      | nil=>rfl
      | cons v vs=>dsimp only; generalize KZ _ _ _=z; cases z<;>rfl
  | _=>cases hc
theorem opF_did {o:AOp} (h:opF o tm H=some (v,H')):Did H H':=by
  by_cases hc:agw o = .pure
  · obtain ⟨f,hf⟩:=ahH (tm:=tm) hc
    rw [hf] at h
    cases f with
    | none=>cases h
    | some r=>cases h; exact .same
  cases o with
  | alloc z=>simp only [opF,Heap.fx] at h; cases h; exact .add _ (tN _ _)
  | box x=>
    simp only [opF] at h
    obtain ⟨u,_,h1⟩:=iW h
    obtain ⟨_,h2⟩:=uy h1
    rw [Heap.fx] at h2
    cases h2; exact .add _ (tN _ _)
  | buildSlice n z l=>
    simp only [opF] at h
    obtain ⟨u,_,h1⟩:=iW h
    rw [Heap.fx] at h1
    cases h1; exact .add _ (tN _ _)
  | load n agg x=>
    simp only [opF] at h
    obtain ⟨u,_,h1⟩:=iW h
    clear h
    split at h1
    · obtain ⟨_,_,h2⟩:=iW h1
      obtain ⟨_,_,h3⟩:=iW h2
      obtain ⟨_,_,h4⟩:=iW h3
      cases h4; exact .same
    · cases h1
  | store n a x=>
    simp only [opF] at h
    obtain ⟨u,_,h1⟩:=iW h
    clear h
    split at h1
    · obtain ⟨y,_,h2⟩:=iW h1
      obtain ⟨hb,l,g,_,h3⟩:=WW h2
      clear h1 h2
      split at h3
      · rw [vC,Heap.fu] at h3
        cases h3
        exact .set _ _ hb (tN _ _)
      · cases h3
    · cases h1
  | mkmap=>simp only [opF,Heap.fx] at h; cases h; exact .add _ (aoM _)
  | mk z l c=>
    simp only [opF] at h
    obtain ⟨x,_,h1⟩:=iW h
    obtain ⟨y,_,h2⟩:=iW h1
    clear h h1
    split at h2
    · rename_i _ i _ j _ _
      cases i with
      | negSucc i=>cases h2
      | ofNat i=>?_
      cases j with
      | negSucc j=>cases h2
      | ofNat j=>?_
      simp only [LG] at h2
      split at h2
      · rw [Heap.fx] at h2
        cases h2; exact .add _ (tN _ _)
      · cases h2
    · cases h2
  | lookup kk z ok m k=>
    simp only [opF] at h
    obtain ⟨x,_,h1⟩:=iW h
    obtain ⟨y,_,h2⟩:=iW h1
    obtain ⟨es,_,h3⟩:=iW h2
    obtain ⟨_,_,h4⟩:=iW h3
    obtain ⟨r,_,h5⟩:=iW h4
    cases r<;>(cases h5; exact .same)
  | mapset kk m k x=>
    simp only [opF] at h
    obtain ⟨x,_,h1⟩:=iW h
    obtain ⟨y,_,h2⟩:=iW h1
    obtain ⟨z,_,h3⟩:=iW h2
    clear h h1 h2
    split at h3
    · obtain ⟨hb,h4⟩:=ZE h3
      obtain ⟨_,_,h5⟩:=iW h4
      obtain ⟨_,_,h6⟩:=iW h5
      obtain ⟨_,_,h7⟩:=iW h6
      rw [Heap.fu] at h7
      cases h7
      exact .set _ _ (by rw [blt_eq] at hb; simpa using hb) (aoM _)
    · cases h3
  | mapdel kk m k=>
    simp only [opF] at h
    obtain ⟨x,_,h1⟩:=iW h
    obtain ⟨y,_,h2⟩:=iW h1
    obtain ⟨_,_,h3⟩:=iW h2
    clear h h1 h2
    split at h3
    · obtain ⟨hb,h4⟩:=ZE h3
      obtain ⟨_,_,h5⟩:=iW h4
      obtain ⟨_,_,h6⟩:=iW h5
      rw [Heap.fu] at h6
      cases h6
      exact .set _ _ (by rw [blt_eq] at hb; simpa using hb) (aoM _)
    · cases h3; exact .same
    · cases h3
  | len k x=>
    simp only [opF] at h
    obtain ⟨u,_,h1⟩:=iW h
    clear h
    split at h1
    · cases h1; exact .same
    · cases h1; exact .same
    · split at h1<;>first | (cases h1; exact .same) | cases h1
    · obtain ⟨_,_,h2⟩:=iW h1; cases h2; exact .same
    · cases h1; exact .same
    · cases h1
  | append sz s x=>
    simp only [opF] at h
    obtain ⟨_,_,h1⟩:=iW h
    obtain ⟨_,_,h2⟩:=iW h1
    exact anc h2
  | copy sz s x=>
    simp only [opF] at h
    obtain ⟨_,_,h1⟩:=iW h
    obtain ⟨_,_,h2⟩:=iW h1
    exact aq5 h2
  | clear z x=>
    simp only [opF] at h
    obtain ⟨_,_,h1⟩:=iW h
    exact ao5 h1
  | _=>exact (hc rfl).elim
theorem opF_mono {o:AOp} (hr:H.ro≤H.nx) (h:opF o tm H=some (v,H')):eo H H':=(opF_did h).mono hr
theorem aqz {o:AOp} (hc:agw o≠.eff) (h:opF o tm H=some (v,H')):H.nx≤H'.nx∧∀ b,b<H.nx→H'.get b=H.get b:=by
  have key:H'=H∨∃ x,H'=H.add x:=by
    by_cases hp:agw o = .pure
    · obtain ⟨f,hf⟩:=ahH (tm:=tm) hp
      rw [hf] at h
      cases f with
      | none=>cases h
      | some r=>cases h; exact .inl rfl
    cases o with
    | alloc z=>simp only [opF,Heap.fx] at h; cases h; exact .inr ⟨_,rfl⟩
    | box x=>
      simp only [opF] at h
      obtain ⟨u,_,h1⟩:=iW h
      obtain ⟨_,h2⟩:=uy h1
      rw [Heap.fx] at h2
      cases h2; exact .inr ⟨_,rfl⟩
    | buildSlice n z l=>
      simp only [opF] at h
      obtain ⟨u,_,h1⟩:=iW h
      rw [Heap.fx] at h1
      cases h1; exact .inr ⟨_,rfl⟩
    | load n agg x=>
      simp only [opF] at h
      obtain ⟨u,_,h1⟩:=iW h
      clear h
      split at h1
      · obtain ⟨_,_,h2⟩:=iW h1
        obtain ⟨_,_,h3⟩:=iW h2
        obtain ⟨_,_,h4⟩:=iW h3
        cases h4; exact .inl rfl
      · cases h1
    | mkmap=>simp only [opF,Heap.fx] at h; cases h; exact .inr ⟨_,rfl⟩
    | mk z l c=>
      simp only [opF] at h
      obtain ⟨x,_,h1⟩:=iW h
      obtain ⟨y,_,h2⟩:=iW h1
      clear h h1
      split at h2
      · rename_i _ i _ j _ _
        cases i with
        | negSucc i=>cases h2
        | ofNat i=>?_
        cases j with
        | negSucc j=>cases h2
        | ofNat j=>?_
        simp only [LG] at h2
        split at h2
        · rw [Heap.fx] at h2
          cases h2; exact .inr ⟨_,rfl⟩
        · cases h2
      · cases h2
    | lookup kk z ok m k=>
      simp only [opF] at h
      obtain ⟨x,_,h1⟩:=iW h
      obtain ⟨y,_,h2⟩:=iW h1
      obtain ⟨es,_,h3⟩:=iW h2
      obtain ⟨_,_,h4⟩:=iW h3
      obtain ⟨r,_,h5⟩:=iW h4
      cases r<;>(cases h5; exact .inl rfl)
    | len k x=>
      simp only [opF] at h
      obtain ⟨u,_,h1⟩:=iW h
      clear h
      split at h1
      · cases h1; exact .inl rfl
      · cases h1; exact .inl rfl
      · split at h1<;>first | (cases h1; exact .inl rfl) | cases h1
      · obtain ⟨_,_,h2⟩:=iW h1; cases h2; exact .inl rfl
      · cases h1; exact .inl rfl
      · cases h1
    | _=>first | exact (hc rfl).elim | exact (hp rfl).elim
  rcases key with rfl | ⟨x,rfl⟩
  · exact ⟨fY _,fun _ _=>rfl⟩
  · exact ⟨by simp,fun b hb=>by rw [Heap.fy,if_neg (by omega)]⟩
theorem opF_load {o:AOp} (hc:agw o = .load) (h:opF o tm H=some (v,H')):H'=H:=by
  cases o with
  | load n agg x=>
    simp only [opF] at h
    obtain ⟨u,_,h1⟩:=iW h
    clear h
    split at h1
    · obtain ⟨_,_,h2⟩:=iW h1
      obtain ⟨_,_,h3⟩:=iW h2
      obtain ⟨_,_,h4⟩:=iW h3
      cases h4; rfl
    · cases h1
  | lookup kk z ok m k=>
    simp only [opF] at h
    obtain ⟨x,_,h1⟩:=iW h
    obtain ⟨y,_,h2⟩:=iW h1
    obtain ⟨es,_,h3⟩:=iW h2
    obtain ⟨_,_,h4⟩:=iW h3
    obtain ⟨r,_,h5⟩:=iW h4
    cases r<;>(cases h5; rfl)
  | len k x=>
    simp only [opF] at h
    obtain ⟨u,_,h1⟩:=iW h
    clear h
    split at h1
    · cases h1; rfl
    · cases h1; rfl
    · split at h1<;>first | (cases h1; rfl) | cases h1
    · obtain ⟨_,_,h2⟩:=iW h1; cases h2; rfl
    · cases h1; rfl
    · cases h1
  | _=>cases hc
theorem aqE {o:AOp} (hc:agw o = .alloc) (h:opF o tm H=some (v,H')):∃ blk,H'=H.add blk∧¬ roB (some blk)∧∀ K:Heap,K.nx=H.nx→opF o tm K=some (v,K.add blk):=by
  cases o with
  | alloc z=>
    simp only [opF,Heap.fx] at h ⊢
    cases h
    exact ⟨_,rfl,fun hr=>hr.2 (by simp [wr]),fun K hK=>by rw [hK]⟩
  | box x=>
    simp only [opF] at h ⊢
    obtain ⟨u,hu,h1⟩:=iW h
    obtain ⟨hb,h2⟩:=uy h1
    rw [Heap.fx] at h2
    cases h2
    exact ⟨_,rfl,fun hr=>hr.2 (by simp [wr]),fun K hK=>by rw [hu]; dsimp only; rw [hb]; dsimp only; rw [Heap.fx,hK]⟩
  | buildSlice n z l=>
    simp only [opF] at h ⊢
    obtain ⟨u,hu,h1⟩:=iW h
    rw [Heap.fx] at h1
    cases h1
    exact ⟨_,rfl,fun hr=>hr.2 (by simp [wr]),fun K hK=>by rw [hu]; dsimp only; rw [Heap.fx,hK]⟩
  | mkmap=>
    simp only [opF,Heap.fx] at h ⊢
    cases h
    exact ⟨_,rfl,fun hr=>hr.2 (by simp [wr]),fun K hK=>by rw [hK]⟩
  | mk z l c=>
    simp only [opF] at h ⊢
    obtain ⟨x,hx,h1⟩:=iW h
    obtain ⟨y,hy,h2⟩:=iW h1
    rw [hx]; dsimp only; rw [hy]; dsimp only
    clear h h1 hx hy
    split at h2
    · rename_i _ i _ j
      cases i with
      | negSucc i=>cases h2
      | ofNat i=>
        cases j with
        | negSucc j=>cases h2
        | ofNat j=>
          simp only [LG] at h2 ⊢
          split at h2
          · rename_i hb
            rw [Heap.fx] at h2
            cases h2
            exact ⟨_,rfl,fun hr=>hr.2 (by simp [wr]),fun K hK=>by first | (rw [hb]; dsimp only; rw [Heap.fx,hK]) | rw [Heap.fx,hK]⟩
          · cases h2
    · cases h2
  | len k x=>cases k<;>cases hc
  | _=>cases hc
theorem jP {x:Opd} (h:∀ p∈x.ps,tm'.get p=tm.get p):ev tm' x=ev tm x:=by
  cases x with
  | t p=>exact h p (by simp [Opd.ps])
  | c v=>rfl
theorem Oi:∀ {xs:List Opd},(∀ p∈Opd.psL xs,tm'.get p=tm.get p)→evs tm' xs=evs tm xs
  | [],_=>rfl
  | x::xs,h=>by
    show (Option.casesOn (ev tm' x) none fun v=>Option.casesOn (evs tm' xs) none fun vs=>some (v::vs):Option (List AV))=Option.casesOn (ev tm x) none fun v=>Option.casesOn (evs tm xs) none fun vs=>some (v::vs)
    rw [jP fun p hp=>h p (by simp [Opd.psL,hp]),Oi fun p hp=>h p (by simp [Opd.psL,hp])]
theorem T4:∀ {l:List (Nat × Nat × Opd)},(∀ p∈Opd.psP l,tm'.get p=tm.get p)→KT tm' l=KT tm l
  | [],_=>rfl
  | x::l,h=>by
    funext z
    have e:=jP (tm:=tm) (tm':=tm') (x:=x.2.2) fun p hp=>h p (by simp [Opd.psP,hp])
    have i:=T4 (l:=l) fun p hp=>h p (by simp [Opd.psP,hp])
    show (Option.casesOn (ev tm' x.2.2) none fun v=>_:Option (List AV))=Option.casesOn (ev tm x.2.2) none fun v=>_
    rw [e]
    cases ev tm x.2.2 with
    | none=>rfl
    | some v=>
      dsimp only
      split
      · show Ui v.cells z x.1 (KT tm' l)=Ui v.cells z x.1 (KT tm l)
        rw [i]
      · rfl
theorem acw {x:Option Opd} {d m:Nat} (h:∀ p∈Opd.psO x,tm'.get p=tm.get p):bnd tm' x d m=bnd tm x d m:=by
  cases x with
  | none=>rfl
  | some x=>simp only [bnd]; rw [jP h]
theorem aqB {k:SlK} {u:AV} {lo hi mx:Option Opd} (h:∀ p∈Opd.psO lo++(Opd.psO hi++Opd.psO mx),tm'.get p=tm.get p):slF tm' k u lo hi mx=slF tm k u lo hi mx:=by
  have h1:∀ d m,bnd tm' lo d m=bnd tm lo d m:=fun d m=>acw fun p hp=>h p (by simp [hp])
  have h2:∀ d m,bnd tm' hi d m=bnd tm hi d m:=fun d m=>acw fun p hp=>h p (by simp [hp])
  have h3:∀ d m,bnd tm' mx d m=bnd tm mx d m:=fun d m=>acw fun p hp=>h p (by simp [hp])
  unfold slF
  simp only [h1,h2,h3]
theorem aqu {o:AOp} (h:∀ p∈o.ps,tm'.get p=tm.get p):opF o tm' H=opF o tm H:=by
  cases o with
  | mov x=>simp only [opF]; rw [jP h]
  | pick c a b=>simp only [opF]; rw [jP (x:=c) fun p hp=>h p (by simp [AOp.ps,hp]),jP (x:=a) fun p hp=>h p (by simp [AOp.ps,hp]),jP (x:=b) fun p hp=>h p (by simp [AOp.ps,hp])]
  | not x=>simp only [opF]; rw [jP h]
  | bin _ x y=>simp only [opF]; rw [jP (x:=x) fun p hp=>h p (by simp [AOp.ps,hp]),jP (x:=y) fun p hp=>h p (by simp [AOp.ps,hp])]
  | eq _ _ x y=>simp only [opF]; rw [jP (x:=x) fun p hp=>h p (by simp [AOp.ps,hp]),jP (x:=y) fun p hp=>h p (by simp [AOp.ps,hp])]
  | conv _ x=>simp only [opF]; rw [jP h]
  | alloc _=>rfl
  | box x=>simp only [opF]; rw [jP h]
  | build _ l=>simp only [opF]; rw [T4 h]
  | buildSlice _ _ l=>simp only [opF]; rw [T4 h]
  | load _ _ x=>simp only [opF]; rw [jP h]
  | store _ x y=>simp only [opF]; rw [jP (x:=x) fun p hp=>h p (by simp [AOp.ps,hp]),jP (x:=y) fun p hp=>h p (by simp [AOp.ps,hp])]
  | nilchk x=>simp only [opF]; rw [jP h]
  | fa _ x=>simp only [opF]; rw [jP h]
  | iaS _ x y=>simp only [opF]; rw [jP (x:=x) fun p hp=>h p (by simp [AOp.ps,hp]),jP (x:=y) fun p hp=>h p (by simp [AOp.ps,hp])]
  | iaA _ _ x y=>simp only [opF]; rw [jP (x:=x) fun p hp=>h p (by simp [AOp.ps,hp]),jP (x:=y) fun p hp=>h p (by simp [AOp.ps,hp])]
  | idxA _ _ _ x y=>simp only [opF]; rw [jP (x:=x) fun p hp=>h p (by simp [AOp.ps,hp]),jP (x:=y) fun p hp=>h p (by simp [AOp.ps,hp])]
  | idxS x y=>simp only [opF]; rw [jP (x:=x) fun p hp=>h p (by simp [AOp.ps,hp]),jP (x:=y) fun p hp=>h p (by simp [AOp.ps,hp])]
  | sl k x lo hi mx=>
    simp only [opF]
    rw [jP (x:=x) fun p hp=>h p (by simp [AOp.ps,hp])]
    cases ev tm x with
    | none=>rfl
    | some u=>
      dsimp only
      rw [aqB fun p hp=>h p (by simp only [AOp.ps,gw] at hp ⊢; exact .inr hp)]
  | ext _ x=>simp only [opF]; rw [jP h]
  | mkfunc _ a c=>simp only [opF]; rw [Oi (xs:=a) fun p hp=>h p (by simp [AOp.ps,hp]),Oi (xs:=c) fun p hp=>h p (by simp [AOp.ps,hp])]
  | mkmap=>rfl
  | mk _ x y=>simp only [opF]; rw [jP (x:=x) fun p hp=>h p (by simp [AOp.ps,hp]),jP (x:=y) fun p hp=>h p (by simp [AOp.ps,hp])]
  | lookup _ _ _ x y=>simp only [opF]; rw [jP (x:=x) fun p hp=>h p (by simp [AOp.ps,hp]),jP (x:=y) fun p hp=>h p (by simp [AOp.ps,hp])]
  | mapset _ c a b=>simp only [opF]; rw [jP (x:=c) fun p hp=>h p (by simp [AOp.ps,hp]),jP (x:=a) fun p hp=>h p (by simp [AOp.ps,hp]),jP (x:=b) fun p hp=>h p (by simp [AOp.ps,hp])]
  | mapdel _ x y=>simp only [opF]; rw [jP (x:=x) fun p hp=>h p (by simp [AOp.ps,hp]),jP (x:=y) fun p hp=>h p (by simp [AOp.ps,hp])]
  | len _ x=>simp only [opF]; rw [jP h]
  | minmax _ xs=>simp only [opF]; rw [Oi h]
  | append _ x y=>simp only [opF]; rw [jP (x:=x) fun p hp=>h p (by simp [AOp.ps,hp]),jP (x:=y) fun p hp=>h p (by simp [AOp.ps,hp])]
  | copy _ x y=>simp only [opF]; rw [jP (x:=x) fun p hp=>h p (by simp [AOp.ps,hp]),jP (x:=y) fun p hp=>h p (by simp [AOp.ps,hp])]
  | clear _ x=>simp only [opF]; rw [jP h]
end
end Go.Ai
/- Instructions, code and calls of the interpreter, with no model in sight: what they leave alone and what they read. -/
namespace Go.Ai
theorem Xb {β:Type} (tm:Tr AV) (d:Option P) (v:AV) (k:Tr AV→β):putK tm d v k=k (tm.putO d v):=by
  cases d with
  | none=>rfl
  | some p=>exact Tr.fu p v tm k
theorem WX (cf:cj) (x:Ins) (tm:Tr AV) (H:Heap):afs cf x ⟨tm,H⟩=(nQ cf x tm H).map fun r=>⟨tm.putO x.dst r.1,r.2⟩:=by
  cases x with
  | op g d o=>
    simp only [afs,nQ,Ins.dst]
    cases Ca tm g with
    | none=>rfl
    | some b=>
      cases b
      · exact Xb _ _ _ _
      · dsimp only
        cases opF o tm H with
        | none=>rfl
        | some r=>exact Xb _ _ _ _
  | call g d q f args=>
    simp only [afs,nQ,Ins.dst]
    cases Ca tm g with
    | none=>rfl
    | some b=>
      cases b
      · exact Xb _ _ _ _
      · dsimp only
        cases ev tm f with
        | none=>rfl
        | some fv=>
          cases evs tm args with
          | none=>rfl
          | some vs=>
            dsimp only
            show (aa.casesOn (cf fv vs (H.shut q)) none fun v H'=>Heap.casesOn H' fun t' nx' _=>putK tm d v fun tm'=>some ⟨tm',⟨t',nx',H.ro⟩⟩:Option St)=_
            cases cf fv vs (H.shut q) with
            | err=>rfl
            | ret v H'=>exact Xb _ _ _ _
def cH (cf:cj):Prop:=∀ fv vs H v H',H.ro≤H.nx→cf fv vs H = .ret v H'→eo H H'
section
variable {cf:cj} {x:Ins} {tm tm':Tr AV} {H H':Heap} {v:AV}
theorem aed {g:Gd} (h:∀ p∈g.ps,tm'.get p=tm.get p):Ca tm' g=Ca tm g:=by
  cases g with
  | always=>rfl
  | on p w=>simp only [Ca]; rw [h p (by simp [Gd.ps])]
theorem ao7 (h:∀ p∈x.reads,tm'.get p=tm.get p):nQ cf x tm' H=nQ cf x tm H:=by
  cases x with
  | op g d o=>
    simp only [nQ]
    rw [aed (g:=g) fun p hp=>h p (by simp [Ins.reads,hp]),aqu (o:=o) fun p hp=>h p (by simp [Ins.reads,hp])]
  | call g d q f args=>
    simp only [nQ]
    rw [aed (g:=g) fun p hp=>h p (by simp [Ins.reads,hp]),jP (x:=f) fun p hp=>h p (by simp [Ins.reads,hp]),Oi (xs:=args) fun p hp=>h p (by simp [Ins.reads,hp])]
theorem Is (hc:cH cf) (hr:H.ro≤H.nx) (h:nQ cf x tm H=some (v,H')):eo H H':=by
  cases x with
  | op g d o=>
    simp only [nQ] at h
    split at h
    · cases h
    · cases h; exact .refl
    · exact opF_mono hr h
  | call g d q f args=>
    simp only [nQ] at h
    split at h
    · cases h
    · cases h; exact .refl
    · split at h
      · split at h
        · cases h
        · rename_i v₁ H₁ he
          cases h
          have m:=hc _ _ (H.shut q) _ _ (by cases q<;>simp [Heap.shut,hr]) he
          refine ⟨rfl,m.nx,fun b hb=>m.low b ?_,m.rd⟩
          cases q<;>simp [Heap.shut]<;>omega
      · cases h
theorem apv (hc:cH cf) (hq:mw x≠.eff) (h:nQ cf x tm H=some (v,H')):H.nx≤H'.nx∧∀ b,b<H.nx→H'.get b=H.get b:=by
  cases x with
  | op g d o=>
    simp only [nQ] at h
    split at h
    · cases h
    · cases h; exact ⟨fY _,fun _ _=>rfl⟩
    · exact aqz hq h
  | call g d q f args=>
    have hq':q=true:=by cases q<;>simp_all [mw]
    subst hq'
    simp only [nQ] at h
    split at h
    · cases h
    · cases h; exact ⟨fY _,fun _ _=>rfl⟩
    · split at h
      · split at h
        · cases h
        · rename_i v₁ H₁ he
          cases h
          have m:=hc _ _ (H.shut true) _ _ (by simp [Heap.shut]) he
          exact ⟨m.nx,fun b hb=>m.low b hb⟩
      · cases h
theorem aqN (hq:mw x = .pure):∃ f:Option AV,∀ H,nQ cf x tm H=f.map fun r=>(r,H):=by
  cases x with
  | op g d o=>
    simp only [nQ]
    cases Ca tm g with
    | none=>exact ⟨none,fun _=>rfl⟩
    | some b=>
      cases b
      · exact ⟨some .undef,fun _=>rfl⟩
      · exact ahH hq
  | call g d q f args=>cases q<;>cases hq
end
theorem aqs {cf:cj} {x:Ins} {tm:Tr AV} {H H':Heap} {v:AV} (hq:mw x = .load) (h:nQ cf x tm H=some (v,H')):H'=H:=by
  cases x with
  | op g d o=>
    simp only [nQ] at h
    split at h
    · cases h
    · cases h; rfl
    · exact opF_load hq h
  | call g d q f args=>cases q<;>cases hq
theorem aoS {cf:cj} {x:Ins} {tm:Tr AV} {H H':Heap} {v:AV} (ha:Jr x=true) (h:nQ cf x tm H=some (v,H')) :
    (H'=H∧∀ K,nQ cf x tm K=some (v,K))∨∃ blk,H'=H.add blk∧¬ roB (some blk)∧∀ K:Heap,K.nx=H.nx→nQ cf x tm K=some (v,K.add blk):=by
  cases x with
  | op g d o=>
    simp only [nQ] at h ⊢
    split at h
    · cases h
    · rename_i hw; cases h; exact .inl ⟨rfl,fun K=>rfl⟩
    · rename_i hw
      obtain ⟨blk,h1,h2,h3⟩:=aqE (by cases hc:agw o<;>simp_all [Jr]) h
      exact .inr ⟨blk,h1,h2,fun K hK=>h3 K hK⟩
  | call g d q f args=>cases ha
theorem aaC {cf:cj} {s:St}:OH cf [] s = .fin .nrm s:=rfl
theorem NS {cf:cj} {x:Ins} {l:List Ins} {s:St} {e:Ex} {s':St} (h:OH cf (x::l) s = .fin e s'):∃ s₁,afs cf x s=some s₁∧OH cf l s₁ = .fin e s':=by
  have h':(Option.casesOn (afs cf x s) .err (OH cf l):Out) = .fin e s':=h
  cases hi:afs cf x s with
  | none=>rw [hi] at h'; cases h'
  | some s₁=>rw [hi] at h'; exact ⟨s₁,rfl,h'⟩
theorem OQ {cf:cj} {e:Ex} {s':St}:∀ {l:List Ins} {s:St},OH cf l s = .fin e s'→e = .nrm
  | [],s,h=>by rw [aaC] at h; cases h; rfl
  | x::l,s,h=>by obtain ⟨s₁,_,h₁⟩:=NS h; exact OQ h₁
theorem W3 {cf:cj} {e:Ex} {s':St}:∀ {us:List UI} {j:Nat} {sn:List (Nat × Heap)} {sv:List (Nat × Sv)} {s:St},Ky cf us j sn sv s = .fin e s'→OH cf (us.map UI.x) s = .fin e s'
  | [],_,_,_,s,h=>h
  | u::us,j,sn,sv,s,h=>by
    simp only [Ky] at h
    show (Option.casesOn (afs cf u.x s) .err (OH cf (us.map UI.x)):Out)=_
    obtain ⟨tm,H⟩:=s
    dsimp only at h
    rw [WX]
    cases hv:nQ cf u.x tm H with
    | none=>rw [hv] at h; cases h
    | some r=>
      rw [hv] at h
      dsimp only at h
      split at h
      · cases h
      · exact W3 h
section
variable {cf:cj} {tbl:Tr AFn}
theorem aca (hc:cH cf) {e:Ex} {s':St}:∀ {l:List Ins} {s:St},s.hp.ro≤s.hp.nx→OH cf l s = .fin e s'→eo s.hp s'.hp
  | [],s,_,h=>by rw [aaC] at h; cases h; exact .refl
  | x::l,s,hr,h=>by
    obtain ⟨s₁,h₁,h₂⟩:=NS h
    obtain ⟨tm,H⟩:=s
    rw [WX] at h₁
    cases hv:nQ cf x tm H with
    | none=>rw [hv] at h₁; cases h₁
    | some r=>
      rw [hv] at h₁; cases h₁
      have m:=Is hc hr (v:=r.1) (H':=r.2) hv
      exact m.trans (aca hc (by show r.2.ro≤r.2.nx; rw [m.ro]; exact ga hr m.nx) h₂)
theorem QC {ih:AC→St→Out} {a b:AC} {s s':St} {e:Ex} (h:step cf ih (.seq a b) s = .fin e s') :
    (∃ s₁,ih a s = .fin .nrm s₁∧ih b s₁ = .fin e s')∨(ih a s = .fin e s'∧e≠.nrm):=by
  simp only [step] at h
  cases ha:ih a s with
  | err=>rw [ha] at h; cases h
  | fin e₁ s₁=>
    rw [ha] at h
    cases e₁ with
    | nrm=>exact .inl ⟨s₁,rfl,h⟩
    | exi id=>cases h; exact .inr ⟨rfl,by simp⟩
    | ret=>cases h; exact .inr ⟨rfl,by simp⟩
theorem LS {ih:AC→St→Out} {a:AC} {s s':St} {e:Ex} (h:step cf ih (.loop a) s = .fin e s') :
    (∃ s₁,ih a s = .fin .nrm s₁∧ih (.loop a) s₁ = .fin e s')∨(ih a s = .fin e s'∧e≠.nrm):=by
  simp only [step] at h
  cases ha:ih a s with
  | err=>rw [ha] at h; cases h
  | fin e₁ s₁=>
    rw [ha] at h
    cases e₁ with
    | nrm=>exact .inl ⟨s₁,rfl,h⟩
    | exi id=>cases h; exact .inr ⟨rfl,by simp⟩
    | ret=>cases h; exact .inr ⟨rfl,by simp⟩
theorem LF {ih:AC→St→Out} {c:Opd} {a b:AC} {s s':St} {e:Ex} (h:step cf ih (.cond c a b) s = .fin e s') :
    ∃ t,ev s.tm c=some (.bool t)∧ih (if t then a else b) s = .fin e s':=by
  simp only [step] at h
  cases hc:ev s.tm c with
  | none=>rw [hc] at h; cases h
  | some v=>
    rw [hc] at h
    dsimp only at h
    split at h
    · exact ⟨true,rfl,h⟩
    · exact ⟨false,rfl,h⟩
    · cases h
theorem Uu {ih:AC→St→Out} {id:Nat} {a:AC} {s s':St} {e:Ex} (h:step cf ih (.block id a) s = .fin e s') :
    ∃ e₁,ih a s = .fin e₁ s'∧(match e₁ with | .exi i=>if i=id then e = .nrm else e = .exi i | x=>e=x):=by
  simp only [step] at h
  cases ha:ih a s with
  | err=>rw [ha] at h; cases h
  | fin e₁ s₁=>
    rw [ha] at h
    cases e₁ with
    | nrm=>cases h; exact ⟨_,rfl,rfl⟩
    | exi i=>
      have h':(Bool.casesOn (Nat.beq i id) (.fin (.exi i) s₁) (.fin .nrm s₁):Out) = .fin e s':=h
      by_cases hi:i=id
      · have:Nat.beq i id=true:=by rw [Nat.beq_eq]; exact hi
        rw [this] at h'; cases h'
        exact ⟨_,rfl,by simp [hi]⟩
      · have:Nat.beq i id=false:=by cases hb:Nat.beq i id with
          | false=>rfl
          | true=>exact (hi (gb hb)).elim
        rw [this] at h'; cases h'
        exact ⟨_,rfl,by simp [hi]⟩
    | ret=>cases h; exact ⟨_,rfl,rfl⟩
def dX (tbl:Tr AFn):Prop:=∀ f g,tbl.get (key f)=some (.prim g)→∀ vs H v H',H.ro≤H.nx→g vs H = .ret v H'→eo H H'
theorem bindK_eq (ps:List P):∀ (vs:List AV) (tm:Tr AV) (e:aa) (k:Tr AV→aa) (v:AV) (H:Heap),Ka ps vs tm e k = .ret v H→e = .ret v H∨∃ tm',k tm' = .ret v H∧Ka ps vs tm none some=some tm':=by
  induction ps with
  | nil=>
    intro vs tm e k v H h
    cases vs with
    | nil=>exact .inr ⟨tm,h,rfl⟩
    | cons _ _=>exact .inl h
  | cons p ps ih=>
    intro vs tm e k v H h
    cases vs with
    | nil=>exact .inl h
    | cons u vs=>
      have h':Tr.setK p u tm (fun tm'=>Ka ps vs tm' e k) = .ret v H:=h
      rw [Tr.fu] at h'
      rcases ih _ _ _ _ _ _ h' with h1 | ⟨tm',h1,h2⟩
      · exact .inl h1
      · refine .inr ⟨tm',h1,?_⟩
        show Tr.setK p u tm (fun tm'=>Ka ps vs tm' none some)=some tm'
        rw [Tr.fu]; exact h2
theorem acg {ih:AC→St→Out} {fv:AV} {args:List AV} {H H':Heap} {v:AV} (h:rr tbl ih fv args H = .ret v H') :
    ∃ f first cap,fv = .func f first cap∧
      ((∃ g,tbl.get (key f)=some (.prim g)∧g (first++(args++cap)) H = .ret v H')∨
       (∃ ps body res tm e s vs,tbl.get (key f)=some (.code ps body res)∧Ka ps (first++(args++cap)) .leaf none some=some tm∧
          ih body ⟨tm,H⟩ = .fin e s∧(e = .nrm∨e = .ret)∧Zi s res=some vs∧v=one vs∧H'=s.hp)):=by
  unfold rr at h
  split at h
  · rename_i f first cap
    refine ⟨f,first,cap,rfl,?_⟩
    cases hf:tbl.get (key f) with
    | none=>rw [hf] at h; cases h
    | some fn=>
      rw [hf] at h
      cases fn with
      | prim g=>
        refine .inl ⟨g,rfl,?_⟩
        simpa [th] using h
      | code ps body res=>
        refine .inr ?_
        dsimp only at h
        simp only [th,id] at h
        rcases bindK_eq ps _ _ _ _ _ _ h with h1 | ⟨tm,h1,h2⟩
        · cases h1
        · cases hb:ih body ⟨tm,H⟩ with
          | err=>rw [hb] at h1; cases h1
          | fin e s=>
            rw [hb] at h1
            cases e with
            | exi id=>cases h1
            | nrm=>
              dsimp only at h1
              cases hr:Zi s res with
              | none=>rw [hr] at h1; cases h1
              | some vs=>rw [hr] at h1; cases h1; exact ⟨ps,body,res,tm,_,s,vs,rfl,h2,hb,.inl rfl,hr,rfl,rfl⟩
            | ret=>
              dsimp only at h1
              cases hr:Zi s res with
              | none=>rw [hr] at h1; cases h1
              | some vs=>rw [hr] at h1; cases h1; exact ⟨ps,body,res,tm,_,s,vs,rfl,h2,hb,.inr rfl,hr,rfl,rfl⟩
  · cases h
theorem Qy {ih:AC→St→Out} (hp:dX tbl) (hi:∀ c s e s',s.hp.ro≤s.hp.nx→ih c s = .fin e s'→eo s.hp s'.hp):cH (rr tbl ih):=by
  intro fv vs H v H' hr h
  obtain ⟨f,first,cap,_,h⟩:=acg h
  rcases h with ⟨g,hg,hh⟩ | ⟨ps,body,res,tm,e,s,us,_,_,hb,_,_,_,rfl⟩
  · exact hp f g hg _ _ _ _ hr hh
  · exact hi _ _ _ _ hr hb
theorem akJ (hp:dX tbl):∀ n c s e s',s.hp.ro≤s.hp.nx→tP tbl n c s = .fin e s'→eo s.hp s'.hp:=by
  intro n
  induction n with
  | zero=>intro c s e s' _ h; cases h
  | succ n ih=>
    intro c s e s' hr h
    have h':step (rr tbl (tP tbl n)) (tP tbl n) c s = .fin e s':=h
    have two:∀ {c₁ c₂ s₁},tP tbl n c₁ s = .fin .nrm s₁→tP tbl n c₂ s₁ = .fin e s'→eo s.hp s'.hp:=fun h1 h2=>by
      have m:=ih _ _ _ _ hr h1
      exact m.trans (ih _ _ _ _ (by rw [m.ro]; exact ga hr m.nx) h2)
    cases c with
    | skip=>simp only [step] at h'; cases h'; exact .refl
    | reg l=>exact aca (Qy hp ih) hr h'
    | regU l=>exact aca (Qy hp ih) hr (W3 h')
    | seq a b=>
      rcases QC h' with ⟨s₁,h1,h2⟩ | ⟨h1,_⟩
      · exact two h1 h2
      · exact ih _ _ _ _ hr h1
    | cond c a b=>obtain ⟨t,_,h1⟩:=LF h'; exact ih _ _ _ _ hr h1
    | block id a=>obtain ⟨e₁,h1,_⟩:=Uu h'; exact ih _ _ _ _ hr h1
    | loop a=>
      rcases LS h' with ⟨s₁,h1,h2⟩ | ⟨h1,_⟩
      · exact two h1 h2
      · exact ih _ _ _ _ hr h1
    | exit id=>simp only [step] at h'; cases h'; exact .refl
    | ret=>simp only [step] at h'; cases h'; exact .refl
theorem akV (hp:dX tbl) (n:Nat):cH (call tbl n):=Qy hp (akJ hp n)
end
end Go.Ai
