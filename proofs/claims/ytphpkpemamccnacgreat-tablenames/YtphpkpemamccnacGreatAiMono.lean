/- What an operation of the interpreter does to its heap, with no model in sight: what it leaves alone, and what it reads. -/
import Derived.Test.YtphpkpemamccnacGreatAiOps
namespace Go.Ai

/-- a block that may only be read -/
def roB (x : Option Blk) : Prop := live x ∧ ¬ wr x

structure Mono (H H' : Heap) : Prop where
  ro : H'.ro = H.ro
  nx : H.nx ≤ H'.nx
  low : ∀ b, b < H.ro → H'.get b = H.get b
  rd : ∀ b, roB (H'.get b) → roB (H.get b)

theorem Mono.refl {H : Heap} : Mono H H := ⟨rfl, Nat.le_refl _, fun _ _ => rfl, fun _ h => h⟩
theorem Mono.trans {H H' H'' : Heap} (h : Mono H H') (k : Mono H' H'') : Mono H H'' :=
  ⟨k.ro.trans h.ro, Nat.le_trans h.nx k.nx, fun b hb => (k.low b (by rw [h.ro]; exact hb)).trans (h.low b hb), fun b hb => h.rd b (k.rd b hb)⟩

theorem Mono.add {H : Heap} {x : Blk} (hr : H.ro ≤ H.nx) (hx : ¬ roB (some x)) : Mono H (H.add x) := by
  refine ⟨by simp, by simp, fun b hb => ?_, fun b hb => ?_⟩
  · rw [Heap.get_add, if_neg (by omega)]
  · rw [Heap.get_add] at hb
    split at hb
    · exact (hx hb).elim
    · exact hb
theorem Mono.set {H : Heap} {x : Blk} {b : Nat} (hr : H.ro ≤ b) (hx : ¬ roB (some x)) : Mono H (H.set b x) := by
  refine ⟨by simp, by simp, fun c hc => ?_, fun c hc => ?_⟩
  · rw [Heap.get_set_other _ (by omega)]
  · by_cases e : b = c
    · subst e; rw [Heap.get_set_same] at hc; exact (hx hc).elim
    · rw [Heap.get_set_other _ e] at hc; exact hc

theorem roB_cells (l : List AV) (g : Nat) : ¬ roB (some (.cells l true g)) := fun h => h.2 rfl
theorem roB_mp (es : List (AV × AV)) : ¬ roB (some (.mp es)) := fun h => h.2 trivial
theorem roB_dead : ¬ roB (some .dead) := fun h => h.1

theorem ownK_ro {β : Type} {H : Heap} {b : Nat} {k : List AV → Nat → Option β} {r : β} (h : ownK H b none k = some r) : H.ro ≤ b ∧ ∃ l g, H.get b = some (.cells l true g) ∧ k l g = some r := by
  unfold ownK at h
  obtain ⟨h1, h2⟩ := bcaseF h
  obtain ⟨x, hx, h3⟩ := ocase h2
  refine ⟨by rw [blt_eq] at h1; simpa using h1, ?_⟩
  cases x with
  | cells l rw g => obtain ⟨e, h4⟩ := bcaseT h3; subst e; exact ⟨l, g, hx, h4⟩
  | mp es => cases h3
  | dead => cases h3

section
variable {tm tm' : Tr AV} {H H' : Heap} {v : AV}

/-- what an operation may do to the heap -/
inductive Did (H : Heap) : Heap → Prop where
  | same : Did H H
  | add (x : Blk) (hx : ¬ roB (some x)) : Did H (H.add x)
  | set (b : Nat) (x : Blk) (hb : H.ro ≤ b) (hx : ¬ roB (some x)) : Did H (H.set b x)
  | both (b : Nat) (x y : Blk) (hb : H.ro ≤ b) (hx : ¬ roB (some x)) (hy : ¬ roB (some y)) : Did H ((H.set b x).add y)

theorem Did.mono (hr : H.ro ≤ H.nx) (h : Did H H') : Mono H H' := by
  cases h with
  | same => exact .refl
  | add x hx => exact .add hr hx
  | set b x hb hx => exact .set hb hx
  | both b x y hb hx hy => exact (Mono.set hb hx).trans (Mono.add (by simpa using hr) hy)

theorem appendF_did {sz : Nat} {s x : AV} (h : appendF H sz s x = some (v, H')) : Did H H' := by
  unfold appendF at h
  obtain ⟨n, hn, h1⟩ := ocase h
  clear h
  split at h1
  · split at h1
    · cases h1; exact .same
    · split at h1
      · obtain ⟨new, _, h2⟩ := ocase h1
        obtain ⟨hb, l, g, _, h3⟩ := ownK_ro h2
        obtain ⟨_, h4⟩ := bcaseT h3
        rw [overK_eq, Heap.setK_eq] at h4
        cases h4
        exact .set _ _ hb (roB_cells _ _)
      · split at h1
        · cases h1
        · obtain ⟨l, _, h2⟩ := ocase h1
          obtain ⟨old, _, h3⟩ := ocase h2
          obtain ⟨new, _, h4⟩ := ocase h3
          split at h4
          · obtain ⟨hb, l, g, _, h5⟩ := ownK_ro h4
            obtain ⟨_, h6⟩ := bcaseT h5
            rw [Heap.setK_eq, appK_eq, Heap.newK_eq] at h6
            cases h6
            exact .both _ _ _ hb roB_dead (roB_cells _ _)
          · rw [appK_eq, Heap.newK_eq] at h4
            cases h4
            exact .add _ (roB_cells _ _)
  · split at h1
    · cases h1; exact .same
    · split at h1
      · cases h1
      · obtain ⟨new, _, h2⟩ := ocase h1
        rw [Heap.newK_eq] at h2
        cases h2
        exact .add _ (roB_cells _ _)
  · split at h1
    · cases h1; exact .same
    · cases h1
  · cases h1

theorem copyF_did {sz : Nat} {d x : AV} (h : copyF H sz d x = some (v, H')) : Did H H' := by
  unfold copyF at h
  split at h
  · obtain ⟨new, _, h2⟩ := ocase h
    clear h
    split at h2
    · split at h2
      · cases h2; exact .same
      · obtain ⟨hb, l, g, _, h3⟩ := ownK_ro h2
        obtain ⟨_, h4⟩ := bcaseT h3
        rw [overK_eq, Heap.setK_eq] at h4
        cases h4
        exact .set _ _ hb (roB_cells _ _)
    · cases h2; exact .same
    · cases h2; exact .same
    · cases h2
  · cases h

theorem clearF_did {z : List AV} {x : AV} (h : clearF H z x = some (v, H')) : Did H H' := by
  unfold clearF at h
  split at h
  · cases h; exact .same
  · cases h; exact .same
  · cases h; exact .same
  · split at h
    · cases h; exact .same
    · obtain ⟨hb, l, g, _, h3⟩ := ownK_ro h
      obtain ⟨_, h4⟩ := bcaseT h3
      rw [overK_eq, Heap.setK_eq] at h4
      cases h4
      exact .set _ _ hb (roB_cells _ _)
  · cases h

/-- an operation that makes no new block and writes none -/
theorem opF_pure {o : AOp} (hc : clsA o = .pure) : ∃ f : Option AV, ∀ H, opF o tm H = f.map fun r => (r, H) := by
  refine ⟨(opF o tm ⟨.leaf, 0, 0⟩).map (·.1), fun H => ?_⟩
  cases o with
  | mov x => simp only [opF]; cases ev tm x <;> rfl
  | pick c a b =>
    simp only [opF]
    cases ev tm c with
    | none => rfl
    | some v =>
      cases v with
      | bool t =>
        cases t
        · dsimp only; cases ev tm b <;> rfl
        · dsimp only; cases ev tm a <;> rfl
      | _ => rfl
  | not x =>
    simp only [opF]
    cases ev tm x with
    | none => rfl
    | some v =>
      cases v with
      | bool t => cases t <;> rfl
      | _ => rfl
  | bin op x y =>
    simp only [opF]
    cases ev tm x
    · rfl
    · cases ev tm y
      · rfl
      · dsimp only; generalize binF _ _ _ = z; cases z <;> rfl
  | eq k neg x y =>
    simp only [opF]
    cases ev tm x
    · rfl
    · cases ev tm y
      · rfl
      · dsimp only; generalize eqK _ _ _ = z; cases z <;> rfl
  | conv k x =>
    simp only [opF]
    cases ev tm x with
    | none => rfl
    | some v => cases v <;> simp [wrapK_eq]
  | build z parts => simp only [opF]; cases fillK tm parts z <;> rfl
  | nilchk x =>
    simp only [opF]
    cases ev tm x with
    | none => rfl
    | some v => cases v <;> rfl
  | fa k x =>
    simp only [opF]
    cases ev tm x with
    | none => rfl
    | some v => cases v <;> rfl
  | iaS sz x i =>
    simp only [opF]
    cases ev tm x with
    | none => rfl
    | some v => ?_
    cases ev tm i with
    | none => rfl
    | some u => ?_
    cases v <;> try rfl
    cases u <;> try rfl
    rename_i n
    cases n with
    | negSucc n => rfl
    | ofNat n => ?_
    simp only [natF]
    generalize Nat.blt _ _ = z
    cases z <;> rfl
  | iaA sz len x i =>
    simp only [opF]
    cases ev tm x with
    | none => rfl
    | some v => ?_
    cases ev tm i with
    | none => rfl
    | some u => ?_
    cases v <;> try rfl
    cases u <;> try rfl
    rename_i n
    cases n with
    | negSucc n => rfl
    | ofNat n => ?_
    simp only [natF]
    generalize Nat.blt _ _ = z
    cases z <;> rfl
  | idxA sz len agg x i =>
    simp only [opF]
    cases ev tm x with
    | none => rfl
    | some v => ?_
    cases ev tm i with
    | none => rfl
    | some u => ?_
    cases v <;> try rfl
    cases u <;> try rfl
    rename_i n
    cases n with
    | negSucc n => rfl
    | ofNat n => ?_
    simp only [natF]
    generalize Nat.blt _ _ = z
    cases z <;> try rfl
    dsimp only
    generalize sub _ _ _ = z
    cases z <;> try rfl
    dsimp only
    generalize packF _ _ = z
    cases z <;> rfl
  | idxS x i =>
    simp only [opF]
    cases ev tm x with
    | none => rfl
    | some v => ?_
    cases ev tm i with
    | none => rfl
    | some u => ?_
    cases v <;> try rfl
    cases u <;> try rfl
    rename_i n
    cases n with
    | negSucc n => rfl
    | ofNat n => ?_
    simp only [natF]
    generalize nth _ _ = z
    cases z <;> rfl
  | sl k x lo hi mx =>
    simp only [opF]
    cases ev tm x
    · rfl
    · dsimp only; generalize slF _ _ _ _ _ _ = z; cases z <;> rfl
  | ext ix x =>
    simp only [opF]
    cases ev tm x with
    | none => rfl
    | some v => cases v <;> try rfl
                dsimp only
                generalize nth _ _ = z
                cases z <;> rfl
  | mkfunc f a c =>
    simp only [opF]
    cases evs tm a
    · rfl
    · cases evs tm c <;> rfl
  | len k x =>
    simp only [opF]
    cases ev tm x with
    | none => rfl
    | some v =>
      cases k with
      | mp => cases hc
      | _ => cases v <;> rfl
  | minmax mx xs =>
    simp only [opF]
    cases evs tm xs with
    | none => rfl
    | some vs =>
      cases vs with
      | nil => rfl
      | cons v vs => dsimp only; generalize minmaxF _ _ _ = z; cases z <;> rfl
  | _ => cases hc

theorem opF_did {o : AOp} (h : opF o tm H = some (v, H')) : Did H H' := by
  by_cases hc : clsA o = .pure
  · obtain ⟨f, hf⟩ := opF_pure (tm := tm) hc
    rw [hf] at h
    cases f with
    | none => cases h
    | some r => cases h; exact .same
  cases o with
  | alloc z => simp only [opF, Heap.newK_eq] at h; cases h; exact .add _ (roB_cells _ _)
  | box x =>
    simp only [opF] at h
    obtain ⟨u, _, h1⟩ := ocase h
    obtain ⟨_, h2⟩ := bcaseT h1
    rw [Heap.newK_eq] at h2
    cases h2; exact .add _ (roB_cells _ _)
  | buildSlice n z l =>
    simp only [opF] at h
    obtain ⟨u, _, h1⟩ := ocase h
    rw [Heap.newK_eq] at h1
    cases h1; exact .add _ (roB_cells _ _)
  | load n agg x =>
    simp only [opF] at h
    obtain ⟨u, _, h1⟩ := ocase h
    clear h
    split at h1
    · obtain ⟨_, _, h2⟩ := ocase h1
      obtain ⟨_, _, h3⟩ := ocase h2
      obtain ⟨_, _, h4⟩ := ocase h3
      cases h4; exact .same
    · cases h1
  | store n a x =>
    simp only [opF] at h
    obtain ⟨u, _, h1⟩ := ocase h
    clear h
    split at h1
    · obtain ⟨y, _, h2⟩ := ocase h1
      obtain ⟨hb, l, g, _, h3⟩ := ownK_ro h2
      clear h1 h2
      split at h3
      · rw [overK_eq, Heap.setK_eq] at h3
        cases h3
        exact .set _ _ hb (roB_cells _ _)
      · cases h3
    · cases h1
  | mkmap => simp only [opF, Heap.newK_eq] at h; cases h; exact .add _ (roB_mp _)
  | mk z l c =>
    simp only [opF] at h
    obtain ⟨x, _, h1⟩ := ocase h
    obtain ⟨y, _, h2⟩ := ocase h1
    clear h h1
    split at h2
    · rename_i _ i _ j _ _
      cases i with
      | negSucc i => cases h2
      | ofNat i => ?_
      cases j with
      | negSucc j => cases h2
      | ofNat j => ?_
      simp only [natF] at h2
      split at h2
      · rw [Heap.newK_eq] at h2
        cases h2; exact .add _ (roB_cells _ _)
      · cases h2
    · cases h2
  | lookup kk z ok m k =>
    simp only [opF] at h
    obtain ⟨x, _, h1⟩ := ocase h
    obtain ⟨y, _, h2⟩ := ocase h1
    obtain ⟨es, _, h3⟩ := ocase h2
    obtain ⟨_, _, h4⟩ := ocase h3
    obtain ⟨r, _, h5⟩ := ocase h4
    cases r <;> (cases h5; exact .same)
  | mapset kk m k x =>
    simp only [opF] at h
    obtain ⟨x, _, h1⟩ := ocase h
    obtain ⟨y, _, h2⟩ := ocase h1
    obtain ⟨z, _, h3⟩ := ocase h2
    clear h h1 h2
    split at h3
    · obtain ⟨hb, h4⟩ := bcaseF h3
      obtain ⟨_, _, h5⟩ := ocase h4
      obtain ⟨_, _, h6⟩ := ocase h5
      obtain ⟨_, _, h7⟩ := ocase h6
      rw [Heap.setK_eq] at h7
      cases h7
      exact .set _ _ (by rw [blt_eq] at hb; simpa using hb) (roB_mp _)
    · cases h3
  | mapdel kk m k =>
    simp only [opF] at h
    obtain ⟨x, _, h1⟩ := ocase h
    obtain ⟨y, _, h2⟩ := ocase h1
    obtain ⟨_, _, h3⟩ := ocase h2
    clear h h1 h2
    split at h3
    · obtain ⟨hb, h4⟩ := bcaseF h3
      obtain ⟨_, _, h5⟩ := ocase h4
      obtain ⟨_, _, h6⟩ := ocase h5
      rw [Heap.setK_eq] at h6
      cases h6
      exact .set _ _ (by rw [blt_eq] at hb; simpa using hb) (roB_mp _)
    · cases h3; exact .same
    · cases h3
  | len k x =>
    simp only [opF] at h
    obtain ⟨u, _, h1⟩ := ocase h
    clear h
    split at h1
    · cases h1; exact .same
    · cases h1; exact .same
    · split at h1 <;> first | (cases h1; exact .same) | cases h1
    · obtain ⟨_, _, h2⟩ := ocase h1; cases h2; exact .same
    · cases h1; exact .same
    · cases h1
  | append sz s x =>
    simp only [opF] at h
    obtain ⟨_, _, h1⟩ := ocase h
    obtain ⟨_, _, h2⟩ := ocase h1
    exact appendF_did h2
  | copy sz s x =>
    simp only [opF] at h
    obtain ⟨_, _, h1⟩ := ocase h
    obtain ⟨_, _, h2⟩ := ocase h1
    exact copyF_did h2
  | clear z x =>
    simp only [opF] at h
    obtain ⟨_, _, h1⟩ := ocase h
    exact clearF_did h1
  | _ => exact (hc rfl).elim

theorem opF_mono {o : AOp} (hr : H.ro ≤ H.nx) (h : opF o tm H = some (v, H')) : Mono H H' := (opF_did h).mono hr

/-- what is not among the effects leaves all that is there -/
theorem opF_quiet {o : AOp} (hc : clsA o ≠ .eff) (h : opF o tm H = some (v, H')) : H.nx ≤ H'.nx ∧ ∀ b, b < H.nx → H'.get b = H.get b := by
  have key : H' = H ∨ ∃ x, H' = H.add x := by
    by_cases hp : clsA o = .pure
    · obtain ⟨f, hf⟩ := opF_pure (tm := tm) hp
      rw [hf] at h
      cases f with
      | none => cases h
      | some r => cases h; exact .inl rfl
    cases o with
    | alloc z => simp only [opF, Heap.newK_eq] at h; cases h; exact .inr ⟨_, rfl⟩
    | box x =>
      simp only [opF] at h
      obtain ⟨u, _, h1⟩ := ocase h
      obtain ⟨_, h2⟩ := bcaseT h1
      rw [Heap.newK_eq] at h2
      cases h2; exact .inr ⟨_, rfl⟩
    | buildSlice n z l =>
      simp only [opF] at h
      obtain ⟨u, _, h1⟩ := ocase h
      rw [Heap.newK_eq] at h1
      cases h1; exact .inr ⟨_, rfl⟩
    | load n agg x =>
      simp only [opF] at h
      obtain ⟨u, _, h1⟩ := ocase h
      clear h
      split at h1
      · obtain ⟨_, _, h2⟩ := ocase h1
        obtain ⟨_, _, h3⟩ := ocase h2
        obtain ⟨_, _, h4⟩ := ocase h3
        cases h4; exact .inl rfl
      · cases h1
    | mkmap => simp only [opF, Heap.newK_eq] at h; cases h; exact .inr ⟨_, rfl⟩
    | mk z l c =>
      simp only [opF] at h
      obtain ⟨x, _, h1⟩ := ocase h
      obtain ⟨y, _, h2⟩ := ocase h1
      clear h h1
      split at h2
      · rename_i _ i _ j _ _
        cases i with
        | negSucc i => cases h2
        | ofNat i => ?_
        cases j with
        | negSucc j => cases h2
        | ofNat j => ?_
        simp only [natF] at h2
        split at h2
        · rw [Heap.newK_eq] at h2
          cases h2; exact .inr ⟨_, rfl⟩
        · cases h2
      · cases h2
    | lookup kk z ok m k =>
      simp only [opF] at h
      obtain ⟨x, _, h1⟩ := ocase h
      obtain ⟨y, _, h2⟩ := ocase h1
      obtain ⟨es, _, h3⟩ := ocase h2
      obtain ⟨_, _, h4⟩ := ocase h3
      obtain ⟨r, _, h5⟩ := ocase h4
      cases r <;> (cases h5; exact .inl rfl)
    | len k x =>
      simp only [opF] at h
      obtain ⟨u, _, h1⟩ := ocase h
      clear h
      split at h1
      · cases h1; exact .inl rfl
      · cases h1; exact .inl rfl
      · split at h1 <;> first | (cases h1; exact .inl rfl) | cases h1
      · obtain ⟨_, _, h2⟩ := ocase h1; cases h2; exact .inl rfl
      · cases h1; exact .inl rfl
      · cases h1
    | _ => first | exact (hc rfl).elim | exact (hp rfl).elim
  rcases key with rfl | ⟨x, rfl⟩
  · exact ⟨Nat.le_refl _, fun _ _ => rfl⟩
  · exact ⟨by simp, fun b hb => by rw [Heap.get_add, if_neg (by omega)]⟩

theorem opF_load {o : AOp} (hc : clsA o = .load) (h : opF o tm H = some (v, H')) : H' = H := by
  cases o with
  | load n agg x =>
    simp only [opF] at h
    obtain ⟨u, _, h1⟩ := ocase h
    clear h
    split at h1
    · obtain ⟨_, _, h2⟩ := ocase h1
      obtain ⟨_, _, h3⟩ := ocase h2
      obtain ⟨_, _, h4⟩ := ocase h3
      cases h4; rfl
    · cases h1
  | lookup kk z ok m k =>
    simp only [opF] at h
    obtain ⟨x, _, h1⟩ := ocase h
    obtain ⟨y, _, h2⟩ := ocase h1
    obtain ⟨es, _, h3⟩ := ocase h2
    obtain ⟨_, _, h4⟩ := ocase h3
    obtain ⟨r, _, h5⟩ := ocase h4
    cases r <;> (cases h5; rfl)
  | len k x =>
    simp only [opF] at h
    obtain ⟨u, _, h1⟩ := ocase h
    clear h
    split at h1
    · cases h1; rfl
    · cases h1; rfl
    · split at h1 <;> first | (cases h1; rfl) | cases h1
    · obtain ⟨_, _, h2⟩ := ocase h1; cases h2; rfl
    · cases h1; rfl
    · cases h1
  | _ => cases hc

theorem opF_alloc {o : AOp} (hc : clsA o = .alloc) (h : opF o tm H = some (v, H')) : ∃ blk, H' = H.add blk ∧ ¬ roB (some blk) ∧ ∀ K : Heap, K.nx = H.nx → opF o tm K = some (v, K.add blk) := by
  cases o with
  | alloc z =>
    simp only [opF, Heap.newK_eq] at h ⊢
    cases h
    exact ⟨_, rfl, fun hr => hr.2 (by simp [wr]), fun K hK => by rw [hK]⟩
  | box x =>
    simp only [opF] at h ⊢
    obtain ⟨u, hu, h1⟩ := ocase h
    obtain ⟨hb, h2⟩ := bcaseT h1
    rw [Heap.newK_eq] at h2
    cases h2
    exact ⟨_, rfl, fun hr => hr.2 (by simp [wr]), fun K hK => by rw [hu]; dsimp only; rw [hb]; dsimp only; rw [Heap.newK_eq, hK]⟩
  | buildSlice n z l =>
    simp only [opF] at h ⊢
    obtain ⟨u, hu, h1⟩ := ocase h
    rw [Heap.newK_eq] at h1
    cases h1
    exact ⟨_, rfl, fun hr => hr.2 (by simp [wr]), fun K hK => by rw [hu]; dsimp only; rw [Heap.newK_eq, hK]⟩
  | mkmap =>
    simp only [opF, Heap.newK_eq] at h ⊢
    cases h
    exact ⟨_, rfl, fun hr => hr.2 (by simp [wr]), fun K hK => by rw [hK]⟩
  | mk z l c =>
    simp only [opF] at h ⊢
    obtain ⟨x, hx, h1⟩ := ocase h
    obtain ⟨y, hy, h2⟩ := ocase h1
    rw [hx]; dsimp only; rw [hy]; dsimp only
    clear h h1 hx hy
    split at h2
    · rename_i _ i _ j
      cases i with
      | negSucc i => cases h2
      | ofNat i =>
        cases j with
        | negSucc j => cases h2
        | ofNat j =>
          simp only [natF] at h2 ⊢
          split at h2
          · rename_i hb
            rw [Heap.newK_eq] at h2
            cases h2
            exact ⟨_, rfl, fun hr => hr.2 (by simp [wr]), fun K hK => by first | (rw [hb]; dsimp only; rw [Heap.newK_eq, hK]) | rw [Heap.newK_eq, hK]⟩
          · cases h2
    · cases h2
  | len k x => cases k <;> cases hc
  | _ => cases hc

/-! ### It reads no other place than those named -/
theorem ev_congr {x : Opd} (h : ∀ p ∈ x.ps, tm'.get p = tm.get p) : ev tm' x = ev tm x := by
  cases x with
  | t p => exact h p (by simp [Opd.ps])
  | c v => rfl
theorem evs_congr : ∀ {xs : List Opd}, (∀ p ∈ Opd.psL xs, tm'.get p = tm.get p) → evs tm' xs = evs tm xs
  | [], _ => rfl
  | x :: xs, h => by
    show (Option.casesOn (ev tm' x) none fun v => Option.casesOn (evs tm' xs) none fun vs => some (v :: vs) : Option (List AV)) = Option.casesOn (ev tm x) none fun v => Option.casesOn (evs tm xs) none fun vs => some (v :: vs)
    rw [ev_congr fun p hp => h p (by simp [Opd.psL, hp]), evs_congr fun p hp => h p (by simp [Opd.psL, hp])]
theorem fillK_congr : ∀ {l : List (Nat × Nat × Opd)}, (∀ p ∈ Opd.psP l, tm'.get p = tm.get p) → fillK tm' l = fillK tm l
  | [], _ => rfl
  | x :: l, h => by
    funext z
    have e := ev_congr (tm := tm) (tm' := tm') (x := x.2.2) fun p hp => h p (by simp [Opd.psP, hp])
    have i := fillK_congr (l := l) fun p hp => h p (by simp [Opd.psP, hp])
    show (Option.casesOn (ev tm' x.2.2) none fun v => _ : Option (List AV)) = Option.casesOn (ev tm x.2.2) none fun v => _
    rw [e]
    cases ev tm x.2.2 with
    | none => rfl
    | some v =>
      dsimp only
      split
      · show overK v.cells z x.1 (fillK tm' l) = overK v.cells z x.1 (fillK tm l)
        rw [i]
      · rfl
theorem bnd_congr {x : Option Opd} {d m : Nat} (h : ∀ p ∈ Opd.psO x, tm'.get p = tm.get p) : bnd tm' x d m = bnd tm x d m := by
  cases x with
  | none => rfl
  | some x => simp only [bnd]; rw [ev_congr h]
theorem slF_congr {k : SlK} {u : AV} {lo hi mx : Option Opd} (h : ∀ p ∈ Opd.psO lo ++ (Opd.psO hi ++ Opd.psO mx), tm'.get p = tm.get p) : slF tm' k u lo hi mx = slF tm k u lo hi mx := by
  have h1 : ∀ d m, bnd tm' lo d m = bnd tm lo d m := fun d m => bnd_congr fun p hp => h p (by simp [hp])
  have h2 : ∀ d m, bnd tm' hi d m = bnd tm hi d m := fun d m => bnd_congr fun p hp => h p (by simp [hp])
  have h3 : ∀ d m, bnd tm' mx d m = bnd tm mx d m := fun d m => bnd_congr fun p hp => h p (by simp [hp])
  unfold slF
  simp only [h1, h2, h3]

theorem opF_congr {o : AOp} (h : ∀ p ∈ o.ps, tm'.get p = tm.get p) : opF o tm' H = opF o tm H := by
  cases o with
  | mov x => simp only [opF]; rw [ev_congr h]
  | pick c a b => simp only [opF]; rw [ev_congr (x := c) fun p hp => h p (by simp [AOp.ps, hp]), ev_congr (x := a) fun p hp => h p (by simp [AOp.ps, hp]), ev_congr (x := b) fun p hp => h p (by simp [AOp.ps, hp])]
  | not x => simp only [opF]; rw [ev_congr h]
  | bin _ x y => simp only [opF]; rw [ev_congr (x := x) fun p hp => h p (by simp [AOp.ps, hp]), ev_congr (x := y) fun p hp => h p (by simp [AOp.ps, hp])]
  | eq _ _ x y => simp only [opF]; rw [ev_congr (x := x) fun p hp => h p (by simp [AOp.ps, hp]), ev_congr (x := y) fun p hp => h p (by simp [AOp.ps, hp])]
  | conv _ x => simp only [opF]; rw [ev_congr h]
  | alloc _ => rfl
  | box x => simp only [opF]; rw [ev_congr h]
  | build _ l => simp only [opF]; rw [fillK_congr h]
  | buildSlice _ _ l => simp only [opF]; rw [fillK_congr h]
  | load _ _ x => simp only [opF]; rw [ev_congr h]
  | store _ x y => simp only [opF]; rw [ev_congr (x := x) fun p hp => h p (by simp [AOp.ps, hp]), ev_congr (x := y) fun p hp => h p (by simp [AOp.ps, hp])]
  | nilchk x => simp only [opF]; rw [ev_congr h]
  | fa _ x => simp only [opF]; rw [ev_congr h]
  | iaS _ x y => simp only [opF]; rw [ev_congr (x := x) fun p hp => h p (by simp [AOp.ps, hp]), ev_congr (x := y) fun p hp => h p (by simp [AOp.ps, hp])]
  | iaA _ _ x y => simp only [opF]; rw [ev_congr (x := x) fun p hp => h p (by simp [AOp.ps, hp]), ev_congr (x := y) fun p hp => h p (by simp [AOp.ps, hp])]
  | idxA _ _ _ x y => simp only [opF]; rw [ev_congr (x := x) fun p hp => h p (by simp [AOp.ps, hp]), ev_congr (x := y) fun p hp => h p (by simp [AOp.ps, hp])]
  | idxS x y => simp only [opF]; rw [ev_congr (x := x) fun p hp => h p (by simp [AOp.ps, hp]), ev_congr (x := y) fun p hp => h p (by simp [AOp.ps, hp])]
  | sl k x lo hi mx =>
    simp only [opF]
    rw [ev_congr (x := x) fun p hp => h p (by simp [AOp.ps, hp])]
    cases ev tm x with
    | none => rfl
    | some u =>
      dsimp only
      rw [slF_congr fun p hp => h p (by simp only [AOp.ps, List.mem_append] at hp ⊢; exact .inr hp)]
  | ext _ x => simp only [opF]; rw [ev_congr h]
  | mkfunc _ a c => simp only [opF]; rw [evs_congr (xs := a) fun p hp => h p (by simp [AOp.ps, hp]), evs_congr (xs := c) fun p hp => h p (by simp [AOp.ps, hp])]
  | mkmap => rfl
  | mk _ x y => simp only [opF]; rw [ev_congr (x := x) fun p hp => h p (by simp [AOp.ps, hp]), ev_congr (x := y) fun p hp => h p (by simp [AOp.ps, hp])]
  | lookup _ _ _ x y => simp only [opF]; rw [ev_congr (x := x) fun p hp => h p (by simp [AOp.ps, hp]), ev_congr (x := y) fun p hp => h p (by simp [AOp.ps, hp])]
  | mapset _ c a b => simp only [opF]; rw [ev_congr (x := c) fun p hp => h p (by simp [AOp.ps, hp]), ev_congr (x := a) fun p hp => h p (by simp [AOp.ps, hp]), ev_congr (x := b) fun p hp => h p (by simp [AOp.ps, hp])]
  | mapdel _ x y => simp only [opF]; rw [ev_congr (x := x) fun p hp => h p (by simp [AOp.ps, hp]), ev_congr (x := y) fun p hp => h p (by simp [AOp.ps, hp])]
  | len _ x => simp only [opF]; rw [ev_congr h]
  | minmax _ xs => simp only [opF]; rw [evs_congr h]
  | append _ x y => simp only [opF]; rw [ev_congr (x := x) fun p hp => h p (by simp [AOp.ps, hp]), ev_congr (x := y) fun p hp => h p (by simp [AOp.ps, hp])]
  | copy _ x y => simp only [opF]; rw [ev_congr (x := x) fun p hp => h p (by simp [AOp.ps, hp]), ev_congr (x := y) fun p hp => h p (by simp [AOp.ps, hp])]
  | clear _ x => simp only [opF]; rw [ev_congr h]

end
end Go.Ai
