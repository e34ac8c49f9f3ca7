/- The groundwork for 'an operation of the interpreter is the model's': temporaries, operands, constants, and what stands in the tables. -/
import Derived.Test.YtphpkpemamccnacGreatAiSteps
import Derived.Test.YtphpkpemamccnacGreatAiNum
import Derived.Test.YtphpkpemamccnacGreatAiComp
namespace Go.Ai

theorem posC_eq : ∀ (f n : Nat), posC f n = pos f n
  | 0, _ => rfl
  | f + 1, n => by rw [pos_succ, posC, posC_eq f]
theorem keyC_eq (n : Nat) : keyC n = key n := posC_eq _ _

section
variable {α β : Type}
theorem ocase {x : Option α} {k : α → Option β} {r : β} (h : Option.casesOn (motive := fun _ => Option β) x none k = some r) : ∃ a, x = some a ∧ k a = some r := by
  cases x with
  | none => cases h
  | some a => exact ⟨a, rfl, h⟩
theorem bcaseT {b : Bool} {k : Option β} {r : β} (h : Bool.casesOn (motive := fun _ => Option β) b none k = some r) : b = true ∧ k = some r := by
  cases b with
  | false => cases h
  | true => exact ⟨rfl, h⟩
theorem bcaseF {b : Bool} {k : Option β} {r : β} (h : Bool.casesOn (motive := fun _ => Option β) b k none = some r) : b = false ∧ k = some r := by
  cases b with
  | true => cases h
  | false => exact ⟨rfl, h⟩
end

structure TmRel (M : Mp) (D : Nat → Prop) (nt : Nat) (tm : Tr AV) (a : Act) : Prop where
  size : nt ≤ a.tmps.size
  at_ : ∀ t v, t < nt → tm.get (key t) = some v → a.tmps.getD t undef = conc M v ∧ okv D v

theorem TmRel.mono {M M' : Mp} {D D' : Nat → Prop} {nt : Nat} {tm : Tr AV} {a : Act} (h : TmRel M D nt tm a) (hd : ∀ b, D b → D' b) (ha : ∀ b, D b → M' b = M b) : TmRel M' D' nt tm a :=
  ⟨h.size, fun t v ht hv => by
    obtain ⟨e, o⟩ := h.at_ t v ht hv
    exact ⟨by rw [conc_agree ha _ o]; exact e, okv_mono hd _ o⟩⟩

theorem TmRel.put {M : Mp} {D : Nat → Prop} {nt : Nat} {tm : Tr AV} {a : Act} (h : TmRel M D nt tm a) {d : Nat} (hd : d < nt) {v : AV} (hv : okv D v) :
    TmRel M D nt (tm.set (key d) v) (a.put (some d) (conc M v)) := by
  refine ⟨by simp [Act.put]; exact h.size, fun t u ht hu => ?_⟩
  by_cases e : d = t
  · subst e
    rw [Tr.get_set_same] at hu; cases hu
    refine ⟨?_, hv⟩
    have := Nat.lt_of_lt_of_le hd h.size
    simp [Act.put, this]
  · rw [Tr.get_set_other (fun k => e (key_inj k))] at hu
    obtain ⟨x, y⟩ := h.at_ t u ht hu
    refine ⟨?_, y⟩
    simp only [Act.put]
    rw [← x]
    simp [Array.getElem?_setIfInBounds_ne e]

theorem cellAV_ok {M : Mp} {D : Nat → Prop} {v : Value} {a : AV} (h : cellAV v = some a) : conc M a = v ∧ okv D a ∧ a.isCell = true := by
  unfold cellAV at h
  split at h <;> first | (cases h; done) | (cases h; refine ⟨?_, ?_, rfl⟩ <;> simp [conc, okv]) | skip

theorem cellsAV_ok {M : Mp} {D : Nat → Prop} : ∀ {l : List Value} {r : List AV}, cellsAV l = some r → concL M r = l ∧ okL D r ∧ ∀ v ∈ r, v.isCell = true
  | [], r, h => by cases h; simp [concL, okL]
  | v :: l, r, h => by
    simp only [cellsAV, Option.bind_eq_some_iff, Option.map_eq_some_iff] at h
    obtain ⟨a, ha, t, ht, rfl⟩ := h
    obtain ⟨h1, h2, h3⟩ := cellAV_ok (M := M) (D := D) ha
    obtain ⟨k1, k2, k3⟩ := cellsAV_ok (M := M) (D := D) ht
    refine ⟨by simp [concL, h1, k1], by simp [okL, h2, k2], fun u hu => ?_⟩
    rcases List.mem_cons.1 hu with rfl | hu
    · exact h3
    · exact k3 _ hu

theorem toAV_ok {M : Mp} {D : Nat → Prop} {v : Value} {a : AV} (h : toAV v = some a) : conc M a = v ∧ okv D a := by
  unfold toAV at h
  split at h
  · rename_i cs
    simp only [Option.map_eq_some_iff] at h
    obtain ⟨l, hl, rfl⟩ := h
    obtain ⟨h1, h2, h3⟩ := cellsAV_ok (M := M) (D := D) hl
    exact ⟨by simp [conc, h1], by simp only [okv]; exact ⟨h2, h3⟩⟩
  · obtain ⟨h1, h2, _⟩ := cellAV_ok (M := M) (D := D) h
    exact ⟨h1, h2⟩

/-- the cells of a constant -/
theorem toAV_cells {M : Mp} {D : Nat → Prop} {v : Value} {a : AV} (h : toAV v = some a) : v.cells = (a.cells.map (conc M)).toArray ∧ ∀ u ∈ a.cells, okv D u ∧ u.isCell = true := by
  unfold toAV at h
  split at h
  · rename_i cs
    simp only [Option.map_eq_some_iff] at h
    obtain ⟨l, hl, rfl⟩ := h
    obtain ⟨h1, h2, h3⟩ := cellsAV_ok (M := M) (D := D) hl
    rw [concL_map] at h1
    refine ⟨by simp [Value.cells, AV.cells, h1], fun u hu => ⟨(okL_iff D l).1 h2 u hu, h3 u hu⟩⟩
  · rename_i hna
    obtain ⟨h1, h2, h3⟩ := cellAV_ok (M := M) (D := D) h
    have ha : a.cells = [a] := by cases a <;> simp_all [AV.cells, AV.isCell]
    rw [ha]
    refine ⟨?_, fun u hu => ?_⟩
    · rw [← h1]; cases a <;> simp_all [conc, Value.cells, AV.isCell]
    · simp at hu; subst hu; exact ⟨h2, h3⟩

section
variable {P : Program} {nt : Nat} {M : Mp} {D : Nat → Prop} {tm : Tr AV} {a : Act}
theorem ev_ok {x : Operand} {X : Opd} {v : AV} (hx : opd nt x = some X) (ht : TmRel M D nt tm a) (hv : ev tm X = some v) : a.eval x = conc M v ∧ okv D v := by
  cases x with
  | tmp t =>
    simp only [opd] at hx
    split at hx
    · rename_i hlt
      cases hx
      have hv' : tm.get (key t) = some v := by rw [← keyC_eq]; exact hv
      exact ht.at_ t v hlt hv'
    · cases hx
  | const c =>
    simp only [opd, Option.map_eq_some_iff] at hx
    obtain ⟨b, hb, rfl⟩ := hx
    have : b = v := by have h : some b = some v := hv; simpa using h
    subst this
    obtain ⟨h1, h2⟩ := toAV_ok (M := M) (D := D) hb
    exact ⟨h1.symm, h2⟩
  | func f =>
    simp only [opd, Option.some.injEq] at hx
    subst hx
    have : AV.func f [] [] = v := by have h : some (AV.func f [] []) = some v := hv; simpa using h
    subst this
    exact ⟨by simp [Act.eval, conc, concL], by simp [okv, okL]⟩
  | global g => cases hx

theorem evs_cons {X : Opd} {L : List Opd} {r : List AV} (h : evs tm (X :: L) = some r) : ∃ v vs, ev tm X = some v ∧ evs tm L = some vs ∧ r = v :: vs := by
  have h' : Option.casesOn (motive := fun _ => Option (List AV)) (ev tm X) none (fun v => Option.casesOn (motive := fun _ => Option (List AV)) (evs tm L) none fun vs => some (v :: vs)) = some r := h
  obtain ⟨v, hv, h'⟩ := ocase h'
  obtain ⟨vs, hvs, h'⟩ := ocase h'
  exact ⟨v, vs, hv, hvs, by simpa using h'.symm⟩

theorem evs_ok : ∀ {l : List Operand} {L : List Opd} {vs : List AV}, opds nt l = some L → TmRel M D nt tm a → evs tm L = some vs → l.map a.eval = concL M vs ∧ okL D vs
  | [], L, vs, hl, _, hv => by
    cases hl
    have : ([] : List AV) = vs := by have h : some [] = some vs := hv; simpa using h
    subst this; simp [concL, okL]
  | x :: l, L, vs, hl, ht, hv => by
    simp only [opds, Option.bind_eq_some_iff, Option.map_eq_some_iff] at hl
    obtain ⟨X, hX, L', hL', rfl⟩ := hl
    obtain ⟨v, vs', h1, h2, rfl⟩ := evs_cons hv
    obtain ⟨a1, a2⟩ := ev_ok hX ht h1
    obtain ⟨b1, b2⟩ := evs_ok hL' ht h2
    exact ⟨by simp [concL, a1, b1], by simp [okL, a2, b2]⟩
end

/-! ### What the tables say -/
section
variable {P : Program} {w : World} {t : TypeId}
theorem run_info {i : TypeInfo} (h : P.info? t = some i) : (typeInfo t).run P w = .ok i w := by simp [typeInfo, h]
theorem run_size {n : Nat} (h : szT P t = some n) : (sizeOf t).run P w = .ok n w := by
  unfold szT at h
  obtain ⟨i, hi, rfl⟩ := Option.map_eq_some_iff.1 h
  simp [sizeOf, typeInfo, hi]
theorem run_zero {a : AV} {M : Mp} (h : zeroT P t = some a) : (zeroValue t).run P w = .ok (conc M a) w := by
  unfold zeroT at h
  simp only [Option.bind_eq_some_iff] at h
  obtain ⟨v, ⟨i, hi, hz⟩, ha⟩ := h
  obtain ⟨h1, _⟩ := toAV_ok (M := M) (D := fun _ => False) ha
  simp [zeroValue, typeInfo, hi, hz, h1]
theorem run_agg {g : Bool} (h : aggT P t = some g) : (isAgg t).run P w = .ok g w := by
  unfold aggT at h
  cases hu : P.underlying t with
  | none => rw [hu] at h; cases h
  | some d =>
    rw [hu] at h
    simp only [isAgg, Sem.run_bind, run_underlying hu, Result.andThen_ok]
    cases d <;> simp_all
theorem zero_cells {a : AV} {M : Mp} {D : Nat → Prop} (h : zeroT P t = some a) : (∀ u ∈ a.cells, okv D u ∧ u.isCell = true) ∧ okv D a ∧ (conc M a).cells = (a.cells.map (conc M)).toArray := by
  unfold zeroT at h
  simp only [Option.bind_eq_some_iff] at h
  obtain ⟨v, ⟨i, hi, hz⟩, ha⟩ := h
  obtain ⟨h1, h2⟩ := toAV_ok (M := M) (D := D) ha
  obtain ⟨h3, h4⟩ := toAV_cells (M := M) (D := D) ha
  exact ⟨h4, h2, by rw [h1]; exact h3⟩
end

/-! ### The shape of what is to be shown -/
def Yield (r : Next) (v : Value) : Prop := r = .value v ∨ (r = .skip ∧ v = undef)

def Sound1 (P : Program) (w : World) (M : Mp) (D : Nat → Prop) (H : Heap) (s : Sem Next) (v : AV) (H' : Heap) : Prop :=
  ∃ M' D' w' r, s.run P w = .ok r w' ∧ Yield r (conc M' v) ∧ Rel M' D' H' w' ∧ Ext M D H w M' D' H' w' ∧ okv D' v

theorem Sound1.same {P : Program} {w : World} {M : Mp} {D : Nat → Prop} {H : Heap} {s : Sem Next} {v : AV} (hr : Rel M D H w) (h : s.run P w = .ok (.value (conc M v)) w) (hv : okv D v) : Sound1 P w M D H s v H :=
  ⟨M, D, w, _, h, .inl rfl, hr, .refl, hv⟩

theorem conc_undef (M : Mp) : conc M AV.undef = undef := by simp [AV.undef, conc, concL, undef]
theorem okv_undef (D : Nat → Prop) : okv D AV.undef := by simp [AV.undef, okv, okL]

theorem cellsAt_some {H : Heap} {b : Nat} {l : List AV} (h : cellsAt H b = some l) : ∃ rw g, H.get b = some (.cells l rw g) := by
  have h' : Option.casesOn (motive := fun _ => Option (List AV)) (H.get b) none (fun x => Blk.casesOn (motive := fun _ => Option (List AV)) x (fun l _ _ => some l) (fun _ => none) none) = some l := h
  obtain ⟨x, hx, h'⟩ := ocase h'
  cases x with
  | cells l' rw g => have : l' = l := by simpa using h'
                     subst this; exact ⟨rw, g, hx⟩
  | mp _ => cases h'
  | dead => cases h'
theorem mapAt_some {H : Heap} {b : Nat} {l : List (AV × AV)} (h : mapAt H b = some l) : H.get b = some (.mp l) := by
  have h' : Option.casesOn (motive := fun _ => Option (List (AV × AV))) (H.get b) none (fun x => Blk.casesOn (motive := fun _ => Option (List (AV × AV))) x (fun _ _ _ => none) (fun es => some es) none) = some l := h
  obtain ⟨x, hx, h'⟩ := ocase h'
  cases x with
  | cells _ _ _ => cases h'
  | mp es => have : es = l := by simpa using h'
             subst this; exact hx
  | dead => cases h'
theorem ownK_some {β : Type} {H : Heap} {b : Nat} {k : List AV → Nat → Option β} {r : β} (h : ownK H b none k = some r) : ∃ l g, H.get b = some (.cells l true g) ∧ H.ro ≤ b ∧ k l g = some r := by
  have h' : Bool.casesOn (motive := fun _ => Option β) (Nat.blt b H.ro)
    (Option.casesOn (motive := fun _ => Option β) (H.get b) none fun x => Blk.casesOn (motive := fun _ => Option β) x (fun l rw g => Bool.casesOn (motive := fun _ => Option β) rw none (k l g)) (fun _ => none) none) none = some r := h
  obtain ⟨hb, h'⟩ := bcaseF h'
  obtain ⟨x, hx, h'⟩ := ocase h'
  cases x with
  | cells l rw g =>
    obtain ⟨hrw, h'⟩ := bcaseT h'
    subst hrw
    refine ⟨l, g, hx, ?_, h'⟩
    rw [blt_eq] at hb; simpa using hb
  | mp _ => cases h'
  | dead => cases h'

end Go.Ai
