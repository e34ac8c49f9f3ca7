/- More operations that leave memory alone: comparisons, structs and arrays built and taken apart, slices of slices. -/
import Derived.Test.YtphpkpemamccnacGreatAiEq
namespace Go.Ai
section
variable {P : Program} {nt : Nat} {M : Mp} {D : Nat → Prop} {tm : Tr AV} {a : Act} {w : World} {H H' : Heap} {v : AV} {o : Oper}

/-- a type of a kind of what may be nil -/
def NilT (P : Program) (t : TypeId) : NilK → Prop
  | .ptr => ∃ e, P.underlying t = some (.pointer e)
  | .sl => ∃ e, P.underlying t = some (.slice e)
  | .mp => ∃ k e, P.underlying t = some (.map k e)
  | .fn => ∃ p r b, P.underlying t = some (.func p r b)

/-- of a kind, nil or not -/
def nilV (M : Mp) (k : NilK) (b : Bool) (v : AV) : Prop :=
  match k with
  | .ptr => ∃ x, conc M v = .pointer x ∧ x.isNone = b
  | .sl => ∃ x n c, conc M v = .slice x n c ∧ x.isNone = b
  | .mp => ∃ x, conc M v = .map x ∧ x.isNone = b
  | .fn => (conc M v = .nilFunc ∧ b = true) ∨ (∃ f x c, conc M v = .func f x c ∧ b = false)

theorem isNil_nilV {k : NilK} {v : AV} {b : Bool} (h : isNil k v = some b) : nilV M k b v := by
  cases k <;> cases v <;> first | (cases h; done) | (cases h; simp [nilV, conc])

theorem nil_run1 {t : TypeId} {k : NilK} {x y : AV} {b : Bool} (d : Nat) (ht : NilT P t k) (hx : nilV M k true x) (hy : nilV M k b y) : (Op.equalIn (d + 1) t (conc M x) (conc M y)).run P w = .ok b w := by
  cases k with
  | ptr =>
    obtain ⟨e, hu⟩ := ht
    obtain ⟨p, e1, hp⟩ := hx
    obtain ⟨q, e2, rfl⟩ := hy
    rw [e1, e2]
    cases p <;> simp at hp
    simp [Op.equalIn, run_underlying hu]
  | sl =>
    obtain ⟨e, hu⟩ := ht
    obtain ⟨p, n, c, e1, hp⟩ := hx
    obtain ⟨q, n', c', e2, rfl⟩ := hy
    rw [e1, e2]
    cases p <;> simp at hp
    simp [Op.equalIn, run_underlying hu]
  | mp =>
    obtain ⟨k, e, hu⟩ := ht
    obtain ⟨p, e1, hp⟩ := hx
    obtain ⟨q, e2, rfl⟩ := hy
    rw [e1, e2]
    cases p <;> simp at hp
    simp [Op.equalIn, run_underlying hu]
  | fn =>
    obtain ⟨p, r, c, hu⟩ := ht
    rcases hx with ⟨e1, _⟩ | ⟨_, _, _, _, hb⟩
    · rcases hy with ⟨e2, rfl⟩ | ⟨_, _, _, e2, rfl⟩ <;> rw [e1, e2] <;> simp [Op.equalIn, run_underlying hu]
    · cases hb

theorem nil_run2 {t : TypeId} {k : NilK} {x y : AV} (d : Nat) (ht : NilT P t k) (hx : nilV M k false x) (hy : nilV M k true y) : (Op.equalIn (d + 1) t (conc M x) (conc M y)).run P w = .ok false w := by
  cases k with
  | ptr =>
    obtain ⟨e, hu⟩ := ht
    obtain ⟨p, e1, hp⟩ := hx
    obtain ⟨q, e2, hq⟩ := hy
    rw [e1, e2]
    cases p <;> simp at hp
    cases q <;> simp at hq
    simp [Op.equalIn, run_underlying hu]
  | sl =>
    obtain ⟨e, hu⟩ := ht
    obtain ⟨p, n, c, e1, hp⟩ := hx
    obtain ⟨q, n', c', e2, hq⟩ := hy
    rw [e1, e2]
    cases p <;> simp at hp
    cases q <;> simp at hq
    simp [Op.equalIn, run_underlying hu]
  | mp =>
    obtain ⟨k, e, hu⟩ := ht
    obtain ⟨p, e1, hp⟩ := hx
    obtain ⟨q, e2, hq⟩ := hy
    rw [e1, e2]
    cases p <;> simp at hp
    cases q <;> simp at hq
    simp [Op.equalIn, run_underlying hu]
  | fn =>
    obtain ⟨p, r, c, hu⟩ := ht
    rcases hx with ⟨_, hb⟩ | ⟨_, _, _, e1, _⟩
    · cases hb
    · rcases hy with ⟨e2, _⟩ | ⟨_, _, _, _, hb⟩
      · rw [e1, e2]; simp [Op.equalIn, run_underlying hu]
      · cases hb

theorem nil_run {t : TypeId} {k : NilK} {x y : AV} {r : Bool} (ht : NilT P t k) (h : eqK (.nil k) x y = some r) : (Op.equal t (conc M x) (conc M y)).run P w = .ok r w := by
  simp only [eqK] at h
  split at h
  · rename_i b hx hy
    cases h
    exact nil_run1 9999 ht (isNil_nilV hx) (isNil_nilV hy)
  · rename_i hx hy
    cases h
    exact nil_run2 9999 ht (isNil_nilV hx) (isNil_nilV hy)
  · cases h

/-- neither a number nor a text -/
theorem nilV_binOp {t : TypeId} {k : NilK} {b c : Bool} {x y : AV} (hx : nilV M k b x) (hy : nilV M k c y) :
    binOp .eql t (conc M x) (conc M y) = (do pure (.bool (← Op.equal t (conc M x) (conc M y)))) ∧ binOp .neq t (conc M x) (conc M y) = (do pure (.bool (!(← Op.equal t (conc M x) (conc M y))))) ∧
    ∀ op p q, eqGuard op t p q (conc M x) (conc M y) = pure () := by
  cases k with
  | ptr =>
    obtain ⟨p, e1, _⟩ := hx
    obtain ⟨q, e2, _⟩ := hy
    rw [e1, e2]
    exact ⟨rfl, rfl, fun op p q => by cases op <;> rfl⟩
  | sl =>
    obtain ⟨p, n, c, e1, _⟩ := hx
    obtain ⟨q, n', c', e2, _⟩ := hy
    rw [e1, e2]
    exact ⟨rfl, rfl, fun op p q => by cases op <;> rfl⟩
  | mp =>
    obtain ⟨p, e1, _⟩ := hx
    obtain ⟨q, e2, _⟩ := hy
    rw [e1, e2]
    exact ⟨rfl, rfl, fun op p q => by cases op <;> rfl⟩
  | fn =>
    rcases hx with ⟨e1, _⟩ | ⟨_, _, _, e1, _⟩ <;> rcases hy with ⟨e2, _⟩ | ⟨_, _, _, e2, _⟩ <;> rw [e1, e2] <;>
      exact ⟨rfl, rfl, fun op p q => by cases op <;> rfl⟩

/-- what is known of a comparison's type -/
def EqT (P : Program) (t : TypeId) : EqK → Prop
  | .nil k => NilT P t k
  | .bool => P.underlying t = some .bool
  | .plain ks => plainT P 8 t = some ks ∧ P.eqGuardType P.depth t = false ∧ aggT P t = some true

theorem eq_sound {t u : TypeId} {k : EqK} {neg : Bool} {x y : Operand} {X Y : Opd} (ho : o.op = .binOp (if neg then .neq else .eql) t x y u) (hk : EqT P t k) (hx : opd nt x = some X) (hy : opd nt y = some Y)
    (ht : TmRel M D nt tm a) (hr : Rel M D H w) (h : opF (.eq k neg X Y) tm H = some (v, H')) : Sound1 P w M D H (execOp a.eval o) v H' := by
  obtain ⟨u, hu, h1⟩ := ocase h
  clear h
  obtain ⟨z, hz, h2⟩ := ocase h1
  clear h1
  obtain ⟨r, hr', h⟩ := ocase h2
  clear h2
  cases h
  obtain ⟨e1, k1⟩ := ev_ok hx ht hu
  obtain ⟨e2, k2⟩ := ev_ok hy ht hz
  refine Sound1.same hr ?_ (by simp [okv])
  cases k with
  | nil k =>
    have hrun := nil_run (M := M) (w := w) hk hr'
    obtain ⟨b, c, hb, hc⟩ : ∃ b c, nilV M k b u ∧ nilV M k c z := by
      simp only [eqK] at hr'
      split at hr'
      · rename_i b hx hy; exact ⟨_, _, isNil_nilV hx, isNil_nilV hy⟩
      · rename_i hx hy; exact ⟨_, _, isNil_nilV hx, isNil_nilV hy⟩
      · cases hr'
    obtain ⟨g1, g2, g3⟩ := nilV_binOp (t := t) hb hc
    cases neg <;> simp [execOp, ho, e1, e2, g1, g2, g3, hrun, conc]
  | bool =>
    simp only [eqK] at hr'
    split at hr'
    · rename_i p q
      cases hr'
      have hrun := run_equal_bool (P := P) w t p q hk
      have g : ∀ op p' q', eqGuard op t p' q' (.bool p) (.bool q) = pure () := fun op _ _ => by cases op <;> rfl
      have g1 : binOp .eql t (.bool p) (.bool q) = (do pure (.bool (← Op.equal t (.bool p) (.bool q)))) := rfl
      have g2 : binOp .neq t (.bool p) (.bool q) = (do pure (.bool (!(← Op.equal t (.bool p) (.bool q))))) := rfl
      cases neg <;> simp [execOp, ho, e1, e2, conc, g, g1, g2, hrun]
    · cases hr'
  | plain ks =>
    obtain ⟨hp, hg, ha⟩ := hk
    simp only [eqK] at hr'
    split at hr'
    · rename_i p q
      have hrun := plain_eq (P := P) (M := M) (w := w) 8 t ks true hp ha p q r 10000 hr' (by omega)
      have hv1 : conc M (.agg p) = valOf M true p := by simp [conc, valOf, concL_map]
      have hv2 : conc M (.agg q) = valOf M true q := by simp [conc, valOf, concL_map]
      rw [hv1] at e1; rw [hv2] at e2
      have hrun' : (Op.equal t (valOf M true p) (valOf M true q)).run P w = .ok r w := hrun
      have g : ∀ op p' q', (eqGuard op t p' q' (valOf M true p) (valOf M true q)).run P w = .ok () w := fun op p' q' => by
        simp only [valOf, if_true]; exact run_eqGuard_agg w op t p' q' _ _ hg
      have g1 : binOp .eql t (valOf M true p) (valOf M true q) = (do pure (.bool (← Op.equal t (valOf M true p) (valOf M true q)))) := rfl
      have g2 : binOp .neq t (valOf M true p) (valOf M true q) = (do pure (.bool (!(← Op.equal t (valOf M true p) (valOf M true q))))) := rfl
      cases neg <;> simp [execOp, ho, e1, e2, g, g1, g2, hrun', conc]
    · cases hr'


/-! ### Structs and arrays as values -/
theorem fillK_nil {z r : List AV} (h : fillK tm [] z = some r) : r = z := by
  have h' : some z = some r := h
  simpa using h'.symm
theorem fillK_cons {p : Nat × Nat × Opd} {parts : List (Nat × Nat × Opd)} {z r : List AV} (h : fillK tm (p :: parts) z = some r) :
    ∃ v, ev tm p.2.2 = some v ∧ v.cells.length = p.2.1 ∧ p.1 + p.2.1 ≤ z.length ∧ (∀ l, v ≠ .tuple l) ∧ fillK tm parts (over v.cells z p.1) = some r := by
  have h' : Option.casesOn (motive := fun _ => Option (List AV)) (ev tm p.2.2) none (fun v =>
      match lenN v.cells == p.2.1 && Nat.ble (p.1 + p.2.1) (lenN z) && !(v matches .tuple _) with
      | true => overK v.cells z p.1 (fillK tm parts)
      | false => none) = some r := h
  obtain ⟨v, hv, h1⟩ := ocase h'
  split at h1
  · rename_i hb
    simp only [Bool.and_eq_true, beq_iff_eq, lenN_eq] at hb
    obtain ⟨⟨hb1, hb2⟩, hb3⟩ := hb
    rw [overK_eq] at h1
    exact ⟨v, hv, hb1, Nat.le_of_ble_eq_true hb2, (fun l e => by rw [e] at hb3; cases hb3), h1⟩
  · cases h1

theorem cells_conc {v : AV} (h : ∀ l, v ≠ .tuple l) (hv : okv D v) : (conc M v).cells = (v.cells.map (conc M)).toArray ∧ ∀ u ∈ v.cells, okv D u ∧ u.isCell = true := by
  cases v with
  | tuple l => exact (h l rfl).elim
  | agg l =>
    simp only [okv] at hv
    exact ⟨by simp [conc, Value.cells, AV.cells, concL_map], fun u hu => ⟨(okL_iff D l).1 hv.1 u hu, hv.2 u hu⟩⟩
  | bool _ => exact ⟨by simp [conc, Value.cells, AV.cells], fun u hu => by simp [AV.cells] at hu; subst hu; exact ⟨hv, rfl⟩⟩
  | int _ _ => exact ⟨by simp [conc, Value.cells, AV.cells], fun u hu => by simp [AV.cells] at hu; subst hu; exact ⟨hv, rfl⟩⟩
  | str _ => exact ⟨by simp [conc, Value.cells, AV.cells], fun u hu => by simp [AV.cells] at hu; subst hu; exact ⟨hv, rfl⟩⟩
  | ptr _ _ => exact ⟨by simp [conc, Value.cells, AV.cells], fun u hu => by simp [AV.cells] at hu; subst hu; exact ⟨hv, rfl⟩⟩
  | nilptr => exact ⟨by simp [conc, Value.cells, AV.cells], fun u hu => by simp [AV.cells] at hu; subst hu; exact ⟨hv, rfl⟩⟩
  | slice _ _ _ _ _ => exact ⟨by simp [conc, Value.cells, AV.cells], fun u hu => by simp [AV.cells] at hu; subst hu; exact ⟨hv, rfl⟩⟩
  | send _ _ _ => exact ⟨by simp [conc, Value.cells, AV.cells], fun u hu => by simp [AV.cells] at hu; subst hu; exact ⟨hv, rfl⟩⟩
  | nilslice => exact ⟨by simp [conc, Value.cells, AV.cells], fun u hu => by simp [AV.cells] at hu; subst hu; exact ⟨hv, rfl⟩⟩
  | map _ => exact ⟨by simp [conc, Value.cells, AV.cells], fun u hu => by simp [AV.cells] at hu; subst hu; exact ⟨hv, rfl⟩⟩
  | nilmap => exact ⟨by simp [conc, Value.cells, AV.cells], fun u hu => by simp [AV.cells] at hu; subst hu; exact ⟨hv, rfl⟩⟩
  | func _ _ _ => exact ⟨by simp [conc, Value.cells, AV.cells], fun u hu => by simp [AV.cells] at hu; subst hu; exact ⟨hv, rfl⟩⟩
  | nilfunc => exact ⟨by simp [conc, Value.cells, AV.cells], fun u hu => by simp [AV.cells] at hu; subst hu; exact ⟨hv, rfl⟩⟩
  | iface _ _ => exact ⟨by simp [conc, Value.cells, AV.cells], fun u hu => by simp [AV.cells] at hu; subst hu; exact ⟨hv, rfl⟩⟩
  | niliface => exact ⟨by simp [conc, Value.cells, AV.cells], fun u hu => by simp [AV.cells] at hu; subst hu; exact ⟨hv, rfl⟩⟩

theorem over_map {α β : Type} (f : α → β) : ∀ (xs l : List α) (off : Nat), (over xs l off).map f = over (xs.map f) (l.map f) off
  | [], _, _ => rfl
  | x :: xs, l, off => by simp [over, over_map f xs]
theorem over_mem {α : Type} {xs l : List α} {off : Nat} {v : α} (h : v ∈ over xs l off) : v ∈ xs ∨ v ∈ l := by
  induction xs generalizing l off with
  | nil => exact .inr h
  | cons x xs ih =>
    rcases ih h with h | h
    · exact .inl (by simp [h])
    · rcases List.mem_or_eq_of_mem_set h with h | h
      · exact .inr h
      · exact .inl (by simp [h])

theorem foldl_over : ∀ (xs : List Value) (k : Nat) (l : List Value) (off : Nat),
    (xs.zipIdx k).foldl (fun (cs : Array Value) (c : Value × Nat) => cs.setIfInBounds (off + c.2) c.1) l.toArray = (over xs l (off + k)).toArray
  | [], _, _, _ => rfl
  | x :: xs, k, l, off => by
    simp only [List.zipIdx_cons, List.foldl_cons, over]
    have := foldl_over xs (k + 1) (l.set (off + k) x) off
    rw [show off + (k + 1) = off + k + 1 by omega] at this
    rw [← this]
    congr 1
    simp

theorem fill_run (place : Nat → Option (Nat × Nat)) (parts : List (Nat × Operand)) : ∀ (L : List (Nat × Nat × Opd)) (z r : List AV),
    parts.length = L.length → (∀ (i : Nat) (p : Nat × Operand) (q : Nat × Nat × Opd), parts[i]? = some p → L[i]? = some q → place p.1 = some (q.1, q.2.1) ∧ opd nt p.2 = some q.2.2) →
    TmRel M D nt tm a → (∀ u ∈ z, okv D u ∧ u.isCell = true) → fillK tm L z = some r →
    Instr.fill place (z.map (conc M)).toArray (parts.map fun p => (p.1, a.eval p.2)) = some (r.map (conc M)).toArray ∧ ∀ u ∈ r, okv D u ∧ u.isCell = true := by
  induction parts with
  | nil =>
    intro L z r hl _ _ hz h
    cases L with
    | nil => rw [fillK_nil h]; exact ⟨rfl, hz⟩
    | cons _ _ => cases hl
  | cons p parts ih =>
    intro L z r hl hp ht hz h
    cases L with
    | nil => cases hl
    | cons q L =>
      obtain ⟨v, hv, h1, h2, h3, h4⟩ := fillK_cons h
      obtain ⟨hpl, hop⟩ := hp 0 p q rfl rfl
      obtain ⟨e, k⟩ := ev_ok hop ht hv
      obtain ⟨c1, c2⟩ := cells_conc (M := M) h3 k
      have hz' : ∀ u ∈ over v.cells z q.1, okv D u ∧ u.isCell = true := fun u hu => by
        rcases over_mem hu with hu | hu
        · exact c2 u hu
        · exact hz u hu
      obtain ⟨g1, g2⟩ := ih L _ r (by simpa using hl) (fun i p' q' h1 h2 => hp (i + 1) p' q' (by simpa using h1) (by simpa using h2)) ht hz' h4
      refine ⟨?_, g2⟩
      simp only [List.map_cons, Instr.fill, hpl, e, c1]
      rw [if_neg (by simp; omega)]
      have hf := foldl_over (v.cells.map (conc M)) 0 (z.map (conc M)) q.1
      rw [Nat.add_zero, ← over_map] at hf
      rw [← g1]
      congr 1
      rw [← hf]
      rw [← Array.foldl_toList, Array.toList_zipIdx]

end
end Go.Ai
