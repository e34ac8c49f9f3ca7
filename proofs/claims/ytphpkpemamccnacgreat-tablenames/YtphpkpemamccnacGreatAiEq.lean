/- '==' and '!=' of what may be nil, of bools, of structs and arrays of plain cells. -/
import Derived.Test.YtphpkpemamccnacGreatAiPure
import Derived.ChangeKeysEq
namespace Go.Ai
section
variable {P : Program} {nt : Nat} {M : Mp} {D : Nat → Prop} {tm : Tr AV} {a : Act} {w : World} {H H' : Heap} {v : AV} {o : Oper}

/-- cells as a value of a type -/
def valOf (M : Mp) (g : Bool) (l : List AV) : Value := if g then .agg (l.map (conc M)).toArray else conc M (l.headD .undef)

theorem packF_valOf {g : Bool} {l : List AV} {v : AV} (h : packF g l = some v) : conc M v = valOf M g l ∧ (∀ D : Nat → Prop, (∀ u ∈ l, okv D u ∧ u.isCell = true) → okv D v) := by
  unfold packF at h
  split at h
  · cases h
    refine ⟨by simp [conc, valOf, concL_map], fun D hl => ?_⟩
    simp only [okv]
    exact ⟨(okL_iff D _).2 fun u hu => (hl u hu).1, fun u hu => (hl u hu).2⟩
  · cases h
    exact ⟨by simp [valOf], fun D hl => (hl _ (by simp)).1⟩
  · cases h

theorem run_part {t : TypeId} {g : Bool} {n : Nat} (hg : aggT P t = some g) (hn : szT P t = some n) (h1 : g = false → n = 1) (L : List AV) (off : Nat) (hoff : off + n ≤ L.length ∨ n = 0) :
    (part t (L.map (conc M)).toArray off).run P w = .ok (valOf M g ((L.drop off).take n)) w := by
  simp only [part, Sem.run_bind, run_agg hg, Result.andThen_ok, Sem.run_ite]
  cases g with
  | true =>
    simp only [if_true, run_size hn, Result.andThen_ok, Sem.run_pure, valOf]
    congr 2
    apply Array.ext'
    simp
  | false =>
    have := h1 rfl
    subst this
    simp only [Bool.false_eq_true, if_false, valOf]
    have hlt : off < L.length := by omega
    have e1 : (L.map (conc M)).toArray[off]? = some (conc M L[off]) := by simp [hlt]
    rw [e1, List.drop_eq_getElem_cons hlt]
    rfl

theorem eqCells_nil {l l' : List AV} {r : Bool} (h : eqCells [] l l' = some r) : l = [] ∧ l' = [] ∧ r = true := by
  cases l with
  | nil => cases l' with
    | nil => have : some true = some r := h
             exact ⟨rfl, rfl, by simpa using this.symm⟩
    | cons _ _ => cases h
  | cons _ _ => cases h
theorem eqCells_cons {c : CK} {ks : List CK} {l l' : List AV} {r : Bool} (h : eqCells (c :: ks) l l' = some r) :
    ∃ x y s t r1 r2, l = x :: s ∧ l' = y :: t ∧ eqCell c x y = some r1 ∧ eqCells ks s t = some r2 ∧ r = (r1 && r2) := by
  cases l with
  | nil => cases h
  | cons x s => cases l' with
    | nil => cases h
    | cons y t =>
      have h' : Option.casesOn (motive := fun _ => Option Bool) (eqCell c x y) none (fun r => Bool.casesOn (motive := fun _ => Option Bool) r (Option.casesOn (motive := fun _ => Option Bool) (eqCells ks s t) none (fun _ => some false)) (eqCells ks s t)) = some r := h
      obtain ⟨r1, h1, h'⟩ := ocase h'
      cases r1 with
      | false =>
        obtain ⟨r2, h2, h'⟩ := ocase h'
        cases h'
        exact ⟨x, y, s, t, false, r2, rfl, rfl, h1, h2, by simp⟩
      | true => exact ⟨x, y, s, t, true, r, rfl, rfl, h1, h', by simp⟩
theorem eqCells_length : ∀ {ks : List CK} {l l' : List AV} {r : Bool}, eqCells ks l l' = some r → l.length = ks.length ∧ l'.length = ks.length
  | [], _, _, _, h => by obtain ⟨rfl, rfl, _⟩ := eqCells_nil h; simp
  | _ :: _, _, _, _, h => by
    obtain ⟨_, _, _, _, _, _, rfl, rfl, _, h2, _⟩ := eqCells_cons h
    obtain ⟨a, b⟩ := eqCells_length h2
    simp [a, b]
theorem eqCells_append : ∀ {ks ks' : List CK} {l l' : List AV} {r : Bool}, eqCells (ks ++ ks') l l' = some r →
    ∃ r1 r2, eqCells ks (l.take ks.length) (l'.take ks.length) = some r1 ∧ eqCells ks' (l.drop ks.length) (l'.drop ks.length) = some r2 ∧ r = (r1 && r2)
  | [], ks', l, l', r, h => ⟨true, r, rfl, by simpa using h, by simp⟩
  | c :: ks, ks', l, l', r, h => by
    obtain ⟨x, y, s, t, r1, r2, rfl, rfl, h1, h2, rfl⟩ := eqCells_cons h
    obtain ⟨s1, s2, k1, k2, rfl⟩ := eqCells_append h2
    refine ⟨r1 && s1, s2, ?_, by simpa using k2, by simp [Bool.and_assoc]⟩
    show Option.casesOn (motive := fun _ => Option Bool) (eqCell c x y) none (fun r => Bool.casesOn (motive := fun _ => Option Bool) r (Option.casesOn (motive := fun _ => Option Bool) (eqCells ks (s.take ks.length) (t.take ks.length)) none (fun _ => some false)) (eqCells ks (s.take ks.length) (t.take ks.length))) = _
    rw [h1, k1]
    cases r1 <;> simp

theorem eqCell_int {x y : AV} {r : Bool} (h : eqCell .int x y = some r) : ∃ k a b, x = .int k a ∧ y = .int k b ∧ r = (a == b) := by
  unfold eqCell at h
  split at h
  · split at h
    · rename_i hk; subst hk
      rw [eqF_eq] at h
      exact ⟨_, _, _, rfl, rfl, by simpa using h.symm⟩
    · cases h
  · rename_i e; cases e
  · rename_i e; cases e
  · cases h
theorem eqCell_bool {x y : AV} {r : Bool} (h : eqCell .bool x y = some r) : ∃ a b, x = .bool a ∧ y = .bool b ∧ r = (a == b) := by
  unfold eqCell at h
  split at h
  · rename_i e; cases e
  · exact ⟨_, _, rfl, rfl, by simpa using h.symm⟩
  · rename_i e; cases e
  · cases h
theorem eqCell_str {x y : AV} {r : Bool} (h : eqCell .str x y = some r) : ∃ a b, x = .str a ∧ y = .str b ∧ r = (a == b) := by
  unfold eqCell at h
  split at h
  · rename_i e; cases e
  · rename_i e; cases e
  · rw [eqBytes_eq] at h
    exact ⟨_, _, rfl, rfl, by simpa using h.symm⟩
  · cases h

theorem plain_shape : ∀ (d : Nat) (t : TypeId) (ks : List CK), plainT P d t = some ks → ∃ g, aggT P t = some g ∧ szT P t = some ks.length ∧ (g = false → ks.length = 1)
  | 0, _, _, h => by simp [plainT] at h
  | d + 1, t, ks, h => by
    unfold plainT at h
    split at h
    · rename_i hu
      split at h
      · rename_i h1; cases h; exact ⟨false, by simp [aggT, hu], by simpa using h1, fun _ => rfl⟩
      · cases h
    · rename_i hu
      split at h
      · rename_i h1; cases h; exact ⟨false, by simp [aggT, hu], by simpa using h1, fun _ => rfl⟩
      · cases h
    · rename_i hu
      split at h
      · rename_i h1; cases h; exact ⟨false, by simp [aggT, hu], by simpa using h1, fun _ => rfl⟩
      · cases h
    · rename_i fs hu
      split at h
      · cases h
      · obtain ⟨ks', _, h⟩ := Option.bind_eq_some_iff.1 h
        split at h
        · rename_i h1; cases h
          exact ⟨true, by simp [aggT, hu], by simpa using h1, fun e => by cases e⟩
        · cases h
    · rename_i n e hu
      obtain ⟨ks', _, h⟩ := Option.bind_eq_some_iff.1 h
      split at h
      · rename_i h1
        simp only [Bool.and_eq_true, beq_iff_eq] at h1
        cases h
        exact ⟨true, by simp [aggT, hu], by rw [h1.2]; simp, fun e => by cases e⟩
      · cases h
    · cases h

theorem single {L : List AV} {n : Nat} (h : L.length = n) (h1 : n = 1) : ∃ x, L = [x] := by
  subst h1
  match L, h with
  | [x], _ => exact ⟨x, rfl⟩

theorem plain_eq : ∀ (d : Nat) (t : TypeId) (ks : List CK) (g : Bool), plainT P d t = some ks → aggT P t = some g →
    ∀ (l l' : List AV) (r : Bool) (k : Nat), eqCells ks l l' = some r → d ≤ k → (Op.equalIn k t (valOf M g l) (valOf M g l')).run P w = .ok r w := by
  intro d
  induction d with
  | zero => intro t ks g h; simp [plainT] at h
  | succ d ih =>
    intro t ks g h hg l l' r k he hk
    obtain ⟨k, rfl⟩ : ∃ m, k = m + 1 := ⟨k - 1, by omega⟩
    have fields : ∀ (fs : List Field) (off : Nat) (ks : List CK), plainFs P (plainT P d) fs off = some ks → ∀ (L L' : List AV) (r : Bool), eqCells ks (L.drop off) (L'.drop off) = some r → 
        (Op.eqFields k (L.map (conc M)).toArray (L'.map (conc M)).toArray fs).run P w = .ok r w := by
      intro fs
      induction fs with
      | nil =>
        intro off ks h L L' r he
        simp only [plainFs, Option.some.injEq] at h
        subst h
        obtain ⟨_, _, rfl⟩ := eqCells_nil he
        simp [Op.eqFields]
      | cons f fs ihf =>
        intro off ks h L L' r he
        simp only [plainFs] at h
        split at h
        · rename_i hf
          simp only [Bool.and_eq_true, bne_iff_ne, beq_iff_eq] at hf
          obtain ⟨ks1, h1, h⟩ := Option.bind_eq_some_iff.1 h
          split at h
          · rename_i hs
            have hs : szT P f.type = some ks1.length := by simpa using hs
            obtain ⟨ks2, h2, rfl⟩ := Option.map_eq_some_iff.1 h
            obtain ⟨r1, r2, e1, e2, rfl⟩ := eqCells_append he
            obtain ⟨g', hg', hn', hone⟩ := plain_shape d f.type ks1 h1
            obtain ⟨q1, q2⟩ := eqCells_length he
            simp only [List.length_append, List.length_drop] at q1 q2
            have p1 := run_part (M := M) (w := w) hg' hn' hone L off (by omega)
            have p2 := run_part (M := M) (w := w) hg' hn' hone L' off (by omega)
            have p3 := ih f.type ks1 g' h1 hg' _ _ r1 k e1 (by omega)
            simp only [Op.eqFields, ne_eq, hf.1, not_false_eq_true, if_true, Sem.run_bind, hf.2, p1, p2, p3, Result.andThen_ok]
            rw [List.drop_drop, List.drop_drop] at e2
            have p4 := ihf _ _ h2 L L' r2 e2
            cases r1
            · simp
            · simpa using p4
          · cases h
        · cases h
    have items : ∀ (e : TypeId) (ks : List CK), plainT P d e = some ks → szT P e = some ks.length → ∀ (n i : Nat) (L L' : List AV) (r : Bool), 
        eqCells (List.replicate n ks).flatten (L.drop (i * ks.length)) (L'.drop (i * ks.length)) = some r →
        (Op.eqItems k e ks.length (L.map (conc M)).toArray (L'.map (conc M)).toArray (List.range' i n)).run P w = .ok r w := by
      intro e ks h1 hs n
      induction n with
      | zero =>
        intro i L L' r he
        simp only [List.replicate_zero, List.flatten_nil] at he
        obtain ⟨_, _, rfl⟩ := eqCells_nil he
        simp [Op.eqItems]
      | succ n ihn =>
        intro i L L' r he
        simp only [List.replicate_succ, List.flatten_cons] at he
        obtain ⟨r1, r2, e1, e2, rfl⟩ := eqCells_append he
        obtain ⟨g', hg', hn', hone⟩ := plain_shape d e ks h1
        obtain ⟨q1, q2⟩ := eqCells_length he
        simp only [List.length_append, List.length_drop] at q1 q2
        have p1 := run_part (M := M) (w := w) hg' hn' hone L (i * ks.length) (by omega)
        have p2 := run_part (M := M) (w := w) hg' hn' hone L' (i * ks.length) (by omega)
        have p3 := ih e ks g' h1 hg' _ _ r1 k e1 (by omega)
        simp only [List.range'_succ, Op.eqItems, Sem.run_bind, p1, p2, p3, Result.andThen_ok]
        rw [List.drop_drop, List.drop_drop, show i * ks.length + ks.length = (i + 1) * ks.length by rw [Nat.succ_mul]] at e2
        have p4 := ihn (i + 1) L L' r2 e2
        cases r1
        · simp
        · simpa using p4
    unfold plainT at h
    split at h
    · rename_i q hu
      have hgf : g = false := by simpa [aggT, hu] using hg.symm
      subst hgf
      split at h
      · cases h
        obtain ⟨x, y, s, t', r1, r2, rfl, rfl, hc, h2, rfl⟩ := eqCells_cons he
        obtain ⟨rfl, rfl, rfl⟩ := eqCells_nil h2
        obtain ⟨kk, p, s, rfl, rfl, rfl⟩ := eqCell_int hc
        simp [valOf, conc, Op.equalIn, run_underlying hu]
      · cases h
    · rename_i hu
      have hgf : g = false := by simpa [aggT, hu] using hg.symm
      subst hgf
      split at h
      · cases h
        obtain ⟨x, y, s, t', r1, r2, rfl, rfl, hc, h2, rfl⟩ := eqCells_cons he
        obtain ⟨rfl, rfl, rfl⟩ := eqCells_nil h2
        obtain ⟨p, s, rfl, rfl, rfl⟩ := eqCell_str hc
        simp [valOf, conc, Op.equalIn, run_underlying hu, beq_toListBytes]
      · cases h
    · rename_i hu
      have hgf : g = false := by simpa [aggT, hu] using hg.symm
      subst hgf
      split at h
      · cases h
        obtain ⟨x, y, s, t', r1, r2, rfl, rfl, hc, h2, rfl⟩ := eqCells_cons he
        obtain ⟨rfl, rfl, rfl⟩ := eqCells_nil h2
        obtain ⟨p, s, rfl, rfl, rfl⟩ := eqCell_bool hc
        simp [valOf, conc, Op.equalIn, run_underlying hu]
      · cases h
    · rename_i fs hu
      have hgf : g = true := by simpa [aggT, hu] using hg.symm
      subst hgf
      split at h
      · cases h
      · rename_i hst
        obtain ⟨ks', h1, h⟩ := Option.bind_eq_some_iff.1 h
        split at h
        · cases h
          have hff : P.fieldsOf t = fs := by simp [Program.fieldsOf, hu]
          have hu' : P.underlying t = some (.struct (P.fieldsOf t)) := by rw [hff]; exact hu
          simp only [valOf, if_true]
          rw [run_equalIn_struct w k t _ _ hu' (by simpa using hst), hff]
          exact fields fs.toList 0 _ h1 l l' r (by simpa using he)
        · cases h
    · rename_i n e hu
      have hgf : g = true := by simpa [aggT, hu] using hg.symm
      subst hgf
      obtain ⟨ks', h1, h⟩ := Option.bind_eq_some_iff.1 h
      split at h
      · rename_i hs
        simp only [Bool.and_eq_true, beq_iff_eq] at hs
        cases h
        obtain ⟨i, hi, hi2⟩ := Option.map_eq_some_iff.1 hs.1
        have hcells : P.cellsOf e = ks'.length := by simp [Program.cellsOf, hi, hi2]
        simp only [valOf, if_true]
        rw [run_equalIn_array w k _ _ hu hi, hcells, List.range_eq_range']
        exact items e ks' h1 hs.1 n 0 l l' r (by simpa using he)
      · cases h
    · cases h
end
end Go.Ai
