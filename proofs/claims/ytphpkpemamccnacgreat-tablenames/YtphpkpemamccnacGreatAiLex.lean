/- A region that draws its order: what the interpreter's run in the written order says of each operation, whatever order is drawn. -/
import Derived.Test.YtphpkpemamccnacGreatAiJoin
namespace Go.Ai

/-! ### What a block's cells name -/
def OkB (D : Nat → Prop) : Option Blk → Prop
  | some (.cells l _ _) => ∀ v ∈ l, okv D v
  | some (.mp es) => ∀ e ∈ es, okv D e.1 ∧ okv D e.2
  | _ => True

theorem EntOk.okB {M : Mp} {D : Nat → Prop} : ∀ {es : List (AV × AV)} {ms : List MapEntry}, EntOk M D es ms → ∀ e ∈ es, okv D e.1 ∧ okv D e.2
  | [], [], _ => by simp
  | e :: es, m :: ms, h => by
    intro x hx
    rcases List.mem_cons.1 hx with rfl | hx
    · exact ⟨h.1.2.2.1, h.1.2.2.2⟩
    · exact EntOk.okB h.2 x hx
  | [], _ :: _, h => h.elim
  | _ :: _, [], h => h.elim
theorem EntOk.cut {M : Mp} {D D₁ : Nat → Prop} : ∀ {es : List (AV × AV)} {ms : List MapEntry}, EntOk M D es ms → (∀ e ∈ es, okv D₁ e.1 ∧ okv D₁ e.2) → EntOk M D₁ es ms
  | [], [], _, _ => trivial
  | e :: es, m :: ms, h, k => ⟨⟨h.1.1, h.1.2.1, (k e (by simp)).1, (k e (by simp)).2⟩, EntOk.cut h.2 fun x hx => k x (by simp [hx])⟩
  | [], _ :: _, h, _ => h.elim
  | _ :: _, [], h, _ => h.elim

theorem BlkOk.okB {M : Mp} {D : Nat → Prop} {w : World} {L : Loc} {x : Option Blk} (h : BlkOk M D w L x) : OkB D x := by
  cases x with
  | none => trivial
  | some x =>
    cases x with
    | dead => trivial
    | mp es => obtain ⟨⟨ms, clock, _, h2, _⟩⟩ := h; exact h2.okB
    | cells l rw g =>
      intro v hv
      obtain ⟨i, hi⟩ := List.mem_iff_getElem?.1 hv
      exact (RowOk.at_ h i v hi).2.2
theorem BlkOk.cut {M : Mp} {D D₁ : Nat → Prop} {w : World} {L : Loc} {x : Option Blk} (h : BlkOk M D w L x) (k : OkB D₁ x) : BlkOk M D₁ w L x := by
  cases x with
  | none => trivial
  | some x =>
    cases x with
    | dead => trivial
    | mp es => obtain ⟨⟨ms, clock, h1, h2, h3⟩⟩ := h; exact ⟨⟨ms, clock, h1, h2.cut k, h3⟩⟩
    | cells l rw g =>
      refine ⟨fun i v hv => ?_, RowOk.own h, RowOk.lt h, RowOk.fz h, RowOk.sl h⟩
      obtain ⟨a, b, _⟩ := RowOk.at_ h i v hv
      exact ⟨a, b, k v (List.mem_of_getElem? hv)⟩
theorem OkB.mono {D D₁ : Nat → Prop} {x : Option Blk} (h : OkB D x) (hd : ∀ b, D b → D₁ b) : OkB D₁ x := by
  cases x with
  | none => trivial
  | some x =>
    cases x with
    | dead => trivial
    | mp es => exact fun e he => ⟨okv_mono hd _ (h e he).1, okv_mono hd _ (h e he).2⟩
    | cells l rw g => exact fun v hv => okv_mono hd _ (h v hv)

/-! ### Temporaries cut down to those named -/
noncomputable def restr : List P → Tr AV → Tr AV
  | [], _ => .leaf
  | p :: ps, tm => match tm.get p with
    | some v => (restr ps tm).set p v
    | none => restr ps tm

theorem restr_some {tm : Tr AV} {p : P} {v : AV} : ∀ {ps : List P}, (restr ps tm).get p = some v → p ∈ ps ∧ tm.get p = some v
  | [], h => by rw [restr, Tr.get_leaf] at h; cases h
  | q :: ps, h => by
    rw [restr] at h
    split at h
    · rename_i u hu
      by_cases e : q = p
      · subst e; rw [Tr.get_set_same] at h; cases h; exact ⟨by simp, hu⟩
      · rw [Tr.get_set_other e] at h; obtain ⟨h1, h2⟩ := restr_some h; exact ⟨by simp [h1], h2⟩
    · obtain ⟨h1, h2⟩ := restr_some h; exact ⟨by simp [h1], h2⟩
theorem restr_get {tm : Tr AV} {p : P} : ∀ {ps : List P}, p ∈ ps → (restr ps tm).get p = tm.get p
  | q :: ps, h => by
    rw [restr]
    by_cases e : q = p
    · subst e
      split
      · rename_i u hu; rw [Tr.get_set_same, hu]
      · rename_i hn
        cases hg : (restr ps tm).get q with
        | none => rw [hn]
        | some v => rw [(restr_some hg).2]
    · have hp : p ∈ ps := by rcases List.mem_cons.1 h with h | h; exact (e h.symm).elim; exact h
      split
      · rw [Tr.get_set_other e]; exact restr_get hp
      · exact restr_get hp

/-! ### A run in the written order -/
structure Lex (cf : ACalls) (l : List Ins) (T : Nat → Tr AV) (H : Nat → Heap) (V : Nat → AV) : Prop where
  val : ∀ j x, l[j]? = some x → insV cf x (T j) (H j) = some (V j, H (j + 1))
  tm : ∀ j x, l[j]? = some x → T (j + 1) = (T j).putO x.dst (V j)

theorem regF_lex {cf : ACalls} : ∀ {l : List Ins} {s s' : St} {e : Ex}, regF cf l s = .fin e s' → ∃ T H V, Lex cf l T H V ∧ T 0 = s.tm ∧ H 0 = s.hp ∧ T l.length = s'.tm ∧ H l.length = s'.hp
  | [], s, s', e, h => by
    rw [regF_nil] at h; cases h
    exact ⟨fun _ => s.tm, fun _ => s.hp, fun _ => .undef, ⟨fun j x h => by simp at h, fun j x h => by simp at h⟩, rfl, rfl, rfl, rfl⟩
  | x :: l, s, s', e, h => by
    obtain ⟨s₁, h1, h2⟩ := regF_cons h
    obtain ⟨tm, hp⟩ := s
    rw [insF_eq] at h1
    cases hv : insV cf x tm hp with
    | none => rw [hv] at h1; cases h1
    | some r =>
      rw [hv] at h1; cases h1
      obtain ⟨T, H, V, hl, t0, h0, tn, hn⟩ := regF_lex h2
      refine ⟨fun j => match j with | 0 => tm | j + 1 => T j, fun j => match j with | 0 => hp | j + 1 => H j, fun j => match j with | 0 => r.1 | j + 1 => V j, ⟨fun j y hy => ?_, fun j y hy => ?_⟩, rfl, rfl, tn, hn⟩
      · cases j with
        | zero => simp at hy; subst hy; show insV cf x tm hp = some (r.1, H 0); rw [hv, h0]
        | succ j => simp at hy; exact hl.val j y hy
      · cases j with
        | zero => simp at hy; subst hy; show T 0 = _; rw [t0]
        | succ j => simp at hy; exact hl.tm j y hy

section
variable {cf : ACalls} {l : List Ins} {T : Nat → Tr AV} {H : Nat → Heap} {V : Nat → AV}

theorem Lex.mono (h : Lex cf l T H V) (hm : CallsMono cf) (h0 : HpOk (H 0)) : ∀ j, j ≤ l.length → HpOk (H j)
  | 0, _ => h0
  | j + 1, hj => by
    have ih := Lex.mono h hm h0 j (by omega)
    have hx : l[j]? = some l[j] := List.getElem?_eq_getElem (by omega)
    exact ih.mono (insV_mono hm ih.ro (h.val j _ hx))

theorem Lex.nx (h : Lex cf l T H V) (hm : CallsMono cf) (h0 : HpOk (H 0)) {i : Nat} : ∀ {j}, i ≤ j → j ≤ l.length → (H i).nx ≤ (H j).nx
  | 0, hi, _ => by have : i = 0 := by omega
                   subst this; exact Nat.le_refl _
  | j + 1, hi, hj => by
    by_cases e : i = j + 1
    · subst e; exact Nat.le_refl _
    · have ih := Lex.nx h hm h0 (i := i) (j := j) (by omega) (by omega)
      have hx : l[j]? = some l[j] := List.getElem?_eq_getElem (by omega)
      exact Nat.le_trans ih (insV_mono hm (h.mono hm h0 j (by omega)).ro (h.val j _ hx)).nx

/-- between two effects nothing that is there is turned -/
theorem Lex.calm (h : Lex cf l T H V) (hm : CallsMono cf) {i : Nat} : ∀ {j}, i ≤ j → j ≤ l.length → (∀ m x, i ≤ m → m < j → l[m]? = some x → clsI x ≠ .eff) → ∀ b, b < (H i).nx → (H i).nx ≤ (H j).nx ∧ (H j).get b = (H i).get b
  | 0, hi, _, _, b, _ => by have : i = 0 := by omega
                            subst this; exact ⟨Nat.le_refl _, rfl⟩
  | j + 1, hi, hj, he, b, hb => by
    by_cases e : i = j + 1
    · subst e; exact ⟨Nat.le_refl _, rfl⟩
    · obtain ⟨ih1, ih2⟩ := Lex.calm h hm (i := i) (j := j) (by omega) (by omega) (fun m x h1 h2 => he m x h1 (by omega)) b hb
      have hx : l[j]? = some l[j] := List.getElem?_eq_getElem (by omega)
      obtain ⟨k1, k2⟩ := insV_quiet hm (he j _ (by omega) (by omega) hx) (h.val j _ hx)
      exact ⟨Nat.le_trans ih1 k1, by rw [k2 b (by omega), ih2]⟩

theorem Lex.pure (h : Lex cf l T H V) {j : Nat} {x : Ins} (hx : l[j]? = some x) (hp : clsI x = .pure) : H (j + 1) = H j ∧ ∀ K, insV cf x (T j) K = some (V j, K) := by
  obtain ⟨f, hf⟩ := insV_pure (cf := cf) (tm := T j) hp
  have hv := h.val j x hx
  rw [hf] at hv
  cases f with
  | none => cases hv
  | some r => simp at hv; obtain ⟨h1, h2⟩ := hv; subst h1; exact ⟨h2.symm, fun K => by rw [hf]; rfl⟩
end
end Go.Ai
