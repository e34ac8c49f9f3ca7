/- The statement PoolEven: whatever the input, it returns true and leaves its arguments as they were. The code, as printed functions; the input, as the interpreter's heap; the row. -/
import Derived.Test.YtnlbfbiogfilfaaUApartUEven
import Derived.Test.YtnlbfbiogfilfaaAiRowUPaSSnd
import Derived.Test.YtnlbfbiogfilfaaRows
set_option linter.all false
namespace Go.Proofs.Ytnlbfbiogfilfaa.poolEven
open Go.ChangeShapes Go.WideShapes Go.ChangeAt Go.RowKit Go.Ai Go.Proofs Go.Proofs.Ytnlbfbiogfilfaa.Sh
theorem own : ownKnob Try.prog.godebug = none := by kernel_rfl
def kdsDo : Kds := .int .i64 (.int .i64 (.int .u8 .nil))
theorem flat28 : adD Try.prog 6 28 = some kdsCfg := by kernel_rfl
theorem flat3 : adD Try.prog 6 3 = some (.int .i64 .nil) := by kernel_rfl
theorem flat29 : adD Try.prog 6 29 = some (.slice kdsDo .nil) := by kernel_rfl
theorem in_do {h : Heap} {K : Nat} {v : AV} (a : ∃ n f, n ≤ K ∧ SlAt h v kdsDo.len n f ∧ ∀ i, i < n → Ro h K kdsDo (f i)) : ∃ us, DoL h v us := by
  obtain ⟨n, f, h1, h2, h3⟩ := a
  have : ∀ i, i < n → ∃ x : Int, (∃ A B, f i = [A, B, .int .u8 x]) ∧ IntKind.u8.min ≤ x ∧ x ≤ IntKind.u8.max := by
    intro i hi
    have a := h3 i hi
    obtain ⟨a1, _, e, _, a⟩ := jV a
    rw [e]; clear e
    obtain ⟨a2, _, rfl, _, a⟩ := jV a
    obtain ⟨a3, _, rfl, h4, a⟩ := jV a
    obtain rfl := abS a
    exact ⟨a3, ⟨_, _, rfl⟩, h4⟩
  obtain ⟨us, h4, h5⟩ := Nq n this
  subst h4
  have hA : ∀ i, ∃ A B, i < us.length → f i = [A, B, .int .u8 (nz us i)] := fun i => by
    by_cases hi : i < us.length
    · obtain ⟨⟨A, B, h6⟩, _⟩ := h5 i hi
      exact ⟨A, B, fun _ => h6⟩
    · exact ⟨.nilptr, .nilptr, fun h => (hi h).elim⟩
  refine ⟨us, ⟨fun i => (hA i).choose, fun i => (hA i).choose_spec.choose, h2.congr fun i hi => (hA i).choose_spec.choose_spec hi⟩, fun i hi => ?_⟩
  obtain ⟨_, h6, h7⟩ := h5 i hi
  have e1 : IntKind.u8.min = 0 := by decide
  have e2 : IntKind.u8.max = 255 := by decide
  rw [e1] at h6; rw [e2] at h7
  have e3 : us.getD i default = nz us i := rfl
  rw [e3] at h6 h7
  exact ⟨h6, by omega⟩
set_option maxRecDepth 100000 in
theorem contract (H : Type) (enc : TypeId × Value → H) (W : World) (base : Nat) (args : Array Value) (ds gs : List (DataW H)) (before : List MemPlace)
    (hval : ∀ (j : Nat) t v, Try.f4.params[j]? = some t → args[j]? = some v → Value.okWide Try.prog W .any base t v)
    (hW : DataW.Whole enc Try.prog Try.f4.params.toList Rows.poolEvenSpec.vars false W args.toList ds gs before) :
    Calls Try.prog 4 args W fun e W' => ∃ v, e = .returned v ∧ Rows.poolEvenSpec.post enc Try.prog Try.f4 false true false false W args v W' := by
  have hW' := hW
  obtain ⟨p, q, hA, hV, rfl, hfz, hnd⟩ := hW
  have hA' := hA
  rw [Try.params4] at hA hval
  obtain ⟨v1, v0, v2, d1, d0, d2, p1, p0, p2, rfl, rfl, rfl, ha1, ha0, ha2⟩ := trodAll_three hA
  obtain ⟨rfl, rfl⟩ := trodVars_none hV
  obtain ⟨D1, hD1⟩ := ap4 Try.underlying28 flat28 (hval 0 _ _ rfl rfl) ha1
  obtain ⟨D0, hD0⟩ := in_int Try.underlying3 flat3 (hval 1 _ _ rfl rfl) ha0
  obtain ⟨D2, hD2⟩ := in_slice Try.underlying29 flat29 (hval 2 _ _ rfl rfl) ha2
  obtain ⟨us, u1, u2, u3⟩ := hD1 _ ((Wd.le_l D1 D0).trans (Wd.le_l (D1.join D0) D2))
  obtain ⟨y, y1, y2, y3⟩ := hD0 _ ((Wd.le_r D1 D0).trans (Wd.le_l (D1.join D0) D2))
  obtain ⟨m, _, e, _, _⟩ := jV y1
  cases e
  obtain ⟨x, x1, x2, x3⟩ := hD2 _ (Wd.le_r (D1.join D0) D2)
  obtain ⟨zc, hc, z1, z2, z3⟩ := in_cfg u1
  obtain ⟨_, _, e, ⟨_, hx⟩, _⟩ := Ry x1
  cases e
  obtain ⟨ws, hd⟩ := in_do hx
  obtain ⟨⟨r, h'⟩, ⟨hr, _⟩, hrun⟩ := v_Even (n := ((D1.join D0).join D2).K + 5001) (zc := zc) (by omega) ⟨by omega, by omega, by omega, fun i hi => by have := z3 i hi; omega⟩ (ajV _ W) hc m hd
  dsimp only at hr
  subst hr
  have key := amu tb_ok (M5 (((D1.join D0).join D2).K + 5001)) (D := (D1.join D0).join D2) (W := W) (args := [.agg us, .int .i64 m, x]) (v := .bool true) (h' := h') ⟨u3, y3, x3, trivial⟩ (fun k => hrun fun v h => k (.bool v) h)
  simp only [List.map_cons, List.map_nil, u2, y2, x2] at key
  refine Calls.mono key fun e W' he => ?_
  obtain ⟨⟨M', rfl⟩, hb⟩ := he
  refine ⟨_, rfl, post_old (pa := p1 ++ p0 ++ p2) (pv := []) hW' (fun _ _ _ => (trodAll_cons_mk (shut_bool Try.underlying4 _) trodAll_mk0)) (fun sp hs => ?_) (fun _ _ => rfl) rfl hb (ok_one (by kernel_rfl) rfl (okWide_bool_mk Try.underlying4 _))⟩
  exact ajJ (by kernel_rfl) hb (by rw [Try.params4]; kernel_rfl) hA' fun p hp => hs p (by simpa using hp)
set_option maxRecDepth 100000 in
theorem lifted (os : Os) (started : os.Started) (H : Type) (enc : TypeId × Value → H) :
    ReturnsInHanded {} Try.checked os 4 .any (Rows.poolEvenSpec.pre6 enc Try.prog Try.f4 Rows.poolEvenRow.domain false) (Rows.poolEvenSpec.post enc Try.prog Try.f4 false true false false) := by
  refine returnsInHanded_of_change (C := Try.checked) own started (by kernel_rfl) Try.func4
    (ChangeSpec.witness6 (enc := enc) (C := Try.checked) false ⟨#[], #[.agg #[.int .i64 0, .int .i64 0, .int .i64 0, .int .i64 0, .int .i64 0, .int .i64 0, .int .u64 0, .int .u64 0, .int .u64 0, .int .u64 0, .int .u64 0, .int .u64 0, .int .u64 0, .int .u64 0, .int .u64 0, .slice none 0 0, .slice none 0 0], .int .i64 0, .slice none 0 0], []⟩ 8 (by kernel_rfl) (by kernel_rfl) (by kernel_rfl) (by kernel_rfl)) ?_
  intro W base args ds gs before hval hW _ _
  exact contract H enc W base args ds gs before hval hW
theorem sF : Rows.poolEvenRow.holds Try.pinned (OpenSpec.ofChange Rows.poolEvenSpec) :=
  OpenClaim.holds_of_wide 4 Try.f4 rfl rfl rfl rfl rfl rfl rfl ⟨rfl, rfl, rfl, rfl, rfl⟩ rfl rfl rfl rfl rfl (by kernel_rfl) Try.func4 (by kernel_rfl)
    (of_decide_eq_true (by kernel_rfl)) (by unfold Func.isWrapper; first | (rw [if_pos (by decide +kernel)]; kernel_rfl) | (rw [if_neg (by decide +kernel)]; exact ⟨rfl, rfl⟩))
    (fun os started H enc _ => lifted os started H enc)
theorem proved : Rows.PoolEvenSaid :=
  sF
end Go.Proofs.Ytnlbfbiogfilfaa.poolEven
#print axioms Go.Proofs.Ytnlbfbiogfilfaa.poolEven.proved
