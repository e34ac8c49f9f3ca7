/- What stands for functions of the library, over the heap of tries. -/
import Derived.Test.YtphpkpemamccnacGreatAiYRun
import Derived.Test.YtphpkpemamccnacGreatAiInsert
import Derived.Test.YtphpkpemamccnacGreatAiMemo
namespace Go.Ai
/-- slices.Insert of numbers -/
noncomputable def insertY : YW := fun args H k => match args with
  | [s, .int .i64 i, .slice vb voff m _ _] => natX i fun i =>
    arrY H vb fun vt vz vzl vm _ => ifB (Nat.ble (voff + m) vm) (ifB (Nat.beq m 0) .err (readY vt vz vzl m voff fun new =>
      match s with
      | .nilslice => ifB (andB (Nat.beq i 0) (Nat.ble m most)) (newY H (.arr .leaf new m m 1) fun d H => k (.slice d 0 m 0 true) H) .err
      | .slice b off len ext true => ownY H b fun t z zl q g =>
        ifB (Nat.beq g 1 && Nat.ble (off + (len + ext)) q && Nat.ble i len && Nat.ble (len + m) most && !Nat.beq vb b)
          (readY t z zl len off fun l => ifB (Nat.ble i len) (putY H b .dead fun H => appK new (skp l i) fun t => appK (l.take i) t fun l' => forceN (len + m) fun n => newY H (.arr .leaf l' n n 1) fun d H => k (.slice d 0 n 0 true) H) .err) .err
      | .slice b off len ext false => arrY H b fun t z zl q _ =>
        ifB (Nat.ble (off + (len + ext)) q && Nat.ble i len && Nat.ble (len + m) most && Nat.blt (len + ext) (len + m))
          (readY t z zl len off fun l => ifB (Nat.ble i len) (appK new (skp l i) fun t => appK (l.take i) t fun l' => forceN (len + m) fun n => newY H (.arr .leaf l' n n 1) fun d H => k (.slice d 0 n 0 true) H) .err) .err
      | _ => .err)) .err
  | _ => .err

section
variable {r : AV} {H' : Heap}
theorem insertY_ok (args : List AV) (H : YHeap) (k : AV → YHeap → CRes) (r : AV) (H' : Heap) (h : insertY args H k = .ret r H') : ∃ v H₁, insertG args (YHeap.abs H) = .ret v (YHeap.abs H₁) ∧ k v H₁ = .ret r H' := by
  have fin : ∀ {v : AV} {H₁ : YHeap}, insertO args H.abs = some (v, H₁.abs) → k v H₁ = .ret r H' → ∃ v H₁, insertG args (YHeap.abs H) = .ret v (YHeap.abs H₁) ∧ k v H₁ = .ret r H' :=
    fun {v H₁} e e' => ⟨v, H₁, by unfold insertG; rw [e], e'⟩
  unfold insertY at h
  split at h
  · rename_i s i vb voff m ve vo
    obtain ⟨i, rfl, h1⟩ := natR h
    clear h
    obtain ⟨vt, vz, vzl, vm, vg, hvb, h2⟩ := arrY_inv h1
    clear h1
    obtain ⟨hm, h3⟩ := ifB_inv h2
    clear h2
    obtain ⟨h0, h4⟩ := ifB_inv' h3
    clear h3
    obtain ⟨new, hnew, hnl, h5⟩ := readY_sub (m := vm) (Nat.le_of_ble_eq_true hm) h4
    clear h4
    split at h5
    · obtain ⟨hc, h6⟩ := ifB_inv h5
      rw [newY_eq] at h6
      rw [andB_eq] at hc
      refine fin (v := _) (H₁ := _) ?_ h6
      simp only [insertO]; rw [natF_nat, hvb]; dsimp only; rw [hnew]; dsimp only; rw [h0]; dsimp only; rw [hc]; dsimp only; rw [Heap.newK_eq, YHeap.abs_add]
      show some (AV.slice H.nx 0 m 0 true, H.abs.add (.cells new true 1)) = some (AV.slice H.nx 0 m 0 true, H.abs.add (.cells (cellsOf .leaf new m m) true 1))
      have := cellsOf_leaf new
      rw [hnl] at this
      rw [this]
    · rename_i b off len ext
      obtain ⟨t, z, zl, q, g, h6, ho⟩ := ownY_inv h5
      obtain ⟨hc, h7⟩ := ifB_inv h6
      have hq : off + (len + ext) ≤ q := by
        simp only [Bool.and_eq_true] at hc
        exact Nat.le_of_ble_eq_true hc.1.1.1.2
      obtain ⟨l, hl, hll, h8⟩ := readY_sub (m := q) (by omega) h7
      obtain ⟨hi, h9⟩ := ifB_inv h8
      have hi := Nat.le_of_ble_eq_true hi
      rw [putY_eq, appK_eq, appK_eq, forceN_eq, newY_eq] at h9
      refine fin (v := _) (H₁ := _) ?_ h9
      simp only [insertO]; rw [natF_nat, hvb]; dsimp only; rw [hnew]; dsimp only; rw [h0]; dsimp only; rw [ho, lenN_eq (cellsOf t z zl q), cellsOf_length, hc]; dsimp only; rw [hl]; dsimp only
      rw [tkK_eq, if_pos (by omega), Heap.setK_eq, appK_eq, appK_eq, Heap.newK_eq, Heap.nx_set, YHeap.abs_add, YHeap.abs_set]
      have hlen : (l.take i ++ (new ++ skp l i)).length = len + m := by
        rw [skp_eq]; simp; omega
      have := cellsOf_leaf (l.take i ++ (new ++ skp l i))
      rw [hlen] at this
      show some (AV.slice H.nx 0 (len + m) 0 true, (H.abs.set b .dead).add (.cells (l.take i ++ (new ++ skp l i)) true 1)) = some (AV.slice H.nx 0 (len + m) 0 true, (H.abs.set b .dead).add (.cells (cellsOf .leaf (l.take i ++ (new ++ skp l i)) (len + m) (len + m)) true 1))
      rw [this]
    · rename_i b off len ext
      obtain ⟨t, z, zl, q, g, hb, h6⟩ := arrY_inv h5
      obtain ⟨hc, h7⟩ := ifB_inv h6
      have hq : off + (len + ext) ≤ q := by
        simp only [Bool.and_eq_true] at hc
        exact Nat.le_of_ble_eq_true hc.1.1.1
      obtain ⟨l, hl, hll, h8⟩ := readY_sub (m := q) (by omega) h7
      obtain ⟨hi, h9⟩ := ifB_inv h8
      have hi := Nat.le_of_ble_eq_true hi
      rw [appK_eq, appK_eq, forceN_eq, newY_eq] at h9
      refine fin (v := _) (H₁ := _) ?_ h9
      simp only [insertO]; rw [natF_nat, hvb]; dsimp only; rw [hnew]; dsimp only; rw [h0]; dsimp only; rw [hb]; dsimp only; rw [lenN_eq (cellsOf t z zl q), cellsOf_length, hc]; dsimp only; rw [hl]; dsimp only
      rw [tkK_eq, if_pos (by omega), appK_eq, appK_eq, Heap.newK_eq, YHeap.abs_add]
      have hlen : (l.take i ++ (new ++ skp l i)).length = len + m := by
        rw [skp_eq]; simp; omega
      have := cellsOf_leaf (l.take i ++ (new ++ skp l i))
      rw [hlen] at this
      show some (AV.slice H.nx 0 (len + m) 0 true, H.abs.add (.cells (l.take i ++ (new ++ skp l i)) true 1)) = some (AV.slice H.nx 0 (len + m) 0 true, H.abs.add (.cells (cellsOf .leaf (l.take i ++ (new ++ skp l i)) (len + m) (len + m)) true 1))
      rw [this]
    · cases h5
  · cases h
end

/-- a call whose answer is known -/
noncomputable def memoY (vs : List AV) (u : AV) : YW := fun args H k => ifB (sameL vs args) (k u H) .err
theorem memoY_ok {vs : List AV} {u : AV} (args : List AV) (H : YHeap) (k : AV → YHeap → CRes) (r : AV) (H' : Heap) (h : memoY vs u args H k = .ret r H') : ∃ v H₁, memoG vs u args (YHeap.abs H) = .ret v (YHeap.abs H₁) ∧ k v H₁ = .ret r H' := by
  obtain ⟨hs, h⟩ := ifB_inv h
  exact ⟨u, H, by unfold memoG; rw [hs]; rfl, h⟩
theorem memoY_prim {P : Program} {tbl : Tr AFn} (T : TblOk P tbl) {find : Nat → (YFn → CRes) → CRes} (hf : FindY tbl find) {n m f : Nat} {vs : List AV} {u : AV} (hv : vs.all plainV = true) (hu : plainR u = true)
    (h : ∀ J : AV → CRes, callY find n m (.func f [] []) vs ⟨.leaf, 0, 0⟩ (fun v _ => J v) = J u) : PrimOk P f (memoG vs u) := by
  obtain ⟨N, H₁, h1⟩ := runY_ok T hf h
  intro args H v H' hg M D w hp hr hok
  obtain ⟨rfl, rfl, rfl⟩ := memoG_inv hg
  obtain ⟨f', first, cap, hfv, hc⟩ := call_ok T N _ _ _ _ _ h1
  cases hfv
  have hge : ∀ b, (⟨.leaf, 0, 0⟩ : Heap).get b = none := fun b => Tr.get_leaf _
  have hr0 : Rel M (fun _ => False) ⟨.leaf, 0, 0⟩ w := ⟨fun _ h => h.elim, fun _ h => h.elim, fun _ _ h => h.elim⟩
  obtain ⟨_, hcalls⟩ := hc M (fun _ => False) w ⟨Nat.le_refl _, fun b hb => by rw [hge] at hb; exact hb.1.elim⟩ hr0
    ((okL_iff _ _).2 fun x hx => by
      have hx' : x ∈ args := by simpa using hx
      exact plainV_ok (List.all_eq_true.1 hv x hx') _)
  refine Calls.mono (by simpa using hcalls) fun e w' hpost => ?_
  obtain ⟨M', D', he, _, hx, _⟩ := hpost
  have hfr : ∀ c, c < w.heap.size → w'.heap[c]? = w.heap[c]? := fun c hc => hx.frame c hc fun _ h => h.elim
  exact ⟨M, D, by rw [he, plainR_conc hu M' M], hr.of_below' hx.size hfr, Ext.of_below' hx.size hfr hx.os hx.tape hx.output, plainR_ok hu D⟩
end Go.Ai
