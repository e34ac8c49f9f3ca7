/- A call of plain values whose run from an empty heap is known: it answers so from every heap. -/
import Derived.Test.YtphpkpemamccnacGreatAiFind
namespace Go.Ai

theorem Ext.of_below' {M : Mp} {D : Nat → Prop} {K : Heap} {w W : World} (hs : w.heap.size ≤ W.heap.size) (hf : ∀ c, c < w.heap.size → W.heap[c]? = w.heap[c]?) (ho : W.os = w.os) (ht : W.tape = w.tape) (hp : W.output = w.output) : Ext M D K w M D K W := {
  keep := fun _ h => h
  agree := fun _ _ => rfl
  old := fun _ h _ => h
  nx := Nat.le_refl _
  wrm := fun _ _ h => h
  newb := fun _ h hn => (hn h).elim
  frame := fun c hc _ => hf c hc
  unm := fun _ _ _ => rfl
  size := hs
  os := ho
  tape := ht
  output := hp }
theorem Rel.of_below' {M : Mp} {D : Nat → Prop} {K : Heap} {w W : World} (hr : Rel M D K w) (hs : w.heap.size ≤ W.heap.size) (hf : ∀ c, c < w.heap.size → W.heap[c]? = w.heap[c]?) : Rel M D K W :=
  ⟨hr.dom, fun b hb => (hr.blk b hb).keep (fun _ h => h) (fun _ _ => rfl) (fun hl => hf _ ((hr.blk b hb).lt hl)) hs, hr.inj⟩

/-- plain values -/
def plainV : AV → Bool
  | .int _ _ => true
  | .bool _ => true
  | .str _ => true
  | _ => false
def plainR : AV → Bool
  | .tuple l => l.all plainV
  | v => plainV v
theorem plainV_conc {v : AV} (h : plainV v = true) (M M' : Mp) : conc M v = conc M' v := by cases v <;> first | rfl | cases h
theorem plainV_ok {v : AV} (h : plainV v = true) (D : Nat → Prop) : okv D v := by cases v <;> first | exact trivial | (simp [okv]; done) | cases h
theorem plainR_conc {v : AV} (h : plainR v = true) (M M' : Mp) : conc M v = conc M' v := by
  cases v with
  | tuple l =>
    have h : l.all plainV = true := h
    simp only [conc, concL_map]
    congr 2
    exact List.map_congr_left fun x hx => plainV_conc (List.all_eq_true.1 h x hx) M M'
  | int _ _ => rfl
  | bool _ => rfl
  | str _ => rfl
  | _ => cases h
theorem plainR_ok {v : AV} (h : plainR v = true) (D : Nat → Prop) : okv D v := by
  cases v with
  | tuple l =>
    have h : l.all plainV = true := h
    simp only [okv]
    exact (okL_iff D _).2 fun x hx => plainV_ok (List.all_eq_true.1 h x hx) D
  | int _ _ => simp [okv]
  | bool _ => simp [okv]
  | str _ => simp [okv]
  | _ => cases h

/-- are they the same numbers, bools? -/
noncomputable def sameV : AV → AV → Bool
  | .int q a, .int q' b => ikN q == ikN q' && decide (a = b)
  | .bool a, .bool b => a == b
  | _, _ => false
noncomputable def sameL (l : List AV) : List AV → Bool := List.rec (motive := fun _ => List AV → Bool) (fun l' => List.rec (motive := fun _ => Bool) true (fun _ _ _ => false) l')
  (fun a _ ih l' => List.rec (motive := fun _ => Bool) false (fun b t _ => andB (sameV a b) (ih t)) l') l
theorem sameV_ok {a b : AV} (h : sameV a b = true) : a = b := by
  unfold sameV at h
  split at h
  · simp only [Bool.and_eq_true, beq_iff_eq, decide_eq_true_eq] at h
    rename_i q a q' b
    have : q = q' := ikEq_ok (by show Nat.beq _ _ = true; rw [h.1]; exact Nat.beq_refl _)
    rw [this, h.2]
  · simp only [beq_iff_eq] at h; rw [h]
  · cases h
theorem sameL_ok : ∀ {l l' : List AV}, sameL l l' = true → l = l'
  | [], [], _ => rfl
  | [], _ :: _, h => by cases h
  | _ :: _, [], h => by cases h
  | a :: l, b :: l', h => by
    have h0 : andB (sameV a b) (sameL l l') = true := h
    rw [andB_eq, Bool.and_eq_true] at h0
    rw [sameV_ok h0.1, sameL_ok h0.2]

noncomputable def memoG (vs : List AV) (u : AV) (args : List AV) (H : Heap) : CRes := ifB (sameL vs args) (.ret u H) .err
theorem memoG_inv {vs : List AV} {u : AV} {args : List AV} {H H' : Heap} {v : AV} (h : memoG vs u args H = .ret v H') : args = vs ∧ v = u ∧ H' = H := by
  unfold memoG at h
  rw [ifB_eq] at h
  split at h
  · rename_i hs
    cases h
    exact ⟨(sameL_ok hs).symm, rfl, rfl⟩
  · cases h
theorem memoG_mono {vs : List AV} {u : AV} {args : List AV} {H H' : Heap} {v : AV} (h : memoG vs u args H = .ret v H') : Mono H H' := by
  obtain ⟨_, _, rfl⟩ := memoG_inv h
  exact .refl

theorem memo_ok {P : Program} {tbl : Tr AFn} (T : TblOk P tbl) {find : Nat → (AFn → CRes) → CRes} (hf : FindOk tbl find) {n m f : Nat} {vs : List AV} {u : AV} (hv : vs.all plainV = true) (hu : plainR u = true)
    (h : ∀ J : AV → CRes, callX find n m (.func f [] []) vs ⟨.leaf, 0, 0⟩ (fun v _ => J v) = J u) : PrimOk P f (memoG vs u) := by
  obtain ⟨N, v, H₁, h1, h2⟩ := callX_sound T.mono hf (n := n) m (.func f [] []) vs ⟨.leaf, 0, 0⟩ (fun v _ => .ret v ⟨.leaf, 0, 0⟩) u ⟨.leaf, 0, 0⟩ (Nat.le_refl _) (h fun v => .ret v ⟨.leaf, 0, 0⟩)
  cases h2
  intro args H v H' hg M D w hp hr hok
  obtain ⟨rfl, rfl, rfl⟩ := memoG_inv hg
  obtain ⟨f', first, cap, hfv, hc⟩ := call_ok T N _ _ _ _ _ h1
  cases hfv
  have hge : ∀ b, (⟨.leaf, 0, 0⟩ : Heap).get b = none := fun b => Tr.get_leaf _
  have hr0 : Rel M (fun _ => False) ⟨.leaf, 0, 0⟩ w := ⟨fun _ h => h.elim, fun _ h => h.elim, fun _ _ h => h.elim⟩
  obtain ⟨_, hcalls⟩ := hc M (fun _ => False) w ⟨Nat.le_refl _, fun b hb => by rw [hge] at hb; exact hb.1.elim⟩ hr0
    ((okL_iff _ _).2 fun x hx => by
      have hx' : x ∈ args := by simpa using hx
      exact plainV_ok (List.all_eq_true.1 hv x hx') _)
  refine Calls.mono (by simpa using hcalls) fun e w' hpost => ?_
  obtain ⟨M', D', he, _, hx, _⟩ := hpost
  have hfr : ∀ c, c < w.heap.size → w'.heap[c]? = w.heap[c]? := fun c hc => hx.frame c hc fun _ h => h.elim
  exact ⟨M, D, by rw [he, plainR_conc hu M' M], hr.of_below' hx.size hfr, Ext.of_below' hx.size hfr hx.os hx.tape hx.output, plainR_ok hu D⟩
end Go.Ai
