/- slab.least over the heap of tries. -/
import Derived.Test.YtphpkpemamccnaaGreatAiLeast
import Derived.Test.YtphpkpemamccnaaGreatAiYPrim
namespace Go.Ai
noncomputable def slcC : AV → (Nat → CRes) → CRes := AV.rec (motive_1 := fun _ => (Nat → CRes) → CRes) (motive_2 := fun _ => Unit) (fun _ _ => .err) (fun _ _ _ => .err) (fun _ _ => .err) (fun _ _ _ => .err) (fun _ => .err) (fun b _ _ _ _ k => k b) (fun _ _ _ _ => .err) (fun _ => .err) (fun _ _ => .err) (fun _ => .err) (fun _ _ _ _ _ _ => .err) (fun _ => .err) (fun _ _ _ _ => .err) (fun _ => .err) (fun _ _ _ => .err) (fun _ _ _ => .err) () (fun _ _ _ _ => ())
noncomputable def suchY (cf : YCalls) (f : Nat) (H : YHeap) (v : AV) (k : Bool → CRes) : CRes :=
  slcC v fun b => arrY H b fun t z zl n _ => readY t z zl n 0 fun l => ifB (allB plainV l) (cf (.func f [] []) [v] (H.shut true) fun u _ => vBool u k) .err
noncomputable def suchLY (cf : YCalls) (f : Nat) (H : YHeap) : List (AV × AV) → (List Bool → CRes) → CRes := List.rec (motive := fun _ => (List Bool → CRes) → CRes) (fun k => k [])
  (fun e _ ih k => suchY cf f H e.2 fun t => ih fun ts => k (t :: ts))
noncomputable def leastY (cf : YCalls) : YW := fun args H k => match args with
  | [.map m, .func f [] []] => mapY H m fun es => oC (keysZ es) fun zs => ifB (incrZ (sortZ zs) && Nat.ble (lenN zs) 1000000)
      (suchLY cf f H es fun ts => forceI (leastZ zs ts 0 false).1 fun b => ifB (leastZ zs ts 0 false).2 (k (.tuple [.int .i64 b, .bool true]) H) (k (.tuple [.int .i64 b, .bool false]) H)) .err
  | _ => .err

section
variable {r : AV} {H' : Heap} {tbl : Tr AFn} {cf : YCalls}
theorem slcC_inv {v : AV} {k : Nat → CRes} (h : slcC v k = .ret r H') : ∃ b off len ext opn, v = .slice b off len ext opn ∧ k b = .ret r H' := by
  cases v <;> first | exact ⟨_, _, _, _, _, rfl, h⟩ | cases h
theorem suchY_inv (hcf : CfOkY tbl cf) {f : Nat} {H : YHeap} {v : AV} {k : Bool → CRes} (h : suchY cf f H v k = .ret r H') : ∃ t, suchV (callW tbl) f H.abs v = some t ∧ k t = .ret r H' := by
  obtain ⟨b, off, len, ext, opn, rfl, h1⟩ := slcC_inv h
  obtain ⟨t, z, zl, n, g, hb, h2⟩ := arrY_inv h1
  obtain ⟨l, hl, _, h3⟩ := readY_sub (m := n) (by omega) h2
  obtain ⟨hp, h4⟩ := ifB_inv h3
  obtain ⟨N, u, H₁, hc, h5⟩ := hcf _ _ _ _ _ _ (by simp [YHeap.shut]) h4
  obtain ⟨t', rfl, h6⟩ := vBool_inv h5
  refine ⟨t', ?_, h6⟩
  have hall : l = cellsOf t z zl n := by
    unfold sub at hl
    rw [tkK_eq, skp_eq, List.drop_zero] at hl
    split at hl
    · cases hl
      rw [List.take_of_length_le]
      rw [cellsOf_length]; exact Nat.le_refl _
    · cases hl
  subst hall
  have hc' : callW tbl (.func f [] []) [.slice b off len ext opn] (H.abs.shut true) = .ret (.bool t') (YHeap.abs H₁) := callW_of hc
  simp only [suchV]
  rw [hb]
  dsimp only
  rw [hp]
  dsimp only
  rw [hc']
theorem suchLY_inv (hcf : CfOkY tbl cf) {f : Nat} {H : YHeap} : ∀ {es : List (AV × AV)} {k : List Bool → CRes}, suchLY cf f H es k = .ret r H' → ∃ ts, suchL (callW tbl) f H.abs es = some ts ∧ k ts = .ret r H'
  | [], k, h => ⟨[], rfl, h⟩
  | e :: es, k, h => by
    have h0 : suchY cf f H e.2 (fun t => suchLY cf f H es fun ts => k (t :: ts)) = .ret r H' := h
    obtain ⟨t, h1, h2⟩ := suchY_inv hcf h0
    obtain ⟨ts, h3, h4⟩ := suchLY_inv hcf h2
    exact ⟨t :: ts, by simp only [suchL]; rw [h1, h3], h4⟩
theorem leastY_ok (hcf : CfOkY tbl cf) (args : List AV) (H : YHeap) (k : AV → YHeap → CRes) (r : AV) (H' : Heap) (h : leastY cf args H k = .ret r H') : ∃ v H₁, leastG (callW tbl) args (YHeap.abs H) = .ret v (YHeap.abs H₁) ∧ k v H₁ = .ret r H' := by
  unfold leastY at h
  split at h
  · rename_i m f
    obtain ⟨es, hes, h1⟩ := mapY_inv h
    obtain ⟨zs, hzs, h2⟩ := oC_inv h1
    obtain ⟨hi, h3⟩ := ifB_inv h2
    obtain ⟨ts, hts, h4⟩ := suchLY_inv hcf h3
    rw [forceI_eq] at h4
    refine ⟨.tuple [.int .i64 (leastZ zs ts 0 false).1, .bool (leastZ zs ts 0 false).2], H, ?_, ?_⟩
    · unfold leastG leastO
      dsimp only
      rw [hes]; dsimp only; rw [hzs]; dsimp only; rw [hi]; dsimp only; rw [hts]
    · cases hb : (leastZ zs ts 0 false).2 with
      | true => rw [hb] at h4; exact h4
      | false => rw [hb] at h4; exact h4
  · cases h

/-! ### Sorted keys -/
noncomputable def sortedY (keysF : Nat) : YW := fun args H k => match args with
  | [.func f [] [.ptr b off]] => ifB (Nat.beq f keysF) (arrY H b fun t z zl n _ => ifB (Nat.blt off n) (cellK t z zl off fun v => asMap v fun m => mapY H m fun es => oC (keysZ es) fun zs =>
      ifB (Nat.beq (lenN zs) 0) (k .nilslice H) (ifB (incrZ (sortZ zs) && Nat.ble (lenN zs) 12)
        (appK (mapK I64 (sortZ zs)) [] fun l => forceN (lenN zs) fun q => newY H (.arr .leaf l q q 1) fun d H => k (.slice d 0 q 0 true) H) .err)) .err) .err
  | _ => .err
theorem sortedY_ok {keysF : Nat} (args : List AV) (H : YHeap) (k : AV → YHeap → CRes) (r : AV) (H' : Heap) (h : sortedY keysF args H k = .ret r H') : ∃ v H₁, sortedG keysF args (YHeap.abs H) = .ret v (YHeap.abs H₁) ∧ k v H₁ = .ret r H' := by
  unfold sortedY at h
  split at h
  · rename_i f b off
    obtain ⟨hf, h1⟩ := ifB_inv h
    obtain ⟨t, z, zl, n, g, hb, h2⟩ := arrY_inv h1
    obtain ⟨ho, h3⟩ := ifB_inv h2
    have ho : off < n := lt_of_blt ho
    have h4 := cellK_inv h3
    obtain ⟨m, hm, h5⟩ := asMap_inv h4
    obtain ⟨es, hes, h6⟩ := mapY_inv h5
    obtain ⟨zs, hzs, h7⟩ := oC_inv h6
    have hc : cellsAt H.abs b = some (cellsOf t z zl n) := by unfold cellsAt; rw [hb]
    have hn : nth (cellsOf t z zl n) off = some (.map m) := by rw [nth_eq, cellsOf_get _ _ _ ho, hm]
    have pre : ∀ {o : Option (AV × Heap)}, (Bool.casesOn (Nat.beq (lenN zs) 0) (Bool.casesOn (incrZ (sortZ zs) && Nat.ble (lenN zs) 12) none
          (H.abs.newK (.cells (mapK I64 (sortZ zs)) true 1) fun c H' => some (.slice c 0 (lenN zs) 0 true, H'))) (some (.nilslice, H.abs)) : Option (AV × Heap)) = o → sortedO keysF [.func f [] [.ptr b off]] H.abs = o := by
      intro o ho'
      unfold sortedO
      dsimp only
      rw [hf]; dsimp only; rw [hc]; dsimp only; rw [hn]; dsimp only; rw [hes]; dsimp only; rw [hzs]; exact ho'
    rw [ifB_eq] at h7
    split at h7
    · rename_i h0
      refine ⟨.nilslice, H, ?_, h7⟩
      unfold sortedG
      rw [pre (o := some (.nilslice, H.abs)) (by rw [h0])]
    · rename_i h0
      obtain ⟨hi, h8⟩ := ifB_inv h7
      rw [appK_eq, forceN_eq, newY_eq, List.append_nil] at h8
      refine ⟨_, _, ?_, h8⟩
      unfold sortedG
      have h0' : Nat.beq (lenN zs) 0 = false := Bool.not_eq_true _ ▸ h0
      rw [pre (o := some (.slice H.nx 0 (lenN zs) 0 true, H.abs.add (.cells (mapK I64 (sortZ zs)) true 1))) (by rw [h0', hi]; dsimp only; rw [Heap.newK_eq]; rfl)]
      dsimp only
      rw [YHeap.abs_add]
      have hl : (mapK I64 (sortZ zs)).length = lenN zs := by
        rw [mapK_eq, List.length_map, lenN_eq, (sortZ_perm zs).length_eq]
      have := cellsOf_leaf (mapK I64 (sortZ zs))
      rw [hl] at this
      show CRes.ret (AV.slice H.nx 0 (lenN zs) 0 true) (H.abs.add (.cells (mapK I64 (sortZ zs)) true 1)) = CRes.ret (AV.slice H.nx 0 (lenN zs) 0 true) (H.abs.add (.cells (cellsOf .leaf (mapK I64 (sortZ zs)) (lenN zs) (lenN zs)) true 1))
      rw [this]
  · cases h
end
end Go.Ai
