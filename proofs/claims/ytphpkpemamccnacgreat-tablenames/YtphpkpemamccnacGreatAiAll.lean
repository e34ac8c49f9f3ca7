/- Every operation that the compiler takes is the model's. -/
import Derived.Test.YtphpkpemamccnacGreatAiApp
namespace Go.Ai
section
variable {P : Program} {nt : Nat} {M : Mp} {D : Nat → Prop} {tm : Tr AV} {a : Act} {w : World} {H H' : Heap} {v : AV} {o : Oper}

theorem compBin_sound {op : BinOp} {t u : TypeId} {x y : Operand} {X Y : Opd} {ao : AOp} (ho : o.op = .binOp op t x y u) (hx : opd nt x = some X) (hy : opd nt y = some Y) (hc : compBin P op t X Y = some ao)
    (ht : TmRel M D nt tm a) (hr : Rel M D H w) (h : opF ao tm H = some (v, H')) : Sound1 P w M D H (execOp a.eval o) v H' := by
  unfold compBin at hc
  split at hc
  · cases hc; exact bin_sound ho hx hy ht hr h
  · cases hc; exact bin_sound ho hx hy ht hr h
  · rename_i hu
    split at hc
    · cases hc; exact eq_sound (neg := false) (k := .bool) (by simpa using ho) hu hx hy ht hr h
    · cases hc; exact eq_sound (neg := true) (k := .bool) (by simpa using ho) hu hx hy ht hr h
    · cases hc
  · rename_i hu
    split at hc
    · cases hc; exact eq_sound (neg := false) (k := .nil .ptr) (by simpa using ho) ⟨_, hu⟩ hx hy ht hr h
    · cases hc; exact eq_sound (neg := true) (k := .nil .ptr) (by simpa using ho) ⟨_, hu⟩ hx hy ht hr h
    · cases hc
  · rename_i hu
    split at hc
    · cases hc; exact eq_sound (neg := false) (k := .nil .sl) (by simpa using ho) ⟨_, hu⟩ hx hy ht hr h
    · cases hc; exact eq_sound (neg := true) (k := .nil .sl) (by simpa using ho) ⟨_, hu⟩ hx hy ht hr h
    · cases hc
  · rename_i hu
    split at hc
    · cases hc; exact eq_sound (neg := false) (k := .nil .mp) (by simpa using ho) ⟨_, _, hu⟩ hx hy ht hr h
    · cases hc; exact eq_sound (neg := true) (k := .nil .mp) (by simpa using ho) ⟨_, _, hu⟩ hx hy ht hr h
    · cases hc
  · rename_i hu
    split at hc
    · cases hc; exact eq_sound (neg := false) (k := .nil .fn) (by simpa using ho) ⟨_, _, _, hu⟩ hx hy ht hr h
    · cases hc; exact eq_sound (neg := true) (k := .nil .fn) (by simpa using ho) ⟨_, _, _, hu⟩ hx hy ht hr h
    · cases hc
  · rename_i hu
    split at hc
    · cases hc
    · rename_i hg
      obtain ⟨ks, hks, hc⟩ := Option.bind_eq_some_iff.1 hc
      have hE : EqT P t (.plain ks) := ⟨hks, by simpa using hg, by simp [aggT, hu]⟩
      split at hc
      · cases hc; exact eq_sound (neg := false) (by simpa using ho) hE hx hy ht hr h
      · cases hc; exact eq_sound (neg := true) (by simpa using ho) hE hx hy ht hr h
      · cases hc
  · rename_i hu
    split at hc
    · cases hc
    · rename_i hg
      obtain ⟨ks, hks, hc⟩ := Option.bind_eq_some_iff.1 hc
      have hE : EqT P t (.plain ks) := ⟨hks, by simpa using hg, by simp [aggT, hu]⟩
      split at hc
      · cases hc; exact eq_sound (neg := false) (by simpa using ho) hE hx hy ht hr h
      · cases hc; exact eq_sound (neg := true) (by simpa using ho) hE hx hy ht hr h
      · cases hc
  · cases hc

theorem sliceElem_ok {t e : TypeId} (h : sliceElem P t = some e) : P.underlying t = some (.slice e) := by
  unfold sliceElem at h
  split at h
  · rename_i hu; cases h; exact hu
  · cases h

theorem compBuiltin_sound {b : Builtin} {ats : Array TypeId} {args : Array Operand} {ao : AOp} (ho : o.op = .call { callee := .builtin b, args, argTypes := ats }) (hc : compBuiltin P nt b ats.toList args.toList = some ao)
    (ht : TmRel M D nt tm a) (hr : Rel M D H w) (h : opF ao tm H = some (v, H')) : Sound1 P w M D H (execOp a.eval o) v H' := by
  unfold compBuiltin at hc
  split at hc
  · rename_i t x e1 e2
    obtain ⟨X, hX, hc⟩ := Option.bind_eq_some_iff.1 hc
    split at hc
    · rename_i hu; cases hc; exact len_sound_pure ho e1 e2 hu (.inl ⟨rfl, rfl⟩) hX ht hr h
    · rename_i hu; cases hc; exact len_sound_pure ho e1 e2 hu (.inr (.inl ⟨_, _, rfl, rfl⟩)) hX ht hr h
    · rename_i hu; cases hc; exact len_sound_pure ho e1 e2 hu (.inr (.inr ⟨_, rfl, rfl⟩)) hX ht hr h
    · rename_i hu; cases hc; exact lenMap_sound ho e1 e2 hu hX ht hr h
    · cases hc
  · rename_i t u x y e1 e2
    simp only [Option.bind_eq_some_iff] at hc
    obtain ⟨e, he, i, hi, z, hz, X, hX, Y, hY, hc⟩ := hc
    split at hc
    · rename_i hb
      simp only [Bool.and_eq_true, decide_eq_true_eq, beq_iff_eq] at hb
      cases hc
      exact append_sound ho e1 e2 (sliceElem_ok he) hi hz hb.1.2 hb.1.1.2 hb.2 hX hY ht hr h
    · cases hc
  · rename_i t u x y e1 e2
    simp only [Option.bind_eq_some_iff] at hc
    obtain ⟨e, he, s, hs, X, hX, Y, hY, hc⟩ := hc
    split at hc
    · cases hc
      exact copy_sound ho e1 e2 (sliceElem_ok he) hs hX hY ht hr h
    · cases hc
  · rename_i t x e1 e2
    simp only [Option.bind_eq_some_iff] at hc
    obtain ⟨e, he, z, hz, X, hX, hc⟩ := hc
    split at hc
    · rename_i hp
      cases hc
      exact clear_sound ho e1 e2 (sliceElem_ok he) hz hp hX ht hr h
    · cases hc
  · rename_i t t2 x y e1 e2
    simp only [Option.bind_eq_some_iff] at hc
    obtain ⟨X, hX, Y, hY, hc⟩ := hc
    split at hc
    · rename_i hu
      obtain ⟨kk, hk, hc⟩ := Option.bind_eq_some_iff.1 hc
      cases hc
      exact mapdel_sound ho e1 e2 hu (keyT_ok hk) hX hY ht hr h
    · cases hc
  · obtain ⟨L, hL, hc⟩ := Option.bind_eq_some_iff.1 hc
    cases hc
    exact minmax_sound (mx := true) (by simpa using ho) hL ht hr h
  · obtain ⟨L, hL, hc⟩ := Option.bind_eq_some_iff.1 hc
    cases hc
    exact minmax_sound (mx := false) (by simpa using ho) hL ht hr h
  · cases hc

theorem op_sound {op : Op} {ao : AOp} (ho : o.op = op) (hc : compOp P nt op = some ao) (ht : TmRel M D nt tm a) (hr : Rel M D H w) (h : opF ao tm H = some (v, H')) : Sound1 P w M D H (execOp a.eval o) v H' := by
  unfold compOp at hc
  split at hc
  · obtain ⟨X, hX, rfl⟩ := Option.map_eq_some_iff.1 hc
    exact mov_sound (.inl ho) hX ht hr h
  · obtain ⟨X, hX, rfl⟩ := Option.map_eq_some_iff.1 hc
    exact mov_sound (.inr ho) hX ht hr h
  · simp only [Option.bind_eq_some_iff, Option.some.injEq] at hc
    obtain ⟨C, hC, X, hX, Y, hY, rfl⟩ := hc
    exact pick_sound ho hC hX hY ht hr h
  · simp only [Option.bind_eq_some_iff, Option.some.injEq] at hc
    obtain ⟨z, hz, rfl⟩ := hc
    exact alloc_sound ho hz hr h
  · simp only [Option.bind_eq_some_iff, Option.some.injEq] at hc
    obtain ⟨X, hX, rfl⟩ := hc
    exact box_sound ho hX ht hr h
  · obtain ⟨z, hz, hc⟩ := Option.bind_eq_some_iff.1 hc
    split at hc
    · rename_i hu
      simp only [Option.bind_eq_some_iff, Option.some.injEq] at hc
      obtain ⟨ps, hps, l, hl, rfl⟩ := hc
      exact build_sound_struct ho hz hu hps hl ht hr h
    · rename_i hu
      simp only [Option.bind_eq_some_iff, Option.some.injEq] at hc
      obtain ⟨s, hs, l, hl, rfl⟩ := hc
      exact build_sound_array ho hz hu hs hl ht hr h
    · cases hc
  · simp only [Option.bind_eq_some_iff] at hc
    obtain ⟨e, he, s, hs, z, hz, hc⟩ := hc
    split at hc
    · rename_i hb
      simp only [Bool.and_eq_true, decide_eq_true_eq, beq_iff_eq] at hb
      simp only [Option.bind_eq_some_iff, Option.some.injEq] at hc
      obtain ⟨l, hl, rfl⟩ := hc
      exact buildSlice_sound ho (sliceElem_ok he) hs hz hb.1 hb.2 hl ht hr h
    · cases hc
  · simp only [Option.bind_eq_some_iff, Option.some.injEq] at hc
    obtain ⟨s, hs, X, hX, rfl⟩ := hc
    exact load_sound ho hs hX ht hr h
  · simp only [Option.bind_eq_some_iff, Option.some.injEq] at hc
    obtain ⟨n, hn, X, hX, Y, hY, rfl⟩ := hc
    exact store_sound ho hn hX hY ht hr h
  · simp only [Option.bind_eq_some_iff, Option.some.injEq] at hc
    obtain ⟨X, hX, rfl⟩ := hc
    exact nilchk_sound ho hX ht hr h
  · simp only [Option.bind_eq_some_iff] at hc
    obtain ⟨X, hX, Y, hY, hc⟩ := hc
    exact compBin_sound ho hX hY hc ht hr h
  · simp only [Option.bind_eq_some_iff, Option.some.injEq] at hc
    obtain ⟨X, hX, rfl⟩ := hc
    exact not_sound ho hX ht hr h
  · split at hc
    · rename_i hs hd
      simp only [Option.bind_eq_some_iff, Option.some.injEq] at hc
      obtain ⟨X, hX, rfl⟩ := hc
      exact conv_sound ho hs hd hX ht hr h
    · cases hc
  · simp only [Option.bind_eq_some_iff, Option.some.injEq] at hc
    obtain ⟨A, hA, C, hC, rfl⟩ := hc
    exact mkfunc_sound ho hA hC ht hr h
  · split at hc
    · rename_i hu; cases hc; exact mkmap_sound ho hu (.inl rfl) hr h
    · rename_i hu; cases hc; exact mkmap_sound ho hu (.inr ⟨_, _, rfl⟩) hr h
    · cases hc
  · simp only [Option.bind_eq_some_iff] at hc
    obtain ⟨e, he, i, hi, z, hz, X, hX, Y, hY, hc⟩ := hc
    split at hc
    · rename_i hb
      simp only [Bool.and_eq_true, decide_eq_true_eq, beq_iff_eq] at hb
      cases hc
      exact mk_sound ho (sliceElem_ok he) hi hz hb.1.1 hb.1.2 hb.2 hX hY ht hr h
    · cases hc
  · simp only [Option.bind_eq_some_iff] at hc
    obtain ⟨X, hX, L, hL, U, hU, W, hW, hc⟩ := hc
    split at hc
    · rename_i hu
      simp only [Option.bind_eq_some_iff, Option.some.injEq] at hc
      obtain ⟨s, hs, rfl⟩ := hc
      exact sl_sound (k := .arr _ s) ho ⟨_, hu, hs⟩ hX hL hU hW ht hr h
    · rename_i hu
      simp only [Option.bind_eq_some_iff, Option.some.injEq] at hc
      obtain ⟨s, hs, rfl⟩ := hc
      exact sl_sound (k := .sl s) ho ⟨_, hu, hs⟩ hX hL hU hW ht hr h
    · rename_i hu
      cases hc
      exact sl_sound (k := .str) ho hu hX hL hU hW ht hr h
    · cases hc
  · obtain ⟨X, hX, hc⟩ := Option.bind_eq_some_iff.1 hc
    split at hc
    · rename_i hu
      simp only [Option.bind_eq_some_iff] at hc
      obtain ⟨f, hf, s, hs, hc⟩ := hc
      split at hc
      · rename_i h0; cases hc; exact fa_sound ho hu hf hs h0 hX ht hr h
      · cases hc
    · cases hc
  · simp only [Option.bind_eq_some_iff] at hc
    obtain ⟨X, hX, I, hI, hc⟩ := hc
    split at hc
    · rename_i hu
      simp only [Option.bind_eq_some_iff, Option.some.injEq] at hc
      obtain ⟨s, hs, rfl⟩ := hc
      exact iaA_sound ho hu hs hX hI ht hr h
    · rename_i hu
      simp only [Option.bind_eq_some_iff, Option.some.injEq] at hc
      obtain ⟨s, hs, rfl⟩ := hc
      exact iaS_sound ho hu hs hX hI ht hr h
    · cases hc
  · simp only [Option.bind_eq_some_iff] at hc
    obtain ⟨X, hX, I, hI, hc⟩ := hc
    split at hc
    · rename_i hu
      simp only [Option.bind_eq_some_iff, Option.some.injEq] at hc
      obtain ⟨s, hs, rfl⟩ := hc
      exact idxA_sound ho hu hs hX hI ht hr h
    · rename_i hu
      cases hc
      exact idxS_sound ho hu hX hI ht hr h
    · cases hc
  · simp only [Option.bind_eq_some_iff, Option.some.injEq] at hc
    obtain ⟨X, hX, rfl⟩ := hc
    exact ext_sound ho hX ht hr h
  · simp only [Option.bind_eq_some_iff] at hc
    obtain ⟨X, hX, K, hK, hc⟩ := hc
    split at hc
    · rename_i hu
      simp only [Option.bind_eq_some_iff, Option.some.injEq] at hc
      obtain ⟨kk, hk, z, hz, rfl⟩ := hc
      exact lookup_sound ho hu (keyT_ok hk) hz hX hK ht hr h
    · cases hc
  · simp only [Option.bind_eq_some_iff] at hc
    obtain ⟨X, hX, K, hK, Y, hY, hc⟩ := hc
    split at hc
    · rename_i hu
      obtain ⟨kk, hk, hc⟩ := Option.bind_eq_some_iff.1 hc
      cases hc
      exact mapset_sound ho hu (keyT_ok hk) hX hK hY ht hr h
    · cases hc
  · exact compBuiltin_sound ho hc ht hr h
  · cases hc
end
end Go.Ai
