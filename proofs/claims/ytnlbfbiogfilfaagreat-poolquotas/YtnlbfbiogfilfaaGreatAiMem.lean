/- Operations that make, read or write cells. -/
import Derived.Test.YtnlbfbiogfilfaaGreatAiPure3Pure4
set_option linter.all false
namespace Go.Ai
section
variable {P : Program} {nt : Nat} {M : Mp} {D : Nat → Prop} {tm : Tr AV} {a : Act} {w : World} {H H' : Heap} {v : AV} {o : Oper}
theorem Rel.newCells (hr : Rel M D H w) {l : List AV} {g : Nat} (hl : ∀ u ∈ l, okv D u ∧ u.isCell = true) {c : Array Value} {e : TypeId} {slack : Nat}
    (hc : ∀ (i : Nat) (u : AV), l[i]? = some u → c[i]? = some (bw M u)) (hs : l.length + slack * g ≤ c.size) (hsl : g ≠ 0 → l.length + slack * g ≤ 9223372036854775807 * g) :
    Rel (M.put H.nx ⟨w.heap.size, 0, slack, none⟩) (fun b => D b ∨ b = H.nx) (H.add (.cells l true g)) (w.alloc (.cells c e)) ∧
    Ext M D H w (M.put H.nx ⟨w.heap.size, 0, slack, none⟩) (fun b => D b ∨ b = H.nx) (H.add (.cells l true g)) (w.alloc (.cells c e)) := by
  refine hr.alloc _ _ ⟨w.heap.size, 0, slack, none⟩ rfl ?_
  have hag : ∀ b, D b → M.put H.nx ⟨w.heap.size, 0, slack, none⟩ b = M b := fun b hb => Mp.put_other _ _ (Nat.ne_of_lt (hr.dom b hb))
  refine ⟨fun i u hu => ?_, fun _ i hi => ?_, by simp, fun _ => ⟨c, e, zq _ _⟩, hsl, rfl⟩
  · obtain ⟨h1, h2⟩ := hl u (List.mem_of_getElem? hu)
    refine ⟨?_, h2, gT (fun b hb => .inl hb) _ h1⟩
    simp only [Nat.zero_add, World.cell?_alloc_new]
    rw [hc i u hu, ns hag _ h1]
  · have : i < c.size := by
      have h : i < l.length + slack * g := hi
      omega
    exact ⟨by simp [this], by simp⟩
theorem Sound1.newCells (hr : Rel M D H w) {l : List AV} {g : Nat} (hl : ∀ u ∈ l, okv D u ∧ u.isCell = true) {c : Array Value} {e : TypeId} {slack : Nat}
    (hc : ∀ (i : Nat) (u : AV), l[i]? = some u → c[i]? = some (bw M u)) (hs : l.length + slack * g ≤ c.size) (hsl : g ≠ 0 → l.length + slack * g ≤ 9223372036854775807 * g) {s : Sem Next} {v : AV}
    (hrun : s.run P w = .ok (.value (bw (M.put H.nx ⟨w.heap.size, 0, slack, none⟩) v)) (w.alloc (.cells c e))) (hv : okv (fun b => D b ∨ b = H.nx) v) :
    Sound1 P w M D H s v (H.add (.cells l true g)) := by
  obtain ⟨h1, h2⟩ := hr.newCells (e := e) hl hc hs hsl
  exact ⟨_, _, _, _, hrun, .inl rfl, h1, h2, hv⟩
theorem C9 (e : TypeId) (c : Array Value) : (newRow e c).run P w = .ok ⟨w.heap.size, 0, none⟩ (w.alloc (.cells c e)) := by
  simp [newRow]
theorem apM {t : TypeId} {z : AV} (ho : o.op = .alloc t) (hz : Ci P t = some z) (hr : Rel M D H w)
    (h : opF (.alloc z.cells) tm H = some (v, H')) : Sound1 P w M D H (execOp a.eval o) v H' := by
  have h' : H.newK (.cells z.cells true 0) (fun b H' => some (AV.ptr b 0, H')) = some (v, H') := h
  rw [Heap.newK_eq] at h'
  cases h'
  obtain ⟨z1, z2, z3⟩ := zK (M := M) (D := D) hz
  refine Sound1.newCells hr (e := t) (c := (z.cells.map (bw M)).toArray) (slack := 0) z1 (fun i u hu => by simp [hu]) (by simp) (fun h => absurd rfl h) ?_ (by simp [okv])
  simp only [execOp, ho, Instr.alloc, Sem.run_bind, E4 (M := M) hz, Result.andThen_ok, newVar, z3, C9, Sem.run_pure, bw, Mp.put_same, Loc.at_mk]
theorem asT {t : TypeId} {x : Operand} {X : Opd} (ho : o.op = .box t x) (hx : opd nt x = some X) (ht : TmRel M D nt tm a) (hr : Rel M D H w)
    (h : opF (.box X) tm H = some (v, H')) : Sound1 P w M D H (execOp a.eval o) v H' := by
  obtain ⟨u, hu, h1⟩ := cL h
  clear h
  obtain ⟨hc, h2⟩ := mM h1
  rw [Heap.newK_eq] at h2
  cases h2
  obtain ⟨e, k⟩ := lF hx ht hu
  obtain ⟨c1, c2⟩ := adW (M := M) (fun l e => by rw [e] at hc; cases hc) k
  refine Sound1.newCells hr (e := t) (c := (u.cells.map (bw M)).toArray) (slack := 0) c2 (fun i u hu => by simp [hu]) (by simp) (fun h => absurd rfl h) ?_ (by simp [okv])
  simp only [execOp, ho, Instr.box, e, Sem.run_bind, newVar, c1, C9, Result.andThen_ok, Sem.run_pure, bw, Mp.put_same, Loc.at_mk]
theorem repsC_eq (z : List AV) (n : Nat) : aps z n = Rz z n := by
  induction n with
  | zero => rfl
  | succ n ih => rw [abu, aps, ih]
theorem ajW {z : List AV} {n : Nat} {u : AV} (h : u ∈ Rz z n) : u ∈ z := by
  induction n with
  | zero => have h' : u ∈ ([] : List AV) := h
            cases h'
  | succ n ih =>
    rw [abu] at h
    rcases List.mem_append.1 h with h | h
    · exact h
    · exact ih h
theorem KJ (z : List AV) (n : Nat) : (Rz z n).length = n * z.length := by
  induction n with
  | zero => show ([] : List AV).length = _; simp
  | succ n ih => rw [abu, List.length_append, ih, Nat.succ_mul]; omega
theorem reps_get (z : List AV) (n i : Nat) (h : i < n * z.length) : (Rz z n)[i]? = z[i % z.length]? := by
  induction n generalizing i with
  | zero => omega
  | succ n ih =>
    rw [abu, List.getElem?_append]
    rw [Nat.succ_mul] at h
    split
    · rename_i hlt; rw [Nat.mod_eq_of_lt hlt]
    · rename_i hge
      rw [ih (i - z.length) (by omega)]
      congr 1
      rw [← Nat.mod_eq_sub_mod (by omega)]
theorem adx (z : List AV) (n : Nat) (hz : 0 < z.length) : ((Array.range (n * z.length)).map fun i => (z.map (bw M)).toArray[i % (z.map (bw M)).toArray.size]!) = ((Rz z n).map (bw M)).toArray := by
  apply Array.ext
  · simp [KJ]
  · intro i h1 h2
    simp only [Array.size_map, Array.size_range] at h1
    have hlt : i % z.length < z.length := Nat.mod_lt _ hz
    have hg := reps_get z n i h1
    have hlen : i < (Rz z n).length := by rw [KJ]; exact h1
    rw [List.getElem?_eq_getElem hlen, List.getElem?_eq_getElem hlt] at hg
    have hg : (Rz z n)[i] = z[i % z.length] := by simpa using hg
    simp only [Array.getElem_map, Array.getElem_range, List.getElem_toArray, List.getElem_map, hg, List.size_toArray, List.length_map]
    rw [getElem!_pos _ _ (by simpa using hlt)]
    simp
theorem ahG {t e : TypeId} {len : Nat} {parts : Array (Nat × Operand)} {z : AV} {s : Nat} {L : List (Nat × Nat × Opd)} (ho : o.op = .buildSlice t len parts)
    (hu : P.underlying t = some (.slice e)) (hs : szT P e = some s) (hz : Ci P e = some z) (hzs : z.cells.length = s) (hlen : len * s ≤ 16777216) (hl : ady nt s parts.toList = some L)
    (ht : TmRel M D nt tm a) (hr : Rel M D H w) (h : opF (.buildSlice len (aps z.cells len) L) tm H = some (v, H')) : Sound1 P w M D H (execOp a.eval o) v H' := by
  obtain ⟨r, hr', h1⟩ := cL h
  clear h
  rw [Heap.newK_eq] at h1
  cases h1
  rw [repsC_eq] at hr'
  obtain ⟨q1, q2⟩ := agh s hl
  obtain ⟨z1, z2, z3⟩ := zK (M := M) (D := D) hz
  obtain ⟨f1, f2⟩ := akA (M := M) (D := D) (fun i => some (i * s, s)) parts.toList L _ r q1 q2 ht (fun u hu => z1 u (ajW hu)) hr'
  refine Sound1.newCells hr (e := e) (c := (r.map (bw M)).toArray) (slack := 0) f2 (fun i u hu => by simp [hu]) (by simp) (fun h => absurd rfl h) ?_ (by simp [okv])
  have f1' : Instr.fill (fun i => some (i * s, s)) ((Rz z.cells len).map (bw M)).toArray (parts.map fun p => (p.1, a.eval p.2)).toList = some (r.map (bw M)).toArray := by rw [Array.toList_map]; exact f1
  simp only [execOp, ho, Instr.buildSlice, Sem.run_bind, run_underlying hu, Result.andThen_ok, nN hs, Sem.run_ite]
  rw [if_neg (by omega)]
  by_cases h0 : len * s = 0
  · rw [if_pos h0]
    have hrn : Rz z.cells len = [] := by
      have := KJ z.cells len
      rw [hzs, h0] at this
      exact List.length_eq_zero_iff.1 this
    rw [hrn] at f1'
    simp only [Sem.run_pure, Result.andThen_ok, h0]
    have : ((Array.range 0).map fun i => (#[] : Array Value)[i % (#[] : Array Value).size]!) = (([] : List AV).map (bw M)).toArray := by simp [Array.range_zero']
    rw [this, f1']
    simp only [Sem.run_bind, C9, Result.andThen_ok, Sem.run_pure, bw, Mp.put_same, Loc.at_mk]
    simp
  · rw [if_neg h0]
    simp only [E4 (M := M) hz, Result.andThen_ok, Sem.run_pure, z3]
    have hpos : 0 < z.cells.length := by rw [hzs]; exact Nat.pos_of_ne_zero (fun e => h0 (by rw [e]; simp))
    have hm := adx (M := M) z.cells len hpos
    rw [hzs] at hm
    rw [hm, f1']
    simp only [Sem.run_bind, C9, Result.andThen_ok, Sem.run_pure, bw, Mp.put_same, Loc.at_mk]
    simp
theorem mk_sound {t e : TypeId} {x y : Operand} {X Y : Opd} {i : TypeInfo} {z : AV} (ho : o.op = .makeSlice t x y) (hu : P.underlying t = some (.slice e)) (hi : P.info? e = some i) (hz : Ci P e = some z)
    (hzs : z.cells.length = i.size) (hs0 : 0 < i.size) (hb : i.bytes ≤ 65536) (hx : opd nt x = some X) (hy : opd nt y = some Y) (ht : TmRel M D nt tm a) (hr : Rel M D H w)
    (h : opF (.mk z.cells X Y) tm H = some (v, H')) : Sound1 P w M D H (execOp a.eval o) v H' := by
  obtain ⟨u, hu', h1⟩ := cL h
  clear h
  obtain ⟨q, hq', h⟩ := cL h1
  clear h1
  obtain ⟨e1, k1⟩ := lF hx ht hu'
  obtain ⟨e2, k2⟩ := lF hy ht hq'
  split at h
  · rename_i kk l kk' c
    obtain ⟨hl0, h1⟩ := Ae h
    clear h
    obtain ⟨hc0, h⟩ := Ae h1
    clear h1
    split at h
    · rename_i hbb
      simp only [Bool.and_eq_true] at hbb
      have hlc := Nat.le_of_ble_eq_true hbb.1
      have hcm := Nat.le_of_ble_eq_true hbb.2
      unfold Np at hcm
      rw [Heap.newK_eq] at h
      cases h
      obtain ⟨z1, z2, z3⟩ := zK (M := M) (D := D) hz
      obtain ⟨l, rfl⟩ := Int.eq_ofNat_of_zero_le hl0
      obtain ⟨c, rfl⟩ := Int.eq_ofNat_of_zero_le hc0
      simp only [Int.toNat_natCast] at hlc hcm
      refine Sound1.newCells hr (e := e) (c := ((Rz z.cells c).map (bw M)).toArray) (slack := 0) (fun u hu => z1 u (ajW hu)) (fun i u hu => by simp only [Int.toNat_natCast] at hu; simp [hu]) (by simp) (fun h => absurd rfl h) ?_ (by simp [okv])
      have hwl : IntKind.i64.wrap (l : Int) = l := by simp only [IntKind.wrap, IntKind.signed, IntKind.bits]; simp; omega
      have hwc : IntKind.i64.wrap (c : Int) = c := by simp only [IntKind.wrap, IntKind.signed, IntKind.bits]; simp; omega
      have hprod : (i.bytes : Int) * (c : Int) ≤ 2 ^ 48 := by
        have : i.bytes * c ≤ 65536 * 1048576 := Nat.mul_le_mul hb hcm
        have h2 : ((i.bytes * c : Nat) : Int) ≤ ((65536 * 1048576 : Nat) : Int) := by exact_mod_cast this
        have h3 : ((i.bytes * c : Nat) : Int) = (i.bytes : Int) * (c : Int) := by simp
        omega
      simp only [execOp, ho, Instr.makeSlice, Sem.run_bind, run_underlying hu, Result.andThen_ok, e1, e2, bw, asInt, asIntOf, Sem.run_pure, aaN hi, hwl, hwc]
      have hnot : (decide ((c : Int) < 0) || decide ((i.bytes : Int) * (c : Int) > 2 ^ 48) || decide ((l : Int) < 0) || decide ((l : Int) > (c : Int))) = false := by
        simp; omega
      simp only [hnot, Bool.false_eq_true, if_false, Sem.run_bind, run_askRoom, Result.andThen_ok, Int.toNat_natCast, sizeOf, aaN hi, Sem.run_pure]
      rw [← hzs]
      have hpos : 0 < z.cells.length := by omega
      have hm := adx (M := M) z.cells c hpos
      rw [Sem.run_ite]
      by_cases h0 : c * z.cells.length = 0
      · have hrn : Rz z.cells c = [] := List.length_eq_zero_iff.1 (by rw [KJ, h0])
        rw [if_pos h0, h0, hrn]
        simp only [Sem.run_bind, Sem.run_pure, Result.andThen_ok]
        have : ((Array.range 0).map fun i => (#[] : Array Value)[i % (#[] : Array Value).size]!) = (([] : List AV).map (bw M)).toArray := by simp [Array.range_zero']
        rw [this]
        simp only [C9, Result.andThen_ok, Mp.put_same, Loc.at_mk]
        exact zj (by simp) rfl (by simp; omega)
      · rw [if_neg h0]
        simp only [Sem.run_bind, E4 (M := M) hz, Result.andThen_ok, Sem.run_pure, z3]
        rw [hm]
        simp only [C9, Result.andThen_ok, Mp.put_same, Loc.at_mk]
        exact zj (by simp) rfl (by simp; omega)
    · cases h
  · cases h
theorem xw (hr : Rel M D H w) {b : Nat} (hb : D b) {l : List AV} {rw_ : Bool} {g : Nat} (hg : H.get b = some (.cells l rw_ g)) : RowOk M D w (M b) l rw_ g := by
  have := hr.blk b hb; rwa [hg] at this
theorem PR {L : Loc} {l r : List AV} {rw_ : Bool} {g off n : Nat} (h : RowOk M D w L l rw_ g) (hs : sub l off n = some r) :
    r.length = n ∧ (∀ u ∈ r, okv D u ∧ u.isCell = true) ∧ ∀ j v, (r.map (bw M))[j]? = some v → w.cell? (Addr.add ⟨L.blk, L.base + off, none⟩ j) = some v := by
  obtain ⟨q1, q2, q3⟩ := ap7 hs
  refine ⟨q1, fun u hu => ?_, fun j v hv => ?_⟩
  · obtain ⟨j, hj⟩ := List.getElem?_of_mem hu
    obtain ⟨_, b, c⟩ := h.at_ _ _ (q3 j u hj)
    exact ⟨c, b⟩
  · simp only [List.getElem?_map, Option.map_eq_some_iff] at hv
    obtain ⟨u, hu, rfl⟩ := hv
    obtain ⟨a, _, _⟩ := h.at_ _ _ (q3 j u hu)
    rw [KW, Nat.add_assoc]
    exact a
theorem aq2 {t : TypeId} {s : Nat × Bool} {x : Operand} {X : Opd} (ho : o.op = .load t x) (hs : aag P t = some s) (hx : opd nt x = some X) (ht : TmRel M D nt tm a) (hr : Rel M D H w)
    (h : opF (.load s.1 s.2 X) tm H = some (v, H')) : Sound1 P w M D H (execOp a.eval o) v H' := by
  obtain ⟨s1, s2, s3⟩ := af6 hs
  obtain ⟨u, hu, h1⟩ := cL h
  clear h
  obtain ⟨e, k⟩ := lF hx ht hu
  split at h1
  · rename_i b off
    obtain ⟨l, hl, h2⟩ := cL h1
    clear h1
    obtain ⟨cs, hcs, h1⟩ := cL h2
    clear h2
    obtain ⟨r, hr', h⟩ := cL h1
    clear h1
    cases h
    simp only [okv] at k
    obtain ⟨rw_, g, hg⟩ := FT hl
    obtain ⟨q1, q2, q3⟩ := PR (xw hr k hg) hcs
    obtain ⟨p1, p2⟩ := Y2 (M := M) hr'
    refine Sound1.same hr ?_ (p2 D q2)
    have hlen : (cs.map (bw M)).length = s.1 := by simp [q1]
    have hload := run_loadCells_list (P := P) w ⟨(M b).blk, (M b).base + off, none⟩ (cs.map (bw M)) q3
    rw [hlen] at hload
    simp only [execOp, ho, e, bw, (xw hr k hg).at_at, Instr.loadAt, Instr.sureAddr, loadVar, Sem.run_bind, Sem.run_pure, Result.andThen_ok, ajx s2, Sem.run_ite, p1, oo]
    cases hb : s.2 with
    | true => simp only [if_true, nN s1, Result.andThen_ok, hload]
    | false =>
      have h1 := s3 hb
      rw [h1] at q1
      match cs, q1 with
      | [c], _ =>
        have := q3 0 (bw M c) (by simp)
        rw [Addr.add_zero'] at this
        simp [this]
  · cases h1
theorem apT {t : TypeId} {n : Nat} {x y : Operand} {X Y : Opd} (ho : o.op = .store t x y) (hs : szT P t = some n) (hx : opd nt x = some X) (hy : opd nt y = some Y) (ht : TmRel M D nt tm a) (hr : Rel M D H w)
    (h : opF (.store n X Y) tm H = some (v, H')) : Sound1 P w M D H (execOp a.eval o) v H' := by
  obtain ⟨u, hu, h1⟩ := cL h
  clear h
  obtain ⟨e, k⟩ := lF hx ht hu
  split at h1
  · rename_i b off
    obtain ⟨z, hz, h2⟩ := cL h1
    clear h1
    obtain ⟨e2, k2⟩ := lF hy ht hz
    obtain ⟨l, g, hg, _, h1⟩ := T1 h2
    clear h2
    split at h1
    · rename_i hb
      simp only [Bool.and_eq_true, beq_iff_eq, jM] at hb
      obtain ⟨⟨hb1, hb2⟩, hb3⟩ := hb
      have hb3 := Nat.le_of_ble_eq_true hb3
      rw [pB, Heap.setK_eq] at h1
      cases h1
      simp only [okv] at k
      obtain ⟨c1, c2⟩ := adW (M := M) (fun l e => by rw [e] at hb1; cases hb1) k2
      have hrow := xw hr k hg
      have hbd : off + z.cells.length ≤ l.length := by omega
      obtain ⟨r1, r2⟩ := hr.write k hg z.cells off hbd c2
      refine ⟨M, D, _, .skip, ?_, .inr ⟨rfl, r6 M⟩, r1, r2, vM D⟩
      have hst := run_storeCells_cells (P := P) (M b).blk ((M b).base + off) (z.cells.map (bw M)) 0 w
        (fun j hj => by
          have := (hrow.own rfl (off + j) (by simp at hj; omega)).1
          rwa [show (M b).base + off + 0 + j = (M b).base + (off + j) by omega])
        (fun j hj => by
          have := (hrow.own rfl (off + j) (by simp at hj; omega)).2
          rwa [show (M b).base + off + 0 + j = (M b).base + (off + j) by omega])
        (fun u hu => by
          obtain ⟨c, hc, rfl⟩ := List.mem_map.1 hu
          exact Fz (c2 c hc).2)
      simp only [execOp, ho, e, e2, Instr.storeAt, bw, hrow.at_at, Instr.sureAddr, storeVar, Sem.run_bind, Sem.run_pure, Result.andThen_ok, nN hs, c1, Sem.run_ite]
      rw [if_neg (by simp [hb2])]
      simp only [hst, Result.andThen_ok, Nat.add_zero]
    · cases h1
  · cases h1
theorem ahZ {t : TypeId} {r : Option Operand} {k e : TypeId} (ho : o.op = .makeMap t r) (hu : P.underlying t = some (.map k e)) (hrr : r = none ∨ ∃ q n, r = some (.const (.int q n))) (hr : Rel M D H w)
    (h : opF .mkmap tm H = some (v, H')) : Sound1 P w M D H (execOp a.eval o) v H' := by
  have h' : H.newK (.mp []) (fun b H' => some (AV.map b, H')) = some (v, H') := h
  rw [Heap.newK_eq] at h'
  cases h'
  have hx : BlkOk (M.put H.nx ⟨w.heap.size, 0, 0, none⟩) (fun b => D b ∨ b = H.nx) (w.alloc (.map #[] 0)) ⟨w.heap.size, 0, 0, none⟩ (some (.mp [])) := by
    exact ⟨⟨#[], 0, zq _ _, trivial, by simp [BornOk]⟩⟩
  obtain ⟨h1, h2⟩ := hr.alloc (.map #[] 0) (.mp []) ⟨w.heap.size, 0, 0, none⟩ rfl hx
  refine ⟨_, _, _, _, ?_, .inl rfl, h1, h2, by simp [okv]⟩
  rcases hrr with rfl | ⟨q, n, rfl⟩
  · simp [execOp, ho, Instr.makeMap, bw, Mp.put_same, Loc.at_mk]
  · simp [execOp, ho, Instr.makeMap, bw, Mp.put_same, Act.eval, run_underlying hu, asInt, asIntOf]
end
end Go.Ai
