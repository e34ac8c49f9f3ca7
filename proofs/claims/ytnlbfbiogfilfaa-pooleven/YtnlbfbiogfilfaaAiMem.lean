/- Operations that make, read or write cells. -/
import Derived.Test.YtnlbfbiogfilfaaAiPure3Pure4
set_option linter.all false
namespace Go.Ai
section
variable {P : Program} {nt : Nat} {M : Mp} {D : Nat → Prop} {tm : Tr AV} {a : Act} {w : World} {H H' : Heap} {v : AV} {o : Oper}
theorem Rel.newCells (hr : Rel M D H w) {l : List AV} {g : Nat} (hl : ∀ u ∈ l, okv D u ∧ u.isCell = true) {c : Array Value} {e : TypeId} {slack : Nat}
    (hc : ∀ (i : Nat) (u : AV), l[i]? = some u → c[i]? = some (bh M u)) (hs : l.length + slack * g ≤ c.size) (hsl : g ≠ 0 → l.length + slack * g ≤ 9223372036854775807 * g) :
    Rel (M.put H.nx ⟨w.heap.size, 0, slack, none⟩) (fun b => D b ∨ b = H.nx) (H.add (.cells l true g)) (w.alloc (.cells c e)) ∧
    Ext M D H w (M.put H.nx ⟨w.heap.size, 0, slack, none⟩) (fun b => D b ∨ b = H.nx) (H.add (.cells l true g)) (w.alloc (.cells c e)) := by
  refine hr.alloc _ _ ⟨w.heap.size, 0, slack, none⟩ rfl ?_
  have hag : ∀ b, D b → M.put H.nx ⟨w.heap.size, 0, slack, none⟩ b = M b := fun b hb => Mp.put_other _ _ (Nat.ne_of_lt (hr.dom b hb))
  refine ⟨fun i u hu => ?_, fun _ i hi => ?_, by simp, fun _ => ⟨c, e, yt _ _⟩, hsl, rfl⟩
  · obtain ⟨h1, h2⟩ := hl u (List.mem_of_getElem? hu)
    refine ⟨?_, h2, iD (fun b hb => .inl hb) _ h1⟩
    simp only [Nat.zero_add, World.cell?_alloc_new]
    rw [hc i u hu, nO hag _ h1]
  · have : i < c.size := by
      have h : i < l.length + slack * g := hi
      omega
    exact ⟨by simp [this], by simp⟩
theorem Sound1.newCells (hr : Rel M D H w) {l : List AV} {g : Nat} (hl : ∀ u ∈ l, okv D u ∧ u.isCell = true) {c : Array Value} {e : TypeId} {slack : Nat}
    (hc : ∀ (i : Nat) (u : AV), l[i]? = some u → c[i]? = some (bh M u)) (hs : l.length + slack * g ≤ c.size) (hsl : g ≠ 0 → l.length + slack * g ≤ 9223372036854775807 * g) {s : Sem Next} {v : AV}
    (hrun : s.run P w = .ok (.value (bh (M.put H.nx ⟨w.heap.size, 0, slack, none⟩) v)) (w.alloc (.cells c e))) (hv : okv (fun b => D b ∨ b = H.nx) v) :
    Sound1 P w M D H s v (H.add (.cells l true g)) := by
  obtain ⟨h1, h2⟩ := hr.newCells (e := e) hl hc hs hsl
  exact ⟨_, _, _, _, hrun, .inl rfl, h1, h2, hv⟩
theorem B2 (e : TypeId) (c : Array Value) : (newRow e c).run P w = .ok ⟨w.heap.size, 0, none⟩ (w.alloc (.cells c e)) := by
  simp [newRow]
theorem am8 {t : TypeId} {z : AV} (ho : o.op = .alloc t) (hz : A1 P t = some z) (hr : Rel M D H w)
    (h : opF (.alloc z.cells) tm H = some (v, H')) : Sound1 P w M D H (execOp a.eval o) v H' := by
  have h' : H.newK (.cells z.cells true 0) (fun b H' => some (AV.ptr b 0, H')) = some (v, H') := h
  rw [Heap.newK_eq] at h'
  cases h'
  obtain ⟨z1, z2, z3⟩ := yP (M := M) (D := D) hz
  refine Sound1.newCells hr (e := t) (c := (z.cells.map (bh M)).toArray) (slack := 0) z1 (fun i u hu => by simp [hu]) (by simp) (fun h => absurd rfl h) ?_ (by simp [okv])
  simp only [execOp, ho, Instr.alloc, Sem.run_bind, CW (M := M) hz, Result.andThen_ok, newVar, z3, B2, Sem.run_pure, bh, Mp.put_same, Loc.at_mk]
theorem ap6 {t : TypeId} {x : Operand} {X : Opd} (ho : o.op = .box t x) (hx : opd nt x = some X) (ht : TmRel M D nt tm a) (hr : Rel M D H w)
    (h : opF (.box X) tm H = some (v, H')) : Sound1 P w M D H (execOp a.eval o) v H' := by
  obtain ⟨u, hu, h1⟩ := cE h
  clear h
  obtain ⟨hc, h2⟩ := oF h1
  rw [Heap.newK_eq] at h2
  cases h2
  obtain ⟨e, k⟩ := lR hx ht hu
  obtain ⟨c1, c2⟩ := ZY (M := M) (fun l e => by rw [e] at hc; cases hc) k
  refine Sound1.newCells hr (e := t) (c := (u.cells.map (bh M)).toArray) (slack := 0) c2 (fun i u hu => by simp [hu]) (by simp) (fun h => absurd rfl h) ?_ (by simp [okv])
  simp only [execOp, ho, Instr.box, e, Sem.run_bind, newVar, c1, B2, Result.andThen_ok, Sem.run_pure, bh, Mp.put_same, Loc.at_mk]
theorem repsC_eq (z : List AV) (n : Nat) : amL z n = GW z n := by
  induction n with
  | zero => rfl
  | succ n ih => rw [WV, amL, ih]
theorem ahI {z : List AV} {n : Nat} {u : AV} (h : u ∈ GW z n) : u ∈ z := by
  induction n with
  | zero => have h' : u ∈ ([] : List AV) := h
            cases h'
  | succ n ih =>
    rw [WV] at h
    rcases List.mem_append.1 h with h | h
    · exact h
    · exact ih h
theorem Cj (z : List AV) (n : Nat) : (GW z n).length = n * z.length := by
  induction n with
  | zero => show ([] : List AV).length = _; simp
  | succ n ih => rw [WV, List.length_append, ih, Nat.succ_mul]; omega
theorem anx (z : List AV) (n i : Nat) (h : i < n * z.length) : (GW z n)[i]? = z[i % z.length]? := by
  induction n generalizing i with
  | zero => omega
  | succ n ih =>
    rw [WV, List.getElem?_append]
    rw [Nat.succ_mul] at h
    split
    · rename_i hlt; rw [Nat.mod_eq_of_lt hlt]
    · rename_i hge
      rw [ih (i - z.length) (by omega)]
      congr 1
      rw [← Nat.mod_eq_sub_mod (by omega)]
theorem ZE (z : List AV) (n : Nat) (hz : 0 < z.length) : ((Array.range (n * z.length)).map fun i => (z.map (bh M)).toArray[i % (z.map (bh M)).toArray.size]!) = ((GW z n).map (bh M)).toArray := by
  apply Array.ext
  · simp [Cj]
  · intro i h1 h2
    simp only [Array.size_map, Array.size_range] at h1
    have hlt : i % z.length < z.length := Nat.mod_lt _ hz
    have hg := anx z n i h1
    have hlen : i < (GW z n).length := by rw [Cj]; exact h1
    rw [List.getElem?_eq_getElem hlen, List.getElem?_eq_getElem hlt] at hg
    have hg : (GW z n)[i] = z[i % z.length] := by simpa using hg
    simp only [Array.getElem_map, Array.getElem_range, List.getElem_toArray, List.getElem_map, hg, List.size_toArray, List.length_map]
    rw [getElem!_pos _ _ (by simpa using hlt)]
    simp
theorem adA {t e : TypeId} {len : Nat} {parts : Array (Nat × Operand)} {z : AV} {s : Nat} {L : List (Nat × Nat × Opd)} (ho : o.op = .buildSlice t len parts)
    (hu : P.underlying t = some (.slice e)) (hs : szT P e = some s) (hz : A1 P e = some z) (hzs : z.cells.length = s) (hlen : len * s ≤ 16777216) (hl : Zv nt s parts.toList = some L)
    (ht : TmRel M D nt tm a) (hr : Rel M D H w) (h : opF (.buildSlice len (amL z.cells len) L) tm H = some (v, H')) : Sound1 P w M D H (execOp a.eval o) v H' := by
  obtain ⟨r, hr', h1⟩ := cE h
  clear h
  rw [Heap.newK_eq] at h1
  cases h1
  rw [repsC_eq] at hr'
  obtain ⟨q1, q2⟩ := ach s hl
  obtain ⟨z1, z2, z3⟩ := yP (M := M) (D := D) hz
  obtain ⟨f1, f2⟩ := ah4 (M := M) (D := D) (fun i => some (i * s, s)) parts.toList L _ r q1 q2 ht (fun u hu => z1 u (ahI hu)) hr'
  refine Sound1.newCells hr (e := e) (c := (r.map (bh M)).toArray) (slack := 0) f2 (fun i u hu => by simp [hu]) (by simp) (fun h => absurd rfl h) ?_ (by simp [okv])
  have f1' : Instr.fill (fun i => some (i * s, s)) ((GW z.cells len).map (bh M)).toArray (parts.map fun p => (p.1, a.eval p.2)).toList = some (r.map (bh M)).toArray := by rw [Array.toList_map]; exact f1
  simp only [execOp, ho, Instr.buildSlice, Sem.run_bind, run_underlying hu, Result.andThen_ok, nT hs, Sem.run_ite]
  rw [if_neg (by omega)]
  by_cases h0 : len * s = 0
  · rw [if_pos h0]
    have hrn : GW z.cells len = [] := by
      have := Cj z.cells len
      rw [hzs, h0] at this
      exact List.length_eq_zero_iff.1 this
    rw [hrn] at f1'
    simp only [Sem.run_pure, Result.andThen_ok, h0]
    have : ((Array.range 0).map fun i => (#[] : Array Value)[i % (#[] : Array Value).size]!) = (([] : List AV).map (bh M)).toArray := by simp [Array.range_zero']
    rw [this, f1']
    simp only [Sem.run_bind, B2, Result.andThen_ok, Sem.run_pure, bh, Mp.put_same, Loc.at_mk]
    simp
  · rw [if_neg h0]
    simp only [CW (M := M) hz, Result.andThen_ok, Sem.run_pure, z3]
    have hpos : 0 < z.cells.length := by rw [hzs]; exact Nat.pos_of_ne_zero (fun e => h0 (by rw [e]; simp))
    have hm := ZE (M := M) z.cells len hpos
    rw [hzs] at hm
    rw [hm, f1']
    simp only [Sem.run_bind, B2, Result.andThen_ok, Sem.run_pure, bh, Mp.put_same, Loc.at_mk]
    simp
theorem mk_sound {t e : TypeId} {x y : Operand} {X Y : Opd} {i : TypeInfo} {z : AV} (ho : o.op = .makeSlice t x y) (hu : P.underlying t = some (.slice e)) (hi : P.info? e = some i) (hz : A1 P e = some z)
    (hzs : z.cells.length = i.size) (hs0 : 0 < i.size) (hb : i.bytes ≤ 65536) (hx : opd nt x = some X) (hy : opd nt y = some Y) (ht : TmRel M D nt tm a) (hr : Rel M D H w)
    (h : opF (.mk z.cells X Y) tm H = some (v, H')) : Sound1 P w M D H (execOp a.eval o) v H' := by
  obtain ⟨u, hu', h1⟩ := cE h
  clear h
  obtain ⟨q, hq', h⟩ := cE h1
  clear h1
  obtain ⟨e1, k1⟩ := lR hx ht hu'
  obtain ⟨e2, k2⟩ := lR hy ht hq'
  split at h
  · rename_i kk l kk' c
    obtain ⟨hl0, h1⟩ := zY h
    clear h
    obtain ⟨hc0, h⟩ := zY h1
    clear h1
    split at h
    · rename_i hbb
      simp only [Bool.and_eq_true] at hbb
      have hlc := Nat.le_of_ble_eq_true hbb.1
      have hcm := Nat.le_of_ble_eq_true hbb.2
      unfold zH at hcm
      rw [Heap.newK_eq] at h
      cases h
      obtain ⟨z1, z2, z3⟩ := yP (M := M) (D := D) hz
      obtain ⟨l, rfl⟩ := Int.eq_ofNat_of_zero_le hl0
      obtain ⟨c, rfl⟩ := Int.eq_ofNat_of_zero_le hc0
      simp only [Int.toNat_natCast] at hlc hcm
      refine Sound1.newCells hr (e := e) (c := ((GW z.cells c).map (bh M)).toArray) (slack := 0) (fun u hu => z1 u (ahI hu)) (fun i u hu => by simp only [Int.toNat_natCast] at hu; simp [hu]) (by simp) (fun h => absurd rfl h) ?_ (by simp [okv])
      have hwl : IntKind.i64.wrap (l : Int) = l := by simp only [IntKind.wrap, IntKind.signed, IntKind.bits]; simp; omega
      have hwc : IntKind.i64.wrap (c : Int) = c := by simp only [IntKind.wrap, IntKind.signed, IntKind.bits]; simp; omega
      have hprod : (i.bytes : Int) * (c : Int) ≤ 2 ^ 48 := by
        have : i.bytes * c ≤ 65536 * 1048576 := Nat.mul_le_mul hb hcm
        have h2 : ((i.bytes * c : Nat) : Int) ≤ ((65536 * 1048576 : Nat) : Int) := by exact_mod_cast this
        have h3 : ((i.bytes * c : Nat) : Int) = (i.bytes : Int) * (c : Int) := by simp
        omega
      simp only [execOp, ho, Instr.makeSlice, Sem.run_bind, run_underlying hu, Result.andThen_ok, e1, e2, bh, asInt, asIntOf, Sem.run_pure, VD hi, hwl, hwc]
      have hnot : (decide ((c : Int) < 0) || decide ((i.bytes : Int) * (c : Int) > 2 ^ 48) || decide ((l : Int) < 0) || decide ((l : Int) > (c : Int))) = false := by
        simp; omega
      simp only [hnot, Bool.false_eq_true, if_false, Sem.run_bind, run_askRoom, Result.andThen_ok, Int.toNat_natCast, sizeOf, VD hi, Sem.run_pure]
      rw [← hzs]
      have hpos : 0 < z.cells.length := by omega
      have hm := ZE (M := M) z.cells c hpos
      rw [Sem.run_ite]
      by_cases h0 : c * z.cells.length = 0
      · have hrn : GW z.cells c = [] := List.length_eq_zero_iff.1 (by rw [Cj, h0])
        rw [if_pos h0, h0, hrn]
        simp only [Sem.run_bind, Sem.run_pure, Result.andThen_ok]
        have : ((Array.range 0).map fun i => (#[] : Array Value)[i % (#[] : Array Value).size]!) = (([] : List AV).map (bh M)).toArray := by simp [Array.range_zero']
        rw [this]
        simp only [B2, Result.andThen_ok, Mp.put_same, Loc.at_mk]
        exact yY (by simp) rfl (by simp; omega)
      · rw [if_neg h0]
        simp only [Sem.run_bind, CW (M := M) hz, Result.andThen_ok, Sem.run_pure, z3]
        rw [hm]
        simp only [B2, Result.andThen_ok, Mp.put_same, Loc.at_mk]
        exact yY (by simp) rfl (by simp; omega)
    · cases h
  · cases h
theorem xj (hr : Rel M D H w) {b : Nat} (hb : D b) {l : List AV} {rw_ : Bool} {g : Nat} (hg : H.get b = some (.cells l rw_ g)) : RowOk M D w (M b) l rw_ g := by
  have := hr.blk b hb; rwa [hg] at this
theorem N8 {L : Loc} {l r : List AV} {rw_ : Bool} {g off n : Nat} (h : RowOk M D w L l rw_ g) (hs : sub l off n = some r) :
    r.length = n ∧ (∀ u ∈ r, okv D u ∧ u.isCell = true) ∧ ∀ j v, (r.map (bh M))[j]? = some v → w.cell? (Addr.add ⟨L.blk, L.base + off, none⟩ j) = some v := by
  obtain ⟨q1, q2, q3⟩ := amM hs
  refine ⟨q1, fun u hu => ?_, fun j v hv => ?_⟩
  · obtain ⟨j, hj⟩ := List.getElem?_of_mem hu
    obtain ⟨_, b, c⟩ := h.at_ _ _ (q3 j u hj)
    exact ⟨c, b⟩
  · simp only [List.getElem?_map, Option.map_eq_some_iff] at hv
    obtain ⟨u, hu, rfl⟩ := hv
    obtain ⟨a, _, _⟩ := h.at_ _ _ (q3 j u hu)
    rw [Hj, Nat.add_assoc]
    exact a
theorem aoM {t : TypeId} {s : Nat × Bool} {x : Operand} {X : Opd} (ho : o.op = .load t x) (hs : U4 P t = some s) (hx : opd nt x = some X) (ht : TmRel M D nt tm a) (hr : Rel M D H w)
    (h : opF (.load s.1 s.2 X) tm H = some (v, H')) : Sound1 P w M D H (execOp a.eval o) v H' := by
  obtain ⟨s1, s2, s3⟩ := acq hs
  obtain ⟨u, hu, h1⟩ := cE h
  clear h
  obtain ⟨e, k⟩ := lR hx ht hu
  split at h1
  · rename_i b off
    obtain ⟨l, hl, h2⟩ := cE h1
    clear h1
    obtain ⟨cs, hcs, h1⟩ := cE h2
    clear h2
    obtain ⟨r, hr', h⟩ := cE h1
    clear h1
    cases h
    simp only [okv] at k
    obtain ⟨rw_, g, hg⟩ := Kd hl
    obtain ⟨q1, q2, q3⟩ := N8 (xj hr k hg) hcs
    obtain ⟨p1, p2⟩ := Vy (M := M) hr'
    refine Sound1.same hr ?_ (p2 D q2)
    have hlen : (cs.map (bh M)).length = s.1 := by simp [q1]
    have hload := run_loadCells_list (P := P) w ⟨(M b).blk, (M b).base + off, none⟩ (cs.map (bh M)) q3
    rw [hlen] at hload
    simp only [execOp, ho, e, bh, (xj hr k hg).at_at, Instr.loadAt, Instr.sureAddr, loadVar, Sem.run_bind, Sem.run_pure, Result.andThen_ok, af4 s2, Sem.run_ite, p1, oW]
    cases hb : s.2 with
    | true => simp only [if_true, nT s1, Result.andThen_ok, hload]
    | false =>
      have h1 := s3 hb
      rw [h1] at q1
      match cs, q1 with
      | [c], _ =>
        have := q3 0 (bh M c) (by simp)
        rw [Addr.add_zero'] at this
        simp [this]
  · cases h1
theorem aml {t : TypeId} {n : Nat} {x y : Operand} {X Y : Opd} (ho : o.op = .store t x y) (hs : szT P t = some n) (hx : opd nt x = some X) (hy : opd nt y = some Y) (ht : TmRel M D nt tm a) (hr : Rel M D H w)
    (h : opF (.store n X Y) tm H = some (v, H')) : Sound1 P w M D H (execOp a.eval o) v H' := by
  obtain ⟨u, hu, h1⟩ := cE h
  clear h
  obtain ⟨e, k⟩ := lR hx ht hu
  split at h1
  · rename_i b off
    obtain ⟨z, hz, h2⟩ := cE h1
    clear h1
    obtain ⟨e2, k2⟩ := lR hy ht hz
    obtain ⟨l, g, hg, _, h1⟩ := PA h2
    clear h2
    split at h1
    · rename_i hb
      simp only [Bool.and_eq_true, beq_iff_eq, iA] at hb
      obtain ⟨⟨hb1, hb2⟩, hb3⟩ := hb
      have hb3 := Nat.le_of_ble_eq_true hb3
      rw [nU, Heap.setK_eq] at h1
      cases h1
      simp only [okv] at k
      obtain ⟨c1, c2⟩ := ZY (M := M) (fun l e => by rw [e] at hb1; cases hb1) k2
      have hrow := xj hr k hg
      have hbd : off + z.cells.length ≤ l.length := by omega
      obtain ⟨r1, r2⟩ := hr.write k hg z.cells off hbd c2
      refine ⟨M, D, _, .skip, ?_, .inr ⟨rfl, rY M⟩, r1, r2, uS D⟩
      have hst := run_storeCells_cells (P := P) (M b).blk ((M b).base + off) (z.cells.map (bh M)) 0 w
        (fun j hj => by
          have := (hrow.own rfl (off + j) (by simp at hj; omega)).1
          rwa [show (M b).base + off + 0 + j = (M b).base + (off + j) by omega])
        (fun j hj => by
          have := (hrow.own rfl (off + j) (by simp at hj; omega)).2
          rwa [show (M b).base + off + 0 + j = (M b).base + (off + j) by omega])
        (fun u hu => by
          obtain ⟨c, hc, rfl⟩ := List.mem_map.1 hu
          exact DL (c2 c hc).2)
      simp only [execOp, ho, e, e2, Instr.storeAt, bh, hrow.at_at, Instr.sureAddr, storeVar, Sem.run_bind, Sem.run_pure, Result.andThen_ok, nT hs, c1, Sem.run_ite]
      rw [if_neg (by simp [hb2])]
      simp only [hst, Result.andThen_ok, Nat.add_zero]
    · cases h1
  · cases h1
theorem aeq {t : TypeId} {r : Option Operand} {k e : TypeId} (ho : o.op = .makeMap t r) (hu : P.underlying t = some (.map k e)) (hrr : r = none ∨ ∃ q n, r = some (.const (.int q n))) (hr : Rel M D H w)
    (h : opF .mkmap tm H = some (v, H')) : Sound1 P w M D H (execOp a.eval o) v H' := by
  have h' : H.newK (.mp []) (fun b H' => some (AV.map b, H')) = some (v, H') := h
  rw [Heap.newK_eq] at h'
  cases h'
  have hx : BlkOk (M.put H.nx ⟨w.heap.size, 0, 0, none⟩) (fun b => D b ∨ b = H.nx) (w.alloc (.map #[] 0)) ⟨w.heap.size, 0, 0, none⟩ (some (.mp [])) := by
    exact ⟨⟨#[], 0, yt _ _, trivial, by simp [BornOk]⟩⟩
  obtain ⟨h1, h2⟩ := hr.alloc (.map #[] 0) (.mp []) ⟨w.heap.size, 0, 0, none⟩ rfl hx
  refine ⟨_, _, _, _, ?_, .inl rfl, h1, h2, by simp [okv]⟩
  rcases hrr with rfl | ⟨q, n, rfl⟩
  · simp [execOp, ho, Instr.makeMap, bh, Mp.put_same, Loc.at_mk]
  · simp [execOp, ho, Instr.makeMap, bh, Mp.put_same, Act.eval, run_underlying hu, asInt, asIntOf]
end
end Go.Ai
