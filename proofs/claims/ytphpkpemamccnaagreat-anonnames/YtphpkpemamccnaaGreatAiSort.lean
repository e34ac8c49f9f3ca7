/- slices.Sort at []int of at most twelve elements, by the library's own text, upon the interpreter. -/
import Derived.Test.YtphpkpemamccnaaGreatAiQ
namespace Go.Ai
noncomputable def nanB : AC := .seq (.reg [.op .always (some (key 2)) (.mov (.c (.bool false)))]) (.seq (.reg [.op .always (some (key 3)) (.mov (.t (key 0))),
  .op .always (some (key 4)) (.mov (.t (key 0))),
  .op .always (some (key 5)) (.bin .neq (.t (key 3)) (.t (key 4))),
  .op .always (some (key 2)) (.mov (.t (key 5)))]) (.ret))
noncomputable def lessB (nan : Nat) : AC := .seq (.reg [.op .always (some (key 4)) (.mov (.c (.bool false)))]) (.seq (.reg [.op .always (some (key 5)) (.mov (.t (key 0))),
  .call .always (some (key 6)) false (.c (.func nan [] [])) [(.t (key 5))],
  .op .always (some (key 7)) (.mov (.t (key 6))),
  .op (.on (key 7) true) (some (key 8)) (.mov (.t (key 1))),
  .call (.on (key 7) true) (some (key 9)) false (.c (.func nan [] [])) [(.t (key 8))],
  .op (.on (key 7) true) (some (key 10)) (.not (.t (key 9))),
  .op .always (some (key 11)) (.pick (.t (key 7)) (.t (key 10)) (.c (.bool false))),
  .op .always (some (key 12)) (.mov (.t (key 11))),
  .op (.on (key 12) false) (some (key 13)) (.mov (.t (key 0))),
  .op (.on (key 12) false) (some (key 14)) (.mov (.t (key 1))),
  .op (.on (key 12) false) (some (key 15)) (.bin .lss (.t (key 13)) (.t (key 14))),
  .op .always (some (key 16)) (.pick (.t (key 12)) (.c (.bool true)) (.t (key 15))),
  .op .always (some (key 4)) (.mov (.t (key 16)))]) (.ret))
noncomputable def insB (less : Nat) : AC := .seq (.reg [.op .always (some (key 8)) (.mov (.t (key 1))),
  .op .always (some (key 9)) (.bin .add (.t (key 8)) (.c (.int .i64 1))),
  .op .always (some (key 6)) (.mov (.t (key 9)))]) (.block 0 (.loop (.seq (.seq (.reg [.op .always (some (key 10)) (.mov (.t (key 6))),
  .op .always (some (key 11)) (.mov (.t (key 2))),
  .op .always (some (key 12)) (.bin .lss (.t (key 10)) (.t (key 11)))]) (.cond (.t (key 12)) (.skip) (.exit 0))) (.seq (.block 1 (.seq (.reg [.op .always (some (key 15)) (.mov (.t (key 6))),
  .op .always (some (key 7)) (.mov (.t (key 15)))]) (.block 2 (.loop (.seq (.seq (.reg [.op .always (some (key 16)) (.mov (.t (key 7))),
  .op .always (some (key 17)) (.mov (.t (key 1))),
  .op .always (some (key 18)) (.bin .gtr (.t (key 16)) (.t (key 17))),
  .op .always (some (key 19)) (.mov (.t (key 18))),
  .op (.on (key 19) true) (some (key 20)) (.mov (.t (key 0))),
  .op (.on (key 19) true) (some (key 21)) (.mov (.t (key 7))),
  .op (.on (key 19) true) (some (key 22)) (.iaS 1 (.t (key 20)) (.t (key 21))),
  .op (.on (key 19) true) (some (key 23)) (.load 1 false (.t (key 22))),
  .op (.on (key 19) true) (some (key 24)) (.mov (.t (key 0))),
  .op (.on (key 19) true) (some (key 25)) (.mov (.t (key 7))),
  .op (.on (key 19) true) (some (key 26)) (.bin .sub (.t (key 25)) (.c (.int .i64 1))),
  .op (.on (key 19) true) (some (key 27)) (.iaS 1 (.t (key 24)) (.t (key 26))),
  .op (.on (key 19) true) (some (key 28)) (.load 1 false (.t (key 27))),
  .call (.on (key 19) true) (some (key 29)) false (.c (.func less [] [])) [(.t (key 23)), (.t (key 28))],
  .op .always (some (key 30)) (.pick (.t (key 19)) (.t (key 29)) (.c (.bool false)))]) (.cond (.t (key 30)) (.skip) (.exit 2))) (.seq (.block 3 (.reg [.op .always (some (key 33)) (.mov (.t (key 0))),
  .op .always (some (key 34)) (.mov (.t (key 7))),
  .op .always (some (key 35)) (.mov (.t (key 0))),
  .op .always (some (key 36)) (.mov (.t (key 7))),
  .op .always (some (key 37)) (.bin .sub (.t (key 36)) (.c (.int .i64 1))),
  .op .always (some (key 38)) (.mov (.t (key 0))),
  .op .always (some (key 39)) (.mov (.t (key 7))),
  .op .always (some (key 40)) (.bin .sub (.t (key 39)) (.c (.int .i64 1))),
  .op .always (some (key 41)) (.iaS 1 (.t (key 38)) (.t (key 40))),
  .op .always (some (key 42)) (.load 1 false (.t (key 41))),
  .op .always (some (key 43)) (.mov (.t (key 0))),
  .op .always (some (key 44)) (.mov (.t (key 7))),
  .op .always (some (key 45)) (.iaS 1 (.t (key 43)) (.t (key 44))),
  .op .always (some (key 46)) (.load 1 false (.t (key 45))),
  .op .always (some (key 47)) (.iaS 1 (.t (key 33)) (.t (key 34))),
  .op .always none (.store 1 (.t (key 47)) (.t (key 42))),
  .op .always (some (key 48)) (.iaS 1 (.t (key 35)) (.t (key 37))),
  .op .always none (.store 1 (.t (key 48)) (.t (key 46)))])) (.reg [.op .always (some (key 31)) (.mov (.t (key 7))),
  .op .always (some (key 32)) (.bin .sub (.t (key 31)) (.c (.int .i64 1))),
  .op .always (some (key 7)) (.mov (.t (key 32)))]))))))) (.reg [.op .always (some (key 13)) (.mov (.t (key 6))),
  .op .always (some (key 14)) (.bin .add (.t (key 13)) (.c (.int .i64 1))),
  .op .always (some (key 6)) (.mov (.t (key 14)))])))))

noncomputable def pdqB (ins : Nat) (rest : AC) : AC := .seq (.reg [.op .always (some (key 8)) (.mov (.c (.bool true)))]) (.seq (.reg [.op .always (some (key 9)) (.mov (.c (.bool true)))]) (.block 0 (.loop (.block 1 (.seq (.reg [.op .always (some (key 19)) (.mov (.t (key 2))),
  .op .always (some (key 20)) (.mov (.t (key 1))),
  .op .always (some (key 21)) (.bin .sub (.t (key 19)) (.t (key 20))),
  .op .always (some (key 10)) (.mov (.t (key 21)))]) (.seq (.seq (.reg [.op .always (some (key 22)) (.mov (.t (key 10))),
  .op .always (some (key 23)) (.bin .leq (.t (key 22)) (.c (.int .i64 12)))]) (.cond (.t (key 23)) (.seq (.reg [.op .always (some (key 24)) (.mov (.t (key 0))),
  .op .always (some (key 25)) (.mov (.t (key 1))),
  .op .always (some (key 26)) (.mov (.t (key 2))),
  .call .always (some (key 27)) false (.c (.func ins [] [])) [(.t (key 24)), (.t (key 25)), (.t (key 26))]]) (.ret)) (.skip))) rest))))))
noncomputable def sortB (len pdq : Nat) : AC := .seq (.reg [.op .always (some (key 3)) (.mov (.t (key 0))),
  .op .always (some (key 4)) (.len .sl (.t (key 3))),
  .op .always (some (key 2)) (.mov (.t (key 4)))]) (.reg [.op .always (some (key 5)) (.mov (.t (key 0))),
  .op .always (some (key 6)) (.mov (.t (key 2))),
  .op .always (some (key 7)) (.mov (.t (key 2))),
  .op .always (some (key 8)) (.conv .u64 (.t (key 7))),
  .call .always (some (key 9)) false (.c (.func len [] [])) [(.t (key 8))],
  .call .always (some (key 10)) false (.c (.func pdq [] [])) [(.t (key 5)), (.c (.int .i64 0)), (.t (key 6)), (.t (key 9))]])
section
variable {tbl : Tr AFn}
theorem nan_run (nan : Nat) (hf : tbl.get (key nan) = some (.code [key 0] nanB [.t (key 2)])) (x : Int) (H : Heap) : WpC tbl (.func nan [] []) [.int .i64 x] H fun v H' => v = .bool false ∧ H' = H := by
  refine WpC.go hf rfl ?_
  unfold nanB
  simp
theorem less_run (nan less : Nat) (hn : tbl.get (key nan) = some (.code [key 0] nanB [.t (key 2)])) (hf : tbl.get (key less) = some (.code [key 0, key 1] (lessB nan) [.t (key 4)])) (x y : Int) (H : Heap) :
    WpC tbl (.func less [] []) [.int .i64 x, .int .i64 y] H fun v H' => v = .bool (decide (x < y)) ∧ H' = H := by
  refine WpC.go hf rfl ?_
  unfold lessB
  simp
  refine (nan_run nan hn x _).mono fun v H' h => ?_
  obtain ⟨rfl, rfl⟩ := h
  simp

abbrev I64 (x : Int) : AV := .int .i64 x
/-- a row of numbers -/
abbrev rowZ (zs : List Int) (tl : List AV) : List AV := zs.map I64 ++ tl
theorem rowZ_get {zs : List Int} {tl : List AV} {j : Nat} {x : Int} (h : zs[j]? = some x) : (rowZ zs tl)[j]? = some (I64 x) := by
  have := (List.getElem?_eq_some_iff.1 h).1
  rw [List.getElem?_append_left (by simpa using this), List.getElem?_map, h]; rfl
theorem rowZ_set {zs : List Int} {tl : List AV} {j : Nat} {x : Int} (h : j < zs.length) : (rowZ zs tl).set j (I64 x) = rowZ (zs.set j x) tl := by
  show (zs.map I64 ++ tl).set j (I64 x) = _
  rw [List.set_append_left _ _ (by simpa using h), ← List.map_set]

theorem ins_run (nan less ins : Nat) (hn : tbl.get (key nan) = some (.code [key 0] nanB [.t (key 2)])) (hl : tbl.get (key less) = some (.code [key 0, key 1] (lessB nan) [.t (key 4)]))
    (hf : tbl.get (key ins) = some (.code [key 0, key 1, key 2] (insB less) [])) (b n ext : Nat) (opn : Bool) (g : Nat) (xs : List Int) (tl : List AV) (H : Heap) (hx : xs.length = n) (hn' : n < 1000000)
    (hH : H.get b = some (.cells (rowZ xs tl) true g)) (hr : H.ro ≤ b) :
    WpC tbl (.func ins [] []) [.slice b 0 n ext opn, I64 0, I64 n] H fun v H' => v = .undef ∧ ∃ zs : List Int, zs.Perm xs ∧ zs.Pairwise (· ≤ ·) ∧ H' = H.set b (.cells (rowZ zs tl) true g) := by
  refine WpC.go hf rfl ?_
  unfold insB
  have e0 : binF .add (I64 0) (I64 1) = some (I64 (0 + 1)) := bin_add (by unfold in64; omega)
  simp [e0]
  refine CQ.loop (fun s => ∃ (i : Nat) (p : List Int), s.tm.get (key 0) = some (.slice b 0 n ext opn) ∧ s.tm.get (key 1) = some (I64 0) ∧ s.tm.get (key 2) = some (I64 n) ∧ s.tm.get (key 6) = some (I64 i) ∧
      1 ≤ i ∧ (i ≤ n ∨ i = 1) ∧ p.Perm (xs.take i) ∧ p.Pairwise (· ≤ ·) ∧ s.hp = H.set b (.cells (rowZ (p ++ xs.drop i) tl) true g))
    (fun s => n + 1 - (match s.tm.get (key 6) with | some (.int _ i) => i.toNat | _ => 0)) ?_ ?_
  · refine ⟨1, xs.take 1, by simp, by simp, by simp, by simp, Nat.le_refl _, .inr rfl, .refl _, ?_, ?_⟩
    · cases xs <;> simp
    · rw [List.take_append_drop, Heap.set_id hH]
  · rintro tm K ⟨i, p, t0, t1, t2, t6, hi1, hin, hp, hs, rfl⟩
    dsimp only at t0 t1 t2 t6
    have e1 : ∀ j : Nat, j < 1000000 → binF .add (I64 j) (I64 1) = some (I64 (j + 1)) := fun j hj => bin_add (by unfold in64; omega)
    have e2 : ∀ j : Nat, j < 1000000 → 0 < j → binF .sub (I64 j) (I64 1) = some (I64 ((j - 1 : Nat) : Int)) := fun j hj h0 => by
      rw [show ((j - 1 : Nat) : Int) = (j : Int) - 1 by omega]; exact bin_sub (by unfold in64; omega)
    simp [t2, t6]
    split
    · -- i < n: the element at i goes to its place
      rename_i hlt
      obtain ⟨x, hxi⟩ : ∃ x, xs[i]? = some x := ⟨xs[i], List.getElem?_eq_getElem (by omega)⟩
      have hdrop : xs.drop i = x :: xs.drop (i + 1) := by
        rw [List.drop_eq_getElem_cons (by omega)]; congr 1; exact (List.getElem?_eq_some_iff.1 hxi).2
      have hpl : p.length = i := by rw [hp.length_eq, List.length_take]; omega
      have htake : xs.take (i + 1) = xs.take i ++ [x] := by rw [List.take_add_one, hxi]; rfl
      have e3 : binF .add (I64 i) (I64 1) = some (I64 ((i + 1 : Nat) : Int)) := by rw [e1 i (by omega)]; rfl
      have fin : ∀ A C : List Int, p = A ++ C → (∀ y ∈ C, x < y) → (∀ y ∈ A, y ≤ x) → (A ++ x :: C).Perm (xs.take (i + 1)) ∧ (A ++ x :: C).Pairwise (· ≤ ·) := by
        intro A C e hC hA
        subst e
        constructor
        · rw [htake]
          exact List.perm_middle.trans ((List.Perm.cons x hp).trans (List.perm_append_comm (l₁ := [x])))
        · rw [List.pairwise_append] at hs ⊢
          refine ⟨hs.1, List.pairwise_cons.2 ⟨fun y hy => Int.le_of_lt (hC y hy), hs.2.1⟩, fun a ha c hc => ?_⟩
          rcases List.mem_cons.1 hc with rfl | hc
          · exact hA a ha
          · exact Int.le_trans (hA a ha) (Int.le_of_lt (hC c hc))
      refine CQ.loop (fun s => ∃ (A C : List Int), p = A ++ C ∧ (∀ y ∈ C, x < y) ∧ s.tm.get (key 0) = some (.slice b 0 n ext opn) ∧ s.tm.get (key 1) = some (I64 0) ∧ s.tm.get (key 2) = some (I64 n) ∧ s.tm.get (key 6) = some (I64 i) ∧
          s.tm.get (key 7) = some (I64 A.length) ∧ s.hp = H.set b (.cells (rowZ (A ++ (x :: (C ++ xs.drop (i + 1)))) tl) true g))
        (fun s => match s.tm.get (key 7) with | some (.int _ i) => i.toNat | _ => 0) ?_ ?_
      · exact ⟨p, [], by simp, by simp, by simp [t0], by simp [t1], by simp [t2], by simp [t6], by simp [hpl], by rw [hdrop]; rfl⟩
      · rintro tm2 K2 ⟨A, C, rfl, hC, u0, u1, u2, u6, u7, rfl⟩
        dsimp only at u0 u1 u2 u6 u7
        have hA : A.length ≤ i := by rw [← hpl, List.length_append]; omega
        rcases List.eq_nil_or_concat A with rfl | ⟨A', y, rfl⟩
        · -- it stands first
          simp [u0, u1, u2, u6, u7, e3]
          refine ⟨⟨i + 1, rfl, by omega, .inl (by omega), x :: C, ?_⟩, by omega⟩
          obtain ⟨f1, f2⟩ := fin [] C (by simp) hC (by simp)
          exact ⟨by simpa using f1, by simpa using f2, by simp⟩
        · obtain ⟨j, hj⟩ : ∃ j, j = A'.length := ⟨_, rfl⟩
          have hjl : (A'.concat y).length = j + 1 := by simp [hj]
          rw [hjl] at u7 hA
          obtain ⟨R, hR⟩ : ∃ R, R = rowZ (A'.concat y ++ (x :: (C ++ xs.drop (i + 1)))) tl := ⟨_, rfl⟩
          have r0 : R[j]? = some (I64 y) := by rw [hR]; exact rowZ_get (by simp [hj])
          have r1 : R[j + 1]? = some (I64 x) := by rw [hR]; exact rowZ_get (by simp [hj])
          rw [← hR]
          have hcells : ∀ o, cellsQ (H.set b (.cells R true g)) b o 1 = R[o]?.bind fun v => some [v] := cells1 (Heap.get_set_same _ _ _)
          have hg : decide ((0 : Int) < ((j + 1 : Nat) : Int)) = true := by simp
          have hsub : binF .sub (I64 ((j + 1 : Nat) : Int)) (I64 1) = some (I64 (j : Int)) := e2 (j + 1) (by omega) (by omega)
          have hx1 : idx ((j + 1 : Nat) : Int) n = some (j + 1) := by rw [idx_ofNat, if_pos (by omega)]
          have hx0 : idx (j : Int) n = some j := by rw [idx_ofNat, if_pos (by omega)]
          simp only [CQ, RegQ, Ex.thn, want_always, want_on, opF_mov, opF_bin, opF_iaS, opF_loadQ, bin_gtr, ev_t, ev_c, evs_consq, evs_nilq, putO_some, get_set_key, Option.bind_some, u0, u1, u7, hg, hsub, hx1, hx0, hcells, r0, r1, packF1, Nat.reduceEqDiff, reduceIte, Nat.mul_one, Nat.zero_add, shut_false, BEq.rfl]
          refine (less_run nan less hn hl x y _).mono fun v K h => ?_
          obtain ⟨rfl, rfl⟩ := h
          by_cases hxy : x < y
          · -- a swap
            have hlt1 : j + 1 < R.length := (List.getElem?_eq_some_iff.1 r1).1
            have s1 : storeTo (H.set b (.cells R true g)) b (j + 1) 1 (I64 y) = some (H.set b (.cells (R.set (j + 1) (I64 y)) true g)) := by
              rw [store1 (Heap.get_set_same _ _ _) (by simpa using hr) rfl hlt1, Heap.set_set]
            have s0 : storeTo (H.set b (.cells (R.set (j + 1) (I64 y)) true g)) b j 1 (I64 x) = some (H.set b (.cells ((R.set (j + 1) (I64 y)).set j (I64 x)) true g)) := by
              rw [store1 (Heap.get_set_same _ _ _) (by simpa using hr) rfl (by rw [List.length_set]; omega), Heap.set_set]
            have hsub' : binF .sub (I64 ((j : Int) + 1)) (I64 1) = some (I64 (j : Int)) := by have := hsub; rwa [show ((j + 1 : Nat) : Int) = (j : Int) + 1 by omega] at this
            have hRs : (R.set (j + 1) (I64 y)).set j (I64 x) = rowZ (A' ++ (x :: (y :: C ++ xs.drop (i + 1)))) tl := by
              rw [hR, rowZ_set (by simp [hj]), rowZ_set (by simp [hj])]
              congr 1
              rw [List.concat_eq_append, List.append_assoc, List.set_append_right _ _ (by omega), List.set_append_right _ _ (by omega)]
              simp [hj]
            simp [u0, u1, u2, u6, u7, hxy, hcells, r0, r1, s1, s0, hx0, hsub']
            exact ⟨A', y :: C, rfl, fun z hz => by
              rcases List.mem_cons.1 hz with rfl | hz
              · exact hxy
              · exact hC z hz, by rw [hj], by rw [hRs]⟩
          · simp [u0, u1, u2, u6, hxy, e3]
            obtain ⟨f1, f2⟩ := fin (A'.concat y) C rfl hC fun a ha => by
              rw [List.concat_eq_append] at ha hs
              rcases List.mem_append.1 ha with ha | ha
              · have h1 := (List.pairwise_append.1 (List.pairwise_append.1 hs).1).2.2 a ha y (by simp)
                omega
              · have : a = y := by simpa using ha
                omega
            refine ⟨⟨i + 1, rfl, by omega, .inl (by omega), _, f1, f2, ?_⟩, by omega⟩
            rw [hR]; simp
    · rename_i hge
      have hin' : ¬ i < n := by omega
      refine ⟨p, ?_, hs, ?_⟩
      · rw [List.take_of_length_le (by omega)] at hp; exact hp
      · rw [List.drop_eq_nil_of_le (by omega), List.append_nil]

theorem pdq_run {ins pdq : Nat} {rest : AC} (hf : tbl.get (key pdq) = some (.code [key 0, key 1, key 2, key 3] (pdqB ins rest) [])) {a : AV} {n : Nat} {k : Int} {H : Heap} {R : AV → Heap → Prop} (hn : n ≤ 12)
    (h : WpC tbl (.func ins [] []) [a, I64 0, I64 n] H fun _ H' => R .undef (H'.back H.ro)) : WpC tbl (.func pdq [] []) [a, I64 0, I64 n, I64 k] H R := by
  refine WpC.go hf rfl ?_
  unfold pdqB
  have e0 : binF .sub (I64 n) (I64 0) = some (I64 n) := by have := bin_sub (a := n) (b := 0) (by unfold in64; omega); rwa [show (n : Int) - 0 = n by omega] at this
  have e1 : decide ((n : Int) ≤ 12) = true := by simp; omega
  simp
  refine Wp.round (CQ.wp ?_)
  simp [e0]
  rw [if_pos (by omega)]
  exact h.mono fun v H' hR => hR

/-- THE LIBRARY's SORT of at most twelve numbers -/
theorem sort_run {nan less ins len pdq sort : Nat} {rest : AC} (hn : tbl.get (key nan) = some (.code [key 0] nanB [.t (key 2)])) (hl : tbl.get (key less) = some (.code [key 0, key 1] (lessB nan) [.t (key 4)]))
    (hi : tbl.get (key ins) = some (.code [key 0, key 1, key 2] (insB less) [])) (hp : tbl.get (key pdq) = some (.code [key 0, key 1, key 2, key 3] (pdqB ins rest) []))
    (hs : tbl.get (key sort) = some (.code [key 0] (sortB len pdq) [])) (hlen : ∀ (n : Nat) (H : Heap), n ≤ 12 → WpC tbl (.func len [] []) [.int .u64 n] H fun v H' => (∃ k, v = I64 k) ∧ H' = H)
    (b n ext : Nat) (opn : Bool) (g : Nat) (xs : List Int) (tl : List AV) (H : Heap) (hx : xs.length = n) (hn' : n ≤ 12)
    (hH : H.get b = some (.cells (rowZ xs tl) true g)) (hr : H.ro ≤ b) :
    WpC tbl (.func sort [] []) [.slice b 0 n ext opn] H fun v H' => v = .undef ∧ ∃ zs : List Int, zs.Perm xs ∧ zs.Pairwise (· ≤ ·) ∧ H' = H.set b (.cells (rowZ zs tl) true g) := by
  refine WpC.go hs rfl ?_
  unfold sortB
  have e0 : IntKind.u64.wrap (n : Int) = n := by
    have h1 := wrap_low .u64 n (by show n < 18446744073709551616; omega)
    exact h1
  simp [e0]
  refine (hlen n _ hn').mono fun v K h => ?_
  obtain ⟨⟨k, rfl⟩, rfl⟩ := h
  simp
  refine pdq_run hp hn' ?_
  refine (ins_run nan less ins hn hl hi b n ext opn g xs tl _ hx (by omega) hH hr).mono fun v K h => ?_
  obtain ⟨_, zs, h1, h2, rfl⟩ := h
  exact ⟨zs, h1, h2, by simp⟩

theorem ins_nil (less ins : Nat) (hf : tbl.get (key ins) = some (.code [key 0, key 1, key 2] (insB less) [])) (H : Heap) :
    WpC tbl (.func ins [] []) [.nilslice, I64 0, I64 0] H fun v H' => v = .undef ∧ H' = H := by
  refine WpC.go hf rfl ?_
  unfold insB
  have e0 : binF .add (I64 0) (I64 1) = some (I64 (0 + 1)) := bin_add (by unfold in64; omega)
  simp [e0]
  refine Wp.round (CQ.wp ?_)
  simp
/-- .. and of none -/
theorem sort_nil {less ins len pdq sort : Nat} {rest : AC}
    (hi : tbl.get (key ins) = some (.code [key 0, key 1, key 2] (insB less) [])) (hp : tbl.get (key pdq) = some (.code [key 0, key 1, key 2, key 3] (pdqB ins rest) []))
    (hs : tbl.get (key sort) = some (.code [key 0] (sortB len pdq) [])) (hlen : ∀ (n : Nat) (H : Heap), n ≤ 12 → WpC tbl (.func len [] []) [.int .u64 n] H fun v H' => (∃ k, v = I64 k) ∧ H' = H) (H : Heap) :
    WpC tbl (.func sort [] []) [.nilslice] H fun v H' => v = .undef ∧ H' = H := by
  refine WpC.go hs rfl ?_
  unfold sortB
  have e0 : IntKind.u64.wrap 0 = 0 := rfl
  simp [e0]
  refine (hlen 0 _ (Nat.zero_le _)).mono fun v K h => ?_
  obtain ⟨⟨k, rfl⟩, rfl⟩ := h
  simp
  refine pdq_run (n := 0) hp (Nat.zero_le _) ?_
  refine (ins_nil less ins hi _).mono fun v K h => ?_
  obtain ⟨_, rfl⟩ := h
  simp
end
end Go.Ai
