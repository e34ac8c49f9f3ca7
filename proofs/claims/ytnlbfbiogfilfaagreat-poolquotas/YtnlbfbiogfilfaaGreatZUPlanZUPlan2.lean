/- What the functions of 'plan' and 'cost' compute. -/
import Derived.Test.YtnlbfbiogfilfaaGreatPaQText
import Derived.Test.YtnlbfbiogfilfaaGreatAiShCfg
set_option linter.all false
namespace Go.Proofs.YtnlbfbiogfilfaaGreat.Sh
open Go.Ai
@[simp] theorem yc (n : Nat) (a b c : Int) (h : Heap) (k : Bool → Heap → CRes) : fU n a b c h k = k (db a b c) h := by
  unfold fU Ry Ru Lz LN
  by_cases hc : a < b
  · simp [db, hc, show ¬ b ≤ a by omega]
  · simp [db, hc, show b ≤ a by omega, ← Int.not_lt]
@[simp] theorem u_plan_power (n : Nat) (a b : Int) (h : Heap) (k : Bool → Heap → CRes) : Aq n a b h k = k (adJ a b) h := by
  unfold Aq Vr Vp OD OG
  cases hc : db a 1 b <;> simp [hc, adJ]
theorem OZ (n : Nat) {h : Heap} {z : CfgZ} {c : List AV} (hc : Cfg h z c) : Run1 (gn n (.agg c) h) fun r h' => r = pV z ∧ Grow h h' := by
  unfold gn OX Pi II IY IH HZ HQ HE HC H9 H6 IU HF IP Ii IK
  obtain ⟨t, p, rfl, ht, hps, S, hp, hS⟩ := hc
  refine Run1.bind (xT ..) ?_
  rintro x h1 ⟨hb, g⟩
  simp [bU hb, zI]
  refine RunG.ifB (fun e1 => ?_) fun e1 => kZ ⟨by simp [pV, e1], g⟩
  have hnz : z.colours ≠ 0 := by
    simp [adJ, db] at e1; omega
  refine RunG.ifB (fun e2 => ?_) fun e2 => kZ ⟨by simp [pV, e1, e2], g⟩
  simp only [anv hnz]
  refine RunG.ifB (fun e3 => ?_) fun e3 => kZ ⟨by simp [pV, e1, e2, e3], g⟩
  refine RunG.ifB (fun e4 => ?_) fun e4 => kZ ⟨by simp [pV, e1, e2, e3, e4], g⟩
  refine RunG.ifB (fun e5 => ?_) fun e5 => kZ ⟨by simp [pV, e1, e2, e3, e4, e5], g⟩
  refine RunG.ifB (fun e6 => ?_) fun e6 => kZ ⟨by simp [pV, e1, e2, e3, e4, e5, e6], g⟩
  refine RunG.ifB (fun e7 => ?_) fun e7 => kZ ⟨by simp [pV, e1, e2, e3, e4, e5, e6, e7], g⟩
  simp only [SlAt.len hp]
  exact kZ ⟨by simp [pV, e1, e2, e3, e4, e5, e6, e7], g⟩
theorem ahP (n : Nat) {h : Heap} {z : CfgZ} {c : List AV} (hc : Cfg h z c) (hz : z.colours ≠ 0) : Run1 (rq n (.agg c) h) fun r h' => r = akE z ∧ Grow h h' := by
  unfold rq aab Zi
  obtain ⟨t, p, rfl, ht, hps, S, hp, hS⟩ := hc
  refine Run1.bind (xT ..) ?_
  rintro x h1 ⟨hb, g⟩
  simp [bU hb, zI]
  simp only [aoB hz]
  exact kZ ⟨rfl, g⟩
theorem ald {n : Nat} {h : Heap} {v : AV} {l : List Int} (hv : Ints h .u64 v l) : ∀ (m i : Nat), i ≤ l.length → l.length - i < m →
    Run1 (fun k => E6 n k m v l.length i h) fun r h' => r = (if (l.drop i).all (uZ 1) then 0 else 100) ∧ h' = h := by
  intro m
  induction m with
  | zero => omega
  | succ m ih =>
    intro i hi hm
    show RunG ap1 (fun k => Fc n k (Fv n k) (Fk n k (E6 n k m)) v l.length i h) _
    unfold Fc Fv Pw Fk Oj
    refine RunG.ifB (fun e => ?_) fun e => ?_
    · simp at e
      have hs := hv.small
      rw [List.drop_eq_getElem_cons e, List.all_cons]
      simp only [aQ, aY, ba, bc, ca, b7, b9, ce, bH, ci, cb, cd, cy, cB, bG, bu, bX, b8, bK, aU, be, aN, bA, bz, aO, aK, aS, cg, cI, bM, aR, aV, cm, cn, bN, bO, bL, bP, bC, bB, bQ, List.getElem?_cons_zero, List.getElem?_cons_succ, Nat.zero_add, Nat.reduceAdd, Nat.add_zero, hv.elN e, s9 e, iT (show i ≤ 9223372036854775806 by omega)]
      refine RunG.ifB (fun e1 => ?_) fun e1 => RunG.ifB (fun e2 => ?_) fun e2 => ?_
      · simp at e1
        exact kZ ⟨by simp [uZ]; omega, rfl⟩
      · simp at e2
        exact kZ ⟨by simp [uZ]; omega, rfl⟩
      · simp at e1 e2
        refine RunG.mono (ih (i + 1) (by omega) (by omega)) ?_
        rintro ⟨r, h'⟩ ⟨h1, h2⟩
        exact ⟨by rw [h1]; simp [uZ, e1, e2], h2⟩
    · simp at e
      have : i = l.length := by omega
      subst this
      exact kZ ⟨by simp, rfl⟩
def rise (last : Int) : List Int → Bool
  | [] => true
  | x :: l => uZ last x && rise x l
theorem ajZ {n : Nat} {h : Heap} {v w : AV} {l : List Int} (hv : Ints h .u64 v l) {q : Int} (h3 : Run1 (fun k => zG n k w h) fun r h' => r = q ∧ Grow h h') : ∀ (m i : Nat) (last : Int), i ≤ l.length → l.length - i < m →
    Run1 (fun k => F1 n k m w last v l.length i h) fun r h' => r = (if rise last (l.drop i) then q else 100) ∧ Grow h h' := by
  intro m
  induction m with
  | zero => omega
  | succ m ih =>
    intro i last hi hm
    show RunG ap1 (fun k => Fh n k (zG n k) (Fi n k (F1 n k m)) w last v l.length i h) _
    unfold Fh Fi OJ
    refine RunG.ifB (fun e => ?_) fun e => ?_
    · simp at e
      have hs := hv.small
      rw [List.drop_eq_getElem_cons e, rise]
      simp only [aQ, aY, ba, bc, ca, b7, b9, ce, bH, ci, cb, cd, cy, cB, bG, bu, bX, b8, bK, aU, be, aN, bA, bz, aO, aK, aS, cg, cI, bM, aR, aV, cm, cn, bN, bO, bL, bP, bC, bB, bQ, List.getElem?_cons_zero, List.getElem?_cons_succ, Nat.zero_add, Nat.reduceAdd, Nat.add_zero, hv.elN e, s9 e, iT (show i ≤ 9223372036854775806 by omega)]
      refine RunG.ifB (fun e1 => ?_) fun e1 => RunG.ifB (fun e2 => ?_) fun e2 => ?_
      · simp at e1
        exact kZ ⟨by simp [uZ]; omega, .refl⟩
      · simp at e2
        exact kZ ⟨by simp [uZ]; omega, .refl⟩
      · simp at e1 e2
        refine RunG.mono (ih (i + 1) l[i] (by omega) (by omega)) ?_
        rintro ⟨r, h'⟩ ⟨h1, h2⟩
        exact ⟨by rw [h1]; simp [uZ, e1, e2], h2⟩
    · simp at e
      have : i = l.length := by omega
      subst this
      refine RunG.mono h3 ?_
      rintro ⟨r, h'⟩ ⟨h1, h2⟩
      exact ⟨by simpa [rise] using h1, h2⟩
theorem ND {n : Nat} (hn : 4 ≤ n) (h : Heap) (z : CfgZ) : Run1 (gE n (.agg (Ca z)) h) fun r h' => r = afP z ∧ Grow h h' := by
  unfold gE Ve UR
  refine Run1.bind (xT ..) ?_
  rintro x h1 ⟨hb, g⟩
  simp only [aQ, aY, ba, bc, ca, b7, b9, ce, bH, ci, cb, cd, cy, cB, bG, bu, bX, b8, bK, aU, be, aN, bA, bz, aO, aK, aS, cg, cI, bM, aR, aV, cm, cn, bN, bO, bL, bP, bC, bB, bQ, List.getElem?_cons_zero, List.getElem?_cons_succ, Nat.zero_add, Nat.reduceAdd, Nat.add_zero, bU hb, Ca]
  refine Run1.bind (aib (q := .u64) [z.l1, z.llc, z.miss] (fun k => by rfl) (by simp)) ?_
  rintro v h2 ⟨hv, g2⟩
  simp only [hv.len]
  have hb2 := g2.cl hb
  refine RunG.mono (ajZ (q := if uZ 1 z.fault && (uZ 1 z.step && uZ 1 z.disk) then 0 else 100) hv ?_ n 0 1 (by simp) (by simp; omega)) ?_
  · unfold zG OH
    simp only [aQ, aY, ba, bc, ca, b7, b9, ce, bH, ci, cb, cd, cy, cB, bG, bu, bX, b8, bK, aU, be, aN, bA, bz, aO, aK, aS, cg, cI, bM, aR, aV, cm, cn, bN, bO, bL, bP, bC, bB, bQ, List.getElem?_cons_zero, List.getElem?_cons_succ, Nat.zero_add, Nat.reduceAdd, Nat.add_zero, bU hb2, Ca]
    refine Run1.bind (aib (q := .u64) [z.fault, z.step, z.disk] (fun k => by rfl) (by simp)) ?_
    rintro v3 h3 ⟨hv3, g3⟩
    simp only [hv3.len]
    refine RunG.mono (ald hv3 n 0 (by simp) (by simp; omega)) ?_
    rintro ⟨r, h'⟩ ⟨e1, e2⟩
    exact ⟨by rw [e1]; simp, by rw [e2]; exact g3⟩
  · rintro ⟨r, h'⟩ ⟨e1, e2⟩
    refine ⟨?_, g.trans (g2.trans e2)⟩
    rw [e1]
    simp only [List.drop_zero, rise, afP, arA, Bool.and_true]
    rcases Bool.eq_false_or_eq_true (uZ 1 z.l1) with a | a <;> rcases Bool.eq_false_or_eq_true (uZ z.l1 z.llc) with b | b <;> rcases Bool.eq_false_or_eq_true (uZ z.llc z.miss) with c | c <;> simp [a, b, c]
theorem asI {n : Nat} {h : Heap} {v : AV} {l : List Int} {x : Int} (hv : Ints h .i64 v l) : ∀ (m i : Nat), i ≤ l.length → l.length - i < m → (∀ j, j < i → nz l j ≠ x) →
    Run1 (fun k => nc n k m v x l.length i h) fun r h' => h' = h ∧ ((r = -1 ∧ x ∉ l) ∨ ∃ j : Nat, r = j ∧ j < l.length ∧ nz l j = x) := by
  intro m
  induction m with
  | zero => omega
  | succ m ih =>
    intro i hi hm hj
    show RunG ap1 (fun k => nf n k (nb n k) (nc n k m) v x l.length i h) _
    unfold nf nb rh
    refine RunG.ifB (fun e => ?_) fun e => ?_
    · simp at e
      have hs := hv.small
      simp only [aQ, aY, ba, bc, ca, b7, b9, ce, bH, ci, cb, cd, cy, cB, bG, bu, bX, b8, bK, aU, be, aN, bA, bz, aO, aK, aS, cg, cI, bM, aR, aV, cm, cn, bN, bO, bL, bP, bC, bB, bQ, List.getElem?_cons_zero, List.getElem?_cons_succ, Nat.zero_add, Nat.reduceAdd, Nat.add_zero, hv.elN e, iT (show i ≤ 9223372036854775806 by omega)]
      refine RunG.ifB (fun e1 => ?_) fun e1 => ?_
      · simp at e1
        exact kZ ⟨rfl, .inr ⟨i, rfl, e, e1.symm⟩⟩
      · simp at e1
        refine ih (i + 1) (by omega) (by omega) fun j hj' => ?_
        by_cases e2 : j = i
        · subst e2; exact fun e => e1 e.symm
        · exact hj j (by omega)
    · simp at e
      refine kZ ⟨rfl, .inl ⟨rfl, fun hx => ?_⟩⟩
      obtain ⟨j, h1, h2⟩ := List.getElem_of_mem hx
      exact hj j (by omega) (by rw [s9 h1]; exact h2)
theorem v_Index {n : Nat} {h : Heap} {v : AV} {l : List Int} (hv : Ints h .i64 v l) (hn : l.length < n) (x : Int) :
    Run1 (jX n v x h) fun r h' => h' = h ∧ ((r = -1 ∧ x ∉ l) ∨ ∃ j : Nat, r = j ∧ j < l.length ∧ nz l j = x) := by
  unfold jX ta s7
  simp only [hv.len]
  exact asI hv n 0 (by omega) (by omega) fun j hj => by omega
theorem aqN {n : Nat} {h : Heap} {v : AV} {l : List Int} (hv : Ints h .i64 v l) (hn : l.length < n) (x : Int) : Run1 (c9 n v x h) fun r h' => r = decide (x ∈ l) ∧ h' = h := by
  unfold c9 qF qy
  refine Run1.bind (v_Index hv hn x) ?_
  rintro r _ ⟨rfl, ⟨rfl, hx⟩ | ⟨j, rfl, hj, hx⟩⟩
  · exact kZ ⟨by simp [hx], rfl⟩
  · refine kZ ⟨?_, rfl⟩
    have : x ∈ l := by rw [← hx, s9 hj]; exact List.getElem_mem hj
    simp [this]
theorem afd {α : Type} [Inhabited α] {l : List α} {i : Nat} (h : i < l.length) : l.getD i default = l[i] := by rw [List.getD_eq_getElem?_getD, List.getElem?_eq_getElem h]; rfl
theorem apl {R : Type} {ap : iW → R → CRes} {Q : R → Prop} {n : Nat} {w v2 v5 v16 : AV} {v1 v17 : Int} {ps : List PartZ} {S : Nat → AV} {x i : Int} {J : iW → Int → AV → AV → AV → Int → Int → Heap → CRes} :
    ∀ (m j : Nat) (h : Heap), h.ro ≤ h.nx → SlAt h w 8 ps.length (fun i => yW (ps.getD i default) (S i)) → (∀ i, i < ps.length → Ints h .i64 (S i) (ps.getD i default).cols) → (∀ i, i < ps.length → (ps.getD i default).cols.length < n) →
    j ≤ ps.length → ps.length - j < m →
    ((ps.drop j).all (fun q => !decide (x ∈ q.cols)) = true → ∀ h', Grow h h' → RunG ap (fun k => J k v1 v2 v5 v16 v17 (IntKind.i64.wrap (i + 1)) h') Q) →
    ((ps.drop j).all (fun q => !decide (x ∈ q.cols)) = false → ∀ h', Grow h h' → RunG ap (fun k => k false h') Q) →
    RunG ap (fun k => vD n (c9 n) k (J k) m v1 v2 v5 x v16 v17 i w ps.length j h) Q := by
  intro m
  induction m with
  | zero => omega
  | succ m ih =>
    intro j h hro hw hS hn hj hm hgo hno
    show RunG ap (fun k => As n (c9 n) k (Ah n (c9 n) k (J k)) (vD n (c9 n) k (J k) m) v1 v2 v5 x v16 v17 i w ps.length j h) Q
    unfold As Ah Jm
    refine RunG.ifB (fun e => ?_) fun e => ?_
    · simp at e
      have hs := hw.1
      simp only [aQ, aY, ba, bc, ca, b7, b9, ce, bH, ci, cb, cd, cy, cB, bG, bu, bX, b8, bK, aU, be, aN, bA, bz, aO, aK, aS, cg, cI, bM, aR, aV, cm, cn, bN, bO, bL, bP, bC, bB, bQ, List.getElem?_cons_zero, List.getElem?_cons_succ, Nat.zero_add, Nat.reduceAdd, Nat.add_zero, hw.eld (i := (j : Int)) (by omega) (by omega), Int.toNat_natCast, iT (show j ≤ 9223372036854775806 by omega)]
      refine Run1.bind (ajA (n := 8) hro (by rfl) (by rfl)) ?_
      rintro y h1 ⟨hy, ho, g⟩
      simp only [aQ, aY, ba, bc, ca, b7, b9, ce, bH, ci, cb, cd, cy, cB, bG, bu, bX, b8, bK, aU, be, aN, bA, bz, aO, aK, aS, cg, cI, bM, aR, aV, cm, cn, bN, bO, bL, bP, bC, bB, bQ, List.getElem?_cons_zero, List.getElem?_cons_succ, Nat.zero_add, Nat.reduceAdd, Nat.add_zero, bU ho.cl, yW]
      refine Run1.bind (aqN ((hS j e).grow g) (hn j e) x) ?_
      rintro r _ ⟨rfl, rfl⟩
      rw [List.drop_eq_getElem_cons e, List.all_cons] at hgo hno
      rw [afd e]
      refine RunG.ifB (fun e1 => ?_) fun e1 => ?_
      · simp at e1
        exact hno (by simp [e1]) _ g
      · simp only [decide_eq_false_iff_not] at e1
        simp only [e1, decide_false, Bool.not_false, Bool.true_and] at hgo hno
        exact ih (j + 1) _ (g.le hro) (hw.grow g) (fun i hi => (hS i hi).grow g) hn (by omega) (by omega) (fun ha h' g' => hgo ha h' (g.trans g')) (fun ha h' g' => hno ha h' (g.trans g'))
    · simp at e
      have : j = ps.length := by omega
      subst this
      simp only [aQ, aY, ba, bc, ca, b7, b9, ce, bH, ci, cb, cd, cy, cB, bG, bu, bX, b8, bK, aU, be, aN, bA, bz, aO, aK, aS, cg, cI, bM, aR, aV, cm, cn, bN, bO, bL, bP, bC, bB, bQ, List.getElem?_cons_zero, List.getElem?_cons_succ, Nat.zero_add, Nat.reduceAdd, Nat.add_zero]
      exact hgo (by simp) h .refl
def P0 (l : List Int) (i : Nat) : Option Int := if i = 0 then none else some (nz l (i - 1))
structure Fits (n : Nat) (z : CfgZ) : Prop where
  small : 100 < n
  turns : z.turns.length < n
  parts : z.parts.length < n
  cols : ∀ i, i < z.parts.length → (z.parts.getD i default).cols.length < n
theorem abv {ps : List PartZ} {p i : Nat} (hi : i < (ps.take p).length) : (ps.take p).getD i default = ps.getD i default := by
  simp at hi
  rw [afd (by simp; omega), afd (by omega), List.getElem_take]
theorem apc {n : Nat} {z : CfgZ} (hn : Fits n z) {t pp v : AV} {S : Nat → AV} {x p : Nat} (hp : p ≤ z.parts.length) (hsh : pp.shut = true) (l : List Int) : ∀ (m i : Nat) (h : Heap), h.ro ≤ h.nx → h.cl x (zI z t pp) →
    SlAt h pp 8 z.parts.length (fun i => yW (z.parts.getD i default) (S i)) → (∀ i, i < z.parts.length → Ints h .i64 (S i) (z.parts.getD i default).cols) → Ints h .i64 v l →
    i ≤ l.length → l.length - i < m →
    Run1 (fun k => rE n (c9 n) k m p (.ptr x 0) v v l.length i h) fun r h' => r = (B6 z (z.parts.take p) (P0 l i) (l.drop i) && decide (0 < l.length)) ∧ Grow h h' := by
  intro m
  induction m with
  | zero => omega
  | succ m ih =>
    intro i h hro hb hw hS hv hi hm
    show RunG ap1 (fun k => AK n (c9 n) k (AE n (c9 n) k) (z6 n (c9 n) k (rE n (c9 n) k m)) p (.ptr x 0) v v l.length i h) _
    unfold AK AE IX z6 Ji H4 HW
    have hs := hv.small
    refine RunG.ifB (fun e => ?_) fun e => ?_
    · simp at e
      obtain ⟨w, hw', hsl⟩ := hw.take (v := pp) hsh (i := (p : Int)) (by omega) (by omega)
      rw [Int.toNat_natCast] at hw'
      have hlen : (z.parts.take p).length = p := by simp; omega
      have fin : (∀ y, P0 l i = some y → y < l[i]) → 0 ≤ l[i] → l[i] < z.colours →
          RunG ap1 (fun k => vD n (c9 n) k (rE n (c9 n) k m) n p (.ptr x 0) v l[i] v l.length i w p ((0 : Nat) : Int) h)
            (fun r => r.1 = (B6 z (z.parts.take p) (P0 l i) (l.drop i) && decide (0 < l.length)) ∧ Grow h r.2) := by
        intro h1 h2 h3
        have c1 : ad7 (P0 l i) l[i] = true := by
          unfold ad7
          cases hq : P0 l i with
          | none => rfl
          | some y => simpa using h1 y hq
        have key := apl (ap := ap1) (n := n) (w := w) (v2 := .ptr x 0) (v5 := v) (v16 := v) (v1 := p) (v17 := l.length) (ps := z.parts.take p) (S := S) (x := l[i]) (i := i) (J := fun k => rE n (c9 n) k m)
          (Q := fun r => r.1 = (B6 z (z.parts.take p) (P0 l i) (l.drop i) && decide (0 < l.length)) ∧ Grow h r.2) n 0 h hro
          (by
            rw [hlen]
            obtain ⟨q1, q2⟩ := hw'
            refine ⟨q1, ?_⟩
            rcases q2 with q2 | ⟨b, off, ext, opn, q2, q3⟩
            · exact .inl q2
            · refine .inr ⟨b, off, ext, opn, q2, fun h0 => ?_⟩
              obtain ⟨cl, q3, q4⟩ := q3 h0
              exact ⟨cl, q3, fun j hj => by have := q4 j hj; dsimp only at this ⊢; rw [abv (by omega)]; exact this⟩)
          (fun j hj => by rw [abv hj]; exact hS j (by rw [hlen] at hj; omega)) (fun j hj => by rw [abv hj]; exact hn.cols j (by rw [hlen] at hj; omega)) (by omega) (by rw [hlen]; have := hn.parts; omega)
          (fun ha h' g => by
            rw [iT (show i ≤ 9223372036854775806 by omega)]
            refine RunG.mono (ih (i + 1) h' (g.le hro) (g.cl hb) (hw.grow g) (fun i hi => (hS i hi).grow g) (hv.grow g) (by omega) (by omega)) ?_
            rintro ⟨r, h''⟩ ⟨e1, e2⟩
            refine ⟨?_, g.trans e2⟩
            rw [List.drop_eq_getElem_cons e, JA, c1]
            have : P0 l (i + 1) = some l[i] := by unfold P0; rw [if_neg (by omega)]; simp [s9 e]
            rw [this] at e1
            rw [List.drop_zero] at ha
            rw [ha]
            simpa [h2, h3] using e1)
          (fun ha h' g => by
            refine kZ ⟨?_, g⟩
            rw [List.drop_eq_getElem_cons e, JA]
            rw [List.drop_zero] at ha
            rw [ha]
            simp)
        rw [hlen] at key
        exact key
      simp only [aQ, aY, ba, bc, ca, b7, b9, ce, bH, ci, cb, cd, cy, cB, bG, bu, bX, b8, bK, aU, be, aN, bA, bz, aO, aK, aS, cg, cI, bM, aR, aV, cm, cn, bN, bO, bL, bP, bC, bB, bQ, List.getElem?_cons_zero, List.getElem?_cons_succ, Nat.zero_add, Nat.reduceAdd, Nat.add_zero, bU hb, zI, hv.elN e, s9 e, hsl, SlAt.len hw']
      have no : (decide (0 ≤ l[i]) = false ∨ decide (l[i] < z.colours) = false ∨ ad7 (P0 l i) l[i] = false) → (false = (B6 z (z.parts.take p) (P0 l i) (l.drop i) && decide (0 < l.length)) ∧ Grow h h) := by
        intro h0
        refine ⟨?_, .refl⟩
        rw [List.drop_eq_getElem_cons e, JA]
        rcases h0 with h0 | h0 | h0 <;> rw [h0] <;> simp
      refine RunG.ifB (fun e1 => ?_) fun e1 => RunG.ifB (fun e2 => ?_) fun e2 => RunG.ifB (fun e3 => ?_) fun e3 => ?_
      · exact kZ (no (.inl (by simp at e1 ⊢; omega)))
      · exact kZ (no (.inr (.inl (by simpa using e2))))
      · simp at e1 e2 e3
        have hw1 : IntKind.i64.wrap ((i : Int) - 1) = ((i - 1 : Nat) : Int) := by rw [lJ (by omega) (by omega)]; omega
        have pv : P0 l i = some (nz l (i - 1)) := by unfold P0; rw [if_neg (by omega)]
        simp only [hw1, hv.elN (show i - 1 < l.length by omega)]
        refine RunG.ifB (fun e4 => ?_) fun e4 => ?_
        · exact kZ (no (.inr (.inr (by rw [pv]; simpa [ad7] using e4))))
        · simp at e4
          exact fin (fun y hy => by rw [pv] at hy; cases hy; exact e4) e1 e2
      · simp at e1 e2 e3
        have i0 : i = 0 := by omega
        exact fin (fun y hy => by unfold P0 at hy; rw [if_pos i0] at hy; cases hy) e1 e2
    · simp at e
      have : i = l.length := by omega
      subst this
      simp only [hv.len]
      simp only [aQ, aY, ba, bc, ca, b7, b9, ce, bH, ci, cb, cd, cy, cB, bG, bu, bX, b8, bK, aU, be, aN, bA, bz, aO, aK, aS, cg, cI, bM, aR, aV, cm, cn, bN, bO, bL, bP, bC, bB, bQ, List.getElem?_cons_zero, List.getElem?_cons_succ, Nat.zero_add, Nat.reduceAdd, Nat.add_zero]
      exact kZ ⟨by simp [B6], .refl⟩
theorem asl {n : Nat} {z : CfgZ} (hn : Fits n z) {h : Heap} (hro : h.ro ≤ h.nx) {c : List AV} (hc : Cfg h z c) {p : Nat} (hp : p < z.parts.length) : Run1 (vV n (.agg c) p h) fun r h' => r = aeq z p ∧ Grow h h' := by
  unfold vV Pc Ot
  obtain ⟨t, pp, rfl, ht, hps, S, hpt, hS⟩ := hc
  refine Run1.bind (xT ..) ?_
  rintro x h1 ⟨hb, g⟩
  obtain ⟨b, off, l, e1, e2, e3, e4⟩ := (hpt.grow g).at_ (i := (p : Int)) (by omega) (by omega)
  rw [Int.toNat_natCast] at e4
  have e5 : l[off]? = some (S p) := by
    have := congrArg (·[0]?) e4
    simpa [yW] using this
  simp only [aQ, aY, ba, bc, ca, b7, b9, ce, bH, ci, cb, cd, cy, cB, bG, bu, bX, b8, bK, aU, be, aN, bA, bz, aO, aK, aS, cg, cI, bM, aR, aV, cm, cn, bN, bO, bL, bP, bC, bB, bQ, List.getElem?_cons_zero, List.getElem?_cons_succ, Nat.zero_add, Nat.reduceAdd, Nat.add_zero, bU hb, zI, SlAt.ia (hpt.grow g) (show (0 : Int) ≤ (p : Int) by omega) (show (p : Int) < _ by omega), e1, bU e2, e5, ((hS p hp).grow g).len]
  refine RunG.mono (apc hn (p := p) (by omega) hps _ n 0 h1 (g.le hro) hb (hpt.grow g) (fun i hi => (hS i hi).grow g) ((hS p hp).grow g) (by omega) (by have := hn.cols p hp; omega)) ?_
  rintro ⟨r, h'⟩ ⟨q1, q2⟩
  exact ⟨by rw [q1]; simp [aeq, c0, P0], g.trans q2⟩
end Go.Proofs.YtnlbfbiogfilfaaGreat.Sh
/- What a partition's quotas are, by the code. -/
namespace Go.Proofs.YtnlbfbiogfilfaaGreat.Sh
open Go.Ai
theorem Cfg.mk' {h : Heap} {z : CfgZ} {t p : AV} (ht : Ints h .i64 t z.turns) (hp : Parts h p z.parts) : Cfg h z (zI z t p) := ⟨t, p, rfl, ht, hp⟩
theorem Parts.shut {h : Heap} {v : AV} {ps : List PartZ} (p : Parts h v ps) : Parts (h.shut true) v ps := p
theorem Cfg.shut {h : Heap} {z : CfgZ} {c : List AV} (p : Cfg h z c) : Cfg (h.shut true) z c := p
theorem arx {n : Nat} {z : CfgZ} (hz : z.colours ≠ 0) {h : Heap} {c : List AV} (hc : Cfg h z c) {p : Nat} (hp : p < z.parts.length) : Run1 (pe n (.agg c) p h) fun r h' => r = s8 z p ∧ Grow h h' := by
  unfold pe Vz U9
  obtain ⟨t, pp, rfl, ht, hps, S, hpt, hS⟩ := hc
  refine Run1.bind (xT ..) ?_
  rintro x h1 ⟨hb, g⟩
  obtain ⟨b, off, l, e1, e2, e3, e4⟩ := (hpt.grow g).at_ (i := (p : Int)) (by omega) (by omega)
  rw [Int.toNat_natCast] at e4
  have e5 : l[off]? = some (S p) := by
    have := congrArg (·[0]?) e4
    simpa [yW] using this
  simp only [aQ, aY, ba, bc, ca, b7, b9, ce, bH, ci, cb, cd, cy, cB, bG, bu, bX, b8, bK, aU, be, aN, bA, bz, aO, aK, aS, cg, cI, bM, aR, aV, cm, cn, bN, bO, bL, bP, bC, bB, bQ, List.getElem?_cons_zero, List.getElem?_cons_succ, Nat.zero_add, Nat.reduceAdd, Nat.add_zero, bU hb, im, ij, io, ii, il, iu, ip, ir, iq, ik, fg, eW, eZ, fy, fk, fe, fd, fu, fq, eR, eS, eV, eT, eU, fb, d9, du, dh, ft, fh, fj, fx, fA, eY, d7, d8, ea, ed, dg, SlAt.ia (hpt.grow g) (show (0 : Int) ≤ (p : Int) by omega) (show (p : Int) < _ by omega), e1, bU e2, e5, ((hS p hp).grow g).len]
  refine Run1.bind (ahP n (h := h1.shut true) (z := z) (Cfg.shut (Cfg.mk' (ht.grow g) ⟨hps, S, hpt.grow g, fun i hi => (hS i hi).grow g⟩)) hz) ?_
  rintro _ h2 ⟨rfl, g2⟩
  exact kZ ⟨rfl, g.trans g2.shut⟩
theorem aro {R : Type} {ap : iG → R → CRes} {Q : R → Prop} {n : Nat} {w v2 v5 : AV} {v1 : Int} {ps : List PartZ} {S : Nat → AV} {f1 f2 f3 f4} :
    ∀ (m j : Nat) (a : Int) (h : Heap), h.ro ≤ h.nx → SlAt h w 8 ps.length (fun i => yW (ps.getD i default) (S i)) →
    j ≤ ps.length → ps.length - j < m →
    (∀ h', Grow h h' → RunG ap (fun k => xJ n f1 f2 f3 f4 k v1 v2 v5 (anR (ps.drop j) a) h') Q) → f4 = fU n →
    RunG ap (fun k => xD n f1 f2 f3 f4 k m v1 v2 v5 a w ps.length j h) Q := by
  intro m
  induction m with
  | zero => omega
  | succ m ih =>
    intro j a h hro hw hj hm hgo hf
    simp only [ajb]
    unfold CT C2 LA
    refine RunG.ifB (fun e => ?_) fun e => ?_
    · simp at e
      have hs := hw.1
      subst hf
      simp only [aQ, aY, ba, bc, ca, b7, b9, ce, bH, ci, cb, cd, cy, cB, bG, bu, bX, b8, bK, aU, be, aN, bA, bz, aO, aK, aS, cg, cI, bM, aR, aV, cm, cn, bN, bO, bL, bP, bC, bB, bQ, List.getElem?_cons_zero, List.getElem?_cons_succ, Nat.zero_add, Nat.reduceAdd, Nat.add_zero, hw.eld (i := (j : Int)) (by omega) (by omega), Int.toNat_natCast, iT (show j ≤ 9223372036854775806 by omega)]
      refine Run1.bind (ajA (n := 8) hro (by rfl) (by rfl)) ?_
      rintro y h1 ⟨hy, ho, g⟩
      simp only [aQ, aY, ba, bc, ca, b7, b9, ce, bH, ci, cb, cd, cy, cB, bG, bu, bX, b8, bK, aU, be, aN, bA, bz, aO, aK, aS, cg, cI, bM, aR, aV, cm, cn, bN, bO, bL, bP, bC, bB, bQ, List.getElem?_cons_zero, List.getElem?_cons_succ, Nat.zero_add, Nat.reduceAdd, Nat.add_zero, bU ho.cl, im, ij, io, ii, il, iu, ip, ir, iq, ik, fg, eW, eZ, fy, fk, fe, fd, fu, fq, eR, eS, eV, eT, eU, fb, d9, du, dh, ft, fh, fj, fx, fA, eY, d7, d8, ea, ed, dg, yc]
      rw [List.drop_eq_getElem_cons e, anR, List.foldl_cons] at hgo
      rw [afd e]
      refine RunG.ifB (fun e1 => ?_) fun e1 => ?_
      · rw [if_pos e1] at hgo
        exact ih (j + 1) _ _ (g.le hro) (hw.grow g) (by omega) (by omega) (fun h' g' => hgo h' (g.trans g')) rfl
      · rw [if_neg (by simp [e1])] at hgo
        exact ih (j + 1) _ _ (g.le hro) (hw.grow g) (by omega) (by omega) (fun h' g' => hgo h' (g.trans g')) rfl
    · simp at e
      have : j = ps.length := by omega
      subst this
      have := hgo h .refl
      rw [List.drop_length] at this
      exact this
@[simp] theorem idxAK_0 (a b c : AV) (k : AV → CRes) : Xc 1 3 false (.agg [a, b, c]) 0 k = k a := by
  show mN (Nat.mul 0 1) (fun o => oC (sub [a, b, c] o 1) fun l => oC (MT false l) k) = _
  simp [pM, MT]
@[simp] theorem idxAK_1 (a b c : AV) (k : AV → CRes) : Xc 1 3 false (.agg [a, b, c]) 1 k = k b := by
  show mN (Nat.mul 1 1) (fun o => oC (sub [a, b, c] o 1) fun l => oC (MT false l) k) = _
  simp [pM, MT]
@[simp] theorem idxAK_2 (a b c : AV) (k : AV → CRes) : Xc 1 3 false (.agg [a, b, c]) 2 k = k c := by
  show mN (Nat.mul 2 1) (fun o => oC (sub [a, b, c] o 1) fun l => oC (MT false l) k) = _
  simp [pM, MT]
theorem wr01 : IntKind.i64.wrap (0 + 1) = 1 := by decide
theorem wr12 : IntKind.i64.wrap (1 + 1) = 2 := by decide
theorem wr23 : IntKind.i64.wrap (2 + 1) = 3 := by decide
theorem build3 (q : IntKind) (a b c : Int) (k : AV → CRes) : wa [.int q 0, .int q 0, .int q 0] [(0, 1, .int q a), (1, 1, .int q b), (2, 1, .int q c)] k = k (.agg [.int q a, .int q b, .int q c]) := rfl
theorem lt03 : decide ((0 : Int) < 3) = true := rfl
theorem lt13 : decide ((1 : Int) < 3) = true := rfl
theorem lt23 : decide ((2 : Int) < 3) = true := rfl
theorem lt33 : decide ((3 : Int) < 3) = false := rfl
theorem v_quotas {n : Nat} {z : CfgZ} (hn : Fits n z) {h : Heap} (hro : h.ro ≤ h.nx) {c : List AV} (hc : Cfg h z c) {p : Nat} (hp : p < z.parts.length) : Run1 (yj n (.agg c) p h) fun r h' => r = qW z p ∧ Grow h h' := by
  unfold yj QW RN LM LE Mf LG
  obtain ⟨m, rfl⟩ : ∃ m, n = m + 4 := ⟨n - 4, by have := hn.small; omega⟩
  have hc0 := hc
  obtain ⟨t, pp, rfl, ht, hps, S, hpt, hS⟩ := hc
  refine Run1.bind (xT ..) ?_
  rintro x h1 ⟨hb, g⟩
  simp only [aQ, aY, ba, bc, ca, b7, b9, ce, bH, ci, cb, cd, cy, cB, bG, bu, bX, b8, bK, aU, be, aN, bA, bz, aO, aK, aS, cg, cI, bM, aR, aV, cm, cn, bN, bO, bL, bP, bC, bB, bQ, List.getElem?_cons_zero, List.getElem?_cons_succ, Nat.zero_add, Nat.reduceAdd, Nat.add_zero, bU hb, im, ij, io, ii, il, iu, ip, ir, iq, ik, fg, eW, eZ, fy, fk, fe, fd, fu, fq, eR, eS, eV, eT, eU, fb, d9, du, dh, ft, fh, fj, fx, fA, eY, d7, d8, ea, ed, dg, SlAt.eld (hpt.grow g) (show (0 : Int) ≤ (p : Int) by omega) (show (p : Int) < _ by omega), Int.toNat_natCast]
  refine Run1.bind (ajA (n := 8) (g.le hro) (by rfl) (by rfl)) ?_
  rintro y h2 ⟨hy, ho, g2⟩
  have gg := g.trans g2
  have hb2 := g2.cl hb
  simp only [aQ, aY, ba, bc, ca, b7, b9, ce, bH, ci, cb, cd, cy, cB, bG, bu, bX, b8, bK, aU, be, aN, bA, bz, aO, aK, aS, cg, cI, bM, aR, aV, cm, cn, bN, bO, bL, bP, bC, bB, bQ, List.getElem?_cons_zero, List.getElem?_cons_succ, Nat.zero_add, Nat.reduceAdd, Nat.add_zero, bU ho.cl, im, ij, io, ii, il, iu, ip, ir, iq, ik, fg, eW, eZ, fy, fk, fe, fd, fu, fq, eR, eS, eV, eT, eU, fb, d9, du, dh, ft, fh, fj, fx, fA, eY, d7, d8, ea, ed, dg, yc]
  rw [show z.parts.getD p default = c0 z p from rfl] at *
  refine RunG.ifB (fun e1 => kZ ⟨by simp at e1; simp [qW, e1], gg⟩) fun e1 => RunG.ifB (fun e2 => kZ ⟨by simp at e2; simp [qW, e2], gg⟩) fun e2 => RunG.ifB (fun e3 => kZ ⟨by simp at e3; simp [qW, e3], gg⟩) fun e3 => ?_
  simp only [build3, ajg, C0]
  simp only [aQ, aY, ba, bc, ca, b7, b9, ce, bH, ci, cb, cd, cy, cB, bG, bu, bX, b8, bK, aU, be, aN, bA, bz, aO, aK, aS, cg, cI, bM, aR, aV, cm, cn, bN, bO, bL, bP, bC, bB, bQ, List.getElem?_cons_zero, List.getElem?_cons_succ, Nat.zero_add, Nat.reduceAdd, Nat.add_zero, idxAK_0, idxAK_1, idxAK_2, wr01, wr12, wr23, lt03, lt13, lt23, lt33, yc]
  refine RunG.ifB (fun e4 => kZ ⟨by simp at e4; simp [qW, e4], gg⟩) fun e4 => RunG.ifB (fun e5 => kZ ⟨by simp at e5; simp [qW, e5], gg⟩) fun e5 => RunG.ifB (fun e6 => kZ ⟨by simp at e6; simp [qW, e6], gg⟩) fun e6 => ?_
  unfold CQ Mq
  simp only [aQ, aY, ba, bc, ca, b7, b9, ce, bH, ci, cb, cd, cy, cB, bG, bu, bX, b8, bK, aU, be, aN, bA, bz, aO, aK, aS, cg, cI, bM, aR, aV, cm, cn, bN, bO, bL, bP, bC, bB, bQ, List.getElem?_cons_zero, List.getElem?_cons_succ, Nat.zero_add, Nat.reduceAdd, Nat.add_zero, bU hb2, im, ij, io, ii, il, iu, ip, ir, iq, ik, fg, eW, eZ, fy, fk, fe, fd, fu, fq, eR, eS, eV, eT, eU, fb, d9, du, dh, ft, fh, fj, fx, fA, eY, d7, d8, ea, ed, dg]
  have hpl := hpt.1
  obtain ⟨w, hw, hsl⟩ := (hpt.grow gg).take hps (i := ((p + 1 : Nat) : Int)) (by omega) (by omega)
  rw [iT (show p ≤ 9223372036854775806 by omega), Int.toNat_natCast] at *
  simp only [iT (show p ≤ 9223372036854775806 by omega), hsl, SlAt.len hw]
  have hlen : (z.parts.take (p + 1)).length = p + 1 := by simp; omega
  have hw' : SlAt h2 w 8 (z.parts.take (p + 1)).length fun i => yW ((z.parts.take (p + 1)).getD i default) (S i) := by
    rw [hlen]
    obtain ⟨q1, q2⟩ := hw
    refine ⟨q1, ?_⟩
    rcases q2 with q2 | ⟨b, off, ext, opn, q2, q3⟩
    · exact .inl q2
    · refine .inr ⟨b, off, ext, opn, q2, fun h0 => ?_⟩
      obtain ⟨cl, q3, q4⟩ := q3 h0
      exact ⟨cl, q3, fun j hj => by have := q4 j hj; dsimp only at this ⊢; rw [abv (by omega)]; exact this⟩
  have key := aro (ap := ap1) (n := m + 4) (w := w) (v2 := .ptr x 0) (v5 := .ptr y 0) (v1 := p) (ps := z.parts.take (p + 1)) (S := S) (f1 := pe (m + 4)) (f2 := gn (m + 4)) (f3 := rq (m + 4)) (f4 := fU (m + 4))
    (Q := fun r => r.1 = qW z p ∧ Grow h r.2) (m + 4) 0 0 h2 (gg.le hro) hw' (by omega) (by rw [hlen]; have := hn.parts; omega) (fun h3 g3 => ?_) rfl
  · rw [hlen] at key
    exact key
  rw [List.drop_zero]
  have g23 := gg.trans g3
  have ho3 := (ho.grow g3).cl
  have hb3 := g3.cl hb2
  unfold xJ L4 Lw Ml L7 Mn
  simp only [aQ, aY, ba, bc, ca, b7, b9, ce, bH, ci, cb, cd, cy, cB, bG, bu, bX, b8, bK, aU, be, aN, bA, bz, aO, aK, aS, cg, cI, bM, aR, aV, cm, cn, bN, bO, bL, bP, bC, bB, bQ, List.getElem?_cons_zero, List.getElem?_cons_succ, Nat.zero_add, Nat.reduceAdd, Nat.add_zero, bU ho3, im, ij, io, ii, il, iu, ip, ir, iq, ik, fg, eW, eZ, fy, fk, fe, fd, fu, fq, eR, eS, eV, eT, eU, fb, d9, du, dh, ft, fh, fj, fx, fA, eY, d7, d8, ea, ed, dg, yc]
  simp only [Bool.not_eq_false'] at e1 e2 e3 e4 e5 e6
  refine RunG.ifB (fun e7 => kZ ⟨by simp at e7; simp [qW, e7], g23⟩) fun e7 => RunG.ifB (fun e8 => kZ ⟨by simp at e8; simp [qW, Int.not_le.2 e8], g23⟩) fun e8 => ?_
  simp at e7 e8
  simp only [aQ, aY, ba, bc, ca, b7, b9, ce, bH, ci, cb, cd, cy, cB, bG, bu, bX, b8, bK, aU, be, aN, bA, bz, aO, aK, aS, cg, cI, bM, aR, aV, cm, cn, bN, bO, bL, bP, bC, bB, bQ, List.getElem?_cons_zero, List.getElem?_cons_succ, Nat.zero_add, Nat.reduceAdd, Nat.add_zero, bU hb3, im, ij, io, ii, il, iu, ip, ir, iq, ik, fg, eW, eZ, fy, fk, fe, fd, fu, fq, eR, eS, eV, eT, eU, fb, d9, du, dh, ft, fh, fj, fx, fA, eY, d7, d8, ea, ed, dg]
  refine Run1.bind (OZ (m + 4) (Cfg.mk' (ht.grow g23) ⟨hps, S, hpt.grow g23, fun i hi => (hS i hi).grow g23⟩)) ?_
  rintro _ h4 ⟨rfl, g4⟩
  have g24 := g23.trans g4
  refine RunG.ifB (fun e9 => kZ ⟨?_, g24⟩) fun e9 => ?_
  · simp at e9
    simp [qW, e1, e2, e3, e4, e5, e6, e7, e8, e9]
  simp at e9
  have hz := VJ e9
  have ho4 := g4.cl ho3
  have hb4 := g4.cl hb3
  have hord : 0 ≤ (c0 z p).order := by simp [db] at e1; omega
  simp only [aQ, aY, ba, bc, ca, b7, b9, ce, bH, ci, cb, cd, cy, cB, bG, bu, bX, b8, bK, aU, be, aN, bA, bz, aO, aK, aS, cg, cI, bM, aR, aV, cm, cn, bN, bO, bL, bP, bC, bB, bQ, List.getElem?_cons_zero, List.getElem?_cons_succ, Nat.zero_add, Nat.reduceAdd, Nat.add_zero, bU ho4, bU hb4, im, ij, io, ii, il, iu, ip, ir, iq, ik, fg, eW, eZ, fy, fk, fe, fd, fu, fq, eR, eS, eV, eT, eU, fb, d9, du, dh, ft, fh, fj, fx, fA, eY, d7, d8, ea, ed, dg, U3 hord]
  refine Run1.bind (ahP (m + 4) (Cfg.mk' (ht.grow g24) ⟨hps, S, hpt.grow g24, fun i hi => (hS i hi).grow g24⟩) hz) ?_
  rintro _ h5 ⟨rfl, g5⟩
  have g25 := g24.trans g5
  refine RunG.ifB (fun e10 => ?_) fun e10 => kZ ⟨?_, g25⟩
  · simp at e10
    simp only [aQ, aY, ba, bc, ca, b7, b9, ce, bH, ci, cb, cd, cy, cB, bG, bu, bX, b8, bK, aU, be, aN, bA, bz, aO, aK, aS, cg, cI, bM, aR, aV, cm, cn, bN, bO, bL, bP, bC, bB, bQ, List.getElem?_cons_zero, List.getElem?_cons_succ, Nat.zero_add, Nat.reduceAdd, Nat.add_zero, bU (g5.cl ho4), bU (g5.cl hb4), im, ij, io, ii, il, iu, ip, ir, iq, ik, fg, eW, eZ, fy, fk, fe, fd, fu, fq, eR, eS, eV, eT, eU, fb, d9, du, dh, ft, fh, fj, fx, fA, eY, d7, d8, ea, ed, dg]
    refine Run1.bind (arx (n := m + 4) (h := h5.shut true) hz (Cfg.shut (Cfg.mk' (ht.grow g25) ⟨hps, S, hpt.grow g25, fun i hi => (hS i hi).grow g25⟩)) hp) ?_
    rintro _ h6 ⟨rfl, g6⟩
    refine kZ ⟨?_, g25.trans g6.shut⟩
    have h10 : Vo (c0 z p) ≤ akE z := by unfold Vo; omega
    have h11 : qW z p = decide (needZ (c0 z p) ≤ s8 z p) := by simp [qW, e1, e2, e3, e4, e5, e6, e7, e8, e9, h10]
    show (!decide (s8 z p < needZ (c0 z p))) = qW z p
    rw [h11, Bool.eq_iff_iff]
    simp
  · simp at e10
    have h10 : ¬ Vo (c0 z p) ≤ akE z := by unfold Vo; omega
    simp [qW, e1, e2, e3, e4, e5, e6, e7, e8, e9, h10]
theorem v_part {n : Nat} {z : CfgZ} (hn : Fits n z) {h : Heap} (hro : h.ro ≤ h.nx) {c : List AV} (hc : Cfg h z c) {p : Nat} (hp : p < z.parts.length) : Run1 (m9 n (.agg c) p h) fun r h' => r = aaF z p ∧ Grow h h' := by
  unfold m9 aal aaO
  obtain ⟨t, pp, rfl, ht, hps⟩ := hc
  refine Run1.bind (xT ..) ?_
  rintro x h1 ⟨hb, g⟩
  simp only [aQ, aY, ba, bc, ca, b7, b9, ce, bH, ci, cb, cd, cy, cB, bG, bu, bX, b8, bK, aU, be, aN, bA, bz, aO, aK, aS, cg, cI, bM, aR, aV, cm, cn, bN, bO, bL, bP, bC, bB, bQ, List.getElem?_cons_zero, List.getElem?_cons_succ, Nat.zero_add, Nat.reduceAdd, Nat.add_zero, bU hb, im, ij, io, ii, il, iu, ip, ir, iq, ik, fg, eW, eZ, fy, fk, fe, fd, fu, fq, eR, eS, eV, eT, eU, fb, d9, du, dh, ft, fh, fj, fx, fA, eY, d7, d8, ea, ed, dg]
  refine Run1.bind (asl hn (g.le hro) (Cfg.mk' (ht.grow g) (hps.grow g)) hp) ?_
  rintro _ h2 ⟨rfl, g2⟩
  have gg := g.trans g2
  refine RunG.ifB (fun e1 => ?_) fun e1 => ?_
  · simp at e1
    exact kZ ⟨by simp [aaF, e1], gg⟩
  · simp at e1
    simp only [aQ, aY, ba, bc, ca, b7, b9, ce, bH, ci, cb, cd, cy, cB, bG, bu, bX, b8, bK, aU, be, aN, bA, bz, aO, aK, aS, cg, cI, bM, aR, aV, cm, cn, bN, bO, bL, bP, bC, bB, bQ, List.getElem?_cons_zero, List.getElem?_cons_succ, Nat.zero_add, Nat.reduceAdd, Nat.add_zero, bU (g2.cl hb), im, ij, io, ii, il, iu, ip, ir, iq, ik, fg, eW, eZ, fy, fk, fe, fd, fu, fq, eR, eS, eV, eT, eU, fb, d9, du, dh, ft, fh, fj, fx, fA, eY, d7, d8, ea, ed, dg]
    refine Run1.bind (v_quotas hn (gg.le hro) (Cfg.mk' (ht.grow gg) (hps.grow gg)) hp) ?_
    rintro _ h3 ⟨rfl, g3⟩
    refine RunG.ifB (fun e2 => ?_) fun e2 => ?_
    · simp at e2
      exact kZ ⟨by simp [aaF, e1, e2], gg.trans g3⟩
    · simp at e2
      exact kZ ⟨by simp [aaF, e1, e2], gg.trans g3⟩
end Go.Proofs.YtnlbfbiogfilfaaGreat.Sh
