/- What the functions of 'plan' and 'cost' compute. -/
import Derived.Test.YtnlbfbiogfilfaaPaSText
import Derived.Test.YtnlbfbiogfilfaaAiKCfg
set_option linter.all false
namespace Go.Proofs.Ytnlbfbiogfilfaa.Sh
open Go.Ai
@[simp] theorem wS (n : Nat) (a b c : Int) (h : Heap) (k : Bool → Heap → CRes) : dX n a b c h k = k (cR a b c) h := by
  unfold dX OD Ox Bo HG
  by_cases hc : a < b
  · simp [cR, hc, show ¬ b ≤ a by omega]
  · simp [cR, hc, show b ≤ a by omega, ← Int.not_lt]
@[simp] theorem u_plan_power (n : Nat) (a b : Int) (h : Heap) (k : Bool → Heap → CRes) : tw n a b h k = k (ZB a b) h := by
  unfold tw RS RZ CR LS
  cases hc : cR a 1 b <;> simp [hc, ZB]
theorem Mc (n : Nat) {h : Heap} {z : CfgZ} {c : List AV} (hc : Cfg h z c) : Run1 (eK n (.agg c) h) fun r h' => r = pU z ∧ Grow h h' := by
  unfold eK LQ Me zf Fe y0 Ge zv F4 y4 E1 zJ Ga zz Fa zZ FL
  obtain ⟨t, p, rfl, ht, hps, S, hp, hS⟩ := hc
  refine Run1.bind (yx ..) ?_
  rintro x h1 ⟨hb, g⟩
  simp [bS hb, A6]
  refine RunG.ifB (fun e1 => ?_) fun e1 => lD ⟨by simp [pU, e1], g⟩
  have hnz : z.colours ≠ 0 := by
    simp [ZB, cR] at e1; omega
  refine RunG.ifB (fun e2 => ?_) fun e2 => lD ⟨by simp [pU, e1, e2], g⟩
  simp only [apf hnz]
  refine RunG.ifB (fun e3 => ?_) fun e3 => lD ⟨by simp [pU, e1, e2, e3], g⟩
  refine RunG.ifB (fun e4 => ?_) fun e4 => lD ⟨by simp [pU, e1, e2, e3, e4], g⟩
  refine RunG.ifB (fun e5 => ?_) fun e5 => lD ⟨by simp [pU, e1, e2, e3, e4, e5], g⟩
  refine RunG.ifB (fun e6 => ?_) fun e6 => lD ⟨by simp [pU, e1, e2, e3, e4, e5, e6], g⟩
  refine RunG.ifB (fun e7 => ?_) fun e7 => lD ⟨by simp [pU, e1, e2, e3, e4, e5, e6, e7], g⟩
  simp only [SlAt.len hp]
  exact lD ⟨by simp [pU, e1, e2, e3, e4, e5, e6, e7], g⟩
theorem aej (n : Nat) {h : Heap} {z : CfgZ} {c : List AV} (hc : Cfg h z c) (hz : z.colours ≠ 0) : Run1 (mX n (.agg c) h) fun r h' => r = anm z ∧ Grow h h' := by
  unfold mX WH WP
  obtain ⟨t, p, rfl, ht, hps, S, hp, hS⟩ := hc
  refine Run1.bind (yx ..) ?_
  rintro x h1 ⟨hb, g⟩
  simp [bS hb, A6]
  simp only [akL hz]
  exact lD ⟨rfl, g⟩
theorem ahg {n : Nat} {h : Heap} {v : AV} {l : List Int} (hv : Ints h .u64 v l) : ∀ (m i : Nat), i ≤ l.length → l.length - i < m →
    Run1 (fun k => r6 n k m v l.length i h) fun r h' => r = (if (l.drop i).all (uP 1) then 0 else 100) ∧ h' = h := by
  intro m
  induction m with
  | zero => omega
  | succ m ih =>
    intro i hi hm
    show RunG ap1 (fun k => CS n k (yA n k) (yV n k (r6 n k m)) v l.length i h) _
    unfold CS yA Lk yV LH
    refine RunG.ifB (fun e => ?_) fun e => ?_
    · simp at e
      have hs := hv.small
      rw [List.drop_eq_getElem_cons e, List.all_cons]
      simp only [aL, bg, bj, bl, cg, b8, cb, cj, bC, ck, ci, ce, cx, cz, bD, bq, bX, cd, bJ, bb, bo, aN, bu, bt, aP, aJ, be, cm, cF, bM, ba, bc, cq, cp, bL, bO, bN, bP, bw, bz, bK, List.getElem?_cons_zero, List.getElem?_cons_succ, Nat.zero_add, Nat.reduceAdd, Nat.add_zero, hv.elN e, vu e, jd (show i ≤ 9223372036854775806 by omega)]
      refine RunG.ifB (fun e1 => ?_) fun e1 => RunG.ifB (fun e2 => ?_) fun e2 => ?_
      · simp at e1
        exact lD ⟨by simp [uP]; omega, rfl⟩
      · simp at e2
        exact lD ⟨by simp [uP]; omega, rfl⟩
      · simp at e1 e2
        refine RunG.mono (ih (i + 1) (by omega) (by omega)) ?_
        rintro ⟨r, h'⟩ ⟨h1, h2⟩
        exact ⟨by rw [h1]; simp [uP, e1, e2], h2⟩
    · simp at e
      have : i = l.length := by omega
      subst this
      exact lD ⟨by simp, rfl⟩
def rise (last : Int) : List Int → Bool
  | [] => true
  | x :: l => uP last x && rise x l
theorem ahK {n : Nat} {h : Heap} {v w : AV} {l : List Int} (hv : Ints h .u64 v l) {q : Int} (h3 : Run1 (fun k => uM n k w h) fun r h' => r = q ∧ Grow h h') : ∀ (m i : Nat) (last : Int), i ≤ l.length → l.length - i < m →
    Run1 (fun k => rX n k m w last v l.length i h) fun r h' => r = (if rise last (l.drop i) then q else 100) ∧ Grow h h' := by
  intro m
  induction m with
  | zero => omega
  | succ m ih =>
    intro i last hi hm
    show RunG ap1 (fun k => DH n k (uM n k) (yG n k (rX n k m)) w last v l.length i h) _
    unfold DH yG Lf
    refine RunG.ifB (fun e => ?_) fun e => ?_
    · simp at e
      have hs := hv.small
      rw [List.drop_eq_getElem_cons e, rise]
      simp only [aL, bg, bj, bl, cg, b8, cb, cj, bC, ck, ci, ce, cx, cz, bD, bq, bX, cd, bJ, bb, bo, aN, bu, bt, aP, aJ, be, cm, cF, bM, ba, bc, cq, cp, bL, bO, bN, bP, bw, bz, bK, List.getElem?_cons_zero, List.getElem?_cons_succ, Nat.zero_add, Nat.reduceAdd, Nat.add_zero, hv.elN e, vu e, jd (show i ≤ 9223372036854775806 by omega)]
      refine RunG.ifB (fun e1 => ?_) fun e1 => RunG.ifB (fun e2 => ?_) fun e2 => ?_
      · simp at e1
        exact lD ⟨by simp [uP]; omega, .refl⟩
      · simp at e2
        exact lD ⟨by simp [uP]; omega, .refl⟩
      · simp at e1 e2
        refine RunG.mono (ih (i + 1) l[i] (by omega) (by omega)) ?_
        rintro ⟨r, h'⟩ ⟨h1, h2⟩
        exact ⟨by rw [h1]; simp [uP, e1, e2], h2⟩
    · simp at e
      have : i = l.length := by omega
      subst this
      refine RunG.mono h3 ?_
      rintro ⟨r, h'⟩ ⟨h1, h2⟩
      exact ⟨by simpa [rise] using h1, h2⟩
theorem JZ {n : Nat} (hn : 4 ≤ n) (h : Heap) (z : CfgZ) : Run1 (eO n (.agg (AU z)) h) fun r h' => r = Z5 z ∧ Grow h h' := by
  unfold eO R9 RX
  refine Run1.bind (yx ..) ?_
  rintro x h1 ⟨hb, g⟩
  simp only [aL, bg, bj, bl, cg, b8, cb, cj, bC, ck, ci, ce, cx, cz, bD, bq, bX, cd, bJ, bb, bo, aN, bu, bt, aP, aJ, be, cm, cF, bM, ba, bc, cq, cp, bL, bO, bN, bP, bw, bz, bK, List.getElem?_cons_zero, List.getElem?_cons_succ, Nat.zero_add, Nat.reduceAdd, Nat.add_zero, bS hb, AU]
  refine Run1.bind (aeK (q := .u64) [z.l1, z.llc, z.miss] (fun k => by rfl) (by simp)) ?_
  rintro v h2 ⟨hv, g2⟩
  simp only [hv.len]
  have hb2 := g2.cl hb
  refine RunG.mono (ahK (q := if uP 1 z.fault && (uP 1 z.step && uP 1 z.disk) then 0 else 100) hv ?_ n 0 1 (by simp) (by simp; omega)) ?_
  · unfold uM ME
    simp only [aL, bg, bj, bl, cg, b8, cb, cj, bC, ck, ci, ce, cx, cz, bD, bq, bX, cd, bJ, bb, bo, aN, bu, bt, aP, aJ, be, cm, cF, bM, ba, bc, cq, cp, bL, bO, bN, bP, bw, bz, bK, List.getElem?_cons_zero, List.getElem?_cons_succ, Nat.zero_add, Nat.reduceAdd, Nat.add_zero, bS hb2, AU]
    refine Run1.bind (aeK (q := .u64) [z.fault, z.step, z.disk] (fun k => by rfl) (by simp)) ?_
    rintro v3 h3 ⟨hv3, g3⟩
    simp only [hv3.len]
    refine RunG.mono (ahg hv3 n 0 (by simp) (by simp; omega)) ?_
    rintro ⟨r, h'⟩ ⟨e1, e2⟩
    exact ⟨by rw [e1]; simp, by rw [e2]; exact g3⟩
  · rintro ⟨r, h'⟩ ⟨e1, e2⟩
    refine ⟨?_, g.trans (g2.trans e2)⟩
    rw [e1]
    simp only [List.drop_zero, rise, Z5, apb, Bool.and_true]
    rcases Bool.eq_false_or_eq_true (uP 1 z.l1) with a | a <;> rcases Bool.eq_false_or_eq_true (uP z.l1 z.llc) with b | b <;> rcases Bool.eq_false_or_eq_true (uP z.llc z.miss) with c | c <;> simp [a, b, c]
theorem ap9 {n : Nat} {h : Heap} {v : AV} {l : List Int} {x : Int} (hv : Ints h .i64 v l) : ∀ (m i : Nat), i ≤ l.length → l.length - i < m → (∀ j, j < i → nz l j ≠ x) →
    Run1 (fun k => jD n k m v x l.length i h) fun r h' => h' = h ∧ ((r = -1 ∧ x ∉ l) ∨ ∃ j : Nat, r = j ∧ j < l.length ∧ nz l j = x) := by
  intro m
  induction m with
  | zero => omega
  | succ m ih =>
    intro i hi hm hj
    show RunG ap1 (fun k => nk n k (lp n k) (jD n k m) v x l.length i h) _
    unfold nk lp qP
    refine RunG.ifB (fun e => ?_) fun e => ?_
    · simp at e
      have hs := hv.small
      simp only [aL, bg, bj, bl, cg, b8, cb, cj, bC, ck, ci, ce, cx, cz, bD, bq, bX, cd, bJ, bb, bo, aN, bu, bt, aP, aJ, be, cm, cF, bM, ba, bc, cq, cp, bL, bO, bN, bP, bw, bz, bK, List.getElem?_cons_zero, List.getElem?_cons_succ, Nat.zero_add, Nat.reduceAdd, Nat.add_zero, hv.elN e, jd (show i ≤ 9223372036854775806 by omega)]
      refine RunG.ifB (fun e1 => ?_) fun e1 => ?_
      · simp at e1
        exact lD ⟨rfl, .inr ⟨i, rfl, e, e1.symm⟩⟩
      · simp at e1
        refine ih (i + 1) (by omega) (by omega) fun j hj' => ?_
        by_cases e2 : j = i
        · subst e2; exact fun e => e1 e.symm
        · exact hj j (by omega)
    · simp at e
      refine lD ⟨rfl, .inl ⟨rfl, fun hx => ?_⟩⟩
      obtain ⟨j, h1, h2⟩ := List.getElem_of_mem hx
      exact hj j (by omega) (by rw [vu h1]; exact h2)
theorem v_Index {n : Nat} {h : Heap} {v : AV} {l : List Int} (hv : Ints h .i64 v l) (hn : l.length < n) (x : Int) :
    Run1 (io n v x h) fun r h' => h' = h ∧ ((r = -1 ∧ x ∉ l) ∨ ∃ j : Nat, r = j ∧ j < l.length ∧ nz l j = x) := by
  unfold io sQ sN
  simp only [hv.len]
  exact ap9 hv n 0 (by omega) (by omega) fun j hj => by omega
theorem anV {n : Nat} {h : Heap} {v : AV} {l : List Int} (hv : Ints h .i64 v l) (hn : l.length < n) (x : Int) : Run1 (cI n v x h) fun r h' => r = decide (x ∈ l) ∧ h' = h := by
  unfold cI qh ql
  refine Run1.bind (v_Index hv hn x) ?_
  rintro r _ ⟨rfl, ⟨rfl, hx⟩ | ⟨j, rfl, hj, hx⟩⟩
  · exact lD ⟨by simp [hx], rfl⟩
  · refine lD ⟨?_, rfl⟩
    have : x ∈ l := by rw [← hx, vu hj]; exact List.getElem_mem hj
    simp [this]
theorem aaw {α : Type} [Inhabited α] {l : List α} {i : Nat} (h : i < l.length) : l.getD i default = l[i] := by rw [List.getD_eq_getElem?_getD, List.getElem?_eq_getElem h]; rfl
theorem ant {R : Type} {ap : jh → R → CRes} {Q : R → Prop} {n : Nat} {w v2 v5 v16 : AV} {v1 v17 : Int} {ps : List PartZ} {S : Nat → AV} {x i : Int} {J : jh → Int → AV → AV → AV → Int → Int → Heap → CRes} :
    ∀ (m j : Nat) (h : Heap), h.ro ≤ h.nx → SlAt h w 8 ps.length (fun i => CN (ps.getD i default) (S i)) → (∀ i, i < ps.length → Ints h .i64 (S i) (ps.getD i default).cols) → (∀ i, i < ps.length → (ps.getD i default).cols.length < n) →
    j ≤ ps.length → ps.length - j < m →
    ((ps.drop j).all (fun q => !decide (x ∈ q.cols)) = true → ∀ h', Grow h h' → RunG ap (fun k => J k v1 v2 v5 v16 v17 (IntKind.i64.wrap (i + 1)) h') Q) →
    ((ps.drop j).all (fun q => !decide (x ∈ q.cols)) = false → ∀ h', Grow h h' → RunG ap (fun k => k false h') Q) →
    RunG ap (fun k => ph n (cI n) k (J k) m v1 v2 v5 x v16 v17 i w ps.length j h) Q := by
  intro m
  induction m with
  | zero => omega
  | succ m ih =>
    intro j h hro hw hS hn hj hm hgo hno
    show RunG ap (fun k => zD n (cI n) k (uU n (cI n) k (J k)) (ph n (cI n) k (J k) m) v1 v2 v5 x v16 v17 i w ps.length j h) Q
    unfold zD uU FG
    refine RunG.ifB (fun e => ?_) fun e => ?_
    · simp at e
      have hs := hw.1
      simp only [aL, bg, bj, bl, cg, b8, cb, cj, bC, ck, ci, ce, cx, cz, bD, bq, bX, cd, bJ, bb, bo, aN, bu, bt, aP, aJ, be, cm, cF, bM, ba, bc, cq, cp, bL, bO, bN, bP, bw, bz, bK, List.getElem?_cons_zero, List.getElem?_cons_succ, Nat.zero_add, Nat.reduceAdd, Nat.add_zero, hw.eld (i := (j : Int)) (by omega) (by omega), Int.toNat_natCast, jd (show j ≤ 9223372036854775806 by omega)]
      refine Run1.bind (ahH (n := 8) hro (by rfl) (by rfl)) ?_
      rintro y h1 ⟨hy, ho, g⟩
      simp only [aL, bg, bj, bl, cg, b8, cb, cj, bC, ck, ci, ce, cx, cz, bD, bq, bX, cd, bJ, bb, bo, aN, bu, bt, aP, aJ, be, cm, cF, bM, ba, bc, cq, cp, bL, bO, bN, bP, bw, bz, bK, List.getElem?_cons_zero, List.getElem?_cons_succ, Nat.zero_add, Nat.reduceAdd, Nat.add_zero, bS ho.cl, CN]
      refine Run1.bind (anV ((hS j e).grow g) (hn j e) x) ?_
      rintro r _ ⟨rfl, rfl⟩
      rw [List.drop_eq_getElem_cons e, List.all_cons] at hgo hno
      rw [aaw e]
      refine RunG.ifB (fun e1 => ?_) fun e1 => ?_
      · simp at e1
        exact hno (by simp [e1]) _ g
      · simp only [decide_eq_false_iff_not] at e1
        simp only [e1, decide_false, Bool.not_false, Bool.true_and] at hgo hno
        exact ih (j + 1) _ (g.le hro) (hw.grow g) (fun i hi => (hS i hi).grow g) hn (by omega) (by omega) (fun ha h' g' => hgo ha h' (g.trans g')) (fun ha h' g' => hno ha h' (g.trans g'))
    · simp at e
      have : j = ps.length := by omega
      subst this
      simp only [aL, bg, bj, bl, cg, b8, cb, cj, bC, ck, ci, ce, cx, cz, bD, bq, bX, cd, bJ, bb, bo, aN, bu, bt, aP, aJ, be, cm, cF, bM, ba, bc, cq, cp, bL, bO, bN, bP, bw, bz, bK, List.getElem?_cons_zero, List.getElem?_cons_succ, Nat.zero_add, Nat.reduceAdd, Nat.add_zero]
      exact hgo (by simp) h .refl
def NR (l : List Int) (i : Nat) : Option Int := if i = 0 then none else some (nz l (i - 1))
structure Fits (n : Nat) (z : CfgZ) : Prop where
  small : 100 < n
  turns : z.turns.length < n
  parts : z.parts.length < n
  cols : ∀ i, i < z.parts.length → (z.parts.getD i default).cols.length < n
theorem W3 {ps : List PartZ} {p i : Nat} (hi : i < (ps.take p).length) : (ps.take p).getD i default = ps.getD i default := by
  simp at hi
  rw [aaw (by simp; omega), aaw (by omega), List.getElem_take]
theorem anl {n : Nat} {z : CfgZ} (hn : Fits n z) {t pp v : AV} {S : Nat → AV} {x p : Nat} (hp : p ≤ z.parts.length) (hsh : pp.shut = true) (l : List Int) : ∀ (m i : Nat) (h : Heap), h.ro ≤ h.nx → h.cl x (A6 z t pp) →
    SlAt h pp 8 z.parts.length (fun i => CN (z.parts.getD i default) (S i)) → (∀ i, i < z.parts.length → Ints h .i64 (S i) (z.parts.getD i default).cols) → Ints h .i64 v l →
    i ≤ l.length → l.length - i < m →
    Run1 (fun k => lX n (cI n) k m p (.ptr x 0) v v l.length i h) fun r h' => r = (AS z (z.parts.take p) (NR l i) (l.drop i) && decide (0 < l.length)) ∧ Grow h h' := by
  intro m
  induction m with
  | zero => omega
  | succ m ih =>
    intro i h hro hb hw hS hv hi hm
    show RunG ap1 (fun k => zC n (cI n) k (uL n (cI n) k) (uN n (cI n) k (lX n (cI n) k m)) p (.ptr x 0) v v l.length i h) _
    unfold zC uL F2 uN Fx zs Fl
    have hs := hv.small
    refine RunG.ifB (fun e => ?_) fun e => ?_
    · simp at e
      obtain ⟨w, hw', hsl⟩ := hw.take (v := pp) hsh (i := (p : Int)) (by omega) (by omega)
      rw [Int.toNat_natCast] at hw'
      have hlen : (z.parts.take p).length = p := by simp; omega
      have fin : (∀ y, NR l i = some y → y < l[i]) → 0 ≤ l[i] → l[i] < z.colours →
          RunG ap1 (fun k => ph n (cI n) k (lX n (cI n) k m) n p (.ptr x 0) v l[i] v l.length i w p ((0 : Nat) : Int) h)
            (fun r => r.1 = (AS z (z.parts.take p) (NR l i) (l.drop i) && decide (0 < l.length)) ∧ Grow h r.2) := by
        intro h1 h2 h3
        have c1 : Zn (NR l i) l[i] = true := by
          unfold Zn
          cases hq : NR l i with
          | none => rfl
          | some y => simpa using h1 y hq
        have key := ant (ap := ap1) (n := n) (w := w) (v2 := .ptr x 0) (v5 := v) (v16 := v) (v1 := p) (v17 := l.length) (ps := z.parts.take p) (S := S) (x := l[i]) (i := i) (J := fun k => lX n (cI n) k m)
          (Q := fun r => r.1 = (AS z (z.parts.take p) (NR l i) (l.drop i) && decide (0 < l.length)) ∧ Grow h r.2) n 0 h hro
          (by
            rw [hlen]
            obtain ⟨q1, q2⟩ := hw'
            refine ⟨q1, ?_⟩
            rcases q2 with q2 | ⟨b, off, ext, opn, q2, q3⟩
            · exact .inl q2
            · refine .inr ⟨b, off, ext, opn, q2, fun h0 => ?_⟩
              obtain ⟨cl, q3, q4⟩ := q3 h0
              exact ⟨cl, q3, fun j hj => by have := q4 j hj; dsimp only at this ⊢; rw [W3 (by omega)]; exact this⟩)
          (fun j hj => by rw [W3 hj]; exact hS j (by rw [hlen] at hj; omega)) (fun j hj => by rw [W3 hj]; exact hn.cols j (by rw [hlen] at hj; omega)) (by omega) (by rw [hlen]; have := hn.parts; omega)
          (fun ha h' g => by
            rw [jd (show i ≤ 9223372036854775806 by omega)]
            refine RunG.mono (ih (i + 1) h' (g.le hro) (g.cl hb) (hw.grow g) (fun i hi => (hS i hi).grow g) (hv.grow g) (by omega) (by omega)) ?_
            rintro ⟨r, h''⟩ ⟨e1, e2⟩
            refine ⟨?_, g.trans e2⟩
            rw [List.drop_eq_getElem_cons e, Gs, c1]
            have : NR l (i + 1) = some l[i] := by unfold NR; rw [if_neg (by omega)]; simp [vu e]
            rw [this] at e1
            rw [List.drop_zero] at ha
            rw [ha]
            simpa [h2, h3] using e1)
          (fun ha h' g => by
            refine lD ⟨?_, g⟩
            rw [List.drop_eq_getElem_cons e, Gs]
            rw [List.drop_zero] at ha
            rw [ha]
            simp)
        rw [hlen] at key
        exact key
      simp only [aL, bg, bj, bl, cg, b8, cb, cj, bC, ck, ci, ce, cx, cz, bD, bq, bX, cd, bJ, bb, bo, aN, bu, bt, aP, aJ, be, cm, cF, bM, ba, bc, cq, cp, bL, bO, bN, bP, bw, bz, bK, List.getElem?_cons_zero, List.getElem?_cons_succ, Nat.zero_add, Nat.reduceAdd, Nat.add_zero, bS hb, A6, hv.elN e, vu e, hsl, SlAt.len hw']
      have no : (decide (0 ≤ l[i]) = false ∨ decide (l[i] < z.colours) = false ∨ Zn (NR l i) l[i] = false) → (false = (AS z (z.parts.take p) (NR l i) (l.drop i) && decide (0 < l.length)) ∧ Grow h h) := by
        intro h0
        refine ⟨?_, .refl⟩
        rw [List.drop_eq_getElem_cons e, Gs]
        rcases h0 with h0 | h0 | h0 <;> rw [h0] <;> simp
      refine RunG.ifB (fun e1 => ?_) fun e1 => RunG.ifB (fun e2 => ?_) fun e2 => RunG.ifB (fun e3 => ?_) fun e3 => ?_
      · exact lD (no (.inl (by simp at e1 ⊢; omega)))
      · exact lD (no (.inr (.inl (by simpa using e2))))
      · simp at e1 e2 e3
        have hw1 : IntKind.i64.wrap ((i : Int) - 1) = ((i - 1 : Nat) : Int) := by rw [qH (by omega) (by omega)]; omega
        have pv : NR l i = some (nz l (i - 1)) := by unfold NR; rw [if_neg (by omega)]
        simp only [hw1, hv.elN (show i - 1 < l.length by omega)]
        refine RunG.ifB (fun e4 => ?_) fun e4 => ?_
        · exact lD (no (.inr (.inr (by rw [pv]; simpa [Zn] using e4))))
        · simp at e4
          exact fin (fun y hy => by rw [pv] at hy; cases hy; exact e4) e1 e2
      · simp at e1 e2 e3
        have i0 : i = 0 := by omega
        exact fin (fun y hy => by unfold NR at hy; rw [if_pos i0] at hy; cases hy) e1 e2
    · simp at e
      have : i = l.length := by omega
      subst this
      simp only [hv.len]
      simp only [aL, bg, bj, bl, cg, b8, cb, cj, bC, ck, ci, ce, cx, cz, bD, bq, bX, cd, bJ, bb, bo, aN, bu, bt, aP, aJ, be, cm, cF, bM, ba, bc, cq, cp, bL, bO, bN, bP, bw, bz, bK, List.getElem?_cons_zero, List.getElem?_cons_succ, Nat.zero_add, Nat.reduceAdd, Nat.add_zero]
      exact lD ⟨by simp [AS], .refl⟩
theorem apG {n : Nat} {z : CfgZ} (hn : Fits n z) {h : Heap} (hro : h.ro ≤ h.nx) {c : List AV} (hc : Cfg h z c) {p : Nat} (hp : p < z.parts.length) : Run1 (pP n (.agg c) p h) fun r h' => r = aaB z p ∧ Grow h h' := by
  unfold pP LR Mz
  obtain ⟨t, pp, rfl, ht, hps, S, hpt, hS⟩ := hc
  refine Run1.bind (yx ..) ?_
  rintro x h1 ⟨hb, g⟩
  obtain ⟨b, off, l, e1, e2, e3, e4⟩ := (hpt.grow g).at_ (i := (p : Int)) (by omega) (by omega)
  rw [Int.toNat_natCast] at e4
  have e5 : l[off]? = some (S p) := by
    have := congrArg (·[0]?) e4
    simpa [CN] using this
  simp only [aL, bg, bj, bl, cg, b8, cb, cj, bC, ck, ci, ce, cx, cz, bD, bq, bX, cd, bJ, bb, bo, aN, bu, bt, aP, aJ, be, cm, cF, bM, ba, bc, cq, cp, bL, bO, bN, bP, bw, bz, bK, List.getElem?_cons_zero, List.getElem?_cons_succ, Nat.zero_add, Nat.reduceAdd, Nat.add_zero, bS hb, A6, SlAt.ia (hpt.grow g) (show (0 : Int) ≤ (p : Int) by omega) (show (p : Int) < _ by omega), e1, bS e2, e5, ((hS p hp).grow g).len]
  refine RunG.mono (anl hn (p := p) (by omega) hps _ n 0 h1 (g.le hro) hb (hpt.grow g) (fun i hi => (hS i hi).grow g) ((hS p hp).grow g) (by omega) (by have := hn.cols p hp; omega)) ?_
  rintro ⟨r, h'⟩ ⟨q1, q2⟩
  exact ⟨by rw [q1]; simp [aaB, ec, NR], g.trans q2⟩
end Go.Proofs.Ytnlbfbiogfilfaa.Sh
/- What a partition's quotas are, by the code. -/
namespace Go.Proofs.Ytnlbfbiogfilfaa.Sh
open Go.Ai
theorem Cfg.mk' {h : Heap} {z : CfgZ} {t p : AV} (ht : Ints h .i64 t z.turns) (hp : Parts h p z.parts) : Cfg h z (A6 z t p) := ⟨t, p, rfl, ht, hp⟩
theorem Parts.shut {h : Heap} {v : AV} {ps : List PartZ} (p : Parts h v ps) : Parts (h.shut true) v ps := p
theorem Cfg.shut {h : Heap} {z : CfgZ} {c : List AV} (p : Cfg h z c) : Cfg (h.shut true) z c := p
theorem apg {n : Nat} {z : CfgZ} (hz : z.colours ≠ 0) {h : Heap} {c : List AV} (hc : Cfg h z c) {p : Nat} (hp : p < z.parts.length) : Run1 (lZ n (.agg c) p h) fun r h' => r = Zk z p ∧ Grow h h' := by
  unfold lZ Ru RO
  obtain ⟨t, pp, rfl, ht, hps, S, hpt, hS⟩ := hc
  refine Run1.bind (yx ..) ?_
  rintro x h1 ⟨hb, g⟩
  obtain ⟨b, off, l, e1, e2, e3, e4⟩ := (hpt.grow g).at_ (i := (p : Int)) (by omega) (by omega)
  rw [Int.toNat_natCast] at e4
  have e5 : l[off]? = some (S p) := by
    have := congrArg (·[0]?) e4
    simpa [CN] using this
  simp only [aL, bg, bj, bl, cg, b8, cb, cj, bC, ck, ci, ce, cx, cz, bD, bq, bX, cd, bJ, bb, bo, aN, bu, bt, aP, aJ, be, cm, cF, bM, ba, bc, cq, cp, bL, bO, bN, bP, bw, bz, bK, List.getElem?_cons_zero, List.getElem?_cons_succ, Nat.zero_add, Nat.reduceAdd, Nat.add_zero, bS hb, ji, jv, jr, jg, jl, ju, jo, jk, jx, jf, fF, gd, fV, fZ, fC, fT, fL, f0, fK, fU, fJ, fE, fR, gb, ga, dR, de, cW, fN, fH, fY, gc, fW, fD, dP, dQ, dW, dS, cU, SlAt.ia (hpt.grow g) (show (0 : Int) ≤ (p : Int) by omega) (show (p : Int) < _ by omega), e1, bS e2, e5, ((hS p hp).grow g).len]
  refine Run1.bind (aej n (h := h1.shut true) (z := z) (Cfg.shut (Cfg.mk' (ht.grow g) ⟨hps, S, hpt.grow g, fun i hi => (hS i hi).grow g⟩)) hz) ?_
  rintro _ h2 ⟨rfl, g2⟩
  exact lD ⟨rfl, g.trans g2.shut⟩
theorem aoD {R : Type} {ap : i7 → R → CRes} {Q : R → Prop} {n : Nat} {w v2 v5 : AV} {v1 : Int} {ps : List PartZ} {S : Nat → AV} {f1 f2 f3 f4} :
    ∀ (m j : Nat) (a : Int) (h : Heap), h.ro ≤ h.nx → SlAt h w 8 ps.length (fun i => CN (ps.getD i default) (S i)) →
    j ≤ ps.length → ps.length - j < m →
    (∀ h', Grow h h' → RunG ap (fun k => sX n f1 f2 f3 f4 k v1 v2 v5 (alP (ps.drop j) a) h') Q) → f4 = dX n →
    RunG ap (fun k => oz n f1 f2 f3 f4 k m v1 v2 v5 a w ps.length j h) Q := by
  intro m
  induction m with
  | zero => omega
  | succ m ih =>
    intro j a h hro hw hj hm hgo hf
    simp only [afq]
    unfold Bi vQ HO
    refine RunG.ifB (fun e => ?_) fun e => ?_
    · simp at e
      have hs := hw.1
      subst hf
      simp only [aL, bg, bj, bl, cg, b8, cb, cj, bC, ck, ci, ce, cx, cz, bD, bq, bX, cd, bJ, bb, bo, aN, bu, bt, aP, aJ, be, cm, cF, bM, ba, bc, cq, cp, bL, bO, bN, bP, bw, bz, bK, List.getElem?_cons_zero, List.getElem?_cons_succ, Nat.zero_add, Nat.reduceAdd, Nat.add_zero, hw.eld (i := (j : Int)) (by omega) (by omega), Int.toNat_natCast, jd (show j ≤ 9223372036854775806 by omega)]
      refine Run1.bind (ahH (n := 8) hro (by rfl) (by rfl)) ?_
      rintro y h1 ⟨hy, ho, g⟩
      simp only [aL, bg, bj, bl, cg, b8, cb, cj, bC, ck, ci, ce, cx, cz, bD, bq, bX, cd, bJ, bb, bo, aN, bu, bt, aP, aJ, be, cm, cF, bM, ba, bc, cq, cp, bL, bO, bN, bP, bw, bz, bK, List.getElem?_cons_zero, List.getElem?_cons_succ, Nat.zero_add, Nat.reduceAdd, Nat.add_zero, bS ho.cl, ji, jv, jr, jg, jl, ju, jo, jk, jx, jf, fF, gd, fV, fZ, fC, fT, fL, f0, fK, fU, fJ, fE, fR, gb, ga, dR, de, cW, fN, fH, fY, gc, fW, fD, dP, dQ, dW, dS, cU, wS]
      rw [List.drop_eq_getElem_cons e, alP, List.foldl_cons] at hgo
      rw [aaw e]
      refine RunG.ifB (fun e1 => ?_) fun e1 => ?_
      · rw [if_pos e1] at hgo
        exact ih (j + 1) _ _ (g.le hro) (hw.grow g) (by omega) (by omega) (fun h' g' => hgo h' (g.trans g')) rfl
      · rw [if_neg (by simp [e1])] at hgo
        exact ih (j + 1) _ _ (g.le hro) (hw.grow g) (by omega) (by omega) (fun h' g' => hgo h' (g.trans g')) rfl
    · simp at e
      have : j = ps.length := by omega
      subst this
      have := hgo h .refl
      rw [List.drop_length] at this
      exact this
@[simp] theorem idxAK_0 (a b c : AV) (k : AV → CRes) : Yn 1 3 false (.agg [a, b, c]) 0 k = k a := by
  show eA (Nat.mul 0 1) (fun o => oC (sub [a, b, c] o 1) fun l => oC (Hp false l) k) = _
  simp [pR, Hp]
@[simp] theorem idxAK_1 (a b c : AV) (k : AV → CRes) : Yn 1 3 false (.agg [a, b, c]) 1 k = k b := by
  show eA (Nat.mul 1 1) (fun o => oC (sub [a, b, c] o 1) fun l => oC (Hp false l) k) = _
  simp [pR, Hp]
@[simp] theorem idxAK_2 (a b c : AV) (k : AV → CRes) : Yn 1 3 false (.agg [a, b, c]) 2 k = k c := by
  show eA (Nat.mul 2 1) (fun o => oC (sub [a, b, c] o 1) fun l => oC (Hp false l) k) = _
  simp [pR, Hp]
theorem wr01 : IntKind.i64.wrap (0 + 1) = 1 := by decide
theorem wr12 : IntKind.i64.wrap (1 + 1) = 2 := by decide
theorem wr23 : IntKind.i64.wrap (2 + 1) = 3 := by decide
theorem build3 (q : IntKind) (a b c : Int) (k : AV → CRes) : BZ [.int q 0, .int q 0, .int q 0] [(0, 1, .int q a), (1, 1, .int q b), (2, 1, .int q c)] k = k (.agg [.int q a, .int q b, .int q c]) := rfl
theorem lt03 : decide ((0 : Int) < 3) = true := rfl
theorem lt13 : decide ((1 : Int) < 3) = true := rfl
theorem lt23 : decide ((2 : Int) < 3) = true := rfl
theorem lt33 : decide ((3 : Int) < 3) = false := rfl
theorem v_quotas {n : Nat} {z : CfgZ} (hn : Fits n z) {h : Heap} (hro : h.ro ≤ h.nx) {c : List AV} (hc : Cfg h z c) {p : Nat} (hp : p < z.parts.length) : Run1 (rr n (.agg c) p h) fun r h' => r = q8 z p ∧ Grow h h' := by
  unfold rr Ou OF BP IS BF Ir
  obtain ⟨m, rfl⟩ : ∃ m, n = m + 4 := ⟨n - 4, by have := hn.small; omega⟩
  have hc0 := hc
  obtain ⟨t, pp, rfl, ht, hps, S, hpt, hS⟩ := hc
  refine Run1.bind (yx ..) ?_
  rintro x h1 ⟨hb, g⟩
  simp only [aL, bg, bj, bl, cg, b8, cb, cj, bC, ck, ci, ce, cx, cz, bD, bq, bX, cd, bJ, bb, bo, aN, bu, bt, aP, aJ, be, cm, cF, bM, ba, bc, cq, cp, bL, bO, bN, bP, bw, bz, bK, List.getElem?_cons_zero, List.getElem?_cons_succ, Nat.zero_add, Nat.reduceAdd, Nat.add_zero, bS hb, ji, jv, jr, jg, jl, ju, jo, jk, jx, jf, fF, gd, fV, fZ, fC, fT, fL, f0, fK, fU, fJ, fE, fR, gb, ga, dR, de, cW, fN, fH, fY, gc, fW, fD, dP, dQ, dW, dS, cU, SlAt.eld (hpt.grow g) (show (0 : Int) ≤ (p : Int) by omega) (show (p : Int) < _ by omega), Int.toNat_natCast]
  refine Run1.bind (ahH (n := 8) (g.le hro) (by rfl) (by rfl)) ?_
  rintro y h2 ⟨hy, ho, g2⟩
  have gg := g.trans g2
  have hb2 := g2.cl hb
  simp only [aL, bg, bj, bl, cg, b8, cb, cj, bC, ck, ci, ce, cx, cz, bD, bq, bX, cd, bJ, bb, bo, aN, bu, bt, aP, aJ, be, cm, cF, bM, ba, bc, cq, cp, bL, bO, bN, bP, bw, bz, bK, List.getElem?_cons_zero, List.getElem?_cons_succ, Nat.zero_add, Nat.reduceAdd, Nat.add_zero, bS ho.cl, ji, jv, jr, jg, jl, ju, jo, jk, jx, jf, fF, gd, fV, fZ, fC, fT, fL, f0, fK, fU, fJ, fE, fR, gb, ga, dR, de, cW, fN, fH, fY, gc, fW, fD, dP, dQ, dW, dS, cU, wS]
  rw [show z.parts.getD p default = ec z p from rfl] at *
  refine RunG.ifB (fun e1 => lD ⟨by simp at e1; simp [q8, e1], gg⟩) fun e1 => RunG.ifB (fun e2 => lD ⟨by simp at e2; simp [q8, e2], gg⟩) fun e2 => RunG.ifB (fun e3 => lD ⟨by simp at e3; simp [q8, e3], gg⟩) fun e3 => ?_
  simp only [build3, aft, Bx]
  simp only [aL, bg, bj, bl, cg, b8, cb, cj, bC, ck, ci, ce, cx, cz, bD, bq, bX, cd, bJ, bb, bo, aN, bu, bt, aP, aJ, be, cm, cF, bM, ba, bc, cq, cp, bL, bO, bN, bP, bw, bz, bK, List.getElem?_cons_zero, List.getElem?_cons_succ, Nat.zero_add, Nat.reduceAdd, Nat.add_zero, idxAK_0, idxAK_1, idxAK_2, wr01, wr12, wr23, lt03, lt13, lt23, lt33, wS]
  refine RunG.ifB (fun e4 => lD ⟨by simp at e4; simp [q8, e4], gg⟩) fun e4 => RunG.ifB (fun e5 => lD ⟨by simp at e5; simp [q8, e5], gg⟩) fun e5 => RunG.ifB (fun e6 => lD ⟨by simp at e6; simp [q8, e6], gg⟩) fun e6 => ?_
  unfold wn Il
  simp only [aL, bg, bj, bl, cg, b8, cb, cj, bC, ck, ci, ce, cx, cz, bD, bq, bX, cd, bJ, bb, bo, aN, bu, bt, aP, aJ, be, cm, cF, bM, ba, bc, cq, cp, bL, bO, bN, bP, bw, bz, bK, List.getElem?_cons_zero, List.getElem?_cons_succ, Nat.zero_add, Nat.reduceAdd, Nat.add_zero, bS hb2, ji, jv, jr, jg, jl, ju, jo, jk, jx, jf, fF, gd, fV, fZ, fC, fT, fL, f0, fK, fU, fJ, fE, fR, gb, ga, dR, de, cW, fN, fH, fY, gc, fW, fD, dP, dQ, dW, dS, cU]
  have hpl := hpt.1
  obtain ⟨w, hw, hsl⟩ := (hpt.grow gg).take hps (i := ((p + 1 : Nat) : Int)) (by omega) (by omega)
  rw [jd (show p ≤ 9223372036854775806 by omega), Int.toNat_natCast] at *
  simp only [jd (show p ≤ 9223372036854775806 by omega), hsl, SlAt.len hw]
  have hlen : (z.parts.take (p + 1)).length = p + 1 := by simp; omega
  have hw' : SlAt h2 w 8 (z.parts.take (p + 1)).length fun i => CN ((z.parts.take (p + 1)).getD i default) (S i) := by
    rw [hlen]
    obtain ⟨q1, q2⟩ := hw
    refine ⟨q1, ?_⟩
    rcases q2 with q2 | ⟨b, off, ext, opn, q2, q3⟩
    · exact .inl q2
    · refine .inr ⟨b, off, ext, opn, q2, fun h0 => ?_⟩
      obtain ⟨cl, q3, q4⟩ := q3 h0
      exact ⟨cl, q3, fun j hj => by have := q4 j hj; dsimp only at this ⊢; rw [W3 (by omega)]; exact this⟩
  have key := aoD (ap := ap1) (n := m + 4) (w := w) (v2 := .ptr x 0) (v5 := .ptr y 0) (v1 := p) (ps := z.parts.take (p + 1)) (S := S) (f1 := lZ (m + 4)) (f2 := eK (m + 4)) (f3 := mX (m + 4)) (f4 := dX (m + 4))
    (Q := fun r => r.1 = q8 z p ∧ Grow h r.2) (m + 4) 0 0 h2 (gg.le hro) hw' (by omega) (by rw [hlen]; have := hn.parts; omega) (fun h3 g3 => ?_) rfl
  · rw [hlen] at key
    exact key
  rw [List.drop_zero]
  have g23 := gg.trans g3
  have ho3 := (ho.grow g3).cl
  have hb3 := g3.cl hb2
  unfold sX Ia Br IG Bj Ic
  simp only [aL, bg, bj, bl, cg, b8, cb, cj, bC, ck, ci, ce, cx, cz, bD, bq, bX, cd, bJ, bb, bo, aN, bu, bt, aP, aJ, be, cm, cF, bM, ba, bc, cq, cp, bL, bO, bN, bP, bw, bz, bK, List.getElem?_cons_zero, List.getElem?_cons_succ, Nat.zero_add, Nat.reduceAdd, Nat.add_zero, bS ho3, ji, jv, jr, jg, jl, ju, jo, jk, jx, jf, fF, gd, fV, fZ, fC, fT, fL, f0, fK, fU, fJ, fE, fR, gb, ga, dR, de, cW, fN, fH, fY, gc, fW, fD, dP, dQ, dW, dS, cU, wS]
  simp only [Bool.not_eq_false'] at e1 e2 e3 e4 e5 e6
  refine RunG.ifB (fun e7 => lD ⟨by simp at e7; simp [q8, e7], g23⟩) fun e7 => RunG.ifB (fun e8 => lD ⟨by simp at e8; simp [q8, Int.not_le.2 e8], g23⟩) fun e8 => ?_
  simp at e7 e8
  simp only [aL, bg, bj, bl, cg, b8, cb, cj, bC, ck, ci, ce, cx, cz, bD, bq, bX, cd, bJ, bb, bo, aN, bu, bt, aP, aJ, be, cm, cF, bM, ba, bc, cq, cp, bL, bO, bN, bP, bw, bz, bK, List.getElem?_cons_zero, List.getElem?_cons_succ, Nat.zero_add, Nat.reduceAdd, Nat.add_zero, bS hb3, ji, jv, jr, jg, jl, ju, jo, jk, jx, jf, fF, gd, fV, fZ, fC, fT, fL, f0, fK, fU, fJ, fE, fR, gb, ga, dR, de, cW, fN, fH, fY, gc, fW, fD, dP, dQ, dW, dS, cU]
  refine Run1.bind (Mc (m + 4) (Cfg.mk' (ht.grow g23) ⟨hps, S, hpt.grow g23, fun i hi => (hS i hi).grow g23⟩)) ?_
  rintro _ h4 ⟨rfl, g4⟩
  have g24 := g23.trans g4
  refine RunG.ifB (fun e9 => lD ⟨?_, g24⟩) fun e9 => ?_
  · simp at e9
    simp [q8, e1, e2, e3, e4, e5, e6, e7, e8, e9]
  simp at e9
  have hz := SV e9
  have ho4 := g4.cl ho3
  have hb4 := g4.cl hb3
  have hord : 0 ≤ (ec z p).order := by simp [cR] at e1; omega
  simp only [aL, bg, bj, bl, cg, b8, cb, cj, bC, ck, ci, ce, cx, cz, bD, bq, bX, cd, bJ, bb, bo, aN, bu, bt, aP, aJ, be, cm, cF, bM, ba, bc, cq, cp, bL, bO, bN, bP, bw, bz, bK, List.getElem?_cons_zero, List.getElem?_cons_succ, Nat.zero_add, Nat.reduceAdd, Nat.add_zero, bS ho4, bS hb4, ji, jv, jr, jg, jl, ju, jo, jk, jx, jf, fF, gd, fV, fZ, fC, fT, fL, f0, fK, fU, fJ, fE, fR, gb, ga, dR, de, cW, fN, fH, fY, gc, fW, fD, dP, dQ, dW, dS, cU, RD hord]
  refine Run1.bind (aej (m + 4) (Cfg.mk' (ht.grow g24) ⟨hps, S, hpt.grow g24, fun i hi => (hS i hi).grow g24⟩) hz) ?_
  rintro _ h5 ⟨rfl, g5⟩
  have g25 := g24.trans g5
  refine RunG.ifB (fun e10 => ?_) fun e10 => lD ⟨?_, g25⟩
  · simp at e10
    simp only [aL, bg, bj, bl, cg, b8, cb, cj, bC, ck, ci, ce, cx, cz, bD, bq, bX, cd, bJ, bb, bo, aN, bu, bt, aP, aJ, be, cm, cF, bM, ba, bc, cq, cp, bL, bO, bN, bP, bw, bz, bK, List.getElem?_cons_zero, List.getElem?_cons_succ, Nat.zero_add, Nat.reduceAdd, Nat.add_zero, bS (g5.cl ho4), bS (g5.cl hb4), ji, jv, jr, jg, jl, ju, jo, jk, jx, jf, fF, gd, fV, fZ, fC, fT, fL, f0, fK, fU, fJ, fE, fR, gb, ga, dR, de, cW, fN, fH, fY, gc, fW, fD, dP, dQ, dW, dS, cU]
    refine Run1.bind (apg (n := m + 4) (h := h5.shut true) hz (Cfg.shut (Cfg.mk' (ht.grow g25) ⟨hps, S, hpt.grow g25, fun i hi => (hS i hi).grow g25⟩)) hp) ?_
    rintro _ h6 ⟨rfl, g6⟩
    refine lD ⟨?_, g25.trans g6.shut⟩
    have h10 : Zo (ec z p) ≤ anm z := by unfold Zo; omega
    have h11 : q8 z p = decide (needZ (ec z p) ≤ Zk z p) := by simp [q8, e1, e2, e3, e4, e5, e6, e7, e8, e9, h10]
    show (!decide (Zk z p < needZ (ec z p))) = q8 z p
    rw [h11, Bool.eq_iff_iff]
    simp
  · simp at e10
    have h10 : ¬ Zo (ec z p) ≤ anm z := by unfold Zo; omega
    simp [q8, e1, e2, e3, e4, e5, e6, e7, e8, e9, h10]
theorem v_part {n : Nat} {z : CfgZ} (hn : Fits n z) {h : Heap} (hro : h.ro ≤ h.nx) {c : List AV} (hc : Cfg h z c) {p : Nat} (hp : p < z.parts.length) : Run1 (kY n (.agg c) p h) fun r h' => r = WC z p ∧ Grow h h' := by
  unfold kY Vv VH
  obtain ⟨t, pp, rfl, ht, hps⟩ := hc
  refine Run1.bind (yx ..) ?_
  rintro x h1 ⟨hb, g⟩
  simp only [aL, bg, bj, bl, cg, b8, cb, cj, bC, ck, ci, ce, cx, cz, bD, bq, bX, cd, bJ, bb, bo, aN, bu, bt, aP, aJ, be, cm, cF, bM, ba, bc, cq, cp, bL, bO, bN, bP, bw, bz, bK, List.getElem?_cons_zero, List.getElem?_cons_succ, Nat.zero_add, Nat.reduceAdd, Nat.add_zero, bS hb, ji, jv, jr, jg, jl, ju, jo, jk, jx, jf, fF, gd, fV, fZ, fC, fT, fL, f0, fK, fU, fJ, fE, fR, gb, ga, dR, de, cW, fN, fH, fY, gc, fW, fD, dP, dQ, dW, dS, cU]
  refine Run1.bind (apG hn (g.le hro) (Cfg.mk' (ht.grow g) (hps.grow g)) hp) ?_
  rintro _ h2 ⟨rfl, g2⟩
  have gg := g.trans g2
  refine RunG.ifB (fun e1 => ?_) fun e1 => ?_
  · simp at e1
    exact lD ⟨by simp [WC, e1], gg⟩
  · simp at e1
    simp only [aL, bg, bj, bl, cg, b8, cb, cj, bC, ck, ci, ce, cx, cz, bD, bq, bX, cd, bJ, bb, bo, aN, bu, bt, aP, aJ, be, cm, cF, bM, ba, bc, cq, cp, bL, bO, bN, bP, bw, bz, bK, List.getElem?_cons_zero, List.getElem?_cons_succ, Nat.zero_add, Nat.reduceAdd, Nat.add_zero, bS (g2.cl hb), ji, jv, jr, jg, jl, ju, jo, jk, jx, jf, fF, gd, fV, fZ, fC, fT, fL, f0, fK, fU, fJ, fE, fR, gb, ga, dR, de, cW, fN, fH, fY, gc, fW, fD, dP, dQ, dW, dS, cU]
    refine Run1.bind (v_quotas hn (gg.le hro) (Cfg.mk' (ht.grow gg) (hps.grow gg)) hp) ?_
    rintro _ h3 ⟨rfl, g3⟩
    refine RunG.ifB (fun e2 => ?_) fun e2 => ?_
    · simp at e2
      exact lD ⟨by simp [WC, e1, e2], gg.trans g3⟩
    · simp at e2
      exact lD ⟨by simp [WC, e1, e2], gg.trans g3⟩
end Go.Proofs.Ytnlbfbiogfilfaa.Sh
