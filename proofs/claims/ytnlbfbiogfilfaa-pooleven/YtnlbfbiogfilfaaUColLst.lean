/- What the functions of 'colour' compute, and those of 'slices'. -/
import Derived.Test.YtnlbfbiogfilfaaUPlan5UPlan6
import Derived.Test.YtnlbfbiogfilfaaAiInsert
set_option linter.all false
namespace Go.Proofs.Ytnlbfbiogfilfaa.Sh
open Go.Ai
@[simp] theorem Id (n : Nat) (a b c : Int) (h : Heap) (k : Bool → Heap → CRes) : gM n a b c h k = k (cR a b c) h := by
  unfold gM HN IA xx DJ
  by_cases hc : a < b
  · simp [cR, hc, show ¬ b ≤ a by omega]
  · simp [cR, hc, show b ≤ a by omega, ← Int.not_lt]
@[simp] theorem aaT (n : Nat) (a : Int) (h : Heap) (k : Bool → Heap → CRes) : mz n a h k = k (cR a 1 16) h := by
  unfold mz RI R7; simp only [aL, bg, bj, bl, cg, b8, cb, cj, bC, ck, ci, ce, cx, cz, bD, bq, bX, cd, bJ, bb, bo, aN, bu, bt, aP, aJ, be, cm, cF, bM, ba, bc, cq, cp, bL, bO, bN, bP, bw, bz, bK, List.getElem?_cons_zero, List.getElem?_cons_succ, Nat.zero_add, Nat.reduceAdd, Nat.add_zero, Id]
theorem u_Count (n : Nat) {fr co c : Int} (h1 : cR fr 1 4096 = true) (h2 : cR co 1 16 = true) (h3 : 0 ≤ c) (h4 : c < co) (h : Heap) (k : Int → Int → Heap → CRes) :
    nX n fr co c h k = k ((fr - c + co - 1) / co) 0 h := by
  unfold nX MB LK y6 Ff zL FX
  simp [cR] at h1 h2
  have e1 : IntKind.i64.wrap (co - 1) = co - 1 := qH (by omega) (by omega)
  have e2 : cR c 0 (co - 1) = true := by simp [cR]; omega
  have e3 : cR fr 1 4096 = true := by simp [cR]; omega
  have e4 : cR co 1 16 = true := by simp [cR]; omega
  have e5 : IntKind.i64.wrap (fr - c) = fr - c := qH (by omega) (by omega)
  have e6 : IntKind.i64.wrap (fr - c + co) = fr - c + co := qH (by omega) (by omega)
  have e7 : IntKind.i64.wrap (fr - c + co - 1) = fr - c + co - 1 := qH (by omega) (by omega)
  simp only [aL, bg, bj, bl, cg, b8, cb, cj, bC, ck, ci, ce, cx, cz, bD, bq, bX, cd, bJ, bb, bo, aN, bu, bt, aP, aJ, be, cm, cF, bM, ba, bc, cq, cp, bL, bO, bN, bP, bw, bz, bK, List.getElem?_cons_zero, List.getElem?_cons_succ, Nat.zero_add, Nat.reduceAdd, Nat.add_zero, Id, aaT, e1, e2, e3, e4, Bool.not_true, e5, e6, e7, akL (show co ≠ 0 by omega)]
  by_cases hp : 0 ≤ fr - c + co - 1
  · rw [Int.tdiv_eq_ediv_of_nonneg hp, qH]
    · have : 0 ≤ (fr - c + co - 1) / co := Int.ediv_nonneg hp (by omega)
      omega
    · have := Int.ediv_le_self (b := co) hp
      omega
  · omega
theorem u_Frame (n : Nat) {c i co : Int} (h2 : cR co 1 16 = true) (h3 : 0 ≤ c) (h4 : c < co) (h5 : 0 ≤ i) (h6 : i * co + c ≤ 4095) (h : Heap) (k : Int → Int → Heap → CRes) :
    nM n c i co h k = k (i * co + c) 0 h := by
  unfold nM Mm L0 zr Fr zQ Fs
  simp [cR] at h2
  have e1 : IntKind.i64.wrap (co - 1) = co - 1 := qH (by omega) (by omega)
  have e2 : cR c 0 (co - 1) = true := by simp [cR]; omega
  have e4 : cR co 1 16 = true := by simp [cR]; omega
  have e5 : IntKind.i64.wrap (4095 - c) = 4095 - c := qH (by omega) (by omega)
  have hq : i ≤ (4095 - c) / co := by rw [Int.le_ediv_iff_mul_le (by omega)]; omega
  have hq2 : (4095 - c) / co ≤ 4095 - c := Int.ediv_le_self _ (by omega)
  have e6 : IntKind.i64.wrap ((4095 - c).tdiv co) = (4095 - c) / co := by
    rw [Int.tdiv_eq_ediv_of_nonneg (by omega), qH (by omega) (by omega)]
  have e7 : cR i 0 ((4095 - c) / co) = true := by simp [cR]; omega
  have hm : 0 ≤ i * co := Int.mul_nonneg h5 (by omega)
  have e8 : IntKind.i64.wrap (i * co) = i * co := qH (by omega) (by omega)
  have e9 : IntKind.i64.wrap (i * co + c) = i * co + c := qH (by omega) (by omega)
  simp only [aL, bg, bj, bl, cg, b8, cb, cj, bC, ck, ci, ce, cx, cz, bD, bq, bX, cd, bJ, bb, bo, aN, bu, bt, aP, aJ, be, cm, cF, bM, ba, bc, cq, cp, bL, bO, bN, bP, bw, bz, bK, List.getElem?_cons_zero, List.getElem?_cons_succ, Nat.zero_add, Nat.reduceAdd, Nat.add_zero, Id, aaT, e1, e2, e4, Bool.not_true, e5, e6, e7, e8, e9, akL (show co ≠ 0 by omega)]
@[simp] theorem aoJ (n : Nat) (a b : Int) (h : Heap) (k : Bool → Heap → CRes) : mG n a b h k = k (decide (a < b)) h := by
  unfold mG HK H8 xB Dz xK C7 o0 FI FQ
  simp
@[simp] theorem agu (n : Nat) (a : Int) (h : Heap) (k : Bool → Heap → CRes) : jO n a h k = k false h := by
  unfold jO Au AI
  simp
def alr (l : List Int) (x : Int) (i : Nat) : Prop := i ≤ l.length ∧ (l.Pairwise (· < ·) → (∀ j, j < i → nz l j < x) ∧ ∀ j, i ≤ j → j < l.length → x ≤ nz l j)
theorem aoP {l : List Int} (hs : l.Pairwise (· < ·)) {i j : Nat} (h : i ≤ j) (hj : j < l.length) : nz l i ≤ nz l j := by
  rw [vu hj, vu (by omega)]
  by_cases e : i = j
  · subst e; exact Int.le_refl _
  · exact Int.le_of_lt (List.pairwise_iff_getElem.1 hs i j (by omega) hj (by omega))
theorem v_BS_2 {n : Nat} {h : Heap} {v : AV} {l : List Int} {x : Int} (hv : Ints h .i64 v l) (hs : l.length ≤ 1099511627776) : ∀ (m lo hi : Nat), lo ≤ hi → hi ≤ l.length → hi - lo < m →
    (l.Pairwise (· < ·) → (∀ j, j < lo → nz l j < x) ∧ ∀ j, hi ≤ j → j < l.length → x ≤ nz l j) →
    Run2 (fun k => eQ n (mG n) (jO n) k m v x l.length lo hi h) fun r b h' => h' = h ∧ ∃ i : Nat, r = i ∧ alr l x i ∧ b = decide (i < l.length ∧ nz l i = x) := by
  intro m
  induction m with
  | zero => omega
  | succ m ih =>
    intro lo hi h1 h2 h3 hinv
    simp only [Ca]
    unfold kp iU mT kx mP
    refine RunG.ifB (fun e => ?_) fun e => ?_
    · simp at e
      have e1 : IntKind.i64.wrap ((lo : Int) + hi) = ((lo + hi : Nat) : Int) := by rw [qH (by omega) (by omega)]; omega
      have e2 : IntKind.u64.wrap (((lo + hi : Nat) : Int)) = ((lo + hi : Nat) : Int) := wrap_u (by omega) (by omega)
      have e3 : ∀ c, shrK .u64 (((lo + hi : Nat) : Int)) 1 c = c (((lo + hi) / 2 : Nat) : Int) := by
        intro c
        show Y7 ((1 : Nat) : Int) (fun n => qg (shrF .u64 _ n) c) = _
        rw [cd, bg]
        rfl
      have e4 : IntKind.i64.wrap ((((lo + hi) / 2 : Nat) : Int)) = (((lo + hi) / 2 : Nat) : Int) := qH (by omega) (by omega)
      have hm : (lo + hi) / 2 < l.length := by omega
      simp only [aL, bg, bj, bl, cg, b8, cb, cj, bC, ck, ci, ce, cx, cz, bD, bq, bX, cd, bJ, bb, bo, aN, bu, bt, aP, aJ, be, cm, cF, bM, ba, bc, cq, cp, bL, bO, bN, bP, bw, bz, bK, List.getElem?_cons_zero, List.getElem?_cons_succ, Nat.zero_add, Nat.reduceAdd, Nat.add_zero, e1, e2, e3, e4, hv.elN hm, aoJ, jd (show (lo + hi) / 2 ≤ 9223372036854775806 by omega)]
      refine RunG.ifB (fun e5 => ?_) fun e5 => ?_
      · simp at e5
        refine ih _ _ (by omega) h2 (by omega) fun hp => ⟨fun j hj => ?_, (hinv hp).2⟩
        exact Int.lt_of_le_of_lt (aoP hp (show j ≤ (lo + hi) / 2 by omega) hm) e5
      · simp at e5
        refine ih _ _ (by omega) (by omega) (by omega) fun hp => ⟨(hinv hp).1, fun j hj hj' => ?_⟩
        exact Int.le_trans e5 (aoP hp hj hj')
    · simp at e
      have : lo = hi := by omega
      subst this
      refine RunG.ifB (fun e1 => ?_) fun e1 => ?_
      · simp at e1
        simp only [aL, bg, bj, bl, cg, b8, cb, cj, bC, ck, ci, ce, cx, cz, bD, bq, bX, cd, bJ, bb, bo, aN, bu, bt, aP, aJ, be, cm, cF, bM, ba, bc, cq, cp, bL, bO, bN, bP, bw, bz, bK, List.getElem?_cons_zero, List.getElem?_cons_succ, Nat.zero_add, Nat.reduceAdd, Nat.add_zero, hv.elN e1, agu]
        refine RunG.ifB (fun e2 => ?_) fun e2 => ?_
        · simp at e2
          exact OJ ⟨rfl, lo, rfl, ⟨h2, hinv⟩, by simp [e1, e2]⟩
        · simp at e2
          exact OJ ⟨rfl, lo, rfl, ⟨h2, hinv⟩, by simp [e2]⟩
      · simp at e1
        exact OJ ⟨rfl, lo, rfl, ⟨h2, hinv⟩, by simp; omega⟩
theorem v_BS {n : Nat} {h : Heap} {v : AV} {l : List Int} (hv : Ints h .i64 v l) (hs : l.length ≤ 1099511627776) (hn : l.length < n) (x : Int) : Run2 (eE n v x h) fun r b h' => h' = h ∧ ∃ i : Nat, r = i ∧ alr l x i ∧ b = decide (i < l.length ∧ nz l i = x) := by
  unfold eE n0 oi
  simp only [hv.len]
  exact v_BS_2 hv hs n 0 l.length (by omega) (by omega) (by omega) fun hp => ⟨fun j hj => by omega, fun j hj hj' => by omega⟩
end Go.Proofs.Ytnlbfbiogfilfaa.Sh
/- Rows of numbers in memory of their own, that are appended to, inserted into and cut out of; maps of numbers. -/
namespace Go.Ai
def l8 (l : List Int) : List AV := l.map (.int .i64)
theorem m7 (l : List Int) : (l8 l).length = l.length := by simp [l8]
def Lst (h : Heap) (v : AV) (l : List Int) : Prop := (v = .nilslice ∧ l = []) ∨ ∃ b ext rest, v = .slice b 0 l.length ext true ∧ Own h b (l8 l ++ rest) 1 ∧ rest.length = ext ∧ 0 < l.length + ext ∧ l.length + ext ≤ 1048576
theorem Lst.nil {h : Heap} : Lst h .nilslice [] := .inl ⟨rfl, rfl⟩
theorem Lst.small {h : Heap} {v : AV} {l : List Int} (s : Lst h v l) : l.length ≤ 1048576 := by
  rcases s with ⟨_, rfl⟩ | ⟨b, ext, rest, _, _, _, _, h1⟩
  · simp
  · omega
theorem Lst.chg {F : Nat → Prop} {h h' : Heap} {v : AV} {l : List Int} (a : Lst h v l) (c : Chg F h h') (hf : ∀ b, v.blk = some b → ¬ F b) : Lst h' v l := by
  rcases a with a | ⟨b, ext, rest, rfl, o, h1⟩
  · exact .inl a
  · exact .inr ⟨b, ext, rest, rfl, c.own o (hf b rfl), h1⟩
theorem Lst.grow {h h' : Heap} {v : AV} {l : List Int} (a : Lst h v l) (g : Grow h h') : Lst h' v l := a.chg (g.chg fun _ => False) fun _ _ h => h
theorem Lst.lt {h : Heap} {v : AV} {l : List Int} (a : Lst h v l) {b : Nat} (hb : v.blk = some b) : b < h.nx ∧ h.ro ≤ b := by
  rcases a with ⟨rfl, _⟩ | ⟨c, ext, rest, rfl, o, _⟩
  · cases hb
  · cases hb; exact ⟨o.lt, o.ro⟩
theorem Lst.ints {h : Heap} {v : AV} {l : List Int} (a : Lst h v l) : Ints h .i64 v l := by
  refine ⟨by have := a.small; omega, ?_⟩
  rcases a with ⟨rfl, rfl⟩ | ⟨b, ext, rest, rfl, o, h1, h2, h3⟩
  · exact .inl ⟨rfl, rfl⟩
  · refine .inr ⟨b, 0, ext, true, rfl, fun _ => ⟨_, o.cl, fun i hi => ⟨by simp [l8]; omega, ?_⟩⟩⟩
    simp only [Nat.zero_add, Nat.mul_one]
    rw [List.drop_append_of_le_length (by simp [l8]; omega)]
    rw [List.drop_eq_getElem_cons (by simp [l8]; omega)]
    simp [l8, vu hi]
theorem Lst.len {h : Heap} {v : AV} {l : List Int} (a : Lst h v l) (k : Int → CRes) : iP v k = k l.length := a.ints.len k
theorem Lst.of_app {h : Heap} {v : AV} {l : List Int} (a : App h v 1 l.length (l8 l)) (hm : l.length ≤ 1048576) : Lst h v l := by
  rcases a with ⟨rfl, h1, _⟩ | ⟨b, rfl, o, h1, h2⟩
  · exact .inl ⟨rfl, List.eq_nil_of_length_eq_zero h1⟩
  · exact .inr ⟨b, 0, [], rfl, by simpa using o, rfl, by omega, by omega⟩
theorem apH {l : List Int} {rest : List AV} {i : Nat} (hi : i < l.length) :
    (sF (l8 (l.drop (i + 1))) (l8 l ++ rest) i).set (l.length - 1) (.int .i64 0) = l8 (l.eraseIdx i) ++ (.int .i64 0 :: rest) := by
  apply List.ext_getElem?
  intro j
  have hlen : (l8 l ++ rest).length = l.length + rest.length := by simp [l8]
  have hle : (l.eraseIdx i).length = l.length - 1 := List.length_eraseIdx_of_lt hi
  have hov := anp (l8 (l.drop (i + 1))) (l8 l ++ rest) i j (by simp [l8]; omega)
  rw [List.getElem?_set, Ns, hov, hlen, List.getElem?_append (l₁ := l8 (l.eraseIdx i))]
  simp only [m7, hle, List.length_drop]
  by_cases h1 : j < l.length - 1
  · rw [if_neg (by omega), if_pos h1]
    by_cases h2 : i ≤ j
    · rw [if_pos (by omega)]
      simp only [l8, List.getElem?_map, List.getElem?_drop]
      rw [List.getElem?_eraseIdx, if_neg (by omega)]
      congr 2; omega
    · rw [if_neg (by omega), List.getElem?_append, if_pos (by rw [m7]; omega)]
      simp only [l8, List.getElem?_map]
      rw [List.getElem?_eraseIdx, if_pos (by omega)]
  · rw [if_neg h1]
    by_cases h2 : l.length - 1 = j
    · rw [if_pos h2, if_pos (by omega)]
      rw [show j - (l.length - 1) = 0 by omega]; rfl
    · rw [if_neg h2, if_neg (by omega), List.getElem?_append, if_neg (by rw [m7]; omega), m7]
      rw [show j - (l.length - 1) = (j - l.length) + 1 by omega, List.getElem?_cons_succ]
theorem slV_lo0 {b len ext i : Nat} (hi : i ≤ len) (h0 : 0 < len + ext) : slV (.sl 1) (.slice b 0 len ext true) none (some (.int .i64 (i : Int))) none = some (.slice b 0 i (len + ext - i) true) := by
  have e1 : D3 (some (.int .i64 (i : Int))) len (len + ext) = some i := by
    show Bool.casesOn (motive := fun _ => Option Nat) (Nat.ble i (len + ext)) none (some i) = _
    rw [Nat.ble_eq_true_of_le (by omega)]
  simp only [slV]
  have e0 : D3 none (len + ext) (len + ext) = some (len + ext) := rfl
  have e2 : D3 none 0 i = some 0 := rfl
  rw [e0]; dsimp only; rw [e1]; dsimp only; rw [e2]; dsimp only
  rw [if_pos trivial, if_neg (by omega)]; simp
theorem slV_hi {b len ext i : Nat} (hi : i ≤ len) : slV (.sl 1) (.slice b 0 len ext true) (some (.int .i64 (i : Int))) none none = some (if len + ext = i then .send b 0 i else .slice b i (len - i) ext true) := by
  have e1 : D3 (some (.int .i64 (i : Int))) 0 len = some i := by
    show Bool.casesOn (motive := fun _ => Option Nat) (Nat.ble i len) none (some i) = _
    rw [Nat.ble_eq_true_of_le (by omega)]
  simp only [slV]
  have e0 : D3 none (len + ext) (len + ext) = some (len + ext) := rfl
  have e2 : D3 none len (len + ext) = some len := rfl
  rw [e0]; dsimp only; rw [e2]; dsimp only; rw [e1]; dsimp only
  rw [if_pos trivial]
  split <;> simp
theorem slV_mid {b len ext i j : Nat} (hi : i ≤ j) (hj : j ≤ len + ext) (hn : i < len + ext) : slV (.sl 1) (.slice b 0 len ext true) (some (.int .i64 (i : Int))) (some (.int .i64 (j : Int))) none = some (.slice b i (j - i) (len + ext - j) true) := by
  have e1 : D3 (some (.int .i64 (i : Int))) 0 j = some i := by
    show Bool.casesOn (motive := fun _ => Option Nat) (Nat.ble i j) none (some i) = _
    rw [Nat.ble_eq_true_of_le (by omega)]
  have e2 : D3 (some (.int .i64 (j : Int))) len (len + ext) = some j := by
    show Bool.casesOn (motive := fun _ => Option Nat) (Nat.ble j (len + ext)) none (some j) = _
    rw [Nat.ble_eq_true_of_le (by omega)]
  simp only [slV]
  have e0 : D3 none (len + ext) (len + ext) = some (len + ext) := rfl
  rw [e0]; dsimp only; rw [e2]; dsimp only; rw [e1]; dsimp only
  rw [if_pos trivial, if_neg (by omega)]; simp
theorem slV_chk {b len ext i j : Nat} (hi : i ≤ j) (hj : j ≤ len) : ∃ r, slV (.sl 1) (.slice b 0 len ext true) (some (.int .i64 (i : Int))) (some (.int .i64 (j : Int))) (some (.int .i64 (len : Int))) = some r := by
  have e1 : D3 (some (.int .i64 (i : Int))) 0 j = some i := by
    show Bool.casesOn (motive := fun _ => Option Nat) (Nat.ble i j) none (some i) = _
    rw [Nat.ble_eq_true_of_le (by omega)]
  have e2 : D3 (some (.int .i64 (j : Int))) len len = some j := by
    show Bool.casesOn (motive := fun _ => Option Nat) (Nat.ble j len) none (some j) = _
    rw [Nat.ble_eq_true_of_le (by omega)]
  have e0 : D3 (some (.int .i64 (len : Int))) (len + ext) (len + ext) = some len := by
    show Bool.casesOn (motive := fun _ => Option Nat) (Nat.ble len (len + ext)) none (some len) = _
    rw [Nat.ble_eq_true_of_le (by omega)]
  simp only [slV]
  rw [e0]; dsimp only; rw [e2]; dsimp only; rw [e1]; dsimp only
  exact ⟨_, rfl⟩
theorem alB {sk : SlK} {v r : AV} {lo hi mx : Option AV} (h : slV sk v lo hi mx = some r) (c : AV → CRes) : slK sk v lo hi mx c = c r := by unfold slK; rw [h, bX, bj]
theorem aia {h : Heap} (hro : h.ro ≤ h.nx) {len : Nat} {z l : List AV} {parts : List (Nat × Nat × AV)} (hf : ∀ k, aao parts z k = k l) : Run1 (sf h len z parts) fun v h' => v = .slice h.nx 0 len 0 false ∧ Own h' h.nx l 0 ∧ Grow h h' := by
  refine ⟨(.slice h.nx 0 len 0 false, h.add (.cells l true 0)), ⟨rfl, ⟨by simp, by simpa using hro, by rw [Heap.get_add, if_pos rfl]⟩, Grow.add⟩, fun k => ?_⟩
  unfold sf
  rw [hf, Bu]; rfl
def Y4 (l : List Int) (i : Nat) (x : Int) : List Int := l.take i ++ x :: l.drop i
theorem r_insert {h : Heap} (hro : h.ro ≤ h.nx) {v : AV} {l : List Int} (hl : Lst h v l) {i vb : Nat} (hi : i ≤ l.length) {x : Int} (hb : Own h vb [.int .i64 x] 0) (hm : l.length + 1 ≤ 1048576) :
    Run1 (JB y9 [v, .int .i64 (i : Int), .slice vb 0 1 0 false] h) fun v' h' => Lst h' v' (Y4 l i x) ∧ v'.blk = some h.nx ∧ Chg (fun c => v.blk = some c) h h' := by
  have hlen : (Y4 l i x).length = l.length + 1 := by simp [Y4]; omega
  have run : ∀ {v' : AV} {h' : Heap}, Gq [v, .int .i64 (i : Int), .slice vb 0 1 0 false] h = some (v', h') → ∀ k, JB y9 [v, .int .i64 (i : Int), .slice vb 0 1 0 false] h k = k v' h' := by
    intro v' h' e k
    unfold JB y9
    rw [e]
  have hs : sub ([AV.int .i64 x]) 0 1 = some [.int .i64 x] := by rw [pR]; rfl
  rcases hl with ⟨rfl, rfl⟩ | ⟨b, ext, rest, rfl, ow, hr, h0, hm'⟩
  · have i0 : i = 0 := by simpa using hi
    subst i0
    refine ⟨(.slice h.nx 0 1 0 true, h.add (.cells [.int .i64 x] true 1)), ⟨.inr ⟨h.nx, 0, [], rfl, ⟨by simp, by simpa using hro, by rw [Heap.get_add, if_pos rfl]; rfl⟩, rfl, by simp [Y4], by simp [Y4]⟩, rfl, (Grow.add).chg _⟩, run ?_⟩
    simp only [Gq]
    rw [pH, hb.get]
    dsimp only
    rw [hs]
    dsimp only
    rw [show Nat.beq 1 0 = false from rfl]
    dsimp only
    rw [show (Nat.beq 0 0 && Nat.ble 1 zH) = true from rfl]
    dsimp only
    rw [Heap.newK_eq]
  · refine ⟨(.slice h.nx 0 (l.length + 1) 0 true, (h.set b .dead).add (.cells (l8 (Y4 l i x)) true 1)), ⟨.inr ⟨h.nx, 0, [], by rw [hlen], ⟨by simp, by simpa using hro, ?_⟩, rfl, by omega, by omega⟩, rfl, ⟨by simp, by simp, fun c hc hf => ?_⟩⟩, run ?_⟩
    · show ((h.set b .dead).add _).get h.nx = _
      rw [Heap.get_add, if_pos (by simp)]; simp
    · have hf' : b ≠ c := fun e => hf (by rw [e]; rfl)
      show ((h.set b .dead).add _).get c = _
      rw [Heap.get_add, if_neg (by simp; omega), Heap.get_set_other _ hf']
    · have hvb : vb ≠ b := by
        rintro rfl
        have := hb.get.symm.trans ow.get
        simp at this
      have hall : (l8 l ++ rest).length = l.length + ext := by simp [l8, hr]
      simp only [Gq]
      rw [pH, hb.get]
      dsimp only
      rw [hs]
      dsimp only
      rw [show Nat.beq 1 0 = false from rfl]
      dsimp only
      rw [Wz ow]
      have c1 : (Nat.beq 1 1 && Nat.ble (0 + (l.length + ext)) (lF (l8 l ++ rest)) && Nat.ble i l.length && Nat.ble (l.length + 1) zH && !Nat.beq vb b) = true := by
        rw [iA, hall]
        have : Nat.beq vb b = false := by cases hq : Nat.beq vb b with
          | false => rfl
          | true => exact (hvb (Nat.eq_of_beq_eq_true hq)).elim
        rw [this]
        simp only [Bool.and_eq_true]
        exact ⟨⟨⟨⟨rfl, Nat.ble_eq_true_of_le (by omega)⟩, Nat.ble_eq_true_of_le hi⟩, Nat.ble_eq_true_of_le (by unfold zH; omega)⟩, rfl⟩
      rw [c1]
      dsimp only
      have c2 : sub (l8 l ++ rest) 0 l.length = some (l8 l) := by
        rw [pR, List.drop_zero, if_pos (by omega), List.take_append_of_le_length (by rw [m7]; omega), List.take_of_length_le (by rw [m7]; omega)]
      rw [c2]
      dsimp only
      rw [WE, if_pos (by rw [m7]; exact hi), Heap.setK_eq, gS, gS, Heap.newK_eq, Z0]
      have : (l8 l).take i ++ ([AV.int .i64 x] ++ (l8 l).drop i) = l8 (Y4 l i x) := by simp [l8, Y4, List.map_take, List.map_drop]
      rw [this]
      simp
structure MapI (h : Heap) (b : Nat) (q : IntKind) (kv : List (Int × Int)) : Prop where
  lt : b < h.nx
  ro : h.ro ≤ b
  get : h.get b = some (.mp (kv.map fun e => (.int .i64 e.1, .int q e.2)))
theorem MapI.chg {F : Nat → Prop} {h h' : Heap} {b : Nat} {q : IntKind} {kv : List (Int × Int)} (a : MapI h b q kv) (c : Chg F h h') (hf : ¬ F b) : MapI h' b q kv :=
  ⟨Nat.lt_of_lt_of_le a.lt c.nx, by rw [c.ro]; exact a.ro, (c.old b a.lt hf).trans a.get⟩
theorem MapI.ne {h : Heap} {b c : Nat} {q : IntKind} {kv : List (Int × Int)} {l : List AV} {g : Nat} (a : MapI h b q kv) (o : Own h c l g) : b ≠ c := by
  rintro rfl
  have := a.get.symm.trans o.get
  cases this
def afl (k x : Int) : List (Int × Int) → List (Int × Int)
  | [] => [(k, x)]
  | e :: t => if k = e.1 then (k, x) :: t else e :: afl k x t
theorem apx (q : IntKind) (k x : Int) : ∀ kv : List (Int × Int), putF (.cell .int) (.int .i64 k) (.int q x) (kv.map fun e => (AV.int .i64 e.1, AV.int q e.2)) = some ((afl k x kv).map fun e => (AV.int .i64 e.1, AV.int q e.2)) := by
  intro kv
  induction kv with
  | nil => rfl
  | cons e t ih =>
    show (Option.casesOn (qv (.cell .int) (.int .i64 k) (.int .i64 e.1)) none fun b => Bool.casesOn b (Option.casesOn (putF (.cell .int) (.int .i64 k) (.int q x) (t.map fun e => (AV.int .i64 e.1, AV.int q e.2))) none fun t' => some ((AV.int .i64 e.1, AV.int q e.2) :: t')) (some ((.int .i64 k, .int q x) :: t.map fun e => (AV.int .i64 e.1, AV.int q e.2))) : Option _) = _
    have hk : qv (.cell .int) (.int .i64 k) (.int .i64 e.1) = some (k == e.1) := by
      show some (eqF k e.1) = _
      rw [cz]
    rw [hk, ih]
    dsimp only
    by_cases h : k = e.1
    · have : (k == e.1) = true := by simp [h]
      rw [this]
      simp [afl, h]
    · have : (k == e.1) = false := by simp [h]
      rw [this]
      simp [afl, h]
theorem amy {h : Heap} {b : Nat} {q : IntKind} {kv : List (Int × Int)} (a : MapI h b q kv) (k x : Int) :
    Run0 (abm h (.cell .int) (.map b) (.int .i64 k) (.int q x)) fun h' => MapI h' b q (afl k x kv) ∧ Chg (· = b) h h' := by
  refine ⟨h.set b (.mp ((afl k x kv).map fun e => (AV.int .i64 e.1, AV.int q e.2))), ⟨⟨by simpa using a.lt, by simpa using a.ro, Heap.get_set_same ..⟩, ⟨by simp, by simp, fun c _ hc => Heap.get_set_other _ (fun e => hc e.symm) _⟩⟩, fun c => ?_⟩
  unfold abm
  rw [bt]
  have h1 : Nat.blt b h.ro = false := by rw [blt_eq]; simp; exact a.ro
  rw [h1, bq]
  have h2 : I3 h b = some (kv.map fun e => (AV.int .i64 e.1, AV.int q e.2)) := by unfold I3; rw [a.get]
  have h3 : qv (.cell .int) (.int .i64 k) (.int .i64 k) = some true := by
    show some (eqF k k) = _
    rw [cz]; simp
  rw [h2, bX, h3, bX, apx, bX, RN]; rfl
structure BudZ where
  n : Int
  free : Nat → List Int
  taken : List (Int × Int)
def upd {α : Type} (f : Nat → α) (k : Nat) (x : α) : Nat → α := fun j => if j = k then x else f j
theorem iw {α : Type} (f : Nat → α) (k : Nat) (x : α) : upd f k x k = x := by simp [upd]
theorem gU {α : Type} (f : Nat → α) {k j : Nat} (x : α) (h : j ≠ k) : upd f k x j = f j := by simp [upd, h]
def XC (n : Int) (v : Nat → AV) (m : Nat) : List AV := [.bool true, .int .i64 n, v 0, v 1, v 2, v 3, v 4, v 5, v 6, .map m]
theorem af6 (n : Int) (v : Nat → AV) (m : Nat) {k : Nat} (hk : k < 7) : (XC n v m)[2 + k]? = some (v k) := by
  match k, hk with
  | 0, _ => rfl | 1, _ => rfl | 2, _ => rfl | 3, _ => rfl | 4, _ => rfl | 5, _ => rfl | 6, _ => rfl
theorem bud_set (n : Int) (v : Nat → AV) (m : Nat) (x : AV) {k : Nat} (hk : k < 7) : (XC n v m).set (2 + k) x = XC n (upd v k x) m := by
  match k, hk with
  | 0, _ => rfl | 1, _ => rfl | 2, _ => rfl | 3, _ => rfl | 4, _ => rfl | 5, _ => rfl | 6, _ => rfl
theorem bud_sub (n : Int) (v : Nat → AV) (m : Nat) : sub (XC n v m) 2 7 = some [v 0, v 1, v 2, v 3, v 4, v 5, v 6] := by rw [pR]; rfl
theorem bud_0 (n : Int) (v : Nat → AV) (m : Nat) : (XC n v m)[0]? = some (.bool true) := rfl
theorem bud_9 (n : Int) (v : Nat → AV) (m : Nat) : (XC n v m)[9]? = some (.map m) := rfl
structure BudIn (h : Heap) (p m : Nat) (v : Nat → AV) (s : BudZ) : Prop where
  own : Own h p (XC s.n v m) 0
  map : MapI h m .i64 s.taken
  lst : ∀ k, k < 7 → Lst h (v k) (s.free k)
  dis : ∀ j k, j < 7 → k < 7 → j ≠ k → ∀ c, (v j).blk = some c → (v k).blk ≠ some c
def fpB (p m : Nat) (v : Nat → AV) (c : Nat) : Prop := c = p ∨ c = m ∨ ∃ k, k < 7 ∧ (v k).blk = some c
theorem Lst.ne {h : Heap} {v : AV} {l : List Int} (s : Lst h v l) {p : Nat} {cs : List AV} (o : Own h p cs 0) {b : Nat} (hb : v.blk = some b) : b ≠ p := by
  rintro rfl
  rcases s with ⟨rfl, _⟩ | ⟨c, ext, rest, rfl, ow, _⟩
  · cases hb
  · cases hb
    have := o.get.symm.trans ow.get
    simp at this
theorem Lst.neM {h : Heap} {v : AV} {l : List Int} (s : Lst h v l) {m : Nat} {q : IntKind} {kv : List (Int × Int)} (o : MapI h m q kv) {b : Nat} (hb : v.blk = some b) : b ≠ m := by
  rintro rfl
  rcases s with ⟨rfl, _⟩ | ⟨c, ext, rest, rfl, ow, _⟩
  · cases hb
  · cases hb
    exact o.ne ow rfl
theorem BudIn.lt {h : Heap} {p m : Nat} {v : Nat → AV} {s : BudZ} (b : BudIn h p m v s) {c : Nat} (hc : fpB p m v c) : c < h.nx := by
  rcases hc with rfl | rfl | ⟨k, hk, e⟩
  · exact b.own.lt
  · exact b.map.lt
  · exact ((b.lst k hk).lt e).1
theorem BudIn.chg {F : Nat → Prop} {h h' : Heap} {p m : Nat} {v : Nat → AV} {s : BudZ} (b : BudIn h p m v s) (c : Chg F h h') (hf : ∀ c, fpB p m v c → ¬ F c) : BudIn h' p m v s :=
  ⟨c.own b.own (hf p (.inl rfl)), b.map.chg c (hf m (.inr (.inl rfl))), fun k hk => (b.lst k hk).chg c fun c' e => hf c' (.inr (.inr ⟨k, hk, e⟩)), b.dis⟩
theorem BudIn.grow {h h' : Heap} {p m : Nat} {v : Nat → AV} {s : BudZ} (b : BudIn h p m v s) (g : Grow h h') : BudIn h' p m v s := b.chg (g.chg fun _ => False) fun _ _ h => h
theorem BudIn.row {h h' h'' : Heap} {p m : Nat} {v : Nat → AV} {s : BudZ} (b : BudIn h p m v s) {k : Nat} (hk : k < 7) {x : AV} {l : List Int}
    (c : Chg (fun c => (v k).blk = some c) h h') (hx : Lst h' x l) (hb : ∀ c, x.blk = some c → (v k).blk = some c ∨ h.nx ≤ c) (hp : Put h' p ((XC s.n v m).set (2 + k) x) 0 h'') :
    BudIn h'' p m (upd v k x) { s with free := upd s.free k l } ∧ Chg (fpB p m v) h h'' := by
  have hpk : ∀ c, (v k).blk = some c → c ≠ p := fun c e => (b.lst k hk).ne b.own e
  have hmk : ∀ c, (v k).blk = some c → c ≠ m := fun c e => (b.lst k hk).neM b.map e
  have hmp : m ≠ p := b.map.ne b.own
  have hm' : MapI h' m .i64 s.taken := b.map.chg c fun e => hmk m e rfl
  refine ⟨⟨?_, hm'.chg hp.chg hmp, fun j hj => ?_, fun i j hi hj hij d e => ?_⟩, (c.mono fun d _ e => .inr (.inr ⟨k, hk, e⟩)).trans (hp.chg.mono fun d _ e => .inl e)⟩
  · have := hp.own
    rw [bud_set _ _ _ _ hk] at this
    exact this
  · by_cases e : j = k
    · subst e
      show Lst h'' (upd v j x j) (upd s.free j l j)
      rw [iw, iw]
      refine hx.chg hp.chg fun d e1 e2 => ?_
      rcases hb d e1 with e3 | e3
      · exact hpk d e3 e2
      · have := b.own.lt; omega
    · show Lst h'' (upd v k x j) (upd s.free k l j)
      rw [gU _ _ e, gU _ _ e]
      exact ((b.lst j hj).chg c fun d e1 e2 => b.dis j k hj hk e d e1 e2).chg hp.chg fun d e1 e2 => (b.lst j hj).ne b.own e1 e2
  · by_cases ei : i = k
    · subst ei
      rw [iw] at e
      rw [gU _ _ (fun e => hij e.symm)]
      rcases hb d e with e3 | e3
      · exact b.dis i j hi hj hij d e3
      · intro e4
        have := ((b.lst j hj).lt e4).1
        omega
    · rw [gU _ _ ei] at e
      by_cases ej : j = k
      · subst ej
        rw [iw]
        intro e4
        rcases hb d e4 with e3 | e3
        · exact b.dis i j hi hj hij d e e3
        · have := ((b.lst i hi).lt e).1
          omega
      · rw [gU _ _ ej]
        exact b.dis i j hi hj hij d e
theorem ZV {n p o k : Nat} (hk : k < n) (c : AV → CRes) : R0 1 n (.ptr p o) (k : Int) c = c (.ptr p (o + k)) := by
  unfold R0
  rw [bo, cd]
  have h1 : Nat.blt k n = true := by rw [blt_eq]; simpa using hk
  rw [h1, bD, aL]
  simp
theorem ad6 {h : Heap} (hro : h.ro ≤ h.nx) {v : AV} {l : List Int} (hl : Lst h v l) {vb : Nat} {x : Int} (hb : h.cl vb [.int .i64 x]) (hm : l.length + 1 ≤ 1048576) {e : Nat} {o : Bool} :
    Run1 (sw h 1 v (.slice vb 0 1 e o)) fun v' h' => Lst h' v' (l ++ [x]) ∧ (∀ c, v'.blk = some c → v.blk = some c ∨ h.nx ≤ c) ∧ Chg (fun c => v.blk = some c) h h' := by
  have hs : sub ([AV.int .i64 x]) 0 (1 * 1) = some [.int .i64 x] := by rw [pR]; rfl
  have fin : App h v 1 l.length (l8 l) → Run1 (sw h 1 v (.slice vb 0 1 e o)) fun v' h' => Lst h' v' (l ++ [x]) ∧ (∀ c, v'.blk = some c → v.blk = some c ∨ h.nx ≤ c) ∧ Chg (fun c => v.blk = some c) h h' := by
    intro ha
    refine (ahC hro ha (by omega) hb hs hm).mono fun v' h' ⟨h1, h2, h3⟩ => ⟨?_, fun c hc => .inr (by rw [h2] at hc; cases hc; exact Nat.le_refl _), h3⟩
    refine Lst.of_app ?_ (by simpa using hm)
    have e1 : l8 (l ++ [x]) = l8 l ++ [.int .i64 x] := by simp [l8]
    rw [e1]
    simpa using h1
  rcases hl with ⟨rfl, rfl⟩ | ⟨b, ext, rest, rfl, ow, hr, h0, hm'⟩
  · exact fin .nil
  · by_cases h1 : ext = 0
    · subst h1
      have : rest = [] := List.eq_nil_of_length_eq_zero hr
      subst this
      exact fin (.inr ⟨b, rfl, by simpa using ow, by simp [l8], by omega⟩)
    · obtain ⟨r0, rest, rfl⟩ : ∃ r0 t, rest = r0 :: t := by
        cases rest with
        | nil => simp at hr; omega
        | cons a t => exact ⟨a, t, rfl⟩
      have hall : (l8 l ++ r0 :: rest).length = l.length + ext := by simp [l8, ← hr]
      have p := aau ow (l8 (l ++ [x]) ++ rest)
      have hset : (l8 l ++ r0 :: rest).set l.length (.int .i64 x) = l8 (l ++ [x]) ++ rest := by
        rw [List.set_append, if_neg (by rw [m7]; omega), m7, Nat.sub_self]
        simp [l8]
      refine ⟨(.slice b 0 (l.length + 1) (ext - 1) true, h.set b (.cells (l8 (l ++ [x]) ++ rest) true 1)), ⟨.inr ⟨b, ext - 1, rest, by simp, p.own, by simp at hr; omega, by simp only [List.length_append, List.length_singleton]; omega, by simp only [List.length_append, List.length_singleton]; omega⟩, fun c hc => .inl hc, p.chg.mono fun c _ e => by rw [e]; rfl⟩, fun k => ?_⟩
      unfold sw
      have : ny h 1 (.slice b 0 l.length ext true) (.slice vb 0 1 e o) = some (.slice b 0 (l.length + 1) (ext - 1) true, h.set b (.cells (l8 (l ++ [x]) ++ rest) true 1)) := by
        simp only [ny, Uo]
        rw [if_neg (by omega), if_pos (by omega)]
        have hsh : BW h 1 1 (.slice vb 0 1 e o) = some [.int .i64 x] := by
          show (Option.casesOn (nN h vb) none fun l => sub l 0 (1 * 1) : Option (List AV)) = _
          rw [Zp hb]; exact hs
        rw [hsh]
        dsimp only
        rw [Wz ow]
        have h3 : Nat.ble (0 + (l.length + 1) * 1) (lF (l8 l ++ r0 :: rest)) = true := by rw [iA, hall]; exact Nat.ble_eq_true_of_le (by omega)
        rw [h3]
        dsimp only
        rw [nU, Heap.setK_eq, Nat.zero_add, Nat.mul_one]
        show some (_, h.set b (.cells ((l8 l ++ r0 :: rest).set l.length (.int .i64 x)) true 1)) = _
        rw [hset]
      rw [this, E6, bj, bl]; rfl
end Go.Ai
