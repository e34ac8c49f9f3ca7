/- What the functions of 'colour' compute, and those of 'slices'. -/
import Derived.Test.YtnlbfbiogfilfaaGreatZUPlan5ZUPlan6
import Derived.Test.YtnlbfbiogfilfaaGreatAiInsert
set_option linter.all false
namespace Go.Proofs.YtnlbfbiogfilfaaGreat.Sh
open Go.Ai
@[simp] theorem Md (n : Nat) (a b c : Int) (h : Heap) (k : Bool → Heap → CRes) : js n a b c h k = k (db a b c) h := by
  unfold js LB Lv FC FE
  by_cases hc : a < b
  · simp [db, hc, show ¬ b ≤ a by omega]
  · simp [db, hc, show b ≤ a by omega, ← Int.not_lt]
@[simp] theorem afq (n : Nat) (a : Int) (h : Heap) (k : Bool → Heap → CRes) : q8 n a h k = k (db a 1 16) h := by
  unfold q8 VE Vw; simp only [aQ, aY, ba, bc, ca, b7, b9, ce, bH, ci, cb, cd, cy, cB, bG, bu, bX, b8, bK, aU, be, aN, bA, bz, aO, aK, aS, cg, cI, bM, aR, aV, cm, cn, bN, bO, bL, bP, bC, bB, bQ, List.getElem?_cons_zero, List.getElem?_cons_succ, Nat.zero_add, Nat.reduceAdd, Nat.add_zero, Md]
theorem u_Count (n : Nat) {fr co c : Int} (h1 : db fr 1 4096 = true) (h2 : db co 1 16 = true) (h3 : 0 ≤ c) (h4 : c < co) (h : Heap) (k : Int → Int → Heap → CRes) :
    sd n fr co c h k = k ((fr - c + co - 1) / co) 0 h := by
  unfold sd OB Om Ix It Hs Je
  simp [db] at h1 h2
  have e1 : IntKind.i64.wrap (co - 1) = co - 1 := lJ (by omega) (by omega)
  have e2 : db c 0 (co - 1) = true := by simp [db]; omega
  have e3 : db fr 1 4096 = true := by simp [db]; omega
  have e4 : db co 1 16 = true := by simp [db]; omega
  have e5 : IntKind.i64.wrap (fr - c) = fr - c := lJ (by omega) (by omega)
  have e6 : IntKind.i64.wrap (fr - c + co) = fr - c + co := lJ (by omega) (by omega)
  have e7 : IntKind.i64.wrap (fr - c + co - 1) = fr - c + co - 1 := lJ (by omega) (by omega)
  simp only [aQ, aY, ba, bc, ca, b7, b9, ce, bH, ci, cb, cd, cy, cB, bG, bu, bX, b8, bK, aU, be, aN, bA, bz, aO, aK, aS, cg, cI, bM, aR, aV, cm, cn, bN, bO, bL, bP, bC, bB, bQ, List.getElem?_cons_zero, List.getElem?_cons_succ, Nat.zero_add, Nat.reduceAdd, Nat.add_zero, Md, afq, e1, e2, e3, e4, Bool.not_true, e5, e6, e7, aoB (show co ≠ 0 by omega)]
  by_cases hp : 0 ≤ fr - c + co - 1
  · rw [Int.tdiv_eq_ediv_of_nonneg hp, lJ]
    · have : 0 ≤ (fr - c + co - 1) / co := Int.ediv_nonneg hp (by omega)
      omega
    · have := Int.ediv_le_self (b := co) hp
      omega
  · omega
theorem u_Frame (n : Nat) {c i co : Int} (h2 : db co 1 16 = true) (h3 : 0 ≤ c) (h4 : c < co) (h5 : 0 ≤ i) (h6 : i * co + c ≤ 4095) (h : Heap) (k : Int → Int → Heap → CRes) :
    rQ n c i co h k = k (i * co + c) 0 h := by
  unfold rQ OR O3 H2 I3 IB IE
  simp [db] at h2
  have e1 : IntKind.i64.wrap (co - 1) = co - 1 := lJ (by omega) (by omega)
  have e2 : db c 0 (co - 1) = true := by simp [db]; omega
  have e4 : db co 1 16 = true := by simp [db]; omega
  have e5 : IntKind.i64.wrap (4095 - c) = 4095 - c := lJ (by omega) (by omega)
  have hq : i ≤ (4095 - c) / co := by rw [Int.le_ediv_iff_mul_le (by omega)]; omega
  have hq2 : (4095 - c) / co ≤ 4095 - c := Int.ediv_le_self _ (by omega)
  have e6 : IntKind.i64.wrap ((4095 - c).tdiv co) = (4095 - c) / co := by
    rw [Int.tdiv_eq_ediv_of_nonneg (by omega), lJ (by omega) (by omega)]
  have e7 : db i 0 ((4095 - c) / co) = true := by simp [db]; omega
  have hm : 0 ≤ i * co := Int.mul_nonneg h5 (by omega)
  have e8 : IntKind.i64.wrap (i * co) = i * co := lJ (by omega) (by omega)
  have e9 : IntKind.i64.wrap (i * co + c) = i * co + c := lJ (by omega) (by omega)
  simp only [aQ, aY, ba, bc, ca, b7, b9, ce, bH, ci, cb, cd, cy, cB, bG, bu, bX, b8, bK, aU, be, aN, bA, bz, aO, aK, aS, cg, cI, bM, aR, aV, cm, cn, bN, bO, bL, bP, bC, bB, bQ, List.getElem?_cons_zero, List.getElem?_cons_succ, Nat.zero_add, Nat.reduceAdd, Nat.add_zero, Md, afq, e1, e2, e4, Bool.not_true, e5, e6, e7, e8, e9, aoB (show co ≠ 0 by omega)]
@[simp] theorem aqL (n : Nat) (a b : Int) (h : Heap) (k : Bool → Heap → CRes) : qI n a b h k = k (decide (a < b)) h := by
  unfold qI LP L5 Eu Fm FQ Gc vu Ig IO
  simp
@[simp] theorem alk (n : Nat) (a : Int) (h : Heap) (k : Bool → Heap → CRes) : lZ n a h k = k false h := by
  unfold lZ Bl Be
  simp
def anT (l : List Int) (x : Int) (i : Nat) : Prop := i ≤ l.length ∧ (l.Pairwise (· < ·) → (∀ j, j < i → nz l j < x) ∧ ∀ j, i ≤ j → j < l.length → x ≤ nz l j)
theorem arO {l : List Int} (hs : l.Pairwise (· < ·)) {i j : Nat} (h : i ≤ j) (hj : j < l.length) : nz l i ≤ nz l j := by
  rw [s9 hj, s9 (by omega)]
  by_cases e : i = j
  · subst e; exact Int.le_refl _
  · exact Int.le_of_lt (List.pairwise_iff_getElem.1 hs i j (by omega) hj (by omega))
theorem v_BS_2 {n : Nat} {h : Heap} {v : AV} {l : List Int} {x : Int} (hv : Ints h .i64 v l) (hs : l.length ≤ 1099511627776) : ∀ (m lo hi : Nat), lo ≤ hi → hi ≤ l.length → hi - lo < m →
    (l.Pairwise (· < ·) → (∀ j, j < lo → nz l j < x) ∧ ∀ j, hi ≤ j → j < l.length → x ≤ nz l j) →
    Run2 (fun k => ig n (qI n) (lZ n) k m v x l.length lo hi h) fun r b h' => h' = h ∧ ∃ i : Nat, r = i ∧ anT l x i ∧ b = decide (i < l.length ∧ nz l i = x) := by
  intro m
  induction m with
  | zero => omega
  | succ m ih =>
    intro lo hi h1 h2 h3 hinv
    simp only [Db]
    unfold ki jZ mL mO mQ
    refine RunG.ifB (fun e => ?_) fun e => ?_
    · simp at e
      have e1 : IntKind.i64.wrap ((lo : Int) + hi) = ((lo + hi : Nat) : Int) := by rw [lJ (by omega) (by omega)]; omega
      have e2 : IntKind.u64.wrap (((lo + hi : Nat) : Int)) = ((lo + hi : Nat) : Int) := wrap_u (by omega) (by omega)
      have e3 : ∀ c, shrK .u64 (((lo + hi : Nat) : Int)) 1 c = c (((lo + hi) / 2 : Nat) : Int) := by
        intro c
        show aip ((1 : Nat) : Int) (fun n => qG (shrF .u64 _ n) c) = _
        rw [b8, aY]
        rfl
      have e4 : IntKind.i64.wrap ((((lo + hi) / 2 : Nat) : Int)) = (((lo + hi) / 2 : Nat) : Int) := lJ (by omega) (by omega)
      have hm : (lo + hi) / 2 < l.length := by omega
      simp only [aQ, aY, ba, bc, ca, b7, b9, ce, bH, ci, cb, cd, cy, cB, bG, bu, bX, b8, bK, aU, be, aN, bA, bz, aO, aK, aS, cg, cI, bM, aR, aV, cm, cn, bN, bO, bL, bP, bC, bB, bQ, List.getElem?_cons_zero, List.getElem?_cons_succ, Nat.zero_add, Nat.reduceAdd, Nat.add_zero, e1, e2, e3, e4, hv.elN hm, aqL, iT (show (lo + hi) / 2 ≤ 9223372036854775806 by omega)]
      refine RunG.ifB (fun e5 => ?_) fun e5 => ?_
      · simp at e5
        refine ih _ _ (by omega) h2 (by omega) fun hp => ⟨fun j hj => ?_, (hinv hp).2⟩
        exact Int.lt_of_le_of_lt (arO hp (show j ≤ (lo + hi) / 2 by omega) hm) e5
      · simp at e5
        refine ih _ _ (by omega) (by omega) (by omega) fun hp => ⟨(hinv hp).1, fun j hj hj' => ?_⟩
        exact Int.le_trans e5 (arO hp hj hj')
    · simp at e
      have : lo = hi := by omega
      subst this
      refine RunG.ifB (fun e1 => ?_) fun e1 => ?_
      · simp at e1
        simp only [aQ, aY, ba, bc, ca, b7, b9, ce, bH, ci, cb, cd, cy, cB, bG, bu, bX, b8, bK, aU, be, aN, bA, bz, aO, aK, aS, cg, cI, bM, aR, aV, cm, cn, bN, bO, bL, bP, bC, bB, bQ, List.getElem?_cons_zero, List.getElem?_cons_succ, Nat.zero_add, Nat.reduceAdd, Nat.add_zero, hv.elN e1, alk]
        refine RunG.ifB (fun e2 => ?_) fun e2 => ?_
        · simp at e2
          exact QN ⟨rfl, lo, rfl, ⟨h2, hinv⟩, by simp [e1, e2]⟩
        · simp at e2
          exact QN ⟨rfl, lo, rfl, ⟨h2, hinv⟩, by simp [e2]⟩
      · simp at e1
        exact QN ⟨rfl, lo, rfl, ⟨h2, hinv⟩, by simp; omega⟩
theorem v_BS {n : Nat} {h : Heap} {v : AV} {l : List Int} (hv : Ints h .i64 v l) (hs : l.length ≤ 1099511627776) (hn : l.length < n) (x : Int) : Run2 (gF n v x h) fun r b h' => h' = h ∧ ∃ i : Nat, r = i ∧ anT l x i ∧ b = decide (i < l.length ∧ nz l i = x) := by
  unfold gF nm nK
  simp only [hv.len]
  exact v_BS_2 hv hs n 0 l.length (by omega) (by omega) (by omega) fun hp => ⟨fun j hj => by omega, fun j hj hj' => by omega⟩
end Go.Proofs.YtnlbfbiogfilfaaGreat.Sh
/- Rows of numbers in memory of their own, that are appended to, inserted into and cut out of; maps of numbers. -/
namespace Go.Ai
def lI (l : List Int) : List AV := l.map (.int .i64)
theorem mU (l : List Int) : (lI l).length = l.length := by simp [lI]
def Lst (h : Heap) (v : AV) (l : List Int) : Prop := (v = .nilslice ∧ l = []) ∨ ∃ b ext rest, v = .slice b 0 l.length ext true ∧ Own h b (lI l ++ rest) 1 ∧ rest.length = ext ∧ 0 < l.length + ext ∧ l.length + ext ≤ 1048576
theorem Lst.nil {h : Heap} : Lst h .nilslice [] := .inl ⟨rfl, rfl⟩
theorem Lst.small {h : Heap} {v : AV} {l : List Int} (s : Lst h v l) : l.length ≤ 1048576 := by
  rcases s with ⟨_, rfl⟩ | ⟨b, ext, rest, _, _, _, _, h1⟩
  · simp
  · omega
theorem Lst.chg {F : Nat → Prop} {h h' : Heap} {v : AV} {l : List Int} (a : Lst h v l) (c : Chg F h h') (hf : ∀ b, v.blk = some b → ¬ F b) : Lst h' v l := by
  rcases a with a | ⟨b, ext, rest, rfl, o, h1⟩
  · exact .inl a
  · exact .inr ⟨b, ext, rest, rfl, c.own o (hf b rfl), h1⟩
theorem Lst.grow {h h' : Heap} {v : AV} {l : List Int} (a : Lst h v l) (g : Grow h h') : Lst h' v l := a.chg (g.chg fun _ => False) fun _ _ h => h
theorem Lst.lt {h : Heap} {v : AV} {l : List Int} (a : Lst h v l) {b : Nat} (hb : v.blk = some b) : b < h.nx ∧ h.ro ≤ b := by
  rcases a with ⟨rfl, _⟩ | ⟨c, ext, rest, rfl, o, _⟩
  · cases hb
  · cases hb; exact ⟨o.lt, o.ro⟩
theorem Lst.ints {h : Heap} {v : AV} {l : List Int} (a : Lst h v l) : Ints h .i64 v l := by
  refine ⟨by have := a.small; omega, ?_⟩
  rcases a with ⟨rfl, rfl⟩ | ⟨b, ext, rest, rfl, o, h1, h2, h3⟩
  · exact .inl ⟨rfl, rfl⟩
  · refine .inr ⟨b, 0, ext, true, rfl, fun _ => ⟨_, o.cl, fun i hi => ⟨by simp [lI]; omega, ?_⟩⟩⟩
    simp only [Nat.zero_add, Nat.mul_one]
    rw [List.drop_append_of_le_length (by simp [lI]; omega)]
    rw [List.drop_eq_getElem_cons (by simp [lI]; omega)]
    simp [lI, s9 hi]
theorem Lst.len {h : Heap} {v : AV} {l : List Int} (a : Lst h v l) (k : Int → CRes) : jb v k = k l.length := a.ints.len k
theorem Lst.of_app {h : Heap} {v : AV} {l : List Int} (a : App h v 1 l.length (lI l)) (hm : l.length ≤ 1048576) : Lst h v l := by
  rcases a with ⟨rfl, h1, _⟩ | ⟨b, rfl, o, h1, h2⟩
  · exact .inl ⟨rfl, List.eq_nil_of_length_eq_zero h1⟩
  · exact .inr ⟨b, 0, [], rfl, by simpa using o, rfl, by omega, by omega⟩
theorem asM {l : List Int} {rest : List AV} {i : Nat} (hi : i < l.length) :
    (xF (lI (l.drop (i + 1))) (lI l ++ rest) i).set (l.length - 1) (.int .i64 0) = lI (l.eraseIdx i) ++ (.int .i64 0 :: rest) := by
  apply List.ext_getElem?
  intro j
  have hlen : (lI l ++ rest).length = l.length + rest.length := by simp [lI]
  have hle : (l.eraseIdx i).length = l.length - 1 := List.length_eraseIdx_of_lt hi
  have hov := apL (lI (l.drop (i + 1))) (lI l ++ rest) i j (by simp [lI]; omega)
  rw [List.getElem?_set, Qn, hov, hlen, List.getElem?_append (l₁ := lI (l.eraseIdx i))]
  simp only [mU, hle, List.length_drop]
  by_cases h1 : j < l.length - 1
  · rw [if_neg (by omega), if_pos h1]
    by_cases h2 : i ≤ j
    · rw [if_pos (by omega)]
      simp only [lI, List.getElem?_map, List.getElem?_drop]
      rw [List.getElem?_eraseIdx, if_neg (by omega)]
      congr 2; omega
    · rw [if_neg (by omega), List.getElem?_append, if_pos (by rw [mU]; omega)]
      simp only [lI, List.getElem?_map]
      rw [List.getElem?_eraseIdx, if_pos (by omega)]
  · rw [if_neg h1]
    by_cases h2 : l.length - 1 = j
    · rw [if_pos h2, if_pos (by omega)]
      rw [show j - (l.length - 1) = 0 by omega]; rfl
    · rw [if_neg h2, if_neg (by omega), List.getElem?_append, if_neg (by rw [mU]; omega), mU]
      rw [show j - (l.length - 1) = (j - l.length) + 1 by omega, List.getElem?_cons_succ]
theorem slV_lo0 {b len ext i : Nat} (hi : i ≤ len) (h0 : 0 < len + ext) : slV (.sl 1) (.slice b 0 len ext true) none (some (.int .i64 (i : Int))) none = some (.slice b 0 i (len + ext - i) true) := by
  have e1 : Gh (some (.int .i64 (i : Int))) len (len + ext) = some i := by
    show Bool.casesOn (motive := fun _ => Option Nat) (Nat.ble i (len + ext)) none (some i) = _
    rw [Nat.ble_eq_true_of_le (by omega)]
  simp only [slV]
  have e0 : Gh none (len + ext) (len + ext) = some (len + ext) := rfl
  have e2 : Gh none 0 i = some 0 := rfl
  rw [e0]; dsimp only; rw [e1]; dsimp only; rw [e2]; dsimp only
  rw [if_pos trivial, if_neg (by omega)]; simp
theorem slV_hi {b len ext i : Nat} (hi : i ≤ len) : slV (.sl 1) (.slice b 0 len ext true) (some (.int .i64 (i : Int))) none none = some (if len + ext = i then .send b 0 i else .slice b i (len - i) ext true) := by
  have e1 : Gh (some (.int .i64 (i : Int))) 0 len = some i := by
    show Bool.casesOn (motive := fun _ => Option Nat) (Nat.ble i len) none (some i) = _
    rw [Nat.ble_eq_true_of_le (by omega)]
  simp only [slV]
  have e0 : Gh none (len + ext) (len + ext) = some (len + ext) := rfl
  have e2 : Gh none len (len + ext) = some len := rfl
  rw [e0]; dsimp only; rw [e2]; dsimp only; rw [e1]; dsimp only
  rw [if_pos trivial]
  split <;> simp
theorem slV_mid {b len ext i j : Nat} (hi : i ≤ j) (hj : j ≤ len + ext) (hn : i < len + ext) : slV (.sl 1) (.slice b 0 len ext true) (some (.int .i64 (i : Int))) (some (.int .i64 (j : Int))) none = some (.slice b i (j - i) (len + ext - j) true) := by
  have e1 : Gh (some (.int .i64 (i : Int))) 0 j = some i := by
    show Bool.casesOn (motive := fun _ => Option Nat) (Nat.ble i j) none (some i) = _
    rw [Nat.ble_eq_true_of_le (by omega)]
  have e2 : Gh (some (.int .i64 (j : Int))) len (len + ext) = some j := by
    show Bool.casesOn (motive := fun _ => Option Nat) (Nat.ble j (len + ext)) none (some j) = _
    rw [Nat.ble_eq_true_of_le (by omega)]
  simp only [slV]
  have e0 : Gh none (len + ext) (len + ext) = some (len + ext) := rfl
  rw [e0]; dsimp only; rw [e2]; dsimp only; rw [e1]; dsimp only
  rw [if_pos trivial, if_neg (by omega)]; simp
theorem slV_chk {b len ext i j : Nat} (hi : i ≤ j) (hj : j ≤ len) : ∃ r, slV (.sl 1) (.slice b 0 len ext true) (some (.int .i64 (i : Int))) (some (.int .i64 (j : Int))) (some (.int .i64 (len : Int))) = some r := by
  have e1 : Gh (some (.int .i64 (i : Int))) 0 j = some i := by
    show Bool.casesOn (motive := fun _ => Option Nat) (Nat.ble i j) none (some i) = _
    rw [Nat.ble_eq_true_of_le (by omega)]
  have e2 : Gh (some (.int .i64 (j : Int))) len len = some j := by
    show Bool.casesOn (motive := fun _ => Option Nat) (Nat.ble j len) none (some j) = _
    rw [Nat.ble_eq_true_of_le (by omega)]
  have e0 : Gh (some (.int .i64 (len : Int))) (len + ext) (len + ext) = some len := by
    show Bool.casesOn (motive := fun _ => Option Nat) (Nat.ble len (len + ext)) none (some len) = _
    rw [Nat.ble_eq_true_of_le (by omega)]
  simp only [slV]
  rw [e0]; dsimp only; rw [e2]; dsimp only; rw [e1]; dsimp only
  exact ⟨_, rfl⟩
theorem anV {sk : SlK} {v r : AV} {lo hi mx : Option AV} (h : slV sk v lo hi mx = some r) (c : AV → CRes) : slK sk v lo hi mx c = c r := by unfold slK; rw [h, bX, ba]
theorem akd {h : Heap} (hro : h.ro ≤ h.nx) {len : Nat} {z l : List AV} {parts : List (Nat × Nat × AV)} (hf : ∀ k, aia parts z k = k l) : Run1 (pR h len z parts) fun v h' => v = .slice h.nx 0 len 0 false ∧ Own h' h.nx l 0 ∧ Grow h h' := by
  refine ⟨(.slice h.nx 0 len 0 false, h.add (.cells l true 0)), ⟨rfl, ⟨by simp, by simpa using hro, by rw [Heap.get_add, if_pos rfl]⟩, Grow.add⟩, fun k => ?_⟩
  unfold pR
  rw [hf, sO]; rfl
def ac1 (l : List Int) (i : Nat) (x : Int) : List Int := l.take i ++ x :: l.drop i
theorem r_insert {h : Heap} (hro : h.ro ≤ h.nx) {v : AV} {l : List Int} (hl : Lst h v l) {i vb : Nat} (hi : i ≤ l.length) {x : Int} (hb : Own h vb [.int .i64 x] 0) (hm : l.length + 1 ≤ 1048576) :
    Run1 (B5 Jr [v, .int .i64 (i : Int), .slice vb 0 1 0 false] h) fun v' h' => Lst h' v' (ac1 l i x) ∧ v'.blk = some h.nx ∧ Chg (fun c => v.blk = some c) h h' := by
  have hlen : (ac1 l i x).length = l.length + 1 := by simp [ac1]; omega
  have run : ∀ {v' : AV} {h' : Heap}, abn [v, .int .i64 (i : Int), .slice vb 0 1 0 false] h = some (v', h') → ∀ k, B5 Jr [v, .int .i64 (i : Int), .slice vb 0 1 0 false] h k = k v' h' := by
    intro v' h' e k
    unfold B5 Jr
    rw [e]
  have hs : sub ([AV.int .i64 x]) 0 1 = some [.int .i64 x] := by rw [pM]; rfl
  rcases hl with ⟨rfl, rfl⟩ | ⟨b, ext, rest, rfl, ow, hr, h0, hm'⟩
  · have i0 : i = 0 := by simpa using hi
    subst i0
    refine ⟨(.slice h.nx 0 1 0 true, h.add (.cells [.int .i64 x] true 1)), ⟨.inr ⟨h.nx, 0, [], rfl, ⟨by simp, by simpa using hro, by rw [Heap.get_add, if_pos rfl]; rfl⟩, rfl, by simp [ac1], by simp [ac1]⟩, rfl, (Grow.add).chg _⟩, run ?_⟩
    simp only [abn]
    rw [uc, hb.get]
    dsimp only
    rw [hs]
    dsimp only
    rw [show Nat.beq 1 0 = false from rfl]
    dsimp only
    rw [show (Nat.beq 0 0 && Nat.ble 1 Np) = true from rfl]
    dsimp only
    rw [Heap.newK_eq]
  · refine ⟨(.slice h.nx 0 (l.length + 1) 0 true, (h.set b .dead).add (.cells (lI (ac1 l i x)) true 1)), ⟨.inr ⟨h.nx, 0, [], by rw [hlen], ⟨by simp, by simpa using hro, ?_⟩, rfl, by omega, by omega⟩, rfl, ⟨by simp, by simp, fun c hc hf => ?_⟩⟩, run ?_⟩
    · show ((h.set b .dead).add _).get h.nx = _
      rw [Heap.get_add, if_pos (by simp)]; simp
    · have hf' : b ≠ c := fun e => hf (by rw [e]; rfl)
      show ((h.set b .dead).add _).get c = _
      rw [Heap.get_add, if_neg (by simp; omega), Heap.get_set_other _ hf']
    · have hvb : vb ≠ b := by
        rintro rfl
        have := hb.get.symm.trans ow.get
        simp at this
      have hall : (lI l ++ rest).length = l.length + ext := by simp [lI, hr]
      simp only [abn]
      rw [uc, hb.get]
      dsimp only
      rw [hs]
      dsimp only
      rw [show Nat.beq 1 0 = false from rfl]
      dsimp only
      rw [Y5 ow]
      have c1 : (Nat.beq 1 1 && Nat.ble (0 + (l.length + ext)) (mo (lI l ++ rest)) && Nat.ble i l.length && Nat.ble (l.length + 1) Np && !Nat.beq vb b) = true := by
        rw [jM, hall]
        have : Nat.beq vb b = false := by cases hq : Nat.beq vb b with
          | false => rfl
          | true => exact (hvb (Nat.eq_of_beq_eq_true hq)).elim
        rw [this]
        simp only [Bool.and_eq_true]
        exact ⟨⟨⟨⟨rfl, Nat.ble_eq_true_of_le (by omega)⟩, Nat.ble_eq_true_of_le hi⟩, Nat.ble_eq_true_of_le (by unfold Np; omega)⟩, rfl⟩
      rw [c1]
      dsimp only
      have c2 : sub (lI l ++ rest) 0 l.length = some (lI l) := by
        rw [pM, List.drop_zero, if_pos (by omega), List.take_append_of_le_length (by rw [mU]; omega), List.take_of_length_le (by rw [mU]; omega)]
      rw [c2]
      dsimp only
      rw [aht, if_pos (by rw [mU]; exact hi), Heap.setK_eq, jG, jG, Heap.newK_eq, aj8]
      have : (lI l).take i ++ ([AV.int .i64 x] ++ (lI l).drop i) = lI (ac1 l i x) := by simp [lI, ac1, List.map_take, List.map_drop]
      rw [this]
      simp
structure MapI (h : Heap) (b : Nat) (q : IntKind) (kv : List (Int × Int)) : Prop where
  lt : b < h.nx
  ro : h.ro ≤ b
  get : h.get b = some (.mp (kv.map fun e => (.int .i64 e.1, .int q e.2)))
theorem MapI.chg {F : Nat → Prop} {h h' : Heap} {b : Nat} {q : IntKind} {kv : List (Int × Int)} (a : MapI h b q kv) (c : Chg F h h') (hf : ¬ F b) : MapI h' b q kv :=
  ⟨Nat.lt_of_lt_of_le a.lt c.nx, by rw [c.ro]; exact a.ro, (c.old b a.lt hf).trans a.get⟩
theorem MapI.ne {h : Heap} {b c : Nat} {q : IntKind} {kv : List (Int × Int)} {l : List AV} {g : Nat} (a : MapI h b q kv) (o : Own h c l g) : b ≠ c := by
  rintro rfl
  have := a.get.symm.trans o.get
  cases this
def adH (k x : Int) : List (Int × Int) → List (Int × Int)
  | [] => [(k, x)]
  | e :: t => if k = e.1 then (k, x) :: t else e :: adH k x t
theorem ass (q : IntKind) (k x : Int) : ∀ kv : List (Int × Int), putF (.cell .int) (.int .i64 k) (.int q x) (kv.map fun e => (AV.int .i64 e.1, AV.int q e.2)) = some ((adH k x kv).map fun e => (AV.int .i64 e.1, AV.int q e.2)) := by
  intro kv
  induction kv with
  | nil => rfl
  | cons e t ih =>
    show (Option.casesOn (qL (.cell .int) (.int .i64 k) (.int .i64 e.1)) none fun b => Bool.casesOn b (Option.casesOn (putF (.cell .int) (.int .i64 k) (.int q x) (t.map fun e => (AV.int .i64 e.1, AV.int q e.2))) none fun t' => some ((AV.int .i64 e.1, AV.int q e.2) :: t')) (some ((.int .i64 k, .int q x) :: t.map fun e => (AV.int .i64 e.1, AV.int q e.2))) : Option _) = _
    have hk : qL (.cell .int) (.int .i64 k) (.int .i64 e.1) = some (k == e.1) := by
      show some (eqF k e.1) = _
      rw [cB]
    rw [hk, ih]
    dsimp only
    by_cases h : k = e.1
    · have : (k == e.1) = true := by simp [h]
      rw [this]
      simp [adH, h]
    · have : (k == e.1) = false := by simp [h]
      rw [this]
      simp [adH, h]
theorem apB {h : Heap} {b : Nat} {q : IntKind} {kv : List (Int × Int)} (a : MapI h b q kv) (k x : Int) :
    Run0 (abm h (.cell .int) (.map b) (.int .i64 k) (.int q x)) fun h' => MapI h' b q (adH k x kv) ∧ Chg (· = b) h h' := by
  refine ⟨h.set b (.mp ((adH k x kv).map fun e => (AV.int .i64 e.1, AV.int q e.2))), ⟨⟨by simpa using a.lt, by simpa using a.ro, Heap.get_set_same ..⟩, ⟨by simp, by simp, fun c _ hc => Heap.get_set_other _ (fun e => hc e.symm) _⟩⟩, fun c => ?_⟩
  unfold abm
  rw [bz]
  have h1 : Nat.blt b h.ro = false := by rw [blt_eq]; simp; exact a.ro
  rw [h1, bu]
  have h2 : xg h b = some (kv.map fun e => (AV.int .i64 e.1, AV.int q e.2)) := by unfold xg; rw [a.get]
  have h3 : qL (.cell .int) (.int .i64 k) (.int .i64 k) = some true := by
    show some (eqF k k) = _
    rw [cB]; simp
  rw [h2, bX, h3, bX, ass, bX, Jy]; rfl
structure BudZ where
  n : Int
  free : Nat → List Int
  taken : List (Int × Int)
def upd {α : Type} (f : Nat → α) (k : Nat) (x : α) : Nat → α := fun j => if j = k then x else f j
theorem gx {α : Type} (f : Nat → α) (k : Nat) (x : α) : upd f k x k = x := by simp [upd]
theorem ga {α : Type} (f : Nat → α) {k j : Nat} (x : α) (h : j ≠ k) : upd f k x j = f j := by simp [upd, h]
def abz (n : Int) (v : Nat → AV) (m : Nat) : List AV := [.bool true, .int .i64 n, v 0, v 1, v 2, v 3, v 4, v 5, v 6, .map m]
theorem ajt (n : Int) (v : Nat → AV) (m : Nat) {k : Nat} (hk : k < 7) : (abz n v m)[2 + k]? = some (v k) := by
  match k, hk with
  | 0, _ => rfl | 1, _ => rfl | 2, _ => rfl | 3, _ => rfl | 4, _ => rfl | 5, _ => rfl | 6, _ => rfl
theorem bud_set (n : Int) (v : Nat → AV) (m : Nat) (x : AV) {k : Nat} (hk : k < 7) : (abz n v m).set (2 + k) x = abz n (upd v k x) m := by
  match k, hk with
  | 0, _ => rfl | 1, _ => rfl | 2, _ => rfl | 3, _ => rfl | 4, _ => rfl | 5, _ => rfl | 6, _ => rfl
theorem bud_sub (n : Int) (v : Nat → AV) (m : Nat) : sub (abz n v m) 2 7 = some [v 0, v 1, v 2, v 3, v 4, v 5, v 6] := by rw [pM]; rfl
theorem bud_0 (n : Int) (v : Nat → AV) (m : Nat) : (abz n v m)[0]? = some (.bool true) := rfl
theorem bud_9 (n : Int) (v : Nat → AV) (m : Nat) : (abz n v m)[9]? = some (.map m) := rfl
structure BudIn (h : Heap) (p m : Nat) (v : Nat → AV) (s : BudZ) : Prop where
  own : Own h p (abz s.n v m) 0
  map : MapI h m .i64 s.taken
  lst : ∀ k, k < 7 → Lst h (v k) (s.free k)
  dis : ∀ j k, j < 7 → k < 7 → j ≠ k → ∀ c, (v j).blk = some c → (v k).blk ≠ some c
def fpB (p m : Nat) (v : Nat → AV) (c : Nat) : Prop := c = p ∨ c = m ∨ ∃ k, k < 7 ∧ (v k).blk = some c
theorem Lst.ne {h : Heap} {v : AV} {l : List Int} (s : Lst h v l) {p : Nat} {cs : List AV} (o : Own h p cs 0) {b : Nat} (hb : v.blk = some b) : b ≠ p := by
  rintro rfl
  rcases s with ⟨rfl, _⟩ | ⟨c, ext, rest, rfl, ow, _⟩
  · cases hb
  · cases hb
    have := o.get.symm.trans ow.get
    simp at this
theorem Lst.neM {h : Heap} {v : AV} {l : List Int} (s : Lst h v l) {m : Nat} {q : IntKind} {kv : List (Int × Int)} (o : MapI h m q kv) {b : Nat} (hb : v.blk = some b) : b ≠ m := by
  rintro rfl
  rcases s with ⟨rfl, _⟩ | ⟨c, ext, rest, rfl, ow, _⟩
  · cases hb
  · cases hb
    exact o.ne ow rfl
theorem BudIn.lt {h : Heap} {p m : Nat} {v : Nat → AV} {s : BudZ} (b : BudIn h p m v s) {c : Nat} (hc : fpB p m v c) : c < h.nx := by
  rcases hc with rfl | rfl | ⟨k, hk, e⟩
  · exact b.own.lt
  · exact b.map.lt
  · exact ((b.lst k hk).lt e).1
theorem BudIn.chg {F : Nat → Prop} {h h' : Heap} {p m : Nat} {v : Nat → AV} {s : BudZ} (b : BudIn h p m v s) (c : Chg F h h') (hf : ∀ c, fpB p m v c → ¬ F c) : BudIn h' p m v s :=
  ⟨c.own b.own (hf p (.inl rfl)), b.map.chg c (hf m (.inr (.inl rfl))), fun k hk => (b.lst k hk).chg c fun c' e => hf c' (.inr (.inr ⟨k, hk, e⟩)), b.dis⟩
theorem BudIn.grow {h h' : Heap} {p m : Nat} {v : Nat → AV} {s : BudZ} (b : BudIn h p m v s) (g : Grow h h') : BudIn h' p m v s := b.chg (g.chg fun _ => False) fun _ _ h => h
theorem BudIn.row {h h' h'' : Heap} {p m : Nat} {v : Nat → AV} {s : BudZ} (b : BudIn h p m v s) {k : Nat} (hk : k < 7) {x : AV} {l : List Int}
    (c : Chg (fun c => (v k).blk = some c) h h') (hx : Lst h' x l) (hb : ∀ c, x.blk = some c → (v k).blk = some c ∨ h.nx ≤ c) (hp : Put h' p ((abz s.n v m).set (2 + k) x) 0 h'') :
    BudIn h'' p m (upd v k x) { s with free := upd s.free k l } ∧ Chg (fpB p m v) h h'' := by
  have hpk : ∀ c, (v k).blk = some c → c ≠ p := fun c e => (b.lst k hk).ne b.own e
  have hmk : ∀ c, (v k).blk = some c → c ≠ m := fun c e => (b.lst k hk).neM b.map e
  have hmp : m ≠ p := b.map.ne b.own
  have hm' : MapI h' m .i64 s.taken := b.map.chg c fun e => hmk m e rfl
  refine ⟨⟨?_, hm'.chg hp.chg hmp, fun j hj => ?_, fun i j hi hj hij d e => ?_⟩, (c.mono fun d _ e => .inr (.inr ⟨k, hk, e⟩)).trans (hp.chg.mono fun d _ e => .inl e)⟩
  · have := hp.own
    rw [bud_set _ _ _ _ hk] at this
    exact this
  · by_cases e : j = k
    · subst e
      show Lst h'' (upd v j x j) (upd s.free j l j)
      rw [gx, gx]
      refine hx.chg hp.chg fun d e1 e2 => ?_
      rcases hb d e1 with e3 | e3
      · exact hpk d e3 e2
      · have := b.own.lt; omega
    · show Lst h'' (upd v k x j) (upd s.free k l j)
      rw [ga _ _ e, ga _ _ e]
      exact ((b.lst j hj).chg c fun d e1 e2 => b.dis j k hj hk e d e1 e2).chg hp.chg fun d e1 e2 => (b.lst j hj).ne b.own e1 e2
  · by_cases ei : i = k
    · subst ei
      rw [gx] at e
      rw [ga _ _ (fun e => hij e.symm)]
      rcases hb d e with e3 | e3
      · exact b.dis i j hi hj hij d e3
      · intro e4
        have := ((b.lst j hj).lt e4).1
        omega
    · rw [ga _ _ ei] at e
      by_cases ej : j = k
      · subst ej
        rw [gx]
        intro e4
        rcases hb d e4 with e3 | e3
        · exact b.dis i j hi hj hij d e e3
        · have := ((b.lst i hi).lt e).1
          omega
      · rw [ga _ _ ej]
        exact b.dis i j hi hj hij d e
theorem Rx {n p o k : Nat} (hk : k < n) (c : AV → CRes) : KG 1 n (.ptr p o) (k : Int) c = c (.ptr p (o + k)) := by
  unfold KG
  rw [be, b8]
  have h1 : Nat.blt k n = true := by rw [blt_eq]; simpa using hk
  rw [h1, bG, aQ]
  simp
theorem ahb {h : Heap} (hro : h.ro ≤ h.nx) {v : AV} {l : List Int} (hl : Lst h v l) {vb : Nat} {x : Int} (hb : h.cl vb [.int .i64 x]) (hm : l.length + 1 ≤ 1048576) {e : Nat} {o : Bool} :
    Run1 (qk h 1 v (.slice vb 0 1 e o)) fun v' h' => Lst h' v' (l ++ [x]) ∧ (∀ c, v'.blk = some c → v.blk = some c ∨ h.nx ≤ c) ∧ Chg (fun c => v.blk = some c) h h' := by
  have hs : sub ([AV.int .i64 x]) 0 (1 * 1) = some [.int .i64 x] := by rw [pM]; rfl
  have fin : App h v 1 l.length (lI l) → Run1 (qk h 1 v (.slice vb 0 1 e o)) fun v' h' => Lst h' v' (l ++ [x]) ∧ (∀ c, v'.blk = some c → v.blk = some c ∨ h.nx ≤ c) ∧ Chg (fun c => v.blk = some c) h h' := by
    intro ha
    refine (aeN hro ha (by omega) hb hs hm).mono fun v' h' ⟨h1, h2, h3⟩ => ⟨?_, fun c hc => .inr (by rw [h2] at hc; cases hc; exact Nat.le_refl _), h3⟩
    refine Lst.of_app ?_ (by simpa using hm)
    have e1 : lI (l ++ [x]) = lI l ++ [.int .i64 x] := by simp [lI]
    rw [e1]
    simpa using h1
  rcases hl with ⟨rfl, rfl⟩ | ⟨b, ext, rest, rfl, ow, hr, h0, hm'⟩
  · exact fin .nil
  · by_cases h1 : ext = 0
    · subst h1
      have : rest = [] := List.eq_nil_of_length_eq_zero hr
      subst this
      exact fin (.inr ⟨b, rfl, by simpa using ow, by simp [lI], by omega⟩)
    · obtain ⟨r0, rest, rfl⟩ : ∃ r0 t, rest = r0 :: t := by
        cases rest with
        | nil => simp at hr; omega
        | cons a t => exact ⟨a, t, rfl⟩
      have hall : (lI l ++ r0 :: rest).length = l.length + ext := by simp [lI, ← hr]
      have p := aeT ow (lI (l ++ [x]) ++ rest)
      have hset : (lI l ++ r0 :: rest).set l.length (.int .i64 x) = lI (l ++ [x]) ++ rest := by
        rw [List.set_append, if_neg (by rw [mU]; omega), mU, Nat.sub_self]
        simp [lI]
      refine ⟨(.slice b 0 (l.length + 1) (ext - 1) true, h.set b (.cells (lI (l ++ [x]) ++ rest) true 1)), ⟨.inr ⟨b, ext - 1, rest, by simp, p.own, by simp at hr; omega, by simp only [List.length_append, List.length_singleton]; omega, by simp only [List.length_append, List.length_singleton]; omega⟩, fun c hc => .inl hc, p.chg.mono fun c _ e => by rw [e]; rfl⟩, fun k => ?_⟩
      unfold qk
      have : uX h 1 (.slice b 0 l.length ext true) (.slice vb 0 1 e o) = some (.slice b 0 (l.length + 1) (ext - 1) true, h.set b (.cells (lI (l ++ [x]) ++ rest) true 1)) := by
        simp only [uX, adv]
        rw [if_neg (by omega), if_pos (by omega)]
        have hsh : Pm h 1 1 (.slice vb 0 1 e o) = some [.int .i64 x] := by
          show (Option.casesOn (nv h vb) none fun l => sub l 0 (1 * 1) : Option (List AV)) = _
          rw [UH hb]; exact hs
        rw [hsh]
        dsimp only
        rw [Y5 ow]
        have h3 : Nat.ble (0 + (l.length + 1) * 1) (mo (lI l ++ r0 :: rest)) = true := by rw [jM, hall]; exact Nat.ble_eq_true_of_le (by omega)
        rw [h3]
        dsimp only
        rw [pB, Heap.setK_eq, Nat.zero_add, Nat.mul_one]
        show some (_, h.set b (.cells ((lI l ++ r0 :: rest).set l.length (.int .i64 x)) true 1)) = _
        rw [hset]
      rw [this, Hy, ba, bc]; rfl
end Go.Ai
