/- Two partitions' pools have no frame together: the code. -/
import Derived.Test.YtnlbfbiogfilfaaUPoolNewUInv
set_option linter.all false
namespace Go.Proofs.Ytnlbfbiogfilfaa.Sh
open Go.Ai
def DoL (h : Heap) (v : AV) (us : List Int) : Prop := (∃ A B : Nat → AV, SlAt h v 3 us.length fun i => [A i, B i, .int .u8 (nz us i)]) ∧ ∀ i, i < us.length → 0 ≤ nz us i ∧ nz us i < 256
theorem DoL.grow {h h' : Heap} {v : AV} {us : List Int} (d : DoL h v us) (g : Grow h h') : DoL h' v us := by
  obtain ⟨⟨A, B, h1⟩, h2⟩ := d
  exact ⟨⟨A, B, h1.grow g⟩, h2⟩
theorem wrap_u8 {n : Int} (h0 : 0 ≤ n) (h1 : n < 256) : IntKind.u8.wrap n = n := by
  simp only [IntKind.wrap, IntKind.signed, IntKind.bits]; simp; omega
structure Works (zc : CfgZ) (p : Nat) (hb h : Heap) (w : PoolP) (z : PoolZ) (v : AV) (T : List Int) : Prop where
  pool : PoolIn h w z
  inv : Inv zc p T z
  row : Lst h v T
  off : ∀ c, v.blk = some c → ¬ fpP w z.mine.length c ∧ hb.nx ≤ c
  low : ∀ c, fpP w z.mine.length c → hb.nx ≤ c
  g : Grow hb h
theorem Works.take {zc : CfgZ} {p : Nat} {hb h : Heap} {w : PoolP} {z : PoolZ} {v : AV} {T : List Int} (W : Works zc p hb h w z v T) (po : PartOk zc p) {u : Nat} {f e : Int} {h' : Heap} (ht : akW h w z u f e h') :
    (e ≠ 0 ∧ h' = h) ∨ (e = 0 ∧ ∃ w' z', w'.p = w.p ∧ z'.mine = z.mine ∧ PoolIn h' w' z' ∧ Inv zc p (T ++ [f]) z' ∧ Lst h' v T ∧ (∀ c, v.blk = some c → ¬ fpP w' z.mine.length c) ∧ (∀ c, fpP w' z.mine.length c → hb.nx ≤ c) ∧ Grow hb h') := by
  rcases ht with ⟨_, _, rfl, rfl⟩ | ⟨_, best, r, hbest, hT, _, hf⟩
  · exact .inl ⟨by decide, rfl⟩
  · rcases hT with ⟨rfl, _, rfl, _⟩ | ⟨rfl, k, a, rest, bv', h1, hk, hx, hemp, _, _, hp, hsub, c⟩
    · exact .inl ⟨by decide, rfl⟩
    · refine .inr ⟨rfl, { w with bv := bv' }, adt z best 0 u k a rest, rfl, rfl, hp, ?_, W.row.chg c fun d e1 e2 => (W.off d e1).1 e2, fun d e1 e2 => ?_, fun d e1 => ?_, c.grow W.g W.low⟩
      · have hs := W.inv.step po (u := u) hbest.1 (by omega) h1 hk hx hemp
        have hf' := hf rfl k a rest hemp hx
        have : lY z.colours (nz z.mine best) a (2 ^ 0) = [f] := by simp [lY, hf']
        rw [this] at hs
        exact hs
      · rcases hsub d e2 with e3 | e3
        · exact (W.off d e1).1 e3
        · have := (W.row.lt e1).1; omega
      · rcases hsub d e1 with e3 | e3
        · exact W.low d e3
        · exact Nat.le_trans W.g.nx e3
structure OwnR (h : Heap) (b : Nat) (ow : List Int) : Prop where
  own : Own h b (l8 ow) 0
  len : ow.length = 4096
theorem OwnR.ints {h : Heap} {b : Nat} {ow : List Int} (o : OwnR h b ow) : Ints h .i64 (.slice b 0 4096 0 false) ow := by
  have := aij (q := .i64) (l := ow) o.own.cl (by rw [o.len]; decide) 0 false
  rw [o.len] at this
  exact this
theorem OwnR.grow {h h' : Heap} {b : Nat} {ow : List Int} (o : OwnR h b ow) (g : Grow h h') : OwnR h' b ow := ⟨o.own.grow g, o.len⟩
end Go.Proofs.Ytnlbfbiogfilfaa.Sh
/- Colours are used alike: the law, and the code. -/
namespace Go.Proofs.Ytnlbfbiogfilfaa.Sh
open Go.Ai
theorem aik {s s' : BudZ} (h : s.free = s'.free) : ∀ n, lE s n = lE s' n
  | 0 => rfl
  | n + 1 => by rw [lE, lE, aik h n, h]
theorem anU {s : BudZ} {o k : Nat} {a : Int} {rest : List Int} (hok : o ≤ k) (hx : s.free k = a :: rest) (hemp : ∀ j, o ≤ j → j < k → s.free j = []) :
    ∀ n, (n ≤ o → lE (wF s o k o a rest) n = lE s n) ∧ (o ≤ n → n ≤ k → lE (wF s o k o a rest) n + 2 ^ o = lE s n + 2 ^ n) ∧ (k < n → lE (wF s o k o a rest) n + 2 ^ o = lE s n) := by
  intro n
  induction n with
  | zero =>
    refine ⟨fun _ => rfl, fun h1 _ => ?_, fun h => by omega⟩
    have : o = 0 := by omega
    subst this; rfl
  | succ n ih =>
    obtain ⟨i1, i2, i3⟩ := ih
    have fr : (wF s o k o a rest).free n = if n = k then rest else if o ≤ n ∧ n < k then [a + 2 ^ n] else s.free n := rfl
    refine ⟨fun h => ?_, fun h1 h2 => ?_, fun h => ?_⟩
    · rw [lE, lE, i1 (by omega), fr, if_neg (by omega), if_neg (by omega)]
    · by_cases h3 : n + 1 = o
      · rw [← h3] at i1 ⊢
        rw [lE, lE, i1 (by omega)]
        subst h3
        rw [fr, if_neg (by omega), if_neg (by omega)]
      · have j := i2 (by omega) (by omega)
        rw [lE, lE, fr, if_neg (by omega), if_pos (by omega), hemp n (by omega) (by omega), List.length_singleton, List.length_nil, Nat.pow_succ]
        omega
    · by_cases h3 : n = k
      · subst h3
        have j := i2 (by omega) (by omega)
        rw [lE, lE, fr, if_pos rfl, hx, List.length_cons, Nat.add_mul]
        omega
      · have j := i3 (by omega)
        rw [lE, lE, fr, if_neg h3, if_neg (by omega)]
        omega
theorem anB {z : PoolZ} {i u k : Nat} {a : Int} {rest : List Int} (hk : k < 7) (hx : (z.buds i).free k = a :: rest) (hemp : ∀ j, 0 ≤ j → j < k → (z.buds i).free j = []) :
    oV (adt z i 0 u k a rest) i + 1 = oV z i ∧ ∀ j, j ≠ i → oV (adt z i 0 u k a rest) j = oV z j := by
  constructor
  · show lE (upd z.buds i _ i) 7 + 1 = _
    rw [iw]
    refine Eq.trans (congrArg (fun x => x + 1) (aik (s' := wF (z.buds i) 0 k 0 a rest) rfl 7)) ?_
    exact (anU (Nat.zero_le k) hx hemp 7).2.2 hk
  · intro j hj
    show lE (upd z.buds i _ j) 7 = _
    rw [gU _ _ hj]
def Even (f : Nat → Nat) (L : Nat) : Prop := ∀ j, j < L → (0 < j → f (j - 1) ≤ f j) ∧ f j ≤ f 0 + 1
theorem Even.take {f f' : Nat → Nat} {L b : Nat} (e : Even f L) (hb : Best f L b) (h1 : f' b + 1 = f b) (h2 : ∀ j, j ≠ b → f' j = f j) : Even f' L := by
  obtain ⟨b1, b2, b3⟩ := hb
  intro j hj
  obtain ⟨e1, e2⟩ := e j hj
  have m := b2 j hj
  constructor
  · intro h0
    have e1 := e1 h0
    by_cases hjb : j = b
    · subst hjb
      rw [h2 (j - 1) (by omega)]
      have := b3 (j - 1) (by omega)
      omega
    · rw [h2 j hjb]
      by_cases hjb' : j - 1 = b
      · rw [hjb'] at e1 ⊢; omega
      · rw [h2 _ hjb']; exact e1
  · by_cases h0 : b = 0
    · subst h0
      by_cases hj0 : j = 0
      · subst hj0; omega
      · rw [h2 j hj0]; omega
    · rw [h2 0 (by omega)]
      by_cases hjb : j = b
      · subst hjb; omega
      · rw [h2 j hjb]; exact e2
theorem apN {zc : CfgZ} {p : Nat} {h : Heap} {w : PoolP} {z : PoolZ} {T : List Int} (pin : PoolIn h w z) (inv : Inv zc p T z) (po : PartOk zc p) {u : Nat} {f e : Int} {h' : Heap} (ht : akW h w z u f e h') :
    (e ≠ 0 ∧ h' = h) ∨ (e = 0 ∧ ∃ w' z' best, w'.p = w.p ∧ z'.mine = z.mine ∧ PoolIn h' w' z' ∧ Inv zc p (T ++ [f]) z' ∧ Best (oV z) z.mine.length best ∧ oV z' best + 1 = oV z best ∧ (∀ j, j ≠ best → oV z' j = oV z j) ∧
      (∀ d, fpP w' z.mine.length d → fpP w z.mine.length d ∨ h.nx ≤ d) ∧ Chg (fpP w z.mine.length) h h') := by
  rcases ht with ⟨_, _, rfl, rfl⟩ | ⟨_, best, r, hbest, hT, _, hf⟩
  · exact .inl ⟨by decide, rfl⟩
  · rcases hT with ⟨rfl, _, rfl, _⟩ | ⟨rfl, k, a, rest, bv', h1, hk, hx, hemp, _, _, hp, hsub, c⟩
    · exact .inl ⟨by decide, rfl⟩
    · obtain ⟨f1, f2⟩ := anB (u := u) hk hx hemp
      refine .inr ⟨rfl, { w with bv := bv' }, adt z best 0 u k a rest, best, rfl, rfl, hp, ?_, hbest, f1, f2, hsub, c⟩
      have hs := inv.step po (u := u) hbest.1 (by omega) h1 hk hx hemp
      have hf' := hf rfl k a rest hemp hx
      have : lY z.colours (nz z.mine best) a (2 ^ 0) = [f] := by simp [lY, hf']
      rw [this] at hs
      exact hs
structure Two (zc : CfgZ) (p : Nat) (hb h : Heap) (wp : PoolP) (zp : PoolZ) (wq : PoolP) (zq : PoolZ) (Tp Tq : List Int) : Prop where
  pp : PoolIn h wp zp
  pq : PoolIn h wq zq
  ip : Inv zc p Tp zp
  iq : Inv zc p Tq zq
  dis : ∀ c, fpP wp zp.mine.length c → ¬ fpP wq zq.mine.length c
  lowp : ∀ c, fpP wp zp.mine.length c → hb.nx ≤ c
  lowq : ∀ c, fpP wq zq.mine.length c → hb.nx ≤ c
  g : Grow hb h
theorem Two.grow {zc : CfgZ} {p : Nat} {hb h h' : Heap} {wp : PoolP} {zp : PoolZ} {wq : PoolP} {zq : PoolZ} {Tp Tq : List Int} (t : Two zc p hb h wp zp wq zq Tp Tq) (g : Grow h h') : Two zc p hb h' wp zp wq zq Tp Tq :=
  ⟨t.pp.grow g, t.pq.grow g, t.ip, t.iq, t.dis, t.lowp, t.lowq, t.g.trans g⟩
theorem Two.swap {zc : CfgZ} {p : Nat} {hb h : Heap} {wp : PoolP} {zp : PoolZ} {wq : PoolP} {zq : PoolZ} {Tp Tq : List Int} (t : Two zc p hb h wp zp wq zq Tp Tq) : Two zc p hb h wq zq wp zp Tq Tp :=
  ⟨t.pq, t.pp, t.iq, t.ip, fun c h1 h2 => t.dis c h2 h1, t.lowq, t.lowp, t.g⟩
theorem Two.take {zc : CfgZ} {p : Nat} {hb h : Heap} {wp : PoolP} {zp : PoolZ} {wq : PoolP} {zq : PoolZ} {Tp Tq : List Int} (t : Two zc p hb h wp zp wq zq Tp Tq) (po : PartOk zc p) {u : Nat} {f e : Int} {h' : Heap} (ht : akW h wp zp u f e h') :
    ∃ wp' zp' Tp', wp'.p = wp.p ∧ zp'.mine = zp.mine ∧ Two zc p hb h' wp' zp' wq zq Tp' Tq ∧ Tp'.length ≤ Tp.length + 1 ∧ Chg (fpP wp zp.mine.length) h h' ∧
      ((e ≠ 0 ∧ zp' = zp) ∨ (e = 0 ∧ ∃ best, Best (oV zp) zp.mine.length best ∧ oV zp' best + 1 = oV zp best ∧ ∀ j, j ≠ best → oV zp' j = oV zp j)) := by
  rcases apN t.pp t.ip po ht with ⟨h0, rfl⟩ | ⟨rfl, w', z', best, e1, e2, q1, q2, q3, q4, q5, q6, q7⟩
  · exact ⟨wp, zp, Tp, rfl, rfl, t, by omega, Grow.refl.chg _, .inl ⟨h0, rfl⟩⟩
  · refine ⟨w', z', _, e1, e2, ⟨q1, t.pq.chg q7 fun d x1 x2 => t.dis d x2 x1, q2, t.iq, fun d x1 x2 => ?_, fun d x1 => ?_, t.lowq, q7.grow t.g t.lowp⟩, by simp, q7, .inr ⟨rfl, best, q3, q4, q5⟩⟩
    · rw [e2] at x1
      rcases q6 d x1 with x3 | x3
      · exact t.dis d x3 x2
      · have := t.pq.lt x2; omega
    · rw [e2] at x1
      rcases q6 d x1 with x3 | x3
      · exact t.lowp d x3
      · exact Nat.le_trans t.g.nx x3
theorem aoG {n : Nat} {h : Heap} {a b : AV} {l : List Int} (ha : Ints h .i64 a l) (hb : Ints h .i64 b l) : ∀ (q i : Nat), i ≤ l.length → l.length - i < q →
    Run1 (fun k => i9 n k q a b (i : Int) h) fun r h' => r = true ∧ h' = h := by
  intro q
  induction q with
  | zero => omega
  | succ q ih =>
    intro i hi hq
    simp only [MQ]
    unfold oO mc sS
    simp only [ha.len]
    refine RunG.ifB (fun e => ?_) fun e => by exact lD ⟨rfl, rfl⟩
    simp at e
    have hs := ha.small
    have e1 : (!(nz l i == nz l i)) = false := by simp
    simp only [aL, bg, bj, bl, cg, b8, cb, cj, bC, ck, ci, ce, cx, cz, bD, bq, bX, cd, bJ, bb, bo, aN, bu, bt, aP, aJ, be, cm, cF, bM, ba, bc, cq, cp, bL, bO, bN, bP, bw, bz, bK, List.getElem?_cons_zero, List.getElem?_cons_succ, Nat.zero_add, Nat.reduceAdd, Nat.add_zero, ha.elN e, hb.elN e, e1, jd (show i ≤ 9223372036854775806 by omega)]
    exact ih (i + 1) (by omega) (by omega)
theorem v_EqInts {n : Nat} {h : Heap} {a b : AV} {l : List Int} (hn : l.length < n) (ha : Ints h .i64 a l) (hb : Ints h .i64 b l) : Run1 (d7 n a b h) fun r h' => r = true ∧ h' = h := by
  unfold d7 uW uG
  have e1 : (!((l.length : Int) == (l.length : Int))) = false := by simp
  simp only [aL, bg, bj, bl, cg, b8, cb, cj, bC, ck, ci, ce, cx, cz, bD, bq, bX, cd, bJ, bb, bo, aN, bu, bt, aP, aJ, be, cm, cF, bM, ba, bc, cq, cp, bL, bO, bN, bP, bw, bz, bK, List.getElem?_cons_zero, List.getElem?_cons_succ, Nat.zero_add, Nat.reduceAdd, Nat.add_zero, ha.len, hb.len, e1]
  exact aoG ha hb n 0 (by omega) (by omega)
abbrev kE := cJ
abbrev jE := cJ → AV → AV → AV → Int → Heap → CRes
theorem F5 {z : PoolZ} {i : Nat} (hi : i < z.mine.length) : nz (r8 z) i = (oV z i : Int) := by
  rw [vu (by simp [r8]; exact hi)]
  simp [r8]
theorem mt (z : PoolZ) : (r8 z).length = z.mine.length := by simp [r8]
theorem v_Even_9 {R : Type} {ap : kE → R → CRes} {Q : R → Prop} {n : Nat} {h : Heap} {v2 v7 v9 v13 : AV} {i12 : Int} {i : Nat} {z : PoolZ} (he : Even (oV z) z.mine.length) (hs : ∀ j, j < z.mine.length → oV z j ≤ 1000000000) (hv : Ints h .i64 v13 (r8 z))
    (f1 f2 f3 f4 f5 f6 f7) {J : jE} (hJ : RunG ap (fun k => jG n f1 f2 f3 f4 f5 f6 f7 k (J k) v2 v7 v9 (i : Int) i12 h) Q) :
    ∀ (q m : Nat), 1 ≤ m → m ≤ z.mine.length → z.mine.length - m < q → RunG ap (fun k => gA n f1 f2 f3 f4 f5 f6 f7 k (J k) q v2 v7 v9 (i : Int) i12 v13 (m : Int) h) Q := by
  intro q
  induction q with
  | zero => omega
  | succ q ih =>
    intro m hm1 hm hq
    simp only [JP]
    unfold ni kN qq
    have hsm := hv.small
    rw [mt] at hsm
    simp only [hv.len, mt]
    refine RunG.ifB (fun e => ?_) fun e => by exact hJ
    simp at e
    have w1 : IntKind.i64.wrap ((m : Int) - 1) = ((m - 1 : Nat) : Int) := by rw [qH (by omega) (by omega)]; omega
    obtain ⟨e1, e2⟩ := he m e
    have e1 := e1 (by omega)
    have s0 := hs 0 (by omega)
    have w2 : IntKind.i64.wrap ((oV z 0 : Int) + 1) = ((oV z 0 + 1 : Nat) : Int) := by rw [qH (by omega) (by omega)]; omega
    have l1 : m - 1 < (r8 z).length := by rw [mt]; omega
    have l2 : m < (r8 z).length := by rw [mt]; omega
    have l3 : 0 < (r8 z).length := by rw [mt]; omega
    have d1 : decide ((oV z m : Int) < (oV z (m - 1) : Int)) = false := by simp; omega
    have d2 : decide (((oV z 0 + 1 : Nat) : Int) < (oV z m : Int)) = false := by simp; omega
    have z0 := hv.elN l3
    simp only [Int.ofNat_zero, Int.natCast_zero] at z0
    simp only [aL, bg, bj, bl, cg, b8, cb, cj, bC, ck, ci, ce, cx, cz, bD, bq, bX, cd, bJ, bb, bo, aN, bu, bt, aP, aJ, be, cm, cF, bM, ba, bc, cq, cp, bL, bO, bN, bP, bw, bz, bK, List.getElem?_cons_zero, List.getElem?_cons_succ, Nat.zero_add, Nat.reduceAdd, Nat.add_zero, w1, hv.elN l1, hv.elN l2, z0, F5 (show m - 1 < z.mine.length by omega), F5 e, F5 (show 0 < z.mine.length by omega), d1, w2, d2, jd (show m ≤ 9223372036854775806 by omega)]
    exact ih (m + 1) (by omega) (by omega) (by omega)
theorem v_Even_5 {R : Type} {ap : kE → R → CRes} {Q : R → Prop} {n : Nat} {h : Heap} {v2 v7 v9 v15 v18 : AV} {i k9 : Nat} {lw ln : List Int} (hw : Ints h .i64 v15 lw) (hn : Ints h .i64 v18 ln) (hk : k9 < lw.length) (hl : ln.length = lw.length)
    (hno : nz ln k9 < nz lw k9 → ∀ j, j < lw.length → nz lw j ≤ nz lw k9) (f1 f2 f3 f4 f5 f6 f7)
    {J3 : kE → AV → AV → AV → Int → AV → AV → Int → Heap → CRes} (hJ : RunG ap (fun k => jF n f1 f2 f3 f4 f5 f6 f7 k (J3 k) v2 v7 v9 (i : Int) v15 v18 (k9 : Int) h) Q) :
    ∀ (q m : Nat), m ≤ lw.length → lw.length - m < q → RunG ap (fun k => fg n f1 f2 f3 f4 f5 f6 f7 k (J3 k) q v2 v7 v9 (i : Int) v15 v18 (k9 : Int) (m : Int) h) Q := by
  intro q
  induction q with
  | zero => omega
  | succ q ih =>
    intro m hm hq
    simp only [KE]
    unfold nl lf qG
    have hsm := hw.small
    simp only [hw.len]
    refine RunG.ifB (fun e => ?_) fun e => by exact hJ
    simp at e
    simp only [aL, bg, bj, bl, cg, b8, cb, cj, bC, ck, ci, ce, cx, cz, bD, bq, bX, cd, bJ, bb, bo, aN, bu, bt, aP, aJ, be, cm, cF, bM, ba, bc, cq, cp, bL, bO, bN, bP, bw, bz, bK, List.getElem?_cons_zero, List.getElem?_cons_succ, Nat.zero_add, Nat.reduceAdd, Nat.add_zero, hn.elN (show k9 < ln.length by omega), hw.elN hk, hw.elN e, jd (show m ≤ 9223372036854775806 by omega)]
    refine RunG.ifB (fun e2 => ?_) fun e2 => by exact ih (m + 1) (by omega) (by omega)
    simp at e2
    have d1 : decide (nz lw k9 < nz lw m) = false := by have := hno e2 m e; simp; omega
    simp only [aL, bg, bj, bl, cg, b8, cb, cj, bC, ck, ci, ce, cx, cz, bD, bq, bX, cd, bJ, bb, bo, aN, bu, bt, aP, aJ, be, cm, cF, bM, ba, bc, cq, cp, bL, bO, bN, bP, bw, bz, bK, List.getElem?_cons_zero, List.getElem?_cons_succ, Nat.zero_add, Nat.reduceAdd, Nat.add_zero, d1]
    exact ih (m + 1) (by omega) (by omega)
theorem v_Even_3 {R : Type} {ap : kE → R → CRes} {Q : R → Prop} {n : Nat} {h : Heap} {v2 v7 v9 v15 v18 : AV} {i : Nat} {lw ln : List Int} (hw : Ints h .i64 v15 lw) (hn : Ints h .i64 v18 ln) (hl : ln.length = lw.length) (hln : lw.length < n)
    (hno : ∀ k9, k9 < lw.length → nz ln k9 < nz lw k9 → ∀ j, j < lw.length → nz lw j ≤ nz lw k9) (f1 f2 f3 f4 f5 f6 f7)
    {J : jE} (hJ : RunG ap (fun k => jI n f1 f2 f3 f4 f5 f6 f7 k (J k) v2 v7 v9 (i : Int) h) Q) :
    ∀ (q m : Nat), m ≤ lw.length → lw.length - m < q → RunG ap (fun k => eu n f1 f2 f3 f4 f5 f6 f7 k (J k) q v2 v7 v9 (i : Int) v15 v18 (m : Int) h) Q := by
  intro q
  induction q with
  | zero => omega
  | succ q ih =>
    intro m hm hq
    simp only [Ke]
    unfold ns
    have hsm := hw.small
    simp only [hw.len]
    refine RunG.ifB (fun e => ?_) fun e => by exact hJ
    simp at e
    refine v_Even_5 hw hn e hl (hno m e) f1 f2 f3 f4 f5 f6 f7 (J3 := fun k => eu n f1 f2 f3 f4 f5 f6 f7 k (J k) q) ?_ n 0 (by omega) (by omega)
    unfold jF qX
    simp only [aL, bg, bj, bl, cg, b8, cb, cj, bC, ck, ci, ce, cx, cz, bD, bq, bX, cd, bJ, bb, bo, aN, bu, bt, aP, aJ, be, cm, cF, bM, ba, bc, cq, cp, bL, bO, bN, bP, bw, bz, bK, List.getElem?_cons_zero, List.getElem?_cons_succ, Nat.zero_add, Nat.reduceAdd, Nat.add_zero, jd (show m ≤ 9223372036854775806 by omega)]
    exact ih (m + 1) (by omega) (by omega)
theorem ann {h : Heap} {w : PoolP} {z : PoolZ} (b : PoolIn h w z) : ∀ j, j < z.mine.length → oV z j ≤ 1000000000 := by
  intro j hj
  have := ahL (b.each j hj).rd.small 7 (Nat.le_refl _)
  simp at this
  show lE (z.buds j) 7 ≤ _
  omega
theorem ami {n : Nat} (hn : 100 < n) {zc : CfgZ} {p : Nat} (po : PartOk zc p) {hb : Heap} (hro : hb.ro ≤ hb.nx) {v2 : AV} {us : List Int} (hd : DoL hb v2 us) {P Q : Nat} (f1 f2 f3 f4) :
    ∀ (q i : Nat) (h : Heap) (wp : PoolP) (zp : PoolZ) (wq : PoolP) (zq : PoolZ) (Tp Tq : List Int), Two zc p hb h wp zp wq zq Tp Tq → Even (oV zp) zp.mine.length → wp.p = P → wq.p = Q → Tp.length ≤ 10 + i → Tq.length ≤ 10 + i → i ≤ us.length → i ≤ 60 → min us.length 60 - i < q →
    Run1 (fun k => dV n f1 f2 f3 f4 (ib n) (ij n) (d7 n) k q v2 (.ptr P 0) (.ptr Q 0) (i : Int) h) fun r h' => r = true ∧ Grow hb h' := by
  intro q
  induction q with
  | zero => omega
  | succ q ih =>
    intro i h wp zp wq zq Tp Tq t ev hP hQ hTp hTq hi hi60 hq
    simp only [Kr]
    unfold nh kO qn nr qL
    obtain ⟨⟨A, B, hs⟩, hr⟩ := hd.grow t.g
    simp only [hs.len]
    refine RunG.ifB (fun e => RunG.ifB (fun e2 => ?_) fun _ => by exact lD ⟨rfl, t.g⟩) fun _ => by simp only [aL, bg, bj, bl, cg, b8, cb, cj, bC, ck, ci, ce, cx, cz, bD, bq, bX, cd, bJ, bb, bo, aN, bu, bt, aP, aJ, be, cm, cF, bM, ba, bc, cq, cp, bL, bO, bN, bP, bw, bz, bK, List.getElem?_cons_zero, List.getElem?_cons_succ, Nat.zero_add, Nat.reduceAdd, Nat.add_zero]; exact lD ⟨rfl, t.g⟩
    simp at e e2
    have hmin : min us.length 60 - (i + 1) < q := by omega
    subst hP hQ
    obtain ⟨b, off, cl, d1, d2, d3, d4⟩ := hs.at_ (i := (i : Int)) (by omega) (by omega)
    rw [Int.toNat_natCast] at d4
    have d5 : cl[off + 2]? = some (.int .u8 (nz us i)) := by
      have := congrArg (·[2]?) d4
      simp only [List.getElem?_take, List.getElem?_drop] at this
      simpa using this
    obtain ⟨r1, r2⟩ := hr i e
    have m1 : (nz us i).tmod 5 = nz us i % 5 := by rw [Int.tmod_eq_emod_of_nonneg r1]
    have m2 : IntKind.u8.wrap (2 + nz us i % 5) = ((2 + (nz us i % 5).toNat : Nat) : Int) := by rw [wrap_u8 (by omega) (by omega)]; omega
    simp only [aL, bg, bj, bl, cg, b8, cb, cj, bC, ck, ci, ce, cx, cz, bD, bq, bX, cd, bJ, bb, bo, aN, bu, bt, aP, aJ, be, cm, cF, bM, ba, bc, cq, cp, bL, bO, bN, bP, bw, bz, bK, List.getElem?_cons_zero, List.getElem?_cons_succ, Nat.zero_add, Nat.reduceAdd, Nat.add_zero, hs.ia (show (0 : Int) ≤ (i : Int) by omega) (show (i : Int) < _ by omega), d1, bS d2, d5, apf (show (5 : Int) ≠ 0 by decide), m1, m2]
    refine Run2.bind (aoR (by omega) (t.g.le hro) t.pp (t.ip.ok po (by omega)) (u := 2 + (nz us i % 5).toNat) (by omega) (by omega)) ?_
    rintro f er h1 ht
    obtain ⟨wp1, zp1, Tp1, p1, p2, t1, p3, _, p5⟩ := t.take po ht
    have ev1 : Even (oV zp1) zp1.mine.length := by
      rw [p2]
      rcases p5 with ⟨_, rfl⟩ | ⟨_, best, q1, q2, q3⟩
      · exact ev
      · exact ev.take q1 q2 q3
    rw [← p1]
    refine Run1.bind (al6 (by omega) (t1.g.le hro) t1.pp (t1.ip.ok po (by omega))) ?_
    rintro v13 h2 ⟨l1, _, g2⟩
    have t2 := t1.grow g2
    have ok1 := t1.ip.ok po (by omega)
    refine v_Even_9 (z := zp1) ev1 (ann t1.pp) l1.ints f1 f2 f3 f4 _ _ _ (J := fun k => dV n f1 f2 f3 f4 (ib n) (ij n) (d7 n) k q) ?_ n 1 (by omega) (by have := ok1.ne; omega) (by have := ok1.ln; omega)
    unfold jG qI nA rj
    have okq := t2.iq.ok po (by omega)
    refine Run1.bind (al6 (by omega) (t2.g.le hro) t2.pq okq) ?_
    rintro v15 h3 ⟨l3, o3, g3⟩
    have t3 := t2.grow g3
    refine Run2.bind (aoR (by omega) (t3.g.le hro) t3.pq (t3.iq.ok po (by omega)) (u := 2 + (nz us i % 5).toNat) (by omega) (by omega)) ?_
    rintro f' er' h4 ht'
    obtain ⟨wq4, zq4, Tq4, s1, s2, t4, s3, s4, s5⟩ := t3.swap.take po ht'
    have t4 := t4.swap
    rw [← s1]
    have l4 : Lst h4 v15 (r8 zq) := l3.chg s4 fun c e1 e2 => by
      have := t2.pq.lt e2
      have := o3 c e1
      omega
    refine Run1.bind (al6 (by omega) (t4.g.le hro) t4.pq (t4.iq.ok po (by omega))) ?_
    rintro v18 h5 ⟨l5, _, g5⟩
    have t5 := t4.grow g5
    have l45 := l4.grow g5
    have hno : ∀ k9, k9 < (r8 zq).length → nz (r8 zq4) k9 < nz (r8 zq) k9 → ∀ j, j < (r8 zq).length → nz (r8 zq) j ≤ nz (r8 zq) k9 := by
      intro k9 hk9 hlt j hj
      rw [mt] at hk9 hj
      rw [F5 hk9, F5 (by rw [s2]; exact hk9)] at hlt
      rw [F5 hk9, F5 hj]
      rcases s5 with ⟨_, rfl⟩ | ⟨_, best, q1, q2, q3⟩
      · omega
      · by_cases hb' : k9 = best
        · subst hb'
          have := q1.2.1 j hj
          omega
        · rw [q3 k9 hb'] at hlt; omega
    have hlen : (r8 zq4).length = (r8 zq).length := by rw [mt, mt, s2]
    have fin : RunG ap1 (fun k => eu n f1 f2 f3 f4 (ib n) (ij n) (d7 n) k (dV n f1 f2 f3 f4 (ib n) (ij n) (d7 n) k q) n v2 (.ptr wp1.p 0) (.ptr wq4.p 0) (i : Int) v15 v18 ((0 : Nat) : Int) h5) fun r => r.1 = true ∧ Grow hb r.2 := by
      refine v_Even_3 l45.ints l5.ints hlen (by have := okq.ln; rw [mt]; omega) hno f1 f2 f3 f4 _ _ _ (J := fun k => dV n f1 f2 f3 f4 (ib n) (ij n) (d7 n) k q) ?_ n 0 (by omega) (by have := okq.ln; rw [mt]; omega)
      unfold jI qJ
      simp only [aL, bg, bj, bl, cg, b8, cb, cj, bC, ck, ci, ce, cx, cz, bD, bq, bX, cd, bJ, bb, bo, aN, bu, bt, aP, aJ, be, cm, cF, bM, ba, bc, cq, cp, bL, bO, bN, bP, bw, bz, bK, List.getElem?_cons_zero, List.getElem?_cons_succ, Nat.zero_add, Nat.reduceAdd, Nat.add_zero, jd (show i ≤ 9223372036854775806 by omega)]
      rw [p1, s1]
      exact ih (i + 1) h5 wp1 zp1 wq4 zq4 Tp1 Tq4 t5 ev1 p1 s1 (by omega) (by omega) (by omega) (by omega) hmin
    have e4 : (!(((r8 zq4).length : Int) == ((r8 zq).length : Int))) = false := by rw [hlen]; simp
    simp only [aL, bg, bj, bl, cg, b8, cb, cj, bC, ck, ci, ce, cx, cz, bD, bq, bX, cd, bJ, bb, bo, aN, bu, bt, aP, aJ, be, cm, cF, bM, ba, bc, cq, cp, bL, bO, bN, bP, bw, bz, bK, List.getElem?_cons_zero, List.getElem?_cons_succ, Nat.zero_add, Nat.reduceAdd, Nat.add_zero, l5.len, l45.len, e4]
    refine RunG.ifB (fun e5 => ?_) fun _ => fin
    rcases s5 with ⟨_, rfl⟩ | ⟨rfl, _⟩
    · refine Run1.bind (v_EqInts (l := r8 zq4) (by have := okq.ln; rw [mt]; omega) l5.ints l45.ints) ?_
      rintro _ h6 ⟨rfl, rfl⟩
      simp only [aL, bg, bj, bl, cg, b8, cb, cj, bC, ck, ci, ce, cx, cz, bD, bq, bX, cd, bJ, bb, bo, aN, bu, bt, aP, aJ, be, cm, cF, bM, ba, bc, cq, cp, bL, bO, bN, bP, bw, bz, bK, List.getElem?_cons_zero, List.getElem?_cons_succ, Nat.zero_add, Nat.reduceAdd, Nat.add_zero, Bool.not_true]
      exact fin
    · simp at e5
theorem even_new {zc : CfgZ} {p : Nat} (hm : abj zc = true) (po : PartOk zc p) {bs : Nat → BudZ} (h : ∀ j, j < (ec zc p).cols.length → ∃ o, Making (IZ zc (nz (ec zc p).cols j)) (IZ zc (nz (ec zc p).cols j)) o (bs j)) : Even (oV (W7 zc p bs)) (W7 zc p bs).mine.length := by
  have h1 : ∀ j, j < (ec zc p).cols.length → oV (W7 zc p bs) j = (zc.frames / zc.colours).toNat := by
    intro j hj
    obtain ⟨o, mk⟩ := h j hj
    have h2 : oV (W7 zc p bs) j = IZ zc (nz (ec zc p).cols j) := mk.sum
    rw [h2]
    unfold IZ cntI
    obtain ⟨n1, n2⟩ := po.nz hj
    simp only [abj, Bool.and_eq_true] at hm
    have hm := hm.1
    simp only [pU, Bool.and_eq_true] at hm
    obtain ⟨_, hf, hd, _⟩ := hm
    have hco := po.co
    simp [cR] at hco hf
    simp at hd
    rw [Int.tmod_eq_emod_of_nonneg (by omega)] at hd
    congr 1
    obtain ⟨k, hk⟩ := Int.dvd_of_emod_eq_zero hd
    generalize hx : nz (ec zc p).cols j = x at *
    rw [hk, Int.mul_ediv_cancel_left _ (by omega)]
    rw [show zc.colours * k - x + zc.colours - 1 = (zc.colours - 1 - x) + zc.colours * k by omega, Int.add_mul_ediv_left _ _ (by omega), Int.ediv_eq_zero_of_lt (by omega) (by omega)]
    omega
  intro j hj
  have hj' : j < (ec zc p).cols.length := hj
  have hpos := po.pos
  rw [h1 j hj', h1 0 hpos]
  exact ⟨fun _ => by rw [h1 (j - 1) (by omega)]; exact Nat.le_refl _, by omega⟩
theorem v_Even {n : Nat} (hn : 5000 < n) {zc : CfgZ} (hfit : Fits n zc) {h : Heap} (hro : h.ro ≤ h.nx) {c : List AV} (hc : Cfg h zc c) (p : Int) {v1 : AV} {us : List Int} (hd : DoL h v1 us) :
    Run1 (oR n (.agg c) p v1 h) fun r h' => r = true ∧ Grow h h' := by
  unfold oR sR sM mD qb mL qf
  obtain ⟨t, pp, rfl, ht, hp⟩ := hc
  refine Run1.bind (yx ..) ?_
  rintro x h1 ⟨hb, g⟩
  have hw : ∀ K : AV → Heap → CRes, JB l6 [] h1 K = K (.bool true) h1 := fun K => rfl
  have t1 : ∀ A B : CRes, ifB (!true) A B = B := fun _ _ => rfl
  simp only [aL, bg, bj, bl, cg, b8, cb, cj, bC, ck, ci, ce, cx, cz, bD, bq, bX, cd, bJ, bb, bo, aN, bu, bt, aP, aJ, be, cm, cF, bM, ba, bc, cq, cp, bL, bO, bN, bP, bw, bz, bK, List.getElem?_cons_zero, List.getElem?_cons_succ, Nat.zero_add, Nat.reduceAdd, Nat.add_zero, hw, t1, bS hb, ji, jv, jr, jg, jl, ju, jo, jk, jx, jf, fF, gd, fV, fZ, fC, fT, fL, f0, fK, fU, fJ, fE, fR, gb, ga, dR, de, cW, fN, fH, fY, gc, fW, fD, dP, dQ, dW, dS, cU]
  refine Run2.bind (v_PNew hn hfit (g.le hro) (Cfg.mk' (ht.grow g) (hp.grow g)) p) ?_
  rintro r2 e2 h2 ⟨g2, q2⟩
  have gg2 := g.trans g2
  simp only [aL, bg, bj, bl, cg, b8, cb, cj, bC, ck, ci, ce, cx, cz, bD, bq, bX, cd, bJ, bb, bo, aN, bu, bt, aP, aJ, be, cm, cF, bM, ba, bc, cq, cp, bL, bO, bN, bP, bw, bz, bK, List.getElem?_cons_zero, List.getElem?_cons_succ, Nat.zero_add, Nat.reduceAdd, Nat.add_zero, bS (g2.cl hb), ji, jv, jr, jg, jl, ju, jo, jk, jx, jf, fF, gd, fV, fZ, fC, fT, fL, f0, fK, fU, fJ, fE, fR, gb, ga, dR, de, cW, fN, fH, fY, gc, fW, fD, dP, dQ, dW, dS, cU]
  refine Run2.bind (v_PNew hn hfit (gg2.le hro) (Cfg.mk' (ht.grow gg2) (hp.grow gg2)) p) ?_
  rintro r3 e3 h3 ⟨g3, q3⟩
  have gg3 := gg2.trans g3
  rcases q2 with ⟨a1, a2, rfl⟩ | ⟨rfl, a2, wp, bs, rfl, mk, hmk⟩
  · have a3 : e3 = e2 := by
      rcases q3 with ⟨_, b2, _⟩ | ⟨rfl, b2, _⟩
      · rw [a2, b2]
      · rw [a2, b2]
    subst a3
    have c1 : (!(e3 == 0)) = true := by simpa using a1
    have c2 : ∀ A B : CRes, ifB true A B = A := fun _ _ => rfl
    have c3 : (e3 == e3) = true := by simp
    simp only [aL, bg, bj, bl, cg, b8, cb, cj, bC, ck, ci, ce, cx, cz, bD, bq, bX, cd, bJ, bb, bo, aN, bu, bt, aP, aJ, be, cm, cF, bM, ba, bc, cq, cp, bL, bO, bN, bP, bw, bz, bK, List.getElem?_cons_zero, List.getElem?_cons_succ, Nat.zero_add, Nat.reduceAdd, Nat.add_zero, c1, c2, c3, bS ((g2.trans g3).cl hb), ji, jv, jr, jg, jl, ju, jo, jk, jx, jf, fF, gd, fV, fZ, fC, fT, fL, f0, fK, fU, fJ, fE, fR, gb, ga, dR, de, cW, fN, fH, fY, gc, fW, fD, dP, dQ, dW, dS, cU]
    refine Run1.bind (v_May hfit (gg3.le hro) (Cfg.mk' (ht.grow gg3) (hp.grow gg3))) ?_
    rintro _ h4 ⟨rfl, g4⟩
    refine RunG.ifB (fun _ => lD ⟨rfl, gg3.trans g4⟩) fun hm => ?_
    simp at hm
    have : e3 = 270 := by
      unfold FW at a2
      rw [hm, if_pos rfl] at a2
      by_cases hh : 0 ≤ p ∧ p < zc.parts.length
      · rw [if_pos hh] at a2; exact (a1 a2).elim
      · rw [if_neg hh] at a2; exact a2
    subst this
    exact lD ⟨rfl, gg3.trans g4⟩
  · rcases q3 with ⟨b1, b2, _⟩ | ⟨rfl, _, wq, bs', rfl, mk', hmk'⟩
    · exact (b1 (by rw [b2, a2])).elim
    · have hm1 : abj zc = true := by
        unfold FW at a2
        cases hmay : abj zc with
        | true => rfl
        | false => rw [hmay] at a2; simp at a2
      have hp0 : 0 ≤ p ∧ p < zc.parts.length := by
        unfold FW at a2
        rw [hm1, if_pos rfl] at a2
        by_cases hh : 0 ≤ p ∧ p < zc.parts.length
        · exact hh
        · rw [if_neg hh] at a2; omega
      obtain ⟨pn, rfl⟩ := Int.eq_ofNat_of_zero_le hp0.1
      have po := am1 hm1 (show pn < zc.parts.length by have := hp0.2; omega)
      simp only [Int.toNat_natCast] at mk hmk mk' hmk'
      have invp := Inv.new (zc := zc) (p := pn) hmk
      have invq := Inv.new (zc := zc) (p := pn) hmk'
      have pinp : PoolIn h3 wp (W7 zc pn bs) := PoolIn.grow mk.pool g3
      have pinq : PoolIn h3 wq (W7 zc pn bs') := mk'.pool
      have evp := even_new hm1 po hmk
      have okq := invq.ok po (by simp)
      have hq := po.quota
      simp only [q8, Bool.and_eq_true] at hq
      have hord := hq.1
      simp [cR] at hord
      have t0 : Two zc pn h h3 wp (W7 zc pn bs) wq (W7 zc pn bs') [] [] := ⟨pinp, pinq, invp, invq, fun d x1 x2 => by
          have y1 := mk.lt x1
          have y2 := mk'.low d x2
          omega, fun d x1 => Nat.le_trans g.nx (mk.low d x1), fun d x1 => Nat.le_trans gg2.nx (mk'.low d x1), gg3⟩
      have c1 : ∀ A B : CRes, ifB (!((0 : Int) == 0)) A B = B := fun _ _ => rfl
      have c2 : (!((0 : Int) == 0)) = false := rfl
      have c3 : ∀ A B : CRes, ifB false A B = B := fun _ _ => rfl
      simp only [c2, c3]
      refine Run2.bind (v_Image (o := (ec zc pn).order.toNat) (by omega) (gg3.le hro) pinq okq (by omega) (by show (ec zc pn).order = _; omega) rfl) ?_
      rintro r er h4 (⟨rfl, rfl, rfl, _⟩ | ⟨rfl, k, a, rest, bv', i1, hk, hxx, hemp, _, _, hpin, hsub, cc⟩)
      · exact ami (by omega) po hro hd _ _ _ _ n 0 h4 wp _ wq _ [] [] t0 evp rfl rfl (by simp) (by simp) (by omega) (by omega) (by omega)
      · have hs := invq.step po (u := 1) okq.ne (by omega) i1 hk hxx hemp
        rw [List.nil_append] at hs
        have hpow : 2 ^ (ec zc pn).order.toNat ≤ 2 ^ 3 := Nat.pow_le_pow_right (by omega) (by omega)
        refine ami (by omega) po hro hd _ _ _ _ n 0 h4 wp _ { wq with bv := bv' } _ [] _ ⟨pinp.chg cc fun d x1 x2 => t0.dis d x1 x2, hpin, invp, hs, fun d x1 x2 => ?_, t0.lowp, fun d x1 => ?_, cc.grow gg3 t0.lowq⟩ evp rfl rfl (by simp) (by rw [yv]; omega) (by omega) (by omega) (by omega)
        · rcases hsub d x2 with x3 | x3
          · exact t0.dis d x1 x3
          · have := pinp.lt x1; omega
        · rcases hsub d x1 with x3 | x3
          · exact t0.lowq d x3
          · exact Nat.le_trans gg3.nx x3
end Go.Proofs.Ytnlbfbiogfilfaa.Sh
