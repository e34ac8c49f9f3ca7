/- The slices and the turns, by the code; what may be. -/
import Derived.Test.YtnlbfbiogfilfaaUPlan3UPlan4
import Derived.Test.YtnlbfbiogfilfaaAiKCfg
set_option linter.all false
namespace Go.Proofs.Ytnlbfbiogfilfaa.Sh
open Go.Ai
theorem build4 (q : IntKind) (a b c d : Int) (k : AV → CRes) : BZ [.int q 0, .int q 0, .int q 0, .int q 0] [(0, 1, .int q a), (1, 1, .int q b), (2, 1, .int q c), (3, 1, .int q d)] k = k (.agg [.int q a, .int q b, .int q c, .int q d]) := rfl
theorem v_shape {n : Nat} {z : CfgZ} {h : Heap} (hro : h.ro ≤ h.nx) {c : List AV} (hc : Cfg h z c) {p : Nat} (hp : p < z.parts.length) (ho : 0 ≤ (ec z p).order) : Run1 (pz n (.agg c) p h) fun r h' => r = .agg (AD (ah8 z p)) ∧ Grow h h' := by
  unfold pz RA Rq
  obtain ⟨t, pp, rfl, ht, hps, S, hpt, hS⟩ := hc
  refine Run1.bind (yx ..) ?_
  rintro x h1 ⟨hb, g⟩
  refine Run1.bind (amQ (g.le hro) _ 0) ?_
  rintro y h2 ⟨hy, oy, g2⟩
  have t2 := g.trans g2
  simp only [aL, bg, bj, bl, cg, b8, cb, cj, bC, ck, ci, ce, cx, cz, bD, bq, bX, cd, bJ, bb, bo, aN, bu, bt, aP, aJ, be, cm, cF, bM, ba, bc, cq, cp, bL, bO, bN, bP, bw, bz, bK, List.getElem?_cons_zero, List.getElem?_cons_succ, Nat.zero_add, Nat.reduceAdd, Nat.add_zero, bS (g2.cl hb), ji, jv, jr, jg, jl, ju, jo, jk, jx, jf, fF, gd, fV, fZ, fC, fT, fL, f0, fK, fU, fJ, fE, fR, gb, ga, dR, de, cW, fN, fH, fY, gc, fW, fD, dP, dQ, dW, dS, cU, SlAt.eld (hpt.grow t2) (show (0 : Int) ≤ (p : Int) by omega) (show (p : Int) < _ by omega), Int.toNat_natCast]
  rw [show z.parts.getD p default = ec z p from rfl] at *
  refine Run1.bind (ahH (n := 8) (t2.le hro) (by rfl) (by rfl)) ?_
  rintro w h3 ⟨hw, ow, g3⟩
  have t3 := t2.trans g3
  simp only [aL, bg, bj, bl, cg, b8, cb, cj, bC, ck, ci, ce, cx, cz, bD, bq, bX, cd, bJ, bb, bo, aN, bu, bt, aP, aJ, be, cm, cF, bM, ba, bc, cq, cp, bL, bO, bN, bP, bw, bz, bK, List.getElem?_cons_zero, List.getElem?_cons_succ, Nat.zero_add, Nat.reduceAdd, Nat.add_zero, bS ow.cl, ji, jv, jr, jg, jl, ju, jo, jk, jx, jf, fF, gd, fV, fZ, fC, fT, fL, f0, fK, fU, fJ, fE, fR, gb, ga, dR, de, cW, fN, fH, fY, gc, fW, fD, dP, dQ, dW, dS, cU, RD ho, min2, build4]
  refine Run0.bind (af7 (cs := AD (ah8 z p)) (oy.grow g3) rfl (by show 0 + 4 ≤ 4; decide)) ?_
  intro h4 hp4
  rw [agZ _ _ (by rfl)] at hp4
  simp only [aL, bg, bj, bl, cg, b8, cb, cj, bC, ck, ci, ce, cx, cz, bD, bq, bX, cd, bJ, bb, bo, aN, bu, bt, aP, aJ, be, cm, cF, bM, ba, bc, cq, cp, bL, bO, bN, bP, bw, bz, bK, List.getElem?_cons_zero, List.getElem?_cons_succ, Nat.zero_add, Nat.reduceAdd, Nat.add_zero, bS hp4.own.cl, ji, jv, jr, jg, jl, ju, jo, jk, jx, jf, fF, gd, fV, fZ, fC, fT, fL, f0, fK, fU, fJ, fE, fR, gb, ga, dR, de, cW, fN, fH, fY, gc, fW, fD, dP, dQ, dW, dS, cU]
  exact lD ⟨rfl, hp4.grow t3 (Nat.le_trans g.nx hy)⟩
theorem amp {z : CfgZ} {p : Nat} (h : WC z p = 0) : 0 ≤ (ec z p).order := by
  unfold WC at h
  split at h
  · split at h
    · rename_i hq
      simp [q8, cR] at hq
      omega
    · cases h
  · cases h
theorem aok {n : Nat} {z : CfgZ} (hn : Fits n z) {t pp : AV} {x : Nat} : ∀ (m i : Nat) (h : Heap), h.ro ≤ h.nx → h.cl x (A6 z t pp) → Ints h .i64 t z.turns → Parts h pp z.parts → i ≤ z.parts.length → z.parts.length - i < m → z.parts.length ≤ 9223372036854775807 →
    Run1 (fun k => jR n (eK n) (eO n) (kY n) (nJ n) (rn n) (pz n) k m (.ptr x 0) z.parts.length i h) fun r h' => r = (List.range' i (z.parts.length - i)).all (zk z) ∧ Grow h h' := by
  intro m
  induction m with
  | zero => omega
  | succ m ih =>
    intro i h hro hb ht hp hi hm hl
    simp only [ae9]
    unfold Bk wL Ii ov Bs vK H9 ov Bs
    refine RunG.ifB (fun e => ?_) fun e => ?_
    · simp at e
      have hr : List.range' i (z.parts.length - i) = i :: List.range' (i + 1) (z.parts.length - (i + 1)) := by
        rw [show z.parts.length - i = (z.parts.length - (i + 1)) + 1 by omega, List.range'_succ]
      rw [hr, List.all_cons]
      simp only [aL, bg, bj, bl, cg, b8, cb, cj, bC, ck, ci, ce, cx, cz, bD, bq, bX, cd, bJ, bb, bo, aN, bu, bt, aP, aJ, be, cm, cF, bM, ba, bc, cq, cp, bL, bO, bN, bP, bw, bz, bK, List.getElem?_cons_zero, List.getElem?_cons_succ, Nat.zero_add, Nat.reduceAdd, Nat.add_zero, bS hb, ji, jv, jr, jg, jl, ju, jo, jk, jx, jf, fF, gd, fV, fZ, fC, fT, fL, f0, fK, fU, fJ, fE, fR, gb, ga, dR, de, cW, fN, fH, fY, gc, fW, fD, dP, dQ, dW, dS, cU, jd (show i ≤ 9223372036854775806 by omega)]
      refine Run1.bind (v_part hn hro (Cfg.mk' ht hp) e) ?_
      rintro _ h1 ⟨rfl, g1⟩
      have hb1 := g1.cl hb
      have go : zk z i = true → ∀ h', Grow h h' → RunG ap1 (fun k => jR n (eK n) (eO n) (kY n) (nJ n) (rn n) (pz n) k m (.ptr x 0) z.parts.length ((i + 1 : Nat) : Int) h')
          fun r => r.1 = (zk z i && (List.range' (i + 1) (z.parts.length - (i + 1))).all (zk z)) ∧ Grow h r.2 := by
        intro hs h' g'
        refine RunG.mono (ih (i + 1) h' (g'.le hro) (g'.cl hb) (ht.grow g') (hp.grow g') (by omega) (by omega) hl) ?_
        rintro ⟨r, h''⟩ ⟨q1, q2⟩
        exact ⟨by rw [q1, hs, Bool.true_and], g'.trans q2⟩
      refine RunG.ifB (fun e1 => ?_) fun e1 => ?_
      · simp at e1
        exact go (by simp [zk, e1]) h1 g1
      simp at e1
      simp only [aL, bg, bj, bl, cg, b8, cb, cj, bC, ck, ci, ce, cx, cz, bD, bq, bX, cd, bJ, bb, bo, aN, bu, bt, aP, aJ, be, cm, cF, bM, ba, bc, cq, cp, bL, bO, bN, bP, bw, bz, bK, List.getElem?_cons_zero, List.getElem?_cons_succ, Nat.zero_add, Nat.reduceAdd, Nat.add_zero, bS hb1, ji, jv, jr, jg, jl, ju, jo, jk, jx, jf, fF, gd, fV, fZ, fC, fT, fL, f0, fK, fU, fJ, fE, fR, gb, ga, dR, de, cW, fN, fH, fY, gc, fW, fD, dP, dQ, dW, dS, cU]
      refine Run1.bind (v_shape (n := n) (h := h1.shut true) (z := z) (Nat.le_refl _) (Cfg.shut (Cfg.mk' (ht.grow g1) (hp.grow g1))) e (amp e1)) ?_
      rintro _ h2 ⟨rfl, g2⟩
      have t2 := g1.trans g2.shut
      refine Run2.bind (v_Most hn.small (t2.le hro) z (ah8 z i)) ?_
      rintro v er h3 ⟨rfl, hv, g3⟩
      have t3 := t2.trans g3
      have hb3 := t3.cl hb
      simp only [aL, bg, bj, bl, cg, b8, cb, cj, bC, ck, ci, ce, cx, cz, bD, bq, bX, cd, bJ, bb, bo, aN, bu, bt, aP, aJ, be, cm, cF, bM, ba, bc, cq, cp, bL, bO, bN, bP, bw, bz, bK, List.getElem?_cons_zero, List.getElem?_cons_succ, Nat.zero_add, Nat.reduceAdd, Nat.add_zero, bS hb3, ji, jv, jr, jg, jl, ju, jo, jk, jx, jf, fF, gd, fV, fZ, fC, fT, fL, f0, fK, fU, fJ, fE, fR, gb, ga, dR, de, cW, fN, fH, fY, gc, fW, fD, dP, dQ, dW, dS, cU]
      refine RunG.ifB (fun e2 => lD ⟨?_, t3⟩) fun e2 => ?_
      · simp at e2; simp [zk, e1, e2]
      simp at e2
      rw [hv e2]
      refine RunG.ifB (fun e3 => lD ⟨?_, t3⟩) fun e3 => ?_
      · simp at e3; simp [zk, e1, e2, Int.not_le.2 e3]
      · simp at e3
        exact go (by simp [zk, e1, e2, e3]) h3 t3
    · simp at e
      have : i = z.parts.length := by omega
      subst this
      exact lD ⟨by simp, .refl⟩
theorem v_sliced {n : Nat} {z : CfgZ} (hn : Fits n z) {h : Heap} (hro : h.ro ≤ h.nx) {c : List AV} (hc : Cfg h z c) : Run1 (nG n (.agg c) h) fun r h' => r = Bf z ∧ Grow h h' := by
  unfold nG OA Oj Bb HB BG H5 Bp HL
  obtain ⟨t, pp, rfl, ht, hp⟩ := hc
  refine Run1.bind (yx ..) ?_
  rintro x h1 ⟨hb, g⟩
  simp only [aL, bg, bj, bl, cg, b8, cb, cj, bC, ck, ci, ce, cx, cz, bD, bq, bX, cd, bJ, bb, bo, aN, bu, bt, aP, aJ, be, cm, cF, bM, ba, bc, cq, cp, bL, bO, bN, bP, bw, bz, bK, List.getElem?_cons_zero, List.getElem?_cons_succ, Nat.zero_add, Nat.reduceAdd, Nat.add_zero, bS hb, ji, jv, jr, jg, jl, ju, jo, jk, jx, jf, fF, gd, fV, fZ, fC, fT, fL, f0, fK, fU, fJ, fE, fR, gb, ga, dR, de, cW, fN, fH, fY, gc, fW, fD, dP, dQ, dW, dS, cU]
  refine RunG.ifB (fun e1 => lD ⟨by simp at e1; simp [Bf, Int.not_le.2 e1], g⟩) fun e1 => RunG.ifB (fun e2 => lD ⟨by simp at e2; simp [Bf, Int.not_le.2 e2], g⟩) fun e2 =>
    RunG.ifB (fun e3 => lD ⟨by simp at e3; simp [Bf, Int.not_le.2 e3], g⟩) fun e3 => RunG.ifB (fun e4 => lD ⟨by simp at e4; simp [Bf, Int.not_lt.2 e4], g⟩) fun e4 => ?_
  simp at e1 e2 e3 e4
  refine Run1.bind (Mc n (Cfg.mk' (ht.grow g) (hp.grow g))) ?_
  rintro _ h2 ⟨rfl, g2⟩
  have t2 := g.trans g2
  have hb2 := g2.cl hb
  unfold BD IB
  simp only [aL, bg, bj, bl, cg, b8, cb, cj, bC, ck, ci, ce, cx, cz, bD, bq, bX, cd, bJ, bb, bo, aN, bu, bt, aP, aJ, be, cm, cF, bM, ba, bc, cq, cp, bL, bO, bN, bP, bw, bz, bK, List.getElem?_cons_zero, List.getElem?_cons_succ, Nat.zero_add, Nat.reduceAdd, Nat.add_zero, bS hb2, ji, jv, jr, jg, jl, ju, jo, jk, jx, jf, fF, gd, fV, fZ, fC, fT, fL, f0, fK, fU, fJ, fE, fR, gb, ga, dR, de, cW, fN, fH, fY, gc, fW, fD, dP, dQ, dW, dS, cU]
  refine RunG.ifB (fun e5 => lD ⟨by simp at e5; simp [Bf, e1, e2, e3, e4, e5], t2⟩) fun e5 => ?_
  simp at e5
  refine Run1.bind (JZ (by have := hn.small; omega) h2 z) ?_
  rintro _ h3 ⟨rfl, g3⟩
  have t3 := t2.trans g3
  have hb3 := g3.cl hb2
  refine RunG.ifB (fun e6 => lD ⟨by simp at e6; simp [Bf, e1, e2, e3, e4, e5, e6], t3⟩) fun e6 => ?_
  simp at e6
  simp only [aL, bg, bj, bl, cg, b8, cb, cj, bC, ck, ci, ce, cx, cz, bD, bq, bX, cd, bJ, bb, bo, aN, bu, bt, aP, aJ, be, cm, cF, bM, ba, bc, cq, cp, bL, bO, bN, bP, bw, bz, bK, List.getElem?_cons_zero, List.getElem?_cons_succ, Nat.zero_add, Nat.reduceAdd, Nat.add_zero, bS hb3, ji, jv, jr, jg, jl, ju, jo, jk, jx, jf, fF, gd, fV, fZ, fC, fT, fL, f0, fK, fU, fJ, fE, fR, gb, ga, dR, de, cW, fN, fH, fY, gc, fW, fD, dP, dQ, dW, dS, cU]
  refine Run2.bind (v_Switch (by have := hn.small; omega) h3 z _ _) ?_
  rintro v _ h4 ⟨rfl, hv, g4⟩
  have t4 := t3.trans g4
  have hb4 := g4.cl hb3
  unfold BE IY
  simp only [aL, bg, bj, bl, cg, b8, cb, cj, bC, ck, ci, ce, cx, cz, bD, bq, bX, cd, bJ, bb, bo, aN, bu, bt, aP, aJ, be, cm, cF, bM, ba, bc, cq, cp, bL, bO, bN, bP, bw, bz, bK, List.getElem?_cons_zero, List.getElem?_cons_succ, Nat.zero_add, Nat.reduceAdd, Nat.add_zero, bS hb4, ji, jv, jr, jg, jl, ju, jo, jk, jx, jf, fF, gd, fV, fZ, fC, fT, fL, f0, fK, fU, fJ, fE, fR, gb, ga, dR, de, cW, fN, fH, fY, gc, fW, fD, dP, dQ, dW, dS, cU]
  refine RunG.ifB (fun e7 => lD ⟨by simp at e7; simp [Bf, e1, e2, e3, e4, e5, e6, e7], t4⟩) fun e7 => ?_
  simp at e7
  rw [hv e7]
  refine RunG.ifB (fun e8 => lD ⟨by simp at e8; simp [Bf, e1, e2, e3, e4, e5, e6, e7, Int.not_le.2 e8], t4⟩) fun e8 => ?_
  simp at e8
  have hl := hp.2.choose_spec.1
  simp only [hl.len]
  refine RunG.mono (aok hn n 0 h4 (t4.le hro) hb4 (ht.grow t4) (hp.grow t4) (by omega) (by have := hn.parts; omega) hl.1) ?_
  rintro ⟨r, h'⟩ ⟨q1, q2⟩
  refine ⟨?_, t4.trans q2⟩
  rw [q1, Nat.sub_zero, ← List.range_eq_range']
  simp [Bf, e1, e2, e3, e4, e5, e6, e7, e8]
theorem anh {n : Nat} {z : CfgZ} {h : Heap} {t pp : AV} {x : Nat} (hb : h.cl x (A6 z t pp)) (hp : Parts h pp z.parts) (i : Int) (k : Bool → Heap → CRes) :
    jS n i (.ptr x 0) h k = k (!cR i 0 (IntKind.i64.wrap (z.parts.length - 1))) h := by
  unfold jS Fz Fo
  simp only [aL, bg, bj, bl, cg, b8, cb, cj, bC, ck, ci, ce, cx, cz, bD, bq, bX, cd, bJ, bb, bo, aN, bu, bt, aP, aJ, be, cm, cF, bM, ba, bc, cq, cp, bL, bO, bN, bP, bw, bz, bK, List.getElem?_cons_zero, List.getElem?_cons_succ, Nat.zero_add, Nat.reduceAdd, Nat.add_zero, bS hb, ji, jv, jr, jg, jl, ju, jo, jk, jx, jf, fF, gd, fV, fZ, fC, fT, fL, f0, fK, fU, fJ, fE, fR, gb, ga, dR, de, cW, fN, fH, fY, gc, fW, fD, dP, dQ, dW, dS, cU, hp.2.choose_spec.1.len, wS]
theorem aiJ {n : Nat} {z : CfgZ} {h : Heap} {t pp v : AV} {x : Nat} (hb : h.cl x (A6 z t pp)) (hp : Parts h pp z.parts) {l : List Int} (hv : Ints h .i64 v l) : ∀ (m i : Nat), i ≤ l.length → l.length - i < m →
    Run1 (fun k => gr n (jS n) k m v (.func jX [] [.ptr x 0]) l.length i h) fun r h' => h' = h ∧ (r < 0 ↔ (l.drop i).all (fun p => cR p 0 (IntKind.i64.wrap (z.parts.length - 1))) = true) := by
  intro m
  induction m with
  | zero => omega
  | succ m ih =>
    intro i hi hm
    simp only [DX]
    unfold lH jJ oH
    have c1 : ∀ y h k, dJ (jS n) (.func jX [] [.ptr x 0]) [.int .i64 y] h k = jS n y (.ptr x 0) h fun u h => k (.bool u) h := fun _ _ _ => rfl
    refine RunG.ifB (fun e => ?_) fun e => ?_
    · simp at e
      have hs := hv.small
      rw [List.drop_eq_getElem_cons e, List.all_cons]
      simp only [aL, bg, bj, bl, cg, b8, cb, cj, bC, ck, ci, ce, cx, cz, bD, bq, bX, cd, bJ, bb, bo, aN, bu, bt, aP, aJ, be, cm, cF, bM, ba, bc, cq, cp, bL, bO, bN, bP, bw, bz, bK, List.getElem?_cons_zero, List.getElem?_cons_succ, Nat.zero_add, Nat.reduceAdd, Nat.add_zero, hv.elN e, vu e, c1, anh hb hp, jd (show i ≤ 9223372036854775806 by omega)]
      refine RunG.ifB (fun e1 => ?_) fun e1 => ?_
      · simp at e1
        exact lD ⟨rfl, by simp [e1]⟩
      · simp at e1
        refine RunG.mono (ih (i + 1) (by omega) (by omega)) ?_
        rintro ⟨r, h'⟩ ⟨q1, q2⟩
        exact ⟨q1, by rw [e1, Bool.true_and]; exact q2⟩
    · simp at e
      have : i = l.length := by omega
      subst this
      exact lD ⟨rfl, by simp⟩
theorem v_turned {n : Nat} {z : CfgZ} (hn : Fits n z) {h : Heap} {c : List AV} (hc : Cfg h z c) : Run1 (nH n (.agg c) h) fun r h' => r = Z3 z ∧ Grow h h' := by
  unfold nH OQ Oo BM IC
  obtain ⟨t, pp, rfl, ht, hp⟩ := hc
  refine Run1.bind (yx ..) ?_
  rintro x h1 ⟨hb, g⟩
  simp only [aL, bg, bj, bl, cg, b8, cb, cj, bC, ck, ci, ce, cx, cz, bD, bq, bX, cd, bJ, bb, bo, aN, bu, bt, aP, aJ, be, cm, cF, bM, ba, bc, cq, cp, bL, bO, bN, bP, bw, bz, bK, List.getElem?_cons_zero, List.getElem?_cons_succ, Nat.zero_add, Nat.reduceAdd, Nat.add_zero, bS hb, ji, jv, jr, jg, jl, ju, jo, jk, jx, jf, fF, gd, fV, fZ, fC, fT, fL, f0, fK, fU, fJ, fE, fR, gb, ga, dR, de, cW, fN, fH, fY, gc, fW, fD, dP, dQ, dW, dS, cU, (ht.grow g).len, wS]
  refine RunG.ifB (fun e1 => ?_) fun e1 => lD ⟨by simp [Z3, e1], g⟩
  unfold fM nZ nP gV pN pI
  simp only [aL, bg, bj, bl, cg, b8, cb, cj, bC, ck, ci, ce, cx, cz, bD, bq, bX, cd, bJ, bb, bo, aN, bu, bt, aP, aJ, be, cm, cF, bM, ba, bc, cq, cp, bL, bO, bN, bP, bw, bz, bK, List.getElem?_cons_zero, List.getElem?_cons_succ, Nat.zero_add, Nat.reduceAdd, Nat.add_zero, (ht.grow g).len]
  refine Run1.bind (aiJ (n := n) hb (hp.grow g) (ht.grow g) n 0 (by omega) (by have := hn.turns; omega)) ?_
  rintro r _ ⟨rfl, hr⟩
  refine lD ⟨?_, g⟩
  rw [List.drop_zero] at hr
  rw [Z3, e1, Bool.true_and, Bool.eq_iff_iff, ← hr]
  simp
end Go.Proofs.Ytnlbfbiogfilfaa.Sh
/- Slices that grow by 'append', and what they change. -/
namespace Go.Ai
structure Chg (F : Nat → Prop) (h h' : Heap) : Prop where
  nx : h.nx ≤ h'.nx
  ro : h'.ro = h.ro
  old : ∀ b, b < h.nx → ¬ F b → h'.get b = h.get b
theorem Grow.chg {h h' : Heap} (g : Grow h h') (F : Nat → Prop) : Chg F h h' := ⟨g.nx, g.ro, fun b hb _ => g.old b hb⟩
theorem Chg.trans {F : Nat → Prop} {h h' h'' : Heap} (a : Chg F h h') (b : Chg F h' h'') : Chg F h h'' := ⟨Nat.le_trans a.nx b.nx, b.ro.trans a.ro, fun c hc hf => (b.old c (Nat.lt_of_lt_of_le hc a.nx) hf).trans (a.old c hc hf)⟩
theorem Chg.mono {F G : Nat → Prop} {h h' : Heap} (a : Chg F h h') (hf : ∀ b, b < h.nx → F b → G b) : Chg G h h' := ⟨a.nx, a.ro, fun c hc hg => a.old c hc fun h => hg (hf c hc h)⟩
theorem Chg.cl {F : Nat → Prop} {h h' : Heap} (a : Chg F h h') {b : Nat} {l : List AV} (hb : h.cl b l) (hf : ¬ F b) : h'.cl b l := by
  obtain ⟨h1, rw_, q, h2⟩ := hb
  exact ⟨Nat.lt_of_lt_of_le h1 a.nx, rw_, q, (a.old b h1 hf).trans h2⟩
theorem Chg.own {F : Nat → Prop} {h h' : Heap} (a : Chg F h h') {b : Nat} {l : List AV} {q : Nat} (o : Own h b l q) (hf : ¬ F b) : Own h' b l q :=
  ⟨Nat.lt_of_lt_of_le o.lt a.nx, by rw [a.ro]; exact o.ro, (a.old b o.lt hf).trans o.get⟩
theorem Chg.le {F : Nat → Prop} {h h' : Heap} (g : Chg F h h') (hro : h.ro ≤ h.nx) : h'.ro ≤ h'.nx := by rw [g.ro]; exact Nat.le_trans hro g.nx
theorem Chg.grow {F : Nat → Prop} {h₀ h h' : Heap} (c : Chg F h h') (g : Grow h₀ h) (hf : ∀ b, F b → h₀.nx ≤ b) : Grow h₀ h' :=
  ⟨Nat.le_trans g.nx c.nx, c.ro.trans g.ro, fun b hb => (c.old b (Nat.lt_of_lt_of_le hb g.nx) fun h => by have := hf b h; omega).trans (g.old b hb)⟩
theorem Put.chg {h h' : Heap} {b : Nat} {l : List AV} {q : Nat} (p : Put h b l q h') : Chg (· = b) h h' := ⟨by rw [p.nx]; exact Nat.le_refl _, p.ro, fun c _ hc => p.other c hc⟩
def AV.blk : AV → Option Nat
  | .slice b _ _ _ _ => some b
  | _ => none
def App (h : Heap) (v : AV) (sz L : Nat) (l : List AV) : Prop := (v = .nilslice ∧ L = 0 ∧ l = []) ∨ ∃ b, v = .slice b 0 L 0 true ∧ Own h b l sz ∧ l.length = L * sz ∧ 0 < L
theorem App.nil {h : Heap} {sz : Nat} : App h .nilslice sz 0 [] := .inl ⟨rfl, rfl, rfl⟩
theorem App.len {h : Heap} {v : AV} {sz L : Nat} {l : List AV} (a : App h v sz L l) (k : Int → CRes) : iP v k = k L := by
  rcases a with ⟨rfl, rfl, _⟩ | ⟨b, rfl, _⟩ <;> rfl
theorem App.chg {F : Nat → Prop} {h h' : Heap} {v : AV} {sz L : Nat} {l : List AV} (a : App h v sz L l) (c : Chg F h h') (hf : ∀ b, v.blk = some b → ¬ F b) : App h' v sz L l := by
  rcases a with a | ⟨b, rfl, o, h1, h2⟩
  · exact .inl a
  · exact .inr ⟨b, rfl, c.own o (hf b rfl), h1, h2⟩
theorem App.grow {h h' : Heap} {v : AV} {sz L : Nat} {l : List AV} (a : App h v sz L l) (g : Grow h h') : App h' v sz L l := a.chg (g.chg fun _ => False) fun _ _ h => h
theorem App.lt {h : Heap} {v : AV} {sz L : Nat} {l : List AV} (a : App h v sz L l) {b : Nat} (hb : v.blk = some b) : b < h.nx := by
  rcases a with ⟨rfl, _, _⟩ | ⟨c, rfl, o, _, _⟩
  · cases hb
  · cases hb; exact o.lt
theorem E6 (v : AV) (h : Heap) (c : AV → Heap → CRes) : outK (some (v, h)) c = c v h := rfl
theorem VJ {h : Heap} {b : Nat} {l : List AV} {q : Nat} (o : Own h b l q) : nN h b = some l := by unfold nN; rw [o.get]
theorem Zp {h : Heap} {b : Nat} {l : List AV} (o : h.cl b l) : nN h b = some l := by obtain ⟨_, _, _, e⟩ := o; unfold nN; rw [e]
theorem Wz {β : Type} {h : Heap} {b : Nat} {l : List AV} {q : Nat} (o : Own h b l q) (e : β) (k : List AV → Nat → β) : Xy h b e k = k l q := by
  unfold Xy
  have : Nat.blt b h.ro = false := by rw [blt_eq]; simp; exact o.ro
  rw [this, o.get]
theorem ahC {h : Heap} {v : AV} {sz L n bx off ext : Nat} {o : Bool} {l lx new : List AV} (hro : h.ro ≤ h.nx) (ha : App h v sz L l) (hn : 0 < n) (hc : h.cl bx lx) (hs : sub lx off (n * sz) = some new) (hm : L + n ≤ 1048576) :
    Run1 (sw h sz v (.slice bx off n ext o)) fun v' h' => App h' v' sz (L + n) (l ++ new) ∧ v'.blk = some h.nx ∧ Chg (fun c => v.blk = some c) h h' := by
  have hsh : BW h sz n (.slice bx off n ext o) = some new := by
    show (Option.casesOn (nN h bx) none fun l => sub l off (n * sz) : Option (List AV)) = _
    rw [Zp hc]; exact hs
  have hnew : new.length = n * sz := by
    rw [pR] at hs
    split at hs
    · rename_i h1; cases hs; simp at h1 ⊢; omega
    · cases hs
  rcases ha with ⟨rfl, rfl, rfl⟩ | ⟨b, rfl, ow, hl, hL⟩
  · refine ⟨(.slice h.nx 0 n 0 true, h.add (.cells new true sz)), ⟨.inr ⟨h.nx, by simp, ⟨by simp, by simpa using hro, by rw [Heap.get_add, if_pos rfl]; simp⟩, by simpa using hnew, by omega⟩, rfl, (Grow.add).chg _⟩, fun k => ?_⟩
    unfold sw
    have : ny h sz .nilslice (.slice bx off n ext o) = some (.slice h.nx 0 n 0 true, h.add (.cells new true sz)) := by
      simp only [ny, Uo]
      rw [if_neg (by omega), if_neg (by unfold zH; omega), hsh]
      dsimp only
      rw [Heap.newK_eq]
    rw [this, E6, bj, bl]; rfl
  · have hsub : sub l 0 (L * sz) = some l := by rw [pR, List.drop_zero, if_pos (by omega), ← hl, List.take_length]
    refine ⟨(.slice h.nx 0 (L + n) 0 true, (h.set b .dead).add (.cells (l ++ new) true sz)), ⟨.inr ⟨h.nx, rfl, ⟨by simp, by simpa using hro, ?_⟩, ?_, by omega⟩, rfl, ⟨by simp, by simp, fun c hc' hf => ?_⟩⟩, fun k => ?_⟩
    · show ((h.set b .dead).add _).get h.nx = _
      rw [Heap.get_add, if_pos (by simp)]
    · simp [hl, hnew, Nat.add_mul]
    · have hf' : b ≠ c := fun e => hf (by rw [e]; rfl)
      show ((h.set b .dead).add _).get c = _
      rw [Heap.get_add, if_neg (by simp; omega), Heap.get_set_other _ hf']
    · unfold sw
      have : ny h sz (.slice b 0 L 0 true) (.slice bx off n ext o) = some (.slice h.nx 0 (L + n) 0 true, (h.set b .dead).add (.cells (l ++ new) true sz)) := by
        simp only [ny, Uo]
        rw [if_neg (by omega), if_neg (by omega), if_neg (by unfold zH; omega), VJ ow]
        dsimp only
        rw [hsub]
        dsimp only
        rw [hsh]
        dsimp only
        rw [if_pos trivial, Wz ow]
        have h3 : (Nat.beq sz sz && Nat.ble (0 + (L + 0) * sz) (lF l)) = true := by rw [iA, hl]; simp
        rw [h3]
        dsimp only
        rw [Heap.setK_eq, gS, Heap.newK_eq]
        simp
      rw [this, E6, bj, bl]; rfl
end Go.Ai
/- What may be, by the code. -/
namespace Go.Proofs.Ytnlbfbiogfilfaa.Sh
open Go.Ai
def Faults (h0 h : Heap) (x L : Nat) : Prop := ∃ v l, Own h x [v] 0 ∧ App h v 2 L l ∧ h0.nx ≤ x ∧ ∀ b, v.blk = some b → b ≠ x ∧ h0.nx ≤ b
theorem Faults.grow {h0 h h' : Heap} {x L : Nat} (f : Faults h0 h x L) (g : Grow h h') : Faults h0 h' x L := by
  obtain ⟨v, l, h1, h2, h3, h4⟩ := f
  exact ⟨v, l, h1.grow g, h2.grow g, h3, h4⟩
theorem any_0 {v : AV} : ([v] : List AV)[0]? = some v := rfl
theorem build2 (q : IntKind) (a b : Int) (k : AV → CRes) : BZ [.int q 0, .int q 0] [(0, 1, .int q a), (1, 1, .int q b)] k = k (.agg [.int q a, .int q b]) := rfl
theorem Ll {n : Nat} {h0 h : Heap} {x L : Nat} (hro : h.ro ≤ h.nx) (g : Grow h0 h) (f : Faults h0 h x L) (hL : L < 1000) (may : Bool) (e at_ : Int) :
    Run0 (kJ n may e at_ (.ptr x 0) h) fun h' => Faults h0 h' x (if may then L else L + 1) ∧ Grow h0 h' := by
  unfold kJ HM HR
  refine RunG.ifB (fun e1 => ?_) fun e1 => ?_
  · simp at e1
    subst e1
    obtain ⟨v, l, ho, ha, hx, hb⟩ := f
    simp only [aL, bg, bj, bl, cg, b8, cb, cj, bC, ck, ci, ce, cx, cz, bD, bq, bX, cd, bJ, bb, bo, aN, bu, bt, aP, aJ, be, cm, cF, bM, ba, bc, cq, cp, bL, bO, bN, bP, bw, bz, bK, List.getElem?_cons_zero, List.getElem?_cons_succ, Nat.zero_add, Nat.reduceAdd, Nat.add_zero, bS ho.cl, any_0, build2]
    refine Run1.bind (KQ (fun k => by rfl)) ?_
    rintro _ h1 ⟨rfl, hc, g1⟩
    refine Run1.bind (ahC (g1.le hro) (ha.grow g1) (by omega) hc (by rw [pR]; rfl) (by omega)) ?_
    rintro v' h2 ⟨a2, b2, c2⟩
    have ho1 := ho.grow g1
    have ho2 := c2.own ho1 fun e => (hb x e).1 rfl
    refine Run0.bind (K2 ho2 (by simp) (by rcases a2 with ⟨rfl, h3, _⟩ | ⟨b, rfl, _⟩ <;> rfl)) ?_
    intro h3 p3
    have n1 := ho.lt
    have n2 := g1.nx
    refine ret0 ⟨⟨v', _, p3.own, a2.chg p3.chg fun b hb' => by rw [b2] at hb'; cases hb'; omega, hx, fun b hb' => ?_⟩, ?_⟩
    · rw [b2] at hb'
      cases hb'
      have := g.nx
      exact ⟨by omega, by omega⟩
    · exact p3.grow (c2.grow (g.trans g1) fun b hb' => (hb b hb').2) hx
  · simp at e1
    subst e1
    exact ret0 ⟨f, g⟩
theorem apq {n : Nat} {z : CfgZ} (hn : Fits n z) {h0 : Heap} {t pp : AV} {x y N : Nat} (hN : N ≤ z.parts.length) (hN8 : N ≤ 8) (hro0 : h0.ro ≤ h0.nx) (hb0 : h0.cl x (A6 z t pp)) (ht0 : Ints h0 .i64 t z.turns) (hp0 : Parts h0 pp z.parts) :
    ∀ (m i L : Nat) (h : Heap), Grow h0 h → Faults h0 h y L → L < 500 + i → i ≤ N → N - i < m →
    Run1 (fun k => rO n (kJ n) (eK n) (eO n) (nG n) (nH n) (kY n) k m (.ptr x 0) (.ptr y 0) (.func kI [] [.ptr y 0]) N i h)
      fun r h' => (∃ L' : Nat, (∀ k, iP r k = k L') ∧ (L' = 0 ↔ L = 0 ∧ (List.range' i (N - i)).all (fun p => decide (WC z p = 0)) = true)) ∧ Grow h0 h' := by
  intro m
  induction m with
  | zero => omega
  | succ m ih =>
    intro i L h g f hL hi hm
    have hro := g.le hro0
    simp only [aic]
    unfold DD yu KW
    refine RunG.ifB (fun e => ?_) fun e => ?_
    · simp at e
      have hr : List.range' i (N - i) = i :: List.range' (i + 1) (N - (i + 1)) := by
        rw [show N - i = (N - (i + 1)) + 1 by omega, List.range'_succ]
      rw [hr, List.all_cons]
      simp only [aL, bg, bj, bl, cg, b8, cb, cj, bC, ck, ci, ce, cx, cz, bD, bq, bX, cd, bJ, bb, bo, aN, bu, bt, aP, aJ, be, cm, cF, bM, ba, bc, cq, cp, bL, bO, bN, bP, bw, bz, bK, List.getElem?_cons_zero, List.getElem?_cons_succ, Nat.zero_add, Nat.reduceAdd, Nat.add_zero, bS (g.cl hb0), ji, jv, jr, jg, jl, ju, jo, jk, jx, jf, fF, gd, fV, fZ, fC, fT, fL, f0, fK, fU, fJ, fE, fR, gb, ga, dR, de, cW, fN, fH, fY, gc, fW, fD, dP, dQ, dW, dS, cU, jd (show i ≤ 9223372036854775806 by omega)]
      refine Run1.bind (v_part hn hro (Cfg.mk' (ht0.grow g) (hp0.grow g)) (by omega)) ?_
      rintro _ h1 ⟨rfl, g1⟩
      have c1 : ∀ b e a h k, i5 (kJ n) (eK n) (eO n) (nG n) (nH n) (kY n) (.func kI [] [.ptr y 0]) [.bool b, .int .i64 e, .int .i64 a] h k =
        kJ n b e a (.ptr y 0) h fun h => k (.tuple []) h := fun _ _ _ _ _ => rfl
      simp only [aL, bg, bj, bl, cg, b8, cb, cj, bC, ck, ci, ce, cx, cz, bD, bq, bX, cd, bJ, bb, bo, aN, bu, bt, aP, aJ, be, cm, cF, bM, ba, bc, cq, cp, bL, bO, bN, bP, bw, bz, bK, List.getElem?_cons_zero, List.getElem?_cons_succ, Nat.zero_add, Nat.reduceAdd, Nat.add_zero, c1]
      refine Run0.bind (Ll (g1.le hro) (g.trans g1) (f.grow g1) (by omega) _ _ _) ?_
      rintro h2 ⟨f2, g2⟩
      refine RunG.mono (ih (i + 1) _ h2 g2 f2 (by split <;> omega) (by omega) (by omega)) ?_
      · rintro ⟨r, h'⟩ ⟨⟨L', q1, q2⟩, q3⟩
        refine ⟨⟨L', q1, q2.trans ?_⟩, q3⟩
        by_cases hpe : WC z i = 0 <;> simp [hpe]
    · simp at e
      have : i = N := by omega
      subst this
      obtain ⟨v, l, ho, ha, hx, hb⟩ := f
      simp only [aL, bg, bj, bl, cg, b8, cb, cj, bC, ck, ci, ce, cx, cz, bD, bq, bX, cd, bJ, bb, bo, aN, bu, bt, aP, aJ, be, cm, cF, bM, ba, bc, cq, cp, bL, bO, bN, bP, bw, bz, bK, List.getElem?_cons_zero, List.getElem?_cons_succ, Nat.zero_add, Nat.reduceAdd, Nat.add_zero, bS ho.cl, any_0]
      exact lD ⟨⟨L, ha.len, by simp⟩, g⟩
theorem v_Check {n : Nat} {z : CfgZ} (hn : Fits n z) {h : Heap} (hro : h.ro ≤ h.nx) {c : List AV} (hc : Cfg h z c) : Run1 (tD n (.agg c) h) fun r h' => (∃ L : Nat, (∀ k, iP r k = k L) ∧ (L = 0 ↔ abj z = true)) ∧ Grow h h' := by
  unfold tD RL RB
  obtain ⟨t, pp, rfl, ht, hp⟩ := hc
  refine Run1.bind (yx ..) ?_
  rintro x h0 ⟨hb, g⟩
  have hro0 := g.le hro
  have ht0 := ht.grow g
  have hp0 := hp.grow g
  refine Run1.bind (amQ hro0 [.nilslice] 0) ?_
  rintro y h3 ⟨hy, oy, g3⟩
  have f3 : Faults h0 h3 y 0 := ⟨.nilslice, [], oy, .nil, hy, fun b hb => by cases hb⟩
  simp only [aL, bg, bj, bl, cg, b8, cb, cj, bC, ck, ci, ce, cx, cz, bD, bq, bX, cd, bJ, bb, bo, aN, bu, bt, aP, aJ, be, cm, cF, bM, ba, bc, cq, cp, bL, bO, bN, bP, bw, bz, bK, List.getElem?_cons_zero, List.getElem?_cons_succ, Nat.zero_add, Nat.reduceAdd, Nat.add_zero, bS (g3.cl hb), ji, jv, jr, jg, jl, ju, jo, jk, jx, jf, fF, gd, fV, fZ, fC, fT, fL, f0, fK, fU, fJ, fE, fR, gb, ga, dR, de, cW, fN, fH, fY, gc, fW, fD, dP, dQ, dW, dS, cU]
  refine Run1.bind (Mc n (Cfg.mk' (ht0.grow g3) (hp0.grow g3))) ?_
  rintro _ h4 ⟨rfl, g4⟩
  refine Run0.bind (Ll ((g3.trans g4).le hro0) (g3.trans g4) (f3.grow g4) (by omega) _ _ _) ?_
  rintro h5 ⟨f5, g5⟩
  simp only [aL, bg, bj, bl, cg, b8, cb, cj, bC, ck, ci, ce, cx, cz, bD, bq, bX, cd, bJ, bb, bo, aN, bu, bt, aP, aJ, be, cm, cF, bM, ba, bc, cq, cp, bL, bO, bN, bP, bw, bz, bK, List.getElem?_cons_zero, List.getElem?_cons_succ, Nat.zero_add, Nat.reduceAdd, Nat.add_zero, bS (g5.cl hb), ji, jv, jr, jg, jl, ju, jo, jk, jx, jf, fF, gd, fV, fZ, fC, fT, fL, f0, fK, fU, fJ, fE, fR, gb, ga, dR, de, cW, fN, fH, fY, gc, fW, fD, dP, dQ, dW, dS, cU]
  refine Run1.bind (JZ (by have := hn.small; omega) h5 z) ?_
  rintro _ h6 ⟨rfl, g6⟩
  refine Run0.bind (Ll ((g5.trans g6).le hro0) (g5.trans g6) (f5.grow g6) (by split <;> omega) _ _ _) ?_
  rintro h7 ⟨f7, g7⟩
  simp only [aL, bg, bj, bl, cg, b8, cb, cj, bC, ck, ci, ce, cx, cz, bD, bq, bX, cd, bJ, bb, bo, aN, bu, bt, aP, aJ, be, cm, cF, bM, ba, bc, cq, cp, bL, bO, bN, bP, bw, bz, bK, List.getElem?_cons_zero, List.getElem?_cons_succ, Nat.zero_add, Nat.reduceAdd, Nat.add_zero, bS (g7.cl hb), ji, jv, jr, jg, jl, ju, jo, jk, jx, jf, fF, gd, fV, fZ, fC, fT, fL, f0, fK, fU, fJ, fE, fR, gb, ga, dR, de, cW, fN, fH, fY, gc, fW, fD, dP, dQ, dW, dS, cU]
  refine Run1.bind (v_sliced hn (g7.le hro0) (Cfg.mk' (ht0.grow g7) (hp0.grow g7))) ?_
  rintro _ h8 ⟨rfl, g8⟩
  refine Run0.bind (Ll ((g7.trans g8).le hro0) (g7.trans g8) (f7.grow g8) (by split <;> split <;> omega) _ _ _) ?_
  rintro h9 ⟨f9, g9⟩
  simp only [aL, bg, bj, bl, cg, b8, cb, cj, bC, ck, ci, ce, cx, cz, bD, bq, bX, cd, bJ, bb, bo, aN, bu, bt, aP, aJ, be, cm, cF, bM, ba, bc, cq, cp, bL, bO, bN, bP, bw, bz, bK, List.getElem?_cons_zero, List.getElem?_cons_succ, Nat.zero_add, Nat.reduceAdd, Nat.add_zero, bS (g9.cl hb), ji, jv, jr, jg, jl, ju, jo, jk, jx, jf, fF, gd, fV, fZ, fC, fT, fL, f0, fK, fU, fJ, fE, fR, gb, ga, dR, de, cW, fN, fH, fY, gc, fW, fD, dP, dQ, dW, dS, cU]
  refine Run1.bind (v_turned hn (Cfg.mk' (ht0.grow g9) (hp0.grow g9))) ?_
  rintro _ h10 ⟨rfl, g10⟩
  refine Run0.bind (Ll ((g9.trans g10).le hro0) (g9.trans g10) (f9.grow g10) (by split <;> split <;> split <;> omega) _ _ _) ?_
  rintro h11 ⟨f11, g11⟩
  simp only [aL, bg, bj, bl, cg, b8, cb, cj, bC, ck, ci, ce, cx, cz, bD, bq, bX, cd, bJ, bb, bo, aN, bu, bt, aP, aJ, be, cm, cF, bM, ba, bc, cq, cp, bL, bO, bN, bP, bw, bz, bK, List.getElem?_cons_zero, List.getElem?_cons_succ, Nat.zero_add, Nat.reduceAdd, Nat.add_zero, bS (g11.cl hb), ji, jv, jr, jg, jl, ju, jo, jk, jx, jf, fF, gd, fV, fZ, fC, fT, fL, f0, fK, fU, fJ, fE, fR, gb, ga, dR, de, cW, fN, fH, fY, gc, fW, fD, dP, dQ, dW, dS, cU, hp0.2.choose_spec.1.len, min2]
  have hmin : minZ (z.parts.length : Int) 8 = ((min z.parts.length 8 : Nat) : Int) := by unfold minZ; split <;> omega
  rw [hmin]
  refine RunG.mono (apq hn (N := min z.parts.length 8) (by omega) (by omega) hro0 hb ht0 hp0 n 0 _ h11 g11 f11 (by split <;> split <;> split <;> split <;> omega) (by omega) (by have := hn.small; omega)) ?_
  rintro ⟨r, h'⟩ ⟨⟨L, q1, q2⟩, q3⟩
  refine ⟨⟨L, q1, q2.trans ?_⟩, g.trans q3⟩
  rw [Nat.sub_zero, ← List.range_eq_range']
  simp only [abj, Bool.and_eq_true]
  cases pU z <;> by_cases hcz : Z5 z = 0 <;> cases Bf z <;> cases Z3 z <;> simp [hcz]
theorem v_May {n : Nat} {z : CfgZ} (hn : Fits n z) {h : Heap} (hro : h.ro ≤ h.nx) {c : List AV} (hc : Cfg h z c) : Run1 (qk n (.agg c) h) fun r h' => r = abj z ∧ Grow h h' := by
  unfold qk Zx ZA
  obtain ⟨t, pp, rfl, ht, hp⟩ := hc
  refine Run1.bind (yx ..) ?_
  rintro x h1 ⟨hb, g⟩
  simp only [aL, bg, bj, bl, cg, b8, cb, cj, bC, ck, ci, ce, cx, cz, bD, bq, bX, cd, bJ, bb, bo, aN, bu, bt, aP, aJ, be, cm, cF, bM, ba, bc, cq, cp, bL, bO, bN, bP, bw, bz, bK, List.getElem?_cons_zero, List.getElem?_cons_succ, Nat.zero_add, Nat.reduceAdd, Nat.add_zero, bS hb, ji, jv, jr, jg, jl, ju, jo, jk, jx, jf, fF, gd, fV, fZ, fC, fT, fL, f0, fK, fU, fJ, fE, fR, gb, ga, dR, de, cW, fN, fH, fY, gc, fW, fD, dP, dQ, dW, dS, cU]
  refine Run1.bind (v_Check hn (g.le hro) (Cfg.mk' (ht.grow g) (hp.grow g))) ?_
  rintro r h2 ⟨⟨L, q1, q2⟩, g2⟩
  simp only [aL, bg, bj, bl, cg, b8, cb, cj, bC, ck, ci, ce, cx, cz, bD, bq, bX, cd, bJ, bb, bo, aN, bu, bt, aP, aJ, be, cm, cF, bM, ba, bc, cq, cp, bL, bO, bN, bP, bw, bz, bK, List.getElem?_cons_zero, List.getElem?_cons_succ, Nat.zero_add, Nat.reduceAdd, Nat.add_zero, q1]
  refine lD ⟨?_, g.trans g2⟩
  rw [Bool.eq_iff_iff, ← q2]
  simp
def FW (z : CfgZ) (p : Int) : Int := if abj z then (if 0 ≤ p ∧ p < z.parts.length then 0 else 270) else 5
theorem v_there {n : Nat} {z : CfgZ} (hn : Fits n z) {h : Heap} (hro : h.ro ≤ h.nx) {c : List AV} (hc : Cfg h z c) (p : Int) : Run1 (tM n (.agg c) p h) fun r h' => r = FW z p ∧ Grow h h' := by
  unfold tM R1 RR CJ LW
  obtain ⟨t, pp, rfl, ht, hp⟩ := hc
  refine Run1.bind (yx ..) ?_
  rintro x h1 ⟨hb, g⟩
  simp only [aL, bg, bj, bl, cg, b8, cb, cj, bC, ck, ci, ce, cx, cz, bD, bq, bX, cd, bJ, bb, bo, aN, bu, bt, aP, aJ, be, cm, cF, bM, ba, bc, cq, cp, bL, bO, bN, bP, bw, bz, bK, List.getElem?_cons_zero, List.getElem?_cons_succ, Nat.zero_add, Nat.reduceAdd, Nat.add_zero, bS hb, ji, jv, jr, jg, jl, ju, jo, jk, jx, jf, fF, gd, fV, fZ, fC, fT, fL, f0, fK, fU, fJ, fE, fR, gb, ga, dR, de, cW, fN, fH, fY, gc, fW, fD, dP, dQ, dW, dS, cU]
  refine Run1.bind (v_May hn (g.le hro) (Cfg.mk' (ht.grow g) (hp.grow g))) ?_
  rintro _ h2 ⟨rfl, g2⟩
  simp only [aL, bg, bj, bl, cg, b8, cb, cj, bC, ck, ci, ce, cx, cz, bD, bq, bX, cd, bJ, bb, bo, aN, bu, bt, aP, aJ, be, cm, cF, bM, ba, bc, cq, cp, bL, bO, bN, bP, bw, bz, bK, List.getElem?_cons_zero, List.getElem?_cons_succ, Nat.zero_add, Nat.reduceAdd, Nat.add_zero, bS (g2.cl hb), ji, jv, jr, jg, jl, ju, jo, jk, jx, jf, fF, gd, fV, fZ, fC, fT, fL, f0, fK, fU, fJ, fE, fR, gb, ga, dR, de, cW, fN, fH, fY, gc, fW, fD, dP, dQ, dW, dS, cU, hp.2.choose_spec.1.len]
  refine RunG.ifB (fun e1 => lD ⟨by simp at e1; simp [FW, e1], g.trans g2⟩) fun e1 => RunG.ifB (fun e2 => lD ⟨by simp at e1 e2; simp [FW, e1]; omega, g.trans g2⟩) fun e2 =>
    RunG.ifB (fun e3 => lD ⟨by simp at e1 e2 e3; simp [FW, e1]; omega, g.trans g2⟩) fun e3 => lD ⟨by simp at e1 e2 e3; simp [FW, e1]; omega, g.trans g2⟩
theorem amC {z : CfgZ} (h : abj z = true) : z.colours ≠ 0 := SV (by simp [abj] at h; exact h.1)
theorem v_Total {n : Nat} {z : CfgZ} (hn : Fits n z) {h : Heap} (hro : h.ro ≤ h.nx) {c : List AV} (hc : Cfg h z c) (p : Int) : Run2 (tf n (.agg c) p h) fun v e h' => e = FW z p ∧ (e = 0 → v = Zk z p.toNat) ∧ Grow h h' := by
  unfold tf R3 R4
  obtain ⟨t, pp, rfl, ht, hp⟩ := hc
  refine Run1.bind (yx ..) ?_
  rintro x h1 ⟨hb, g⟩
  simp only [aL, bg, bj, bl, cg, b8, cb, cj, bC, ck, ci, ce, cx, cz, bD, bq, bX, cd, bJ, bb, bo, aN, bu, bt, aP, aJ, be, cm, cF, bM, ba, bc, cq, cp, bL, bO, bN, bP, bw, bz, bK, List.getElem?_cons_zero, List.getElem?_cons_succ, Nat.zero_add, Nat.reduceAdd, Nat.add_zero, bS hb, ji, jv, jr, jg, jl, ju, jo, jk, jx, jf, fF, gd, fV, fZ, fC, fT, fL, f0, fK, fU, fJ, fE, fR, gb, ga, dR, de, cW, fN, fH, fY, gc, fW, fD, dP, dQ, dW, dS, cU]
  refine Run1.bind (v_there hn (g.le hro) (Cfg.mk' (ht.grow g) (hp.grow g)) p) ?_
  rintro _ h2 ⟨rfl, g2⟩
  have t2 := g.trans g2
  refine RunG.ifB (fun e1 => OJ ⟨rfl, fun h0 => ?_, t2⟩) fun e1 => ?_
  · simp at e1; exact (e1 h0).elim
  simp at e1
  have hm : abj z = true ∧ 0 ≤ p ∧ p < z.parts.length := by
    unfold FW at e1
    split at e1
    · rename_i h1
      split at e1
      · rename_i h2; exact ⟨h1, h2⟩
      · cases e1
    · cases e1
  simp only [aL, bg, bj, bl, cg, b8, cb, cj, bC, ck, ci, ce, cx, cz, bD, bq, bX, cd, bJ, bb, bo, aN, bu, bt, aP, aJ, be, cm, cF, bM, ba, bc, cq, cp, bL, bO, bN, bP, bw, bz, bK, List.getElem?_cons_zero, List.getElem?_cons_succ, Nat.zero_add, Nat.reduceAdd, Nat.add_zero, bS (g2.cl hb), ji, jv, jr, jg, jl, ju, jo, jk, jx, jf, fF, gd, fV, fZ, fC, fT, fL, f0, fK, fU, fJ, fE, fR, gb, ga, dR, de, cW, fN, fH, fY, gc, fW, fD, dP, dQ, dW, dS, cU]
  obtain ⟨q, rfl⟩ := Int.eq_ofNat_of_zero_le hm.2.1
  refine Run1.bind (apg (amC hm.1) (Cfg.mk' (ht.grow t2) (hp.grow t2)) (by omega)) ?_
  rintro _ h3 ⟨rfl, g3⟩
  exact OJ ⟨e1.symm, fun _ => rfl, t2.trans g3⟩
end Go.Proofs.Ytnlbfbiogfilfaa.Sh
