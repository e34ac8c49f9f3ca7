/- The slices and the turns, by the code; what may be. -/
import Derived.Test.YtnlbfbiogfilfaaGreatZUPlan3ZUPlan4
import Derived.Test.YtnlbfbiogfilfaaGreatAiShCfg
set_option linter.all false
namespace Go.Proofs.YtnlbfbiogfilfaaGreat.Sh
open Go.Ai
theorem build4 (q : IntKind) (a b c d : Int) (k : AV → CRes) : wa [.int q 0, .int q 0, .int q 0, .int q 0] [(0, 1, .int q a), (1, 1, .int q b), (2, 1, .int q c), (3, 1, .int q d)] k = k (.agg [.int q a, .int q b, .int q c, .int q d]) := rfl
theorem v_shape {n : Nat} {z : CfgZ} {h : Heap} (hro : h.ro ≤ h.nx) {c : List AV} (hc : Cfg h z c) {p : Nat} (hp : p < z.parts.length) (ho : 0 ≤ (c0 z p).order) : Run1 (tY n (.agg c) p h) fun r h' => r = .agg (BA (akc z p)) ∧ Grow h h' := by
  unfold tY UZ US
  obtain ⟨t, pp, rfl, ht, hps, S, hpt, hS⟩ := hc
  refine Run1.bind (xT ..) ?_
  rintro x h1 ⟨hb, g⟩
  refine Run1.bind (ah2 (g.le hro) _ 0) ?_
  rintro y h2 ⟨hy, oy, g2⟩
  have t2 := g.trans g2
  simp only [aQ, aY, ba, bc, ca, b7, b9, ce, bH, ci, cb, cd, cy, cB, bG, bu, bX, b8, bK, aU, be, aN, bA, bz, aO, aK, aS, cg, cI, bM, aR, aV, cm, cn, bN, bO, bL, bP, bC, bB, bQ, List.getElem?_cons_zero, List.getElem?_cons_succ, Nat.zero_add, Nat.reduceAdd, Nat.add_zero, bU (g2.cl hb), im, ij, io, ii, il, iu, ip, ir, iq, ik, fg, eW, eZ, fy, fk, fe, fd, fu, fq, eR, eS, eV, eT, eU, fb, d9, du, dh, ft, fh, fj, fx, fA, eY, d7, d8, ea, ed, dg, SlAt.eld (hpt.grow t2) (show (0 : Int) ≤ (p : Int) by omega) (show (p : Int) < _ by omega), Int.toNat_natCast]
  rw [show z.parts.getD p default = c0 z p from rfl] at *
  refine Run1.bind (ajA (n := 8) (t2.le hro) (by rfl) (by rfl)) ?_
  rintro w h3 ⟨hw, ow, g3⟩
  have t3 := t2.trans g3
  simp only [aQ, aY, ba, bc, ca, b7, b9, ce, bH, ci, cb, cd, cy, cB, bG, bu, bX, b8, bK, aU, be, aN, bA, bz, aO, aK, aS, cg, cI, bM, aR, aV, cm, cn, bN, bO, bL, bP, bC, bB, bQ, List.getElem?_cons_zero, List.getElem?_cons_succ, Nat.zero_add, Nat.reduceAdd, Nat.add_zero, bU ow.cl, im, ij, io, ii, il, iu, ip, ir, iq, ik, fg, eW, eZ, fy, fk, fe, fd, fu, fq, eR, eS, eV, eT, eU, fb, d9, du, dh, ft, fh, fj, fx, fA, eY, d7, d8, ea, ed, dg, U3 ho, min2, build4]
  refine Run0.bind (Va (cs := BA (akc z p)) (oy.grow g3) rfl (by show 0 + 4 ≤ 4; decide)) ?_
  intro h4 hp4
  rw [Uf _ _ (by rfl)] at hp4
  simp only [aQ, aY, ba, bc, ca, b7, b9, ce, bH, ci, cb, cd, cy, cB, bG, bu, bX, b8, bK, aU, be, aN, bA, bz, aO, aK, aS, cg, cI, bM, aR, aV, cm, cn, bN, bO, bL, bP, bC, bB, bQ, List.getElem?_cons_zero, List.getElem?_cons_succ, Nat.zero_add, Nat.reduceAdd, Nat.add_zero, bU hp4.own.cl, im, ij, io, ii, il, iu, ip, ir, iq, ik, fg, eW, eZ, fy, fk, fe, fd, fu, fq, eR, eS, eV, eT, eU, fb, d9, du, dh, ft, fh, fj, fx, fA, eY, d7, d8, ea, ed, dg]
  exact kZ ⟨rfl, hp4.grow t3 (Nat.le_trans g.nx hy)⟩
theorem apA {z : CfgZ} {p : Nat} (h : aaF z p = 0) : 0 ≤ (c0 z p).order := by
  unfold aaF at h
  split at h
  · split at h
    · rename_i hq
      simp [qW, db] at hq
      omega
    · cases h
  · cases h
theorem aqX {n : Nat} {z : CfgZ} (hn : Fits n z) {t pp : AV} {x : Nat} : ∀ (m i : Nat) (h : Heap), h.ro ≤ h.nx → h.cl x (zI z t pp) → Ints h .i64 t z.turns → Parts h pp z.parts → i ≤ z.parts.length → z.parts.length - i < m → z.parts.length ≤ 9223372036854775807 →
    Run1 (fun k => qH n (gn n) (gE n) (m9 n) (rm n) (xa n) (tY n) k m (.ptr x 0) z.parts.length i h) fun r h' => r = (List.range' i (z.parts.length - i)).all (Az z) ∧ Grow h h' := by
  intro m
  induction m with
  | zero => omega
  | succ m ih =>
    intro i h hro hb ht hp hi hm hl
    simp only [ajl]
    unfold CH CB Lu tl Cx CY Lm tl Cx
    refine RunG.ifB (fun e => ?_) fun e => ?_
    · simp at e
      have hr : List.range' i (z.parts.length - i) = i :: List.range' (i + 1) (z.parts.length - (i + 1)) := by
        rw [show z.parts.length - i = (z.parts.length - (i + 1)) + 1 by omega, List.range'_succ]
      rw [hr, List.all_cons]
      simp only [aQ, aY, ba, bc, ca, b7, b9, ce, bH, ci, cb, cd, cy, cB, bG, bu, bX, b8, bK, aU, be, aN, bA, bz, aO, aK, aS, cg, cI, bM, aR, aV, cm, cn, bN, bO, bL, bP, bC, bB, bQ, List.getElem?_cons_zero, List.getElem?_cons_succ, Nat.zero_add, Nat.reduceAdd, Nat.add_zero, bU hb, im, ij, io, ii, il, iu, ip, ir, iq, ik, fg, eW, eZ, fy, fk, fe, fd, fu, fq, eR, eS, eV, eT, eU, fb, d9, du, dh, ft, fh, fj, fx, fA, eY, d7, d8, ea, ed, dg, iT (show i ≤ 9223372036854775806 by omega)]
      refine Run1.bind (v_part hn hro (Cfg.mk' ht hp) e) ?_
      rintro _ h1 ⟨rfl, g1⟩
      have hb1 := g1.cl hb
      have go : Az z i = true → ∀ h', Grow h h' → RunG ap1 (fun k => qH n (gn n) (gE n) (m9 n) (rm n) (xa n) (tY n) k m (.ptr x 0) z.parts.length ((i + 1 : Nat) : Int) h')
          fun r => r.1 = (Az z i && (List.range' (i + 1) (z.parts.length - (i + 1))).all (Az z)) ∧ Grow h r.2 := by
        intro hs h' g'
        refine RunG.mono (ih (i + 1) h' (g'.le hro) (g'.cl hb) (ht.grow g') (hp.grow g') (by omega) (by omega) hl) ?_
        rintro ⟨r, h''⟩ ⟨q1, q2⟩
        exact ⟨by rw [q1, hs, Bool.true_and], g'.trans q2⟩
      refine RunG.ifB (fun e1 => ?_) fun e1 => ?_
      · simp at e1
        exact go (by simp [Az, e1]) h1 g1
      simp at e1
      simp only [aQ, aY, ba, bc, ca, b7, b9, ce, bH, ci, cb, cd, cy, cB, bG, bu, bX, b8, bK, aU, be, aN, bA, bz, aO, aK, aS, cg, cI, bM, aR, aV, cm, cn, bN, bO, bL, bP, bC, bB, bQ, List.getElem?_cons_zero, List.getElem?_cons_succ, Nat.zero_add, Nat.reduceAdd, Nat.add_zero, bU hb1, im, ij, io, ii, il, iu, ip, ir, iq, ik, fg, eW, eZ, fy, fk, fe, fd, fu, fq, eR, eS, eV, eT, eU, fb, d9, du, dh, ft, fh, fj, fx, fA, eY, d7, d8, ea, ed, dg]
      refine Run1.bind (v_shape (n := n) (h := h1.shut true) (z := z) (Nat.le_refl _) (Cfg.shut (Cfg.mk' (ht.grow g1) (hp.grow g1))) e (apA e1)) ?_
      rintro _ h2 ⟨rfl, g2⟩
      have t2 := g1.trans g2.shut
      refine Run2.bind (v_Most hn.small (t2.le hro) z (akc z i)) ?_
      rintro v er h3 ⟨rfl, hv, g3⟩
      have t3 := t2.trans g3
      have hb3 := t3.cl hb
      simp only [aQ, aY, ba, bc, ca, b7, b9, ce, bH, ci, cb, cd, cy, cB, bG, bu, bX, b8, bK, aU, be, aN, bA, bz, aO, aK, aS, cg, cI, bM, aR, aV, cm, cn, bN, bO, bL, bP, bC, bB, bQ, List.getElem?_cons_zero, List.getElem?_cons_succ, Nat.zero_add, Nat.reduceAdd, Nat.add_zero, bU hb3, im, ij, io, ii, il, iu, ip, ir, iq, ik, fg, eW, eZ, fy, fk, fe, fd, fu, fq, eR, eS, eV, eT, eU, fb, d9, du, dh, ft, fh, fj, fx, fA, eY, d7, d8, ea, ed, dg]
      refine RunG.ifB (fun e2 => kZ ⟨?_, t3⟩) fun e2 => ?_
      · simp at e2; simp [Az, e1, e2]
      simp at e2
      rw [hv e2]
      refine RunG.ifB (fun e3 => kZ ⟨?_, t3⟩) fun e3 => ?_
      · simp at e3; simp [Az, e1, e2, Int.not_le.2 e3]
      · simp at e3
        exact go (by simp [Az, e1, e2, e3]) h3 t3
    · simp at e
      have : i = z.parts.length := by omega
      subst this
      exact kZ ⟨by simp, .refl⟩
theorem v_sliced {n : Nat} {z : CfgZ} (hn : Fits n z) {h : Heap} (hro : h.ro ≤ h.nx) {c : List AV} (hc : Cfg h z c) : Run1 (rv n (.agg c) h) fun r h' => r = CA z ∧ Grow h h' := by
  unfold rv Q5 Re Lq LK Me Ms L8 L9
  obtain ⟨t, pp, rfl, ht, hp⟩ := hc
  refine Run1.bind (xT ..) ?_
  rintro x h1 ⟨hb, g⟩
  simp only [aQ, aY, ba, bc, ca, b7, b9, ce, bH, ci, cb, cd, cy, cB, bG, bu, bX, b8, bK, aU, be, aN, bA, bz, aO, aK, aS, cg, cI, bM, aR, aV, cm, cn, bN, bO, bL, bP, bC, bB, bQ, List.getElem?_cons_zero, List.getElem?_cons_succ, Nat.zero_add, Nat.reduceAdd, Nat.add_zero, bU hb, im, ij, io, ii, il, iu, ip, ir, iq, ik, fg, eW, eZ, fy, fk, fe, fd, fu, fq, eR, eS, eV, eT, eU, fb, d9, du, dh, ft, fh, fj, fx, fA, eY, d7, d8, ea, ed, dg]
  refine RunG.ifB (fun e1 => kZ ⟨by simp at e1; simp [CA, Int.not_le.2 e1], g⟩) fun e1 => RunG.ifB (fun e2 => kZ ⟨by simp at e2; simp [CA, Int.not_le.2 e2], g⟩) fun e2 =>
    RunG.ifB (fun e3 => kZ ⟨by simp at e3; simp [CA, Int.not_le.2 e3], g⟩) fun e3 => RunG.ifB (fun e4 => kZ ⟨by simp at e4; simp [CA, Int.not_lt.2 e4], g⟩) fun e4 => ?_
  simp at e1 e2 e3 e4
  refine Run1.bind (OZ n (Cfg.mk' (ht.grow g) (hp.grow g))) ?_
  rintro _ h2 ⟨rfl, g2⟩
  have t2 := g.trans g2
  have hb2 := g2.cl hb
  unfold Mk LW
  simp only [aQ, aY, ba, bc, ca, b7, b9, ce, bH, ci, cb, cd, cy, cB, bG, bu, bX, b8, bK, aU, be, aN, bA, bz, aO, aK, aS, cg, cI, bM, aR, aV, cm, cn, bN, bO, bL, bP, bC, bB, bQ, List.getElem?_cons_zero, List.getElem?_cons_succ, Nat.zero_add, Nat.reduceAdd, Nat.add_zero, bU hb2, im, ij, io, ii, il, iu, ip, ir, iq, ik, fg, eW, eZ, fy, fk, fe, fd, fu, fq, eR, eS, eV, eT, eU, fb, d9, du, dh, ft, fh, fj, fx, fA, eY, d7, d8, ea, ed, dg]
  refine RunG.ifB (fun e5 => kZ ⟨by simp at e5; simp [CA, e1, e2, e3, e4, e5], t2⟩) fun e5 => ?_
  simp at e5
  refine Run1.bind (ND (by have := hn.small; omega) h2 z) ?_
  rintro _ h3 ⟨rfl, g3⟩
  have t3 := t2.trans g3
  have hb3 := g3.cl hb2
  refine RunG.ifB (fun e6 => kZ ⟨by simp at e6; simp [CA, e1, e2, e3, e4, e5, e6], t3⟩) fun e6 => ?_
  simp at e6
  simp only [aQ, aY, ba, bc, ca, b7, b9, ce, bH, ci, cb, cd, cy, cB, bG, bu, bX, b8, bK, aU, be, aN, bA, bz, aO, aK, aS, cg, cI, bM, aR, aV, cm, cn, bN, bO, bL, bP, bC, bB, bQ, List.getElem?_cons_zero, List.getElem?_cons_succ, Nat.zero_add, Nat.reduceAdd, Nat.add_zero, bU hb3, im, ij, io, ii, il, iu, ip, ir, iq, ik, fg, eW, eZ, fy, fk, fe, fd, fu, fq, eR, eS, eV, eT, eU, fb, d9, du, dh, ft, fh, fj, fx, fA, eY, d7, d8, ea, ed, dg]
  refine Run2.bind (v_Switch (by have := hn.small; omega) h3 z _ _) ?_
  rintro v _ h4 ⟨rfl, hv, g4⟩
  have t4 := t3.trans g4
  have hb4 := g4.cl hb3
  unfold Ma LL
  simp only [aQ, aY, ba, bc, ca, b7, b9, ce, bH, ci, cb, cd, cy, cB, bG, bu, bX, b8, bK, aU, be, aN, bA, bz, aO, aK, aS, cg, cI, bM, aR, aV, cm, cn, bN, bO, bL, bP, bC, bB, bQ, List.getElem?_cons_zero, List.getElem?_cons_succ, Nat.zero_add, Nat.reduceAdd, Nat.add_zero, bU hb4, im, ij, io, ii, il, iu, ip, ir, iq, ik, fg, eW, eZ, fy, fk, fe, fd, fu, fq, eR, eS, eV, eT, eU, fb, d9, du, dh, ft, fh, fj, fx, fA, eY, d7, d8, ea, ed, dg]
  refine RunG.ifB (fun e7 => kZ ⟨by simp at e7; simp [CA, e1, e2, e3, e4, e5, e6, e7], t4⟩) fun e7 => ?_
  simp at e7
  rw [hv e7]
  refine RunG.ifB (fun e8 => kZ ⟨by simp at e8; simp [CA, e1, e2, e3, e4, e5, e6, e7, Int.not_le.2 e8], t4⟩) fun e8 => ?_
  simp at e8
  have hl := hp.2.choose_spec.1
  simp only [hl.len]
  refine RunG.mono (aqX hn n 0 h4 (t4.le hro) hb4 (ht.grow t4) (hp.grow t4) (by omega) (by have := hn.parts; omega) hl.1) ?_
  rintro ⟨r, h'⟩ ⟨q1, q2⟩
  refine ⟨?_, t4.trans q2⟩
  rw [q1, Nat.sub_zero, ← List.range_eq_range']
  simp [CA, e1, e2, e3, e4, e5, e6, e7, e8]
theorem apS {n : Nat} {z : CfgZ} {h : Heap} {t pp : AV} {x : Nat} (hb : h.cl x (zI z t pp)) (hp : Parts h pp z.parts) (i : Int) (k : Bool → Heap → CRes) :
    lO n i (.ptr x 0) h k = k (!db i 0 (IntKind.i64.wrap (z.parts.length - 1))) h := by
  unfold lO Ir IA
  simp only [aQ, aY, ba, bc, ca, b7, b9, ce, bH, ci, cb, cd, cy, cB, bG, bu, bX, b8, bK, aU, be, aN, bA, bz, aO, aK, aS, cg, cI, bM, aR, aV, cm, cn, bN, bO, bL, bP, bC, bB, bQ, List.getElem?_cons_zero, List.getElem?_cons_succ, Nat.zero_add, Nat.reduceAdd, Nat.add_zero, bU hb, im, ij, io, ii, il, iu, ip, ir, iq, ik, fg, eW, eZ, fy, fk, fe, fd, fu, fq, eR, eS, eV, eT, eU, fb, d9, du, dh, ft, fh, fj, fx, fA, eY, d7, d8, ea, ed, dg, hp.2.choose_spec.1.len, yc]
theorem amd {n : Nat} {z : CfgZ} {h : Heap} {t pp v : AV} {x : Nat} (hb : h.cl x (zI z t pp)) (hp : Parts h pp z.parts) {l : List Int} (hv : Ints h .i64 v l) : ∀ (m i : Nat), i ≤ l.length → l.length - i < m →
    Run1 (fun k => jj n (lO n) k m v (.func oz [] [.ptr x 0]) l.length i h) fun r h' => h' = h ∧ (r < 0 ↔ (l.drop i).all (fun p => db p 0 (IntKind.i64.wrap (z.parts.length - 1))) = true) := by
  intro m
  induction m with
  | zero => omega
  | succ m ih =>
    intro i hi hm
    simp only [Gg]
    unfold lj li ob
    have c1 : ∀ y h k, eu (lO n) (.func oz [] [.ptr x 0]) [.int .i64 y] h k = lO n y (.ptr x 0) h fun u h => k (.bool u) h := fun _ _ _ => rfl
    refine RunG.ifB (fun e => ?_) fun e => ?_
    · simp at e
      have hs := hv.small
      rw [List.drop_eq_getElem_cons e, List.all_cons]
      simp only [aQ, aY, ba, bc, ca, b7, b9, ce, bH, ci, cb, cd, cy, cB, bG, bu, bX, b8, bK, aU, be, aN, bA, bz, aO, aK, aS, cg, cI, bM, aR, aV, cm, cn, bN, bO, bL, bP, bC, bB, bQ, List.getElem?_cons_zero, List.getElem?_cons_succ, Nat.zero_add, Nat.reduceAdd, Nat.add_zero, hv.elN e, s9 e, c1, apS hb hp, iT (show i ≤ 9223372036854775806 by omega)]
      refine RunG.ifB (fun e1 => ?_) fun e1 => ?_
      · simp at e1
        exact kZ ⟨rfl, by simp [e1]⟩
      · simp at e1
        refine RunG.mono (ih (i + 1) (by omega) (by omega)) ?_
        rintro ⟨r, h'⟩ ⟨q1, q2⟩
        exact ⟨q1, by rw [e1, Bool.true_and]; exact q2⟩
    · simp at e
      have : i = l.length := by omega
      subst this
      exact kZ ⟨rfl, by simp⟩
theorem v_turned {n : Nat} {z : CfgZ} (hn : Fits n z) {h : Heap} {c : List AV} (hc : Cfg h z c) : Run1 (rn n (.agg c) h) fun r h' => r = afk z ∧ Grow h h' := by
  unfold rn QJ Q7 LQ LV
  obtain ⟨t, pp, rfl, ht, hp⟩ := hc
  refine Run1.bind (xT ..) ?_
  rintro x h1 ⟨hb, g⟩
  simp only [aQ, aY, ba, bc, ca, b7, b9, ce, bH, ci, cb, cd, cy, cB, bG, bu, bX, b8, bK, aU, be, aN, bA, bz, aO, aK, aS, cg, cI, bM, aR, aV, cm, cn, bN, bO, bL, bP, bC, bB, bQ, List.getElem?_cons_zero, List.getElem?_cons_succ, Nat.zero_add, Nat.reduceAdd, Nat.add_zero, bU hb, im, ij, io, ii, il, iu, ip, ir, iq, ik, fg, eW, eZ, fy, fk, fe, fd, fu, fq, eR, eS, eV, eT, eU, fb, d9, du, dh, ft, fh, fj, fx, fA, eY, d7, d8, ea, ed, dg, (ht.grow g).len, yc]
  refine RunG.ifB (fun e1 => ?_) fun e1 => kZ ⟨by simp [afk, e1], g⟩
  unfold iX nI nA jP pP pU
  simp only [aQ, aY, ba, bc, ca, b7, b9, ce, bH, ci, cb, cd, cy, cB, bG, bu, bX, b8, bK, aU, be, aN, bA, bz, aO, aK, aS, cg, cI, bM, aR, aV, cm, cn, bN, bO, bL, bP, bC, bB, bQ, List.getElem?_cons_zero, List.getElem?_cons_succ, Nat.zero_add, Nat.reduceAdd, Nat.add_zero, (ht.grow g).len]
  refine Run1.bind (amd (n := n) hb (hp.grow g) (ht.grow g) n 0 (by omega) (by have := hn.turns; omega)) ?_
  rintro r _ ⟨rfl, hr⟩
  refine kZ ⟨?_, g⟩
  rw [List.drop_zero] at hr
  rw [afk, e1, Bool.true_and, Bool.eq_iff_iff, ← hr]
  simp
end Go.Proofs.YtnlbfbiogfilfaaGreat.Sh
/- Slices that grow by 'append', and what they change. -/
namespace Go.Ai
structure Chg (F : Nat → Prop) (h h' : Heap) : Prop where
  nx : h.nx ≤ h'.nx
  ro : h'.ro = h.ro
  old : ∀ b, b < h.nx → ¬ F b → h'.get b = h.get b
theorem Grow.chg {h h' : Heap} (g : Grow h h') (F : Nat → Prop) : Chg F h h' := ⟨g.nx, g.ro, fun b hb _ => g.old b hb⟩
theorem Chg.trans {F : Nat → Prop} {h h' h'' : Heap} (a : Chg F h h') (b : Chg F h' h'') : Chg F h h'' := ⟨Nat.le_trans a.nx b.nx, b.ro.trans a.ro, fun c hc hf => (b.old c (Nat.lt_of_lt_of_le hc a.nx) hf).trans (a.old c hc hf)⟩
theorem Chg.mono {F G : Nat → Prop} {h h' : Heap} (a : Chg F h h') (hf : ∀ b, b < h.nx → F b → G b) : Chg G h h' := ⟨a.nx, a.ro, fun c hc hg => a.old c hc fun h => hg (hf c hc h)⟩
theorem Chg.cl {F : Nat → Prop} {h h' : Heap} (a : Chg F h h') {b : Nat} {l : List AV} (hb : h.cl b l) (hf : ¬ F b) : h'.cl b l := by
  obtain ⟨h1, rw_, q, h2⟩ := hb
  exact ⟨Nat.lt_of_lt_of_le h1 a.nx, rw_, q, (a.old b h1 hf).trans h2⟩
theorem Chg.own {F : Nat → Prop} {h h' : Heap} (a : Chg F h h') {b : Nat} {l : List AV} {q : Nat} (o : Own h b l q) (hf : ¬ F b) : Own h' b l q :=
  ⟨Nat.lt_of_lt_of_le o.lt a.nx, by rw [a.ro]; exact o.ro, (a.old b o.lt hf).trans o.get⟩
theorem Chg.le {F : Nat → Prop} {h h' : Heap} (g : Chg F h h') (hro : h.ro ≤ h.nx) : h'.ro ≤ h'.nx := by rw [g.ro]; exact Nat.le_trans hro g.nx
theorem Chg.grow {F : Nat → Prop} {h₀ h h' : Heap} (c : Chg F h h') (g : Grow h₀ h) (hf : ∀ b, F b → h₀.nx ≤ b) : Grow h₀ h' :=
  ⟨Nat.le_trans g.nx c.nx, c.ro.trans g.ro, fun b hb => (c.old b (Nat.lt_of_lt_of_le hb g.nx) fun h => by have := hf b h; omega).trans (g.old b hb)⟩
theorem Put.chg {h h' : Heap} {b : Nat} {l : List AV} {q : Nat} (p : Put h b l q h') : Chg (· = b) h h' := ⟨by rw [p.nx]; exact Nat.le_refl _, p.ro, fun c _ hc => p.other c hc⟩
def AV.blk : AV → Option Nat
  | .slice b _ _ _ _ => some b
  | _ => none
def App (h : Heap) (v : AV) (sz L : Nat) (l : List AV) : Prop := (v = .nilslice ∧ L = 0 ∧ l = []) ∨ ∃ b, v = .slice b 0 L 0 true ∧ Own h b l sz ∧ l.length = L * sz ∧ 0 < L
theorem App.nil {h : Heap} {sz : Nat} : App h .nilslice sz 0 [] := .inl ⟨rfl, rfl, rfl⟩
theorem App.len {h : Heap} {v : AV} {sz L : Nat} {l : List AV} (a : App h v sz L l) (k : Int → CRes) : jb v k = k L := by
  rcases a with ⟨rfl, rfl, _⟩ | ⟨b, rfl, _⟩ <;> rfl
theorem App.chg {F : Nat → Prop} {h h' : Heap} {v : AV} {sz L : Nat} {l : List AV} (a : App h v sz L l) (c : Chg F h h') (hf : ∀ b, v.blk = some b → ¬ F b) : App h' v sz L l := by
  rcases a with a | ⟨b, rfl, o, h1, h2⟩
  · exact .inl a
  · exact .inr ⟨b, rfl, c.own o (hf b rfl), h1, h2⟩
theorem App.grow {h h' : Heap} {v : AV} {sz L : Nat} {l : List AV} (a : App h v sz L l) (g : Grow h h') : App h' v sz L l := a.chg (g.chg fun _ => False) fun _ _ h => h
theorem App.lt {h : Heap} {v : AV} {sz L : Nat} {l : List AV} (a : App h v sz L l) {b : Nat} (hb : v.blk = some b) : b < h.nx := by
  rcases a with ⟨rfl, _, _⟩ | ⟨c, rfl, o, _, _⟩
  · cases hb
  · cases hb; exact o.lt
theorem Hy (v : AV) (h : Heap) (c : AV → Heap → CRes) : outK (some (v, h)) c = c v h := rfl
theorem Zs {h : Heap} {b : Nat} {l : List AV} {q : Nat} (o : Own h b l q) : nv h b = some l := by unfold nv; rw [o.get]
theorem UH {h : Heap} {b : Nat} {l : List AV} (o : h.cl b l) : nv h b = some l := by obtain ⟨_, _, _, e⟩ := o; unfold nv; rw [e]
theorem Y5 {β : Type} {h : Heap} {b : Nat} {l : List AV} {q : Nat} (o : Own h b l q) (e : β) (k : List AV → Nat → β) : agR h b e k = k l q := by
  unfold agR
  have : Nat.blt b h.ro = false := by rw [blt_eq]; simp; exact o.ro
  rw [this, o.get]
theorem aeN {h : Heap} {v : AV} {sz L n bx off ext : Nat} {o : Bool} {l lx new : List AV} (hro : h.ro ≤ h.nx) (ha : App h v sz L l) (hn : 0 < n) (hc : h.cl bx lx) (hs : sub lx off (n * sz) = some new) (hm : L + n ≤ 1048576) :
    Run1 (qk h sz v (.slice bx off n ext o)) fun v' h' => App h' v' sz (L + n) (l ++ new) ∧ v'.blk = some h.nx ∧ Chg (fun c => v.blk = some c) h h' := by
  have hsh : Pm h sz n (.slice bx off n ext o) = some new := by
    show (Option.casesOn (nv h bx) none fun l => sub l off (n * sz) : Option (List AV)) = _
    rw [UH hc]; exact hs
  have hnew : new.length = n * sz := by
    rw [pM] at hs
    split at hs
    · rename_i h1; cases hs; simp at h1 ⊢; omega
    · cases hs
  rcases ha with ⟨rfl, rfl, rfl⟩ | ⟨b, rfl, ow, hl, hL⟩
  · refine ⟨(.slice h.nx 0 n 0 true, h.add (.cells new true sz)), ⟨.inr ⟨h.nx, by simp, ⟨by simp, by simpa using hro, by rw [Heap.get_add, if_pos rfl]; simp⟩, by simpa using hnew, by omega⟩, rfl, (Grow.add).chg _⟩, fun k => ?_⟩
    unfold qk
    have : uX h sz .nilslice (.slice bx off n ext o) = some (.slice h.nx 0 n 0 true, h.add (.cells new true sz)) := by
      simp only [uX, adv]
      rw [if_neg (by omega), if_neg (by unfold Np; omega), hsh]
      dsimp only
      rw [Heap.newK_eq]
    rw [this, Hy, ba, bc]; rfl
  · have hsub : sub l 0 (L * sz) = some l := by rw [pM, List.drop_zero, if_pos (by omega), ← hl, List.take_length]
    refine ⟨(.slice h.nx 0 (L + n) 0 true, (h.set b .dead).add (.cells (l ++ new) true sz)), ⟨.inr ⟨h.nx, rfl, ⟨by simp, by simpa using hro, ?_⟩, ?_, by omega⟩, rfl, ⟨by simp, by simp, fun c hc' hf => ?_⟩⟩, fun k => ?_⟩
    · show ((h.set b .dead).add _).get h.nx = _
      rw [Heap.get_add, if_pos (by simp)]
    · simp [hl, hnew, Nat.add_mul]
    · have hf' : b ≠ c := fun e => hf (by rw [e]; rfl)
      show ((h.set b .dead).add _).get c = _
      rw [Heap.get_add, if_neg (by simp; omega), Heap.get_set_other _ hf']
    · unfold qk
      have : uX h sz (.slice b 0 L 0 true) (.slice bx off n ext o) = some (.slice h.nx 0 (L + n) 0 true, (h.set b .dead).add (.cells (l ++ new) true sz)) := by
        simp only [uX, adv]
        rw [if_neg (by omega), if_neg (by omega), if_neg (by unfold Np; omega), Zs ow]
        dsimp only
        rw [hsub]
        dsimp only
        rw [hsh]
        dsimp only
        rw [if_pos trivial, Y5 ow]
        have h3 : (Nat.beq sz sz && Nat.ble (0 + (L + 0) * sz) (mo l)) = true := by rw [jM, hl]; simp
        rw [h3]
        dsimp only
        rw [Heap.setK_eq, jG, Heap.newK_eq]
        simp
      rw [this, Hy, ba, bc]; rfl
end Go.Ai
/- What may be, by the code. -/
namespace Go.Proofs.YtnlbfbiogfilfaaGreat.Sh
open Go.Ai
def Faults (h0 h : Heap) (x L : Nat) : Prop := ∃ v l, Own h x [v] 0 ∧ App h v 2 L l ∧ h0.nx ≤ x ∧ ∀ b, v.blk = some b → b ≠ x ∧ h0.nx ≤ b
theorem Faults.grow {h0 h h' : Heap} {x L : Nat} (f : Faults h0 h x L) (g : Grow h h') : Faults h0 h' x L := by
  obtain ⟨v, l, h1, h2, h3, h4⟩ := f
  exact ⟨v, l, h1.grow g, h2.grow g, h3, h4⟩
theorem any_0 {v : AV} : ([v] : List AV)[0]? = some v := rfl
theorem build2 (q : IntKind) (a b : Int) (k : AV → CRes) : wa [.int q 0, .int q 0] [(0, 1, .int q a), (1, 1, .int q b)] k = k (.agg [.int q a, .int q b]) := rfl
theorem NU {n : Nat} {h0 h : Heap} {x L : Nat} (hro : h.ro ≤ h.nx) (g : Grow h0 h) (f : Faults h0 h x L) (hL : L < 1000) (may : Bool) (e at_ : Int) :
    Run0 (mG n may e at_ (.ptr x 0) h) fun h' => Faults h0 h' x (if may then L else L + 1) ∧ Grow h0 h' := by
  unfold mG LS Mv
  refine RunG.ifB (fun e1 => ?_) fun e1 => ?_
  · simp at e1
    subst e1
    obtain ⟨v, l, ho, ha, hx, hb⟩ := f
    simp only [aQ, aY, ba, bc, ca, b7, b9, ce, bH, ci, cb, cd, cy, cB, bG, bu, bX, b8, bK, aU, be, aN, bA, bz, aO, aK, aS, cg, cI, bM, aR, aV, cm, cn, bN, bO, bL, bP, bC, bB, bQ, List.getElem?_cons_zero, List.getElem?_cons_succ, Nat.zero_add, Nat.reduceAdd, Nat.add_zero, bU ho.cl, any_0, build2]
    refine Run1.bind (HS (fun k => by rfl)) ?_
    rintro _ h1 ⟨rfl, hc, g1⟩
    refine Run1.bind (aeN (g1.le hro) (ha.grow g1) (by omega) hc (by rw [pM]; rfl) (by omega)) ?_
    rintro v' h2 ⟨a2, b2, c2⟩
    have ho1 := ho.grow g1
    have ho2 := c2.own ho1 fun e => (hb x e).1 rfl
    refine Run0.bind (JN ho2 (by simp) (by rcases a2 with ⟨rfl, h3, _⟩ | ⟨b, rfl, _⟩ <;> rfl)) ?_
    intro h3 p3
    have n1 := ho.lt
    have n2 := g1.nx
    refine ret0 ⟨⟨v', _, p3.own, a2.chg p3.chg fun b hb' => by rw [b2] at hb'; cases hb'; omega, hx, fun b hb' => ?_⟩, ?_⟩
    · rw [b2] at hb'
      cases hb'
      have := g.nx
      exact ⟨by omega, by omega⟩
    · exact p3.grow (c2.grow (g.trans g1) fun b hb' => (hb b hb').2) hx
  · simp at e1
    subst e1
    exact ret0 ⟨f, g⟩
theorem asX {n : Nat} {z : CfgZ} (hn : Fits n z) {h0 : Heap} {t pp : AV} {x y N : Nat} (hN : N ≤ z.parts.length) (hN8 : N ≤ 8) (hro0 : h0.ro ≤ h0.nx) (hb0 : h0.cl x (zI z t pp)) (ht0 : Ints h0 .i64 t z.turns) (hp0 : Parts h0 pp z.parts) :
    ∀ (m i L : Nat) (h : Heap), Grow h0 h → Faults h0 h y L → L < 500 + i → i ≤ N → N - i < m →
    Run1 (fun k => zC n (mG n) (gn n) (gE n) (rv n) (rn n) (m9 n) k m (.ptr x 0) (.ptr y 0) (.func qJ [] [.ptr y 0]) N i h)
      fun r h' => (∃ L' : Nat, (∀ k, jb r k = k L') ∧ (L' = 0 ↔ L = 0 ∧ (List.range' i (N - i)).all (fun p => decide (aaF z p = 0)) = true)) ∧ Grow h0 h' := by
  intro m
  induction m with
  | zero => omega
  | succ m ih =>
    intro i L h g f hL hi hm
    have hro := g.le hro0
    simp only [akv]
    unfold FM Fr Ol
    refine RunG.ifB (fun e => ?_) fun e => ?_
    · simp at e
      have hr : List.range' i (N - i) = i :: List.range' (i + 1) (N - (i + 1)) := by
        rw [show N - i = (N - (i + 1)) + 1 by omega, List.range'_succ]
      rw [hr, List.all_cons]
      simp only [aQ, aY, ba, bc, ca, b7, b9, ce, bH, ci, cb, cd, cy, cB, bG, bu, bX, b8, bK, aU, be, aN, bA, bz, aO, aK, aS, cg, cI, bM, aR, aV, cm, cn, bN, bO, bL, bP, bC, bB, bQ, List.getElem?_cons_zero, List.getElem?_cons_succ, Nat.zero_add, Nat.reduceAdd, Nat.add_zero, bU (g.cl hb0), im, ij, io, ii, il, iu, ip, ir, iq, ik, fg, eW, eZ, fy, fk, fe, fd, fu, fq, eR, eS, eV, eT, eU, fb, d9, du, dh, ft, fh, fj, fx, fA, eY, d7, d8, ea, ed, dg, iT (show i ≤ 9223372036854775806 by omega)]
      refine Run1.bind (v_part hn hro (Cfg.mk' (ht0.grow g) (hp0.grow g)) (by omega)) ?_
      rintro _ h1 ⟨rfl, g1⟩
      have c1 : ∀ b e a h k, iE (mG n) (gn n) (gE n) (rv n) (rn n) (m9 n) (.func qJ [] [.ptr y 0]) [.bool b, .int .i64 e, .int .i64 a] h k =
        mG n b e a (.ptr y 0) h fun h => k (.tuple []) h := fun _ _ _ _ _ => rfl
      simp only [aQ, aY, ba, bc, ca, b7, b9, ce, bH, ci, cb, cd, cy, cB, bG, bu, bX, b8, bK, aU, be, aN, bA, bz, aO, aK, aS, cg, cI, bM, aR, aV, cm, cn, bN, bO, bL, bP, bC, bB, bQ, List.getElem?_cons_zero, List.getElem?_cons_succ, Nat.zero_add, Nat.reduceAdd, Nat.add_zero, c1]
      refine Run0.bind (NU (g1.le hro) (g.trans g1) (f.grow g1) (by omega) _ _ _) ?_
      rintro h2 ⟨f2, g2⟩
      refine RunG.mono (ih (i + 1) _ h2 g2 f2 (by split <;> omega) (by omega) (by omega)) ?_
      · rintro ⟨r, h'⟩ ⟨⟨L', q1, q2⟩, q3⟩
        refine ⟨⟨L', q1, q2.trans ?_⟩, q3⟩
        by_cases hpe : aaF z i = 0 <;> simp [hpe]
    · simp at e
      have : i = N := by omega
      subst this
      obtain ⟨v, l, ho, ha, hx, hb⟩ := f
      simp only [aQ, aY, ba, bc, ca, b7, b9, ce, bH, ci, cb, cd, cy, cB, bG, bu, bX, b8, bK, aU, be, aN, bA, bz, aO, aK, aS, cg, cI, bM, aR, aV, cm, cn, bN, bO, bL, bP, bC, bB, bQ, List.getElem?_cons_zero, List.getElem?_cons_succ, Nat.zero_add, Nat.reduceAdd, Nat.add_zero, bU ho.cl, any_0]
      exact kZ ⟨⟨L, ha.len, by simp⟩, g⟩
theorem v_Check {n : Nat} {z : CfgZ} (hn : Fits n z) {h : Heap} (hro : h.ro ≤ h.nx) {c : List AV} (hc : Cfg h z c) : Run1 (Ad n (.agg c) h) fun r h' => (∃ L : Nat, (∀ k, jb r k = k L) ∧ (L = 0 ↔ RB z = true)) ∧ Grow h h' := by
  unfold Ad UF UE
  obtain ⟨t, pp, rfl, ht, hp⟩ := hc
  refine Run1.bind (xT ..) ?_
  rintro x h0 ⟨hb, g⟩
  have hro0 := g.le hro
  have ht0 := ht.grow g
  have hp0 := hp.grow g
  refine Run1.bind (ah2 hro0 [.nilslice] 0) ?_
  rintro y h3 ⟨hy, oy, g3⟩
  have f3 : Faults h0 h3 y 0 := ⟨.nilslice, [], oy, .nil, hy, fun b hb => by cases hb⟩
  simp only [aQ, aY, ba, bc, ca, b7, b9, ce, bH, ci, cb, cd, cy, cB, bG, bu, bX, b8, bK, aU, be, aN, bA, bz, aO, aK, aS, cg, cI, bM, aR, aV, cm, cn, bN, bO, bL, bP, bC, bB, bQ, List.getElem?_cons_zero, List.getElem?_cons_succ, Nat.zero_add, Nat.reduceAdd, Nat.add_zero, bU (g3.cl hb), im, ij, io, ii, il, iu, ip, ir, iq, ik, fg, eW, eZ, fy, fk, fe, fd, fu, fq, eR, eS, eV, eT, eU, fb, d9, du, dh, ft, fh, fj, fx, fA, eY, d7, d8, ea, ed, dg]
  refine Run1.bind (OZ n (Cfg.mk' (ht0.grow g3) (hp0.grow g3))) ?_
  rintro _ h4 ⟨rfl, g4⟩
  refine Run0.bind (NU ((g3.trans g4).le hro0) (g3.trans g4) (f3.grow g4) (by omega) _ _ _) ?_
  rintro h5 ⟨f5, g5⟩
  simp only [aQ, aY, ba, bc, ca, b7, b9, ce, bH, ci, cb, cd, cy, cB, bG, bu, bX, b8, bK, aU, be, aN, bA, bz, aO, aK, aS, cg, cI, bM, aR, aV, cm, cn, bN, bO, bL, bP, bC, bB, bQ, List.getElem?_cons_zero, List.getElem?_cons_succ, Nat.zero_add, Nat.reduceAdd, Nat.add_zero, bU (g5.cl hb), im, ij, io, ii, il, iu, ip, ir, iq, ik, fg, eW, eZ, fy, fk, fe, fd, fu, fq, eR, eS, eV, eT, eU, fb, d9, du, dh, ft, fh, fj, fx, fA, eY, d7, d8, ea, ed, dg]
  refine Run1.bind (ND (by have := hn.small; omega) h5 z) ?_
  rintro _ h6 ⟨rfl, g6⟩
  refine Run0.bind (NU ((g5.trans g6).le hro0) (g5.trans g6) (f5.grow g6) (by split <;> omega) _ _ _) ?_
  rintro h7 ⟨f7, g7⟩
  simp only [aQ, aY, ba, bc, ca, b7, b9, ce, bH, ci, cb, cd, cy, cB, bG, bu, bX, b8, bK, aU, be, aN, bA, bz, aO, aK, aS, cg, cI, bM, aR, aV, cm, cn, bN, bO, bL, bP, bC, bB, bQ, List.getElem?_cons_zero, List.getElem?_cons_succ, Nat.zero_add, Nat.reduceAdd, Nat.add_zero, bU (g7.cl hb), im, ij, io, ii, il, iu, ip, ir, iq, ik, fg, eW, eZ, fy, fk, fe, fd, fu, fq, eR, eS, eV, eT, eU, fb, d9, du, dh, ft, fh, fj, fx, fA, eY, d7, d8, ea, ed, dg]
  refine Run1.bind (v_sliced hn (g7.le hro0) (Cfg.mk' (ht0.grow g7) (hp0.grow g7))) ?_
  rintro _ h8 ⟨rfl, g8⟩
  refine Run0.bind (NU ((g7.trans g8).le hro0) (g7.trans g8) (f7.grow g8) (by split <;> split <;> omega) _ _ _) ?_
  rintro h9 ⟨f9, g9⟩
  simp only [aQ, aY, ba, bc, ca, b7, b9, ce, bH, ci, cb, cd, cy, cB, bG, bu, bX, b8, bK, aU, be, aN, bA, bz, aO, aK, aS, cg, cI, bM, aR, aV, cm, cn, bN, bO, bL, bP, bC, bB, bQ, List.getElem?_cons_zero, List.getElem?_cons_succ, Nat.zero_add, Nat.reduceAdd, Nat.add_zero, bU (g9.cl hb), im, ij, io, ii, il, iu, ip, ir, iq, ik, fg, eW, eZ, fy, fk, fe, fd, fu, fq, eR, eS, eV, eT, eU, fb, d9, du, dh, ft, fh, fj, fx, fA, eY, d7, d8, ea, ed, dg]
  refine Run1.bind (v_turned hn (Cfg.mk' (ht0.grow g9) (hp0.grow g9))) ?_
  rintro _ h10 ⟨rfl, g10⟩
  refine Run0.bind (NU ((g9.trans g10).le hro0) (g9.trans g10) (f9.grow g10) (by split <;> split <;> split <;> omega) _ _ _) ?_
  rintro h11 ⟨f11, g11⟩
  simp only [aQ, aY, ba, bc, ca, b7, b9, ce, bH, ci, cb, cd, cy, cB, bG, bu, bX, b8, bK, aU, be, aN, bA, bz, aO, aK, aS, cg, cI, bM, aR, aV, cm, cn, bN, bO, bL, bP, bC, bB, bQ, List.getElem?_cons_zero, List.getElem?_cons_succ, Nat.zero_add, Nat.reduceAdd, Nat.add_zero, bU (g11.cl hb), im, ij, io, ii, il, iu, ip, ir, iq, ik, fg, eW, eZ, fy, fk, fe, fd, fu, fq, eR, eS, eV, eT, eU, fb, d9, du, dh, ft, fh, fj, fx, fA, eY, d7, d8, ea, ed, dg, hp0.2.choose_spec.1.len, min2]
  have hmin : minZ (z.parts.length : Int) 8 = ((min z.parts.length 8 : Nat) : Int) := by unfold minZ; split <;> omega
  rw [hmin]
  refine RunG.mono (asX hn (N := min z.parts.length 8) (by omega) (by omega) hro0 hb ht0 hp0 n 0 _ h11 g11 f11 (by split <;> split <;> split <;> split <;> omega) (by omega) (by have := hn.small; omega)) ?_
  rintro ⟨r, h'⟩ ⟨⟨L, q1, q2⟩, q3⟩
  refine ⟨⟨L, q1, q2.trans ?_⟩, g.trans q3⟩
  rw [Nat.sub_zero, ← List.range_eq_range']
  simp only [RB, Bool.and_eq_true]
  cases pV z <;> by_cases hcz : afP z = 0 <;> cases CA z <;> cases afk z <;> simp [hcz]
theorem v_May {n : Nat} {z : CfgZ} (hn : Fits n z) {h : Heap} (hro : h.ro ≤ h.nx) {c : List AV} (hc : Cfg h z c) : Run1 (Hx n (.agg c) h) fun r h' => r = RB z ∧ Grow h h' := by
  unfold Hx adD adX
  obtain ⟨t, pp, rfl, ht, hp⟩ := hc
  refine Run1.bind (xT ..) ?_
  rintro x h1 ⟨hb, g⟩
  simp only [aQ, aY, ba, bc, ca, b7, b9, ce, bH, ci, cb, cd, cy, cB, bG, bu, bX, b8, bK, aU, be, aN, bA, bz, aO, aK, aS, cg, cI, bM, aR, aV, cm, cn, bN, bO, bL, bP, bC, bB, bQ, List.getElem?_cons_zero, List.getElem?_cons_succ, Nat.zero_add, Nat.reduceAdd, Nat.add_zero, bU hb, im, ij, io, ii, il, iu, ip, ir, iq, ik, fg, eW, eZ, fy, fk, fe, fd, fu, fq, eR, eS, eV, eT, eU, fb, d9, du, dh, ft, fh, fj, fx, fA, eY, d7, d8, ea, ed, dg]
  refine Run1.bind (v_Check hn (g.le hro) (Cfg.mk' (ht.grow g) (hp.grow g))) ?_
  rintro r h2 ⟨⟨L, q1, q2⟩, g2⟩
  simp only [aQ, aY, ba, bc, ca, b7, b9, ce, bH, ci, cb, cd, cy, cB, bG, bu, bX, b8, bK, aU, be, aN, bA, bz, aO, aK, aS, cg, cI, bM, aR, aV, cm, cn, bN, bO, bL, bP, bC, bB, bQ, List.getElem?_cons_zero, List.getElem?_cons_succ, Nat.zero_add, Nat.reduceAdd, Nat.add_zero, q1]
  refine kZ ⟨?_, g.trans g2⟩
  rw [Bool.eq_iff_iff, ← q2]
  simp
def FA (z : CfgZ) (p : Int) : Int := if RB z then (if 0 ≤ p ∧ p < z.parts.length then 0 else 270) else 5
theorem v_there {n : Nat} {z : CfgZ} (hn : Fits n z) {h : Heap} (hro : h.ro ≤ h.nx) {c : List AV} (hc : Cfg h z c) (p : Int) : Run1 (Al n (.agg c) p h) fun r h' => r = FA z p ∧ Grow h h' := by
  unfold Al Vt Vb Pb O0
  obtain ⟨t, pp, rfl, ht, hp⟩ := hc
  refine Run1.bind (xT ..) ?_
  rintro x h1 ⟨hb, g⟩
  simp only [aQ, aY, ba, bc, ca, b7, b9, ce, bH, ci, cb, cd, cy, cB, bG, bu, bX, b8, bK, aU, be, aN, bA, bz, aO, aK, aS, cg, cI, bM, aR, aV, cm, cn, bN, bO, bL, bP, bC, bB, bQ, List.getElem?_cons_zero, List.getElem?_cons_succ, Nat.zero_add, Nat.reduceAdd, Nat.add_zero, bU hb, im, ij, io, ii, il, iu, ip, ir, iq, ik, fg, eW, eZ, fy, fk, fe, fd, fu, fq, eR, eS, eV, eT, eU, fb, d9, du, dh, ft, fh, fj, fx, fA, eY, d7, d8, ea, ed, dg]
  refine Run1.bind (v_May hn (g.le hro) (Cfg.mk' (ht.grow g) (hp.grow g))) ?_
  rintro _ h2 ⟨rfl, g2⟩
  simp only [aQ, aY, ba, bc, ca, b7, b9, ce, bH, ci, cb, cd, cy, cB, bG, bu, bX, b8, bK, aU, be, aN, bA, bz, aO, aK, aS, cg, cI, bM, aR, aV, cm, cn, bN, bO, bL, bP, bC, bB, bQ, List.getElem?_cons_zero, List.getElem?_cons_succ, Nat.zero_add, Nat.reduceAdd, Nat.add_zero, bU (g2.cl hb), im, ij, io, ii, il, iu, ip, ir, iq, ik, fg, eW, eZ, fy, fk, fe, fd, fu, fq, eR, eS, eV, eT, eU, fb, d9, du, dh, ft, fh, fj, fx, fA, eY, d7, d8, ea, ed, dg, hp.2.choose_spec.1.len]
  refine RunG.ifB (fun e1 => kZ ⟨by simp at e1; simp [FA, e1], g.trans g2⟩) fun e1 => RunG.ifB (fun e2 => kZ ⟨by simp at e1 e2; simp [FA, e1]; omega, g.trans g2⟩) fun e2 =>
    RunG.ifB (fun e3 => kZ ⟨by simp at e1 e2 e3; simp [FA, e1]; omega, g.trans g2⟩) fun e3 => kZ ⟨by simp at e1 e2 e3; simp [FA, e1]; omega, g.trans g2⟩
theorem ao2 {z : CfgZ} (h : RB z = true) : z.colours ≠ 0 := VJ (by simp [RB] at h; exact h.1)
theorem arV {n : Nat} {z : CfgZ} (hn : Fits n z) {h : Heap} (hro : h.ro ≤ h.nx) {c : List AV} (hc : Cfg h z c) (p : Int) : Run2 (oY n (.agg c) p h) fun v e h' => e = FA z p ∧ (e = 0 → v = s8 z p.toNat) ∧ Grow h h' := by
  unfold oY VD Vi
  obtain ⟨t, pp, rfl, ht, hp⟩ := hc
  refine Run1.bind (xT ..) ?_
  rintro x h1 ⟨hb, g⟩
  simp only [aQ, aY, ba, bc, ca, b7, b9, ce, bH, ci, cb, cd, cy, cB, bG, bu, bX, b8, bK, aU, be, aN, bA, bz, aO, aK, aS, cg, cI, bM, aR, aV, cm, cn, bN, bO, bL, bP, bC, bB, bQ, List.getElem?_cons_zero, List.getElem?_cons_succ, Nat.zero_add, Nat.reduceAdd, Nat.add_zero, bU hb, im, ij, io, ii, il, iu, ip, ir, iq, ik, fg, eW, eZ, fy, fk, fe, fd, fu, fq, eR, eS, eV, eT, eU, fb, d9, du, dh, ft, fh, fj, fx, fA, eY, d7, d8, ea, ed, dg]
  refine Run1.bind (v_there hn (g.le hro) (Cfg.mk' (ht.grow g) (hp.grow g)) p) ?_
  rintro _ h2 ⟨rfl, g2⟩
  have t2 := g.trans g2
  refine RunG.ifB (fun e1 => QN ⟨rfl, fun h0 => ?_, t2⟩) fun e1 => ?_
  · simp at e1; exact (e1 h0).elim
  simp at e1
  have hm : RB z = true ∧ 0 ≤ p ∧ p < z.parts.length := by
    unfold FA at e1
    split at e1
    · rename_i h1
      split at e1
      · rename_i h2; exact ⟨h1, h2⟩
      · cases e1
    · cases e1
  simp only [aQ, aY, ba, bc, ca, b7, b9, ce, bH, ci, cb, cd, cy, cB, bG, bu, bX, b8, bK, aU, be, aN, bA, bz, aO, aK, aS, cg, cI, bM, aR, aV, cm, cn, bN, bO, bL, bP, bC, bB, bQ, List.getElem?_cons_zero, List.getElem?_cons_succ, Nat.zero_add, Nat.reduceAdd, Nat.add_zero, bU (g2.cl hb), im, ij, io, ii, il, iu, ip, ir, iq, ik, fg, eW, eZ, fy, fk, fe, fd, fu, fq, eR, eS, eV, eT, eU, fb, d9, du, dh, ft, fh, fj, fx, fA, eY, d7, d8, ea, ed, dg]
  obtain ⟨q, rfl⟩ := Int.eq_ofNat_of_zero_le hm.2.1
  refine Run1.bind (arx (ao2 hm.1) (Cfg.mk' (ht.grow t2) (hp.grow t2)) (by omega)) ?_
  rintro _ h3 ⟨rfl, g3⟩
  exact QN ⟨e1.symm, fun _ => rfl, t2.trans g3⟩
end Go.Proofs.YtnlbfbiogfilfaaGreat.Sh
