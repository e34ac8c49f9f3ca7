/- 'adds' says true: the code. -/
import Derived.Test.YtnlbfbiogfilfaaGreatZQLawZQAdds
set_option linter.all false
namespace Go.Proofs.YtnlbfbiogfilfaaGreat.Sh
open Go.Ai
structure AddsIn (h0 : Heap) (n x p : Nat) (zc : CfgZ) (t pp : AV) (w : PoolP) (z : PoolZ) (L : List (Int × Int)) : Prop where
  n5 : 5000 < n
  fit : Fits n zc
  ro : h0.ro ≤ h0.nx
  cl : h0.cl x (zI zc t pp)
  parts : Parts h0 pp zc.parts
  pool : PoolIn h0 w z
  inv : InvQ zc p L z
  po : PartOk zc p
  may : RB zc = true
  wi : WithinQ zc p L
  lt : p < zc.parts.length
  ln : L.length < n
  lm : L.length ≤ 1000000
abbrev kA := dc
theorem v_adds_4 {h0 : Heap} {n x p : Nat} {zc : CfgZ} {t pp : AV} {w : PoolP} {z : PoolZ} {L : List (Int × Int)} (a : AddsIn h0 n x p zc t pp w z L) {R : List (Int × Int)} (hR : OwnedOf L R) {v9 v15 : AV} {tot fr sm : Int}
    (hsm : sm = tot) (hfr : fr = (mv z L 0)) (hcnt : tot - fr = L.length) (hb : -1000000 ≤ tot - fr ∧ tot - fr ≤ 1000000) (f1 f2 f3 f4 f5) :
    ∀ (q i : Nat) (h : Heap) {b : Nat}, v9 = .ptr b 0 → h.cl b ((Ao z).set 0 (.int .i64 (mv z L 0))) → Grow h0 h → SlAt h v15 2 R.length (prF R) → i ≤ R.length → R.length - i < q →
    Run1 (fun k => fG n f1 f2 f3 f4 f5 (dm n) k q (p : Int) (.ptr x 0) tot 0 v9 sm fr v15 (i : Int) h) fun r h' => r = true ∧ Grow h0 h' := by
  intro q
  have hRl : R.length = L.length := by
    have := congrArg List.length hR.keys
    rw [List.length_map, (zV _).length_eq, List.length_map] at this
    exact this
  induction q with
  | zero => omega
  | succ q ih =>
    intro i h b hv9 hc9 g hs hi hq
    simp only [SN]
    unfold pZ
    simp only [hs.len]
    refine RunG.ifB (fun e => ?_) fun e => ?_
    · simp at e
      have hmem : R.getD i (0, 0) ∈ L := hR.mem _ (by rw [List.getD_eq_getElem?_getD, List.getElem?_eq_getElem e]; exact List.getElem_mem e)
      obtain ⟨o1, o2, o3⟩ := a.inv.own a.po hmem
      obtain ⟨u1, u2⟩ := a.inv.rng _ hmem
      obtain ⟨ua, huse⟩ := own_use (h := h) hs e
      obtain ⟨_, S, hps, hin⟩ := a.parts.grow g
      have hpl : p < zc.parts.length := a.lt
      have hco := a.po.co
      simp [db] at hco
      have hclx := g.cl a.cl
      have h10 : RunG ap1 (fun k => oO n f1 f2 f3 f4 f5 (dm n) k (fG n f1 f2 f3 f4 f5 (dm n) k q) (p : Int) (.ptr x 0) tot 0 v9 sm fr v15 (i : Int) false h) fun r => r.1 = true ∧ Grow h0 r.2 := by
        unfold oO uy
        simp only [aQ, aY, ba, bc, ca, b7, b9, ce, bH, ci, cb, cd, cy, cB, bG, bu, bX, b8, bK, aU, be, aN, bA, bz, aO, aK, aS, cg, cI, bM, aR, aV, cm, cn, bN, bO, bL, bP, bC, bB, bQ, List.getElem?_cons_zero, List.getElem?_cons_succ, Nat.zero_add, Nat.reduceAdd, Nat.add_zero, iT (show i ≤ 9223372036854775806 by have := a.lm; omega)]
        exact ih (i + 1) h hv9 hc9 g hs (by omega) (by omega)
      have h9 : RunG ap1 (fun k => qd n f1 f2 f3 f4 f5 (dm n) k (fG n f1 f2 f3 f4 f5 (dm n) k q) (p : Int) (.ptr x 0) tot 0 v9 sm fr v15 (i : Int) false h) fun r => r.1 = true ∧ Grow h0 r.2 := by
        unfold qd vC
        have t1 : decide ((6 : Int) < (R.getD i (0, 0)).2) = false := decide_eq_false (by omega)
        simp only [aQ, aY, ba, bc, ca, b7, b9, ce, bH, ci, cb, cd, cy, cB, bG, bu, bX, b8, bK, aU, be, aN, bA, bz, aO, aK, aS, cg, cI, bM, aR, aV, cm, cn, bN, bO, bL, bP, bC, bB, bQ, List.getElem?_cons_zero, List.getElem?_cons_succ, Nat.zero_add, Nat.reduceAdd, Nat.add_zero, huse, t1]
        exact h10
      have h8 : RunG ap1 (fun k => qa n f1 f2 f3 f4 f5 (dm n) k (fG n f1 f2 f3 f4 f5 (dm n) k q) (p : Int) (.ptr x 0) tot 0 v9 sm fr v15 (i : Int) false h) fun r => r.1 = true ∧ Grow h0 r.2 := by
        unfold qa vW
        have t1 : decide ((R.getD i (0, 0)).2 < (1 : Int)) = false := decide_eq_false (by omega)
        simp only [aQ, aY, ba, bc, ca, b7, b9, ce, bH, ci, cb, cd, cy, cB, bG, bu, bX, b8, bK, aU, be, aN, bA, bz, aO, aK, aS, cg, cI, bM, aR, aV, cm, cn, bN, bO, bL, bP, bC, bB, bQ, List.getElem?_cons_zero, List.getElem?_cons_succ, Nat.zero_add, Nat.reduceAdd, Nat.add_zero, huse, t1]
        exact h9
      have h7 : RunG ap1 (fun k => qt n f1 f2 f3 f4 f5 (dm n) k (fG n f1 f2 f3 f4 f5 (dm n) k q) (p : Int) (.ptr x 0) tot 0 v9 sm fr v15 (i : Int) false h) fun r => r.1 = true ∧ Grow h0 r.2 := by
        unfold qt wg
        have hmod : (R.getD i (0, 0)).1.tmod zc.colours = (R.getD i (0, 0)).1 % zc.colours := Int.tmod_eq_emod_of_nonneg o1
        simp only [aQ, aY, ba, bc, ca, b7, b9, ce, bH, ci, cb, cd, cy, cB, bG, bu, bX, b8, bK, aU, be, aN, bA, bz, aO, aK, aS, cg, cI, bM, aR, aV, cm, cn, bN, bO, bL, bP, bC, bB, bQ, List.getElem?_cons_zero, List.getElem?_cons_succ, Nat.zero_add, Nat.reduceAdd, Nat.add_zero, bU hclx, im, ij, io, ii, il, iu, ip, ir, iq, ik, fg, eW, eZ, fy, fk, fe, fd, fu, fq, eR, eS, eV, eT, eU, fb, d9, du, dh, ft, fh, fj, fx, fA, eY, d7, d8, ea, ed, dg, ar3 hps hpl, aj3 hs e, anv (show zc.colours ≠ 0 by omega), hmod]
        have hfit := a.fit.cols p hpl
        refine Run1.bind (v_has hfit (hin p hpl) o3) ?_
        rintro _ h64 ⟨rfl, rfl⟩
        simp only [aQ, aY, ba, bc, ca, b7, b9, ce, bH, ci, cb, cd, cy, cB, bG, bu, bX, b8, bK, aU, be, aN, bA, bz, aO, aK, aS, cg, cI, bM, aR, aV, cm, cn, bN, bO, bL, bP, bC, bB, bQ, List.getElem?_cons_zero, List.getElem?_cons_succ, Nat.zero_add, Nat.reduceAdd, Nat.add_zero, Bool.not_true]
        exact h8
      have h6 : RunG ap1 (fun k => qj n f1 f2 f3 f4 f5 (dm n) k (fG n f1 f2 f3 f4 f5 (dm n) k q) (p : Int) (.ptr x 0) tot 0 v9 sm fr v15 (i : Int) false h) fun r => r.1 = true ∧ Grow h0 r.2 := by
        unfold qj ww
        have t1 : (!decide ((R.getD i (0, 0)).1 < zc.frames)) = false := by rw [decide_eq_true (show (R.getD i (0, 0)).1 < zc.frames from o2)]; rfl
        simp only [aj3 hs e]
        simp only [aQ, aY, ba, bc, ca, b7, b9, ce, bH, ci, cb, cd, cy, cB, bG, bu, bX, b8, bK, aU, be, aN, bA, bz, aO, aK, aS, cg, cI, bM, aR, aV, cm, cn, bN, bO, bL, bP, bC, bB, bQ, List.getElem?_cons_zero, List.getElem?_cons_succ, Nat.zero_add, Nat.reduceAdd, Nat.add_zero, bU hclx, im, ij, io, ii, il, iu, ip, ir, iq, ik, fg, eW, eZ, fy, fk, fe, fd, fu, fq, eR, eS, eV, eT, eU, fb, d9, du, dh, ft, fh, fj, fx, fA, eY, d7, d8, ea, ed, dg, t1]
        exact h7
      have h5 : RunG ap1 (fun k => mY n f1 f2 f3 f4 f5 (dm n) k (fG n f1 f2 f3 f4 f5 (dm n) k q) (p : Int) (.ptr x 0) tot 0 v9 sm fr v15 (i : Int) false h) fun r => r.1 = true ∧ Grow h0 r.2 := by
        unfold mY vJ
        have t1 : decide ((R.getD i (0, 0)).1 < (0 : Int)) = false := decide_eq_false (by omega)
        simp only [aj3 hs e]
        simp only [aQ, aY, ba, bc, ca, b7, b9, ce, bH, ci, cb, cd, cy, cB, bG, bu, bX, b8, bK, aU, be, aN, bA, bz, aO, aK, aS, cg, cI, bM, aR, aV, cm, cn, bN, bO, bL, bP, bC, bB, bQ, List.getElem?_cons_zero, List.getElem?_cons_succ, Nat.zero_add, Nat.reduceAdd, Nat.add_zero, t1]
        exact h6
      refine RunG.ifB (fun e0 => ?_) fun _ => h5
      simp at e0
      have w1 : IntKind.i64.wrap ((i : Int) - 1) = ((i - 1 : Nat) : Int) := by rw [lJ (by have := a.lm; omega) (by have := a.lm; omega)]; omega
      have e' : i - 1 < R.length := by omega
      have hinc : (R.getD (i - 1) (0, 0)).1 < (R.getD i (0, 0)).1 := by
        have hsort := Rt (a.inv.inv.nodup)
        rw [← hR.keys] at hsort
        have := List.pairwise_iff_getElem.1 hsort (i - 1) i (by simpa using e') (by simpa using e) (by omega)
        simp only [List.getElem_map] at this
        rw [List.getD_eq_getElem?_getD, List.getD_eq_getElem?_getD, List.getElem?_eq_getElem e, List.getElem?_eq_getElem e']
        exact this
      have t1 : (!decide ((R.getD (i - 1) (0, 0)).1 < (R.getD i (0, 0)).1)) = false := by simp only [hinc]; rfl
      simp only [aj3 hs e]
      simp only [aQ, aY, ba, bc, ca, b7, b9, ce, bH, ci, cb, cd, cy, cB, bG, bu, bX, b8, bK, aU, be, aN, bA, bz, aO, aK, aS, cg, cI, bM, aR, aV, cm, cn, bN, bO, bL, bP, bC, bB, bQ, List.getElem?_cons_zero, List.getElem?_cons_succ, Nat.zero_add, Nat.reduceAdd, Nat.add_zero, w1]
      simp only [aj3 hs e']
      simp only [aQ, aY, ba, bc, ca, b7, b9, ce, bH, ci, cb, cd, cy, cB, bG, bu, bX, b8, bK, aU, be, aN, bA, bz, aO, aK, aS, cg, cI, bM, aR, aV, cm, cn, bN, bO, bL, bP, bC, bB, bQ, List.getElem?_cons_zero, List.getElem?_cons_succ, Nat.zero_add, Nat.reduceAdd, Nat.add_zero, t1]
      exact h5
    · simp at e
      have hie : i = R.length := by omega
      unfold qm vx vY vU vc vH vG wv
      subst hv9
      have t0 : ((0 : Int) == 0) = true := rfl
      have t1 : (sm == tot) = true := by rw [hsm]; simp
      have i0 : ∀ c, KG 1 7 (.ptr b 0) 0 c = c (.ptr b (0 + 0)) := fun c => Rx (n := 7) (k := 0) (by omega) c
      have l0 : ((Ao z).set 0 (.int .i64 (mv z L 0)))[0]? = some (.int .i64 (mv z L 0)) := rfl
      have t2 : (fr == mv z L 0) = true := by rw [hfr]; simp
      have w2 : IntKind.i64.wrap (tot - fr) = tot - fr := lJ (by omega) (by omega)
      have t3 : ((R.length : Int) == tot - fr) = true := by rw [hcnt, hRl]; simp
      simp only [aQ, aY, ba, bc, ca, b7, b9, ce, bH, ci, cb, cd, cy, cB, bG, bu, bX, b8, bK, aU, be, aN, bA, bz, aO, aK, aS, cg, cI, bM, aR, aV, cm, cn, bN, bO, bL, bP, bC, bB, bQ, List.getElem?_cons_zero, List.getElem?_cons_succ, Nat.zero_add, Nat.reduceAdd, Nat.add_zero, t0, t1, i0, bU hc9, l0, t2, hs.len, w2, t3]
      exact kZ ⟨rfl, g⟩
theorem apk (z : PoolZ) : (U4 z).length = z.mine.length := by simp [U4]
theorem ar8 {z : PoolZ} {i : Nat} (hi : i < z.mine.length) : nz (U4 z) i = (sV z i : Int) := by
  rw [s9 (by simp [U4]; exact hi)]
  simp [U4]
theorem amI {f : Nat → Nat} : ∀ {m n : Nat}, m ≤ n → Et f m ≤ Et f n
  | m, 0, h => by have : m = 0 := by omega
                  subst this; exact Nat.le_refl _
  | m, n + 1, h => by
    by_cases e : m = n + 1
    · subst e; exact Nat.le_refl _
    · have := amI (f := f) (show m ≤ n by omega); rw [Et]; omega
theorem asD {h0 : Heap} {n x p : Nat} {zc : CfgZ} {t pp : AV} {w : PoolP} {z : PoolZ} {L : List (Int × Int)} (a : AddsIn h0 n x p zc t pp w z L) {b : Nat} {v50 : AV} (f1 f2 f3 f4) {hb : Heap} (hcb : hb.cl b ((Ao z).set 0 (.int .i64 (mv z L 0)))) (hl : Ints hb .i64 v50 (U4 z)) (g : Grow h0 hb) :
    ∀ (q i : Nat), i ≤ z.mine.length → z.mine.length - i < q →
    Run1 (fun k => mw n f1 f2 f3 f4 (km n) (dm n) k q (p : Int) (.ptr w.p 0) (.ptr x 0) (s8 zc p) 0 (.ptr b 0) (s8 zc p) (Et (sV z) i : Int) v50 (z.mine.length : Int) (i : Int) hb) fun r h' => r = true ∧ Grow h0 h' := by
  intro q
  obtain ⟨t1, t2, t3⟩ := OQ a.po
  have hsum := a.inv.sum
  have hln : z.mine.length ≤ 16 := by rw [a.inv.inv.mine]; exact a.po.few
  induction q with
  | zero => omega
  | succ q ih =>
    intro i hi hq
    simp only [Rw]
    unfold oS
    refine RunG.ifB (fun e => ?_) fun e => ?_
    · simp at e
      have hm := amI (f := sV z) (show i + 1 ≤ z.mine.length by omega)
      have hs : Et (sV z) (i + 1) = Et (sV z) i + sV z i := rfl
      have w1 : IntKind.i64.wrap ((Et (sV z) i : Int) + (sV z i : Int)) = ((Et (sV z) (i + 1) : Nat) : Int) := by rw [lJ (by omega) (by omega)]; omega
      simp only [aQ, aY, ba, bc, ca, b7, b9, ce, bH, ci, cb, cd, cy, cB, bG, bu, bX, b8, bK, aU, be, aN, bA, bz, aO, aK, aS, cg, cI, bM, aR, aV, cm, cn, bN, bO, bL, bP, bC, bB, bQ, List.getElem?_cons_zero, List.getElem?_cons_succ, Nat.zero_add, Nat.reduceAdd, Nat.add_zero, hl.elN (show i < (U4 z).length by rw [apk]; exact e), ar8 e, w1, iT (show i ≤ 9223372036854775806 by omega)]
      exact ih (i + 1) (by omega) (by omega)
    · simp at e
      have hie : i = z.mine.length := by omega
      unfold oT uz
      have hin : ∀ e ∈ z.uses, acQ e.1 := by
        rw [a.inv.uses]
        intro e he
        obtain ⟨o1, o2, _⟩ := a.inv.own a.po he
        have hf := a.po.fr
        simp [db] at hf
        unfold acQ; omega
      refine Run1.bind (v_Owned (g.le a.ro) (a.pool.grow g) hin (by rw [a.inv.uses]; exact a.inv.inv.nodup) (by rw [a.inv.uses]; exact a.lm) (by rw [a.inv.uses]; exact a.ln)) ?_
      rintro v15 h26 ⟨R, hR, hA, g26⟩
      rw [a.inv.uses] at hR
      have hRl : R.length = L.length := by
        have := congrArg List.length hR.keys
        rw [List.length_map, (zV _).length_eq, List.length_map] at this
        exact this
      have hfr : (Et (sV z) i : Int) = mv z L 0 := by
        rw [hie]; unfold mv; rw [if_pos rfl, a.inv.total]; omega
      have hlm := a.lm
      refine v_adds_4 a hR (v9 := .ptr b 0) rfl hfr (by rw [hie]; omega) (by rw [hie]; omega) _ _ _ _ _ n 0 h26 rfl (g26.cl hcb) (g.trans g26) (App.prs hA (by omega)) (by omega) (by have := a.ln; omega)
theorem row_at {z : PoolZ} {L : List (Int × Int)} {u : Nat} (hu : u < 7) : ((Ao z).set 0 (.int .i64 (mv z L 0)))[u]? = some (.int .i64 (mv z L u)) := by
  match u, hu with
  | 0, _ => rfl | 1, _ => rfl | 2, _ => rfl | 3, _ => rfl | 4, _ => rfl | 5, _ => rfl | 6, _ => rfl
theorem told_in {zc : CfgZ} {p : Nat} {z : PoolZ} {L : List (Int × Int)} (v : InvQ zc p L z) (po : PartOk zc p) (hm : RB zc = true) (wi : WithinQ zc p L) {u : Nat} (hu : u < 7) : 0 ≤ mv z L u ∧ mv z L u ≤ 65536 := by
  obtain ⟨_, t2, t3⟩ := OQ po
  have hr := (wi.room (ajL hm po) v.rng).1
  unfold mv
  by_cases e : u = 0
  · rw [if_pos e, v.total]; omega
  · rw [if_neg e, v.cnt u hu]
    have : pX L u ≤ L.length := List.countP_le_length
    omega
theorem told_sum {zc : CfgZ} {p : Nat} {z : PoolZ} {L : List (Int × Int)} (v : InvQ zc p L z) : akj (mv z L) 7 = s8 zc p := by
  have hs := aj1 L v.rng
  have e : akj (mv z L) 7 = 0 + mv z L 0 + mv z L 1 + mv z L 2 + mv z L 3 + mv z L 4 + mv z L 5 + mv z L 6 := rfl
  have h0 : mv z L 0 = z.total - L.length := rfl
  have h1 : mv z L 1 = (pX L 1 : Int) := v.cnt 1 (by omega)
  have h2 : mv z L 2 = (pX L 2 : Int) := v.cnt 2 (by omega)
  have h3 : mv z L 3 = (pX L 3 : Int) := v.cnt 3 (by omega)
  have h4 : mv z L 4 = (pX L 4 : Int) := v.cnt 4 (by omega)
  have h5 : mv z L 5 = (pX L 5 : Int) := v.cnt 5 (by omega)
  have h6 : mv z L 6 = (pX L 6 : Int) := v.cnt 6 (by omega)
  rw [e, h0, h1, h2, h3, h4, h5, h6, v.total]
  omega
theorem asr {h0 : Heap} {n x p : Nat} {zc : CfgZ} {t pp : AV} {w : PoolP} {z : PoolZ} {L : List (Int × Int)} (a : AddsIn h0 n x p zc t pp w z L) {b : Nat} (f3 f4) :
    ∀ (q u : Nat) (h : Heap), h.cl b ((Ao z).set 0 (.int .i64 (mv z L 0))) → Grow h0 h → u ≤ 7 → 7 - u < q → 0 ≤ akj (mv z L) u → akj (mv z L) u ≤ u * 65536 →
    Run1 (fun k => kN n (d6 n) (ml n) f3 f4 (km n) (dm n) k q (p : Int) (.ptr w.p 0) (.ptr x 0) (s8 zc p) 0 (.ptr b 0) (akj (mv z L) u) (u : Int) h) fun r h' => r = true ∧ Grow h0 h' := by
  intro q
  induction q with
  | zero => omega
  | succ q ih =>
    intro u h hcb g hu hq hs0 hs1
    simp only [Rc]
    unfold oQ oP uv
    refine RunG.ifB (fun e => ?_) fun e => ?_
    · simp at e
      have hu7 : u < 7 := by omega
      obtain ⟨t1, t2⟩ := told_in a.inv a.po a.may a.wi hu7
      have i0 : ∀ c, KG 1 7 (.ptr b 0) (u : Int) c = c (.ptr b (0 + u)) := fun c => Rx (n := 7) (k := u) hu7 c
      have hS : akj (mv z L) (u + 1) = akj (mv z L) u + mv z L u := rfl
      have w1 : IntKind.i64.wrap (akj (mv z L) u + mv z L u) = akj (mv z L) (u + 1) := by rw [lJ (by omega) (by omega), hS]
      have w2 : IntKind.u8.wrap ((u : Int) + 1) = ((u + 1 : Nat) : Int) := by rw [afN (by omega) (by omega)]; omega
      obtain ⟨_, S, hps, hin⟩ := a.parts.grow g
      have hpl : p < zc.parts.length := a.lt
      have hclx := g.cl a.cl
      have go : ∀ h', Grow h h' → Run1 (fun k => kN n (d6 n) (ml n) f3 f4 (km n) (dm n) k q (p : Int) (.ptr w.p 0) (.ptr x 0) (s8 zc p) 0 (.ptr b 0) (akj (mv z L) (u + 1)) ((u + 1 : Nat) : Int) h') fun r h' => r = true ∧ Grow h0 h' :=
        fun h' g' => ih (u + 1) h' (g'.cl hcb) (g.trans g') (by omega) (by omega) (by rw [hS]; omega) (by rw [hS]; omega)
      simp only [i0]
      simp only [aQ, aY, ba, bc, ca, b7, b9, ce, bH, ci, cb, cd, cy, cB, bG, bu, bX, b8, bK, aU, be, aN, bA, bz, aO, aK, aS, cg, cI, bM, aR, aV, cm, cn, bN, bO, bL, bP, bC, bB, bQ, List.getElem?_cons_zero, List.getElem?_cons_succ, Nat.zero_add, Nat.reduceAdd, Nat.add_zero, bU hcb, row_at hu7, w1]
      refine RunG.ifB (fun e2 => ?_) fun e2 => ?_
      · simp at e2
        have hel : ∀ K : AV → AV → CRes, eld 8 h pp (p : Int) 8 true K = K (elP pp 8 (p : Int)) (.agg (yW (zc.parts.getD p default) (S p))) := fun K => by
          have := hps.eld (i := (p : Int)) (by omega) (by omega) K
          rwa [Int.toNat_natCast] at this
        simp only [aQ, aY, ba, bc, ca, b7, b9, ce, bH, ci, cb, cd, cy, cB, bG, bu, bX, b8, bK, aU, be, aN, bA, bz, aO, aK, aS, cg, cI, bM, aR, aV, cm, cn, bN, bO, bL, bP, bC, bB, bQ, List.getElem?_cons_zero, List.getElem?_cons_succ, Nat.zero_add, Nat.reduceAdd, Nat.add_zero, bU hclx, im, ij, io, ii, il, iu, ip, ir, iq, ik, fg, eW, eZ, fy, fk, fe, fd, fu, fq, eR, eS, eV, eT, eU, fb, d9, du, dh, ft, fh, fj, fx, fA, eY, d7, d8, ea, ed, dg, hel]
        have hq := ar2 (n := n) (h := h.shut true) (x := zc.parts.getD p default) (s := S p) (u := u) hu7
        refine Run1.bind hq ?_
        rintro _ h24 ⟨rfl, g24⟩
        have hcnt : mv z L u = (pX L u : Int) := by unfold mv; rw [if_neg (by omega)]; exact a.inv.cnt u hu7
        have hqu : alq (zc.parts.getD p default) u = nh (c0 zc p) u := by
          have : u = 2 ∨ u = 3 ∨ u = 4 ∨ u = 5 ∨ u = 6 := by omega
          rcases this with rfl | rfl | rfl | rfl | rfl <;> rfl
        have hle := a.wi.quota u (by omega) (by omega)
        have t3 : decide (alq (zc.parts.getD p default) u < mv z L u) = false := decide_eq_false (by rw [hqu, hcnt]; omega)
        simp only [aQ, aY, ba, bc, ca, b7, b9, ce, bH, ci, cb, cd, cy, cB, bG, bu, bX, b8, bK, aU, be, aN, bA, bz, aO, aK, aS, cg, cI, bM, aR, aV, cm, cn, bN, bO, bL, bP, bC, bB, bQ, List.getElem?_cons_zero, List.getElem?_cons_succ, Nat.zero_add, Nat.reduceAdd, Nat.add_zero, t3, w2]
        exact go _ g24.shut
      · simp only [aQ, aY, ba, bc, ca, b7, b9, ce, bH, ci, cb, cd, cy, cB, bG, bu, bX, b8, bK, aU, be, aN, bA, bz, aO, aK, aS, cg, cI, bM, aR, aV, cm, cn, bN, bO, bL, bP, bC, bB, bQ, List.getElem?_cons_zero, List.getElem?_cons_succ, Nat.zero_add, Nat.reduceAdd, Nat.add_zero, w2]
        exact go h .refl
    · simp at e
      have hu7 : u = 7 := by omega
      subst hu7
      unfold pk ur
      rw [told_sum a.inv]
      refine Run1.bind (v_PFree (by have := a.n5; omega) (g.le a.ro) (a.pool.grow g) (a.inv.inv.ok a.po (by rw [List.length_map]; have := a.lm; omega))) ?_
      rintro v11 h12 ⟨l12, _, g12⟩
      simp only [l12.len, apk]
      have hln : z.mine.length ≤ 16 := by rw [a.inv.inv.mine]; exact a.po.few
      exact asD a _ _ _ _ (g12.cl hcb) l12.ints (g.trans g12) n 0 (by omega) (by have := a.n5; omega)
theorem v_adds {n : Nat} (hn : 5000 < n) {zc : CfgZ} (hfit : Fits n zc) {h : Heap} (hro : h.ro ≤ h.nx) {c : List AV} (hc : Cfg h zc c) {p : Nat} (hp : p < zc.parts.length) {w : PoolP} {z : PoolZ} (pin : PoolIn h w z) {L : List (Int × Int)} (v : InvQ zc p L z) (po : PartOk zc p) (hm : RB zc = true) (wi : WithinQ zc p L)
    (hln : L.length < n) (hlm : L.length ≤ 1000000) : Run1 (jl n (.agg c) (p : Int) (.ptr w.p 0) h) fun r h' => r = true ∧ Grow h h' := by
  unfold jl yC yn
  obtain ⟨t, pp, rfl, ht, hpp⟩ := hc
  refine Run1.bind (xT ..) ?_
  rintro x h1 ⟨hb, g⟩
  simp only [aQ, aY, ba, bc, ca, b7, b9, ce, bH, ci, cb, cd, cy, cB, bG, bu, bX, b8, bK, aU, be, aN, bA, bz, aO, aK, aS, cg, cI, bM, aR, aV, cm, cn, bN, bO, bL, bP, bC, bB, bQ, List.getElem?_cons_zero, List.getElem?_cons_succ, Nat.zero_add, Nat.reduceAdd, Nat.add_zero, bU hb, im, ij, io, ii, il, iu, ip, ir, iq, ik, fg, eW, eZ, fy, fk, fe, fd, fu, fq, eR, eS, eV, eT, eU, fb, d9, du, dh, ft, fh, fj, fx, fA, eY, d7, d8, ea, ed, dg]
  refine Run2.bind (arV hfit (g.le hro) (Cfg.mk' (ht.grow g) (hpp.grow g)) (p : Int)) ?_
  rintro tot _ h2 ⟨rfl, htot, g2⟩
  have hth : FA zc (p : Int) = 0 := by
    unfold FA
    rw [hm, if_pos rfl, if_pos ⟨by omega, by omega⟩]
  rw [hth] at htot ⊢
  have htot := htot rfl
  rw [Int.toNat_natCast] at htot
  subst htot
  have gg2 := g.trans g2
  obtain ⟨_, t2, t3⟩ := OQ po
  refine Run1.bind (v_Counts (gg2.le hro) (pin.grow gg2) (by rw [v.total]; exact ⟨t2, t3⟩) (by rw [v.uses]; exact hlm)) ?_
  rintro _ h7 ⟨rfl, g7⟩
  rw [v.uses]
  have gg7 := gg2.trans g7
  refine Run1.bind (ah2 (gg7.le hro) _ 0) ?_
  rintro x8 h9 ⟨hx8, o9, g9⟩
  have l7 : ((Ao z).set 0 (.int .i64 (z.total - (L.length : Int)))).length = 7 := rfl
  refine Run0.bind (Va o9 l7 (by simp)) ?_
  intro h10 p10
  rw [Uf _ _ (by rw [l7]; rfl)] at p10
  have g10 : Grow h7 h10 := p10.grow g9 hx8
  have gg10 := gg7.trans g10
  have A : AddsIn h10 n x p zc t pp w z L := ⟨hn, hfit, gg10.le hro, (g2.trans (g7.trans g10)).cl hb, hpp.grow gg10, pin.grow gg10, v, po, hm, wi, hp, hln, hlm⟩
  have key := asr (b := x8) A (oY n) (lV n) n 0 h10 p10.own.cl .refl (by omega) (by omega) (Int.le_refl 0) (by show (0 : Int) ≤ _; omega)
  refine RunG.mono key ?_
  rintro ⟨r, h'⟩ ⟨e1, e2⟩
  exact ⟨e1, gg10.trans e2⟩
end Go.Proofs.YtnlbfbiogfilfaaGreat.Sh
/- Of each use just its quota: the code. -/
namespace Go.Proofs.YtnlbfbiogfilfaaGreat.Sh
open Go.Ai
structure QSt (zc : CfgZ) (p : Nat) (hb h : Heap) (w : PoolP) (z : PoolZ) (L : List (Int × Int)) : Prop where
  pool : PoolIn h w z
  inv : InvQ zc p L z
  low : ∀ c, fpP w z.mine.length c → hb.nx ≤ c
  g : Grow hb h
theorem QSt.grow {zc : CfgZ} {p : Nat} {hb h h' : Heap} {w : PoolP} {z : PoolZ} {L : List (Int × Int)} (s : QSt zc p hb h w z L) (g : Grow h h') : QSt zc p hb h' w z L := ⟨s.pool.grow g, s.inv, s.low, s.g.trans g⟩
theorem QSt.take {zc : CfgZ} {p : Nat} {hb h : Heap} {w : PoolP} {z : PoolZ} {L : List (Int × Int)} (s : QSt zc p hb h w z L) (po : PartOk zc p) (qo : QuotaOk zc p) (wi : WithinQ zc p L) {u : Nat} (hu : 2 ≤ u ∧ u ≤ 6) (hlt : (pX L u : Int) < nh (c0 zc p) u) {f e : Int} {h' : Heap} (ht : aqF h w z u f e h') :
    e = 0 ∧ ∃ w' z', w'.p = w.p ∧ QSt zc p hb h' w' z' (L ++ [(f, (u : Int))]) := by
  obtain ⟨e0, w', z', e1, e2, q1, q2, q3, q4⟩ := takeQ s.pool s.inv po qo wi hu hlt ht
  refine ⟨e0, w', z', e1, q1, q2, fun d hd => ?_, q4.grow s.g s.low⟩
  rw [e2] at hd
  rcases q3 d hd with h1 | h1
  · exact s.low d h1
  · exact Nat.le_trans s.g.nx h1
def uN (f k : Nat) : Nat := 2 + (f + k) % 5
structure Round (zc : CfgZ) (p f k : Nat) (L : List (Int × Int)) : Prop where
  image : pX L 1 = 2 ^ (c0 zc p).order.toNat
  done : ∀ j, j < k → (pX L (uN f j : Int) : Int) = nh (c0 zc p) (uN f j)
  rest : ∀ j, k ≤ j → j < 5 → pX L (uN f j : Int) = 0
theorem amJ (f : Nat) {u : Nat} (h2 : 2 ≤ u) (h6 : u ≤ 6) : ∃ j, j < 5 ∧ u = uN f j := by
  refine ⟨(u - 2 + 5 - f % 5) % 5, Nat.mod_lt _ (by omega), ?_⟩
  unfold uN
  omega
theorem arT {f i j : Nat} (hi : i < 5) (hj : j < 5) (h : uN f i = uN f j) : i = j := by unfold uN at h; omega
theorem Round.within {zc : CfgZ} {p f k : Nat} {L : List (Int × Int)} (r : Round zc p f k L) (qo : QuotaOk zc p) : WithinQ zc p L := by
  refine ⟨Nat.le_of_eq r.image, fun u h2 h6 => ?_⟩
  obtain ⟨j, hj, rfl⟩ := amJ f h2 h6
  by_cases e : j < k
  · rw [r.done j e]; exact Int.le_refl _
  · rw [r.rest j (by omega) hj]; exact (qo.lo _ h2 h6).1
abbrev kQ := dD
theorem afJ (L : List (Int × Int)) (f : Int) (v u : Int) : pX (L ++ [(f, v)]) u = pX L u + if v = u then 1 else 0 := by
  rw [ahW]
  congr 1
  by_cases e : v = u <;> simp [pX, e]
theorem ara {R : Type} {ap : kQ → R → CRes} {Q : R → Prop} {n : Nat} (hn : 5000 < n) {zc : CfgZ} {p f k0 : Nat} (hf : f < 5) (hk0 : k0 < 5) (po : PartOk zc p) (qo : QuotaOk zc p) (hp : p < zc.parts.length) {hb : Heap} (hro : hb.ro ≤ hb.nx) {x : Nat} {t pp : AV} (hx : hb.cl x (zI zc t pp)) (hpp : Parts hb pp zc.parts)
    {P : Nat} {v2 v8 : Int} (f1 f2 f3 f6) {J : kQ → Int → Int → AV → AV → Int → Int → Heap → CRes}
    (hJ : ∀ h w z L, QSt zc p hb h w z L → w.p = P → Round zc p f (k0 + 1) L → RunG ap (fun k => mb n f1 f2 f3 (d6 n) (jI n) f6 k (J k) (p : Int) v2 (.ptr x 0) (.ptr P 0) v8 (k0 : Int) (uN f k0 : Int) h) Q) :
    ∀ (q i : Nat) (h : Heap) (w : PoolP) (z : PoolZ) (L : List (Int × Int)), QSt zc p hb h w z L → w.p = P → pX L (uN f k0 : Int) = i → pX L 1 = 2 ^ (c0 zc p).order.toNat → (∀ j, j < k0 → (pX L (uN f j : Int) : Int) = nh (c0 zc p) (uN f j)) → (∀ j, k0 < j → j < 5 → pX L (uN f j : Int) = 0) →
      (i : Int) ≤ nh (c0 zc p) (uN f k0) → 5000 - i < q →
    RunG ap (fun k => iz n f1 f2 f3 (d6 n) (jI n) f6 k (J k) q (p : Int) v2 (.ptr x 0) (.ptr P 0) v8 (k0 : Int) (uN f k0 : Int) (i : Int) h) Q := by
  intro q
  have hu2 : 2 ≤ uN f k0 := by unfold uN; omega
  have hu6 : uN f k0 ≤ 6 := by unfold uN; omega
  have hlo := qo.lo _ hu2 hu6
  induction q with
  | zero => omega
  | succ q ih =>
    intro i h w z L s hP hc himg hdone hrest hi hq
    simp only [KL]
    unfold ma mn pF
    obtain ⟨_, S, hps, hin⟩ := hpp.grow s.g
    have hclx := s.g.cl hx
    have hel : ∀ K : AV → AV → CRes, eld 8 h pp (p : Int) 8 true K = K (elP pp 8 (p : Int)) (.agg (yW (zc.parts.getD p default) (S p))) := fun K => by
      have := hps.eld (i := (p : Int)) (by omega) (by omega) K
      rwa [Int.toNat_natCast] at this
    simp only [aQ, aY, ba, bc, ca, b7, b9, ce, bH, ci, cb, cd, cy, cB, bG, bu, bX, b8, bK, aU, be, aN, bA, bz, aO, aK, aS, cg, cI, bM, aR, aV, cm, cn, bN, bO, bL, bP, bC, bB, bQ, List.getElem?_cons_zero, List.getElem?_cons_succ, Nat.zero_add, Nat.reduceAdd, Nat.add_zero, bU hclx, im, ij, io, ii, il, iu, ip, ir, iq, ik, fg, eW, eZ, fy, fk, fe, fd, fu, fq, eR, eS, eV, eT, eU, fb, d9, du, dh, ft, fh, fj, fx, fA, eY, d7, d8, ea, ed, dg, hel]
    refine Run1.bind (ar2 (u := uN f k0) (by omega)) ?_
    rintro _ h29 ⟨rfl, g29⟩
    have s29 := s.grow g29
    have hqu : alq (zc.parts.getD p default) (uN f k0) = nh (c0 zc p) (uN f k0) := by
      have : uN f k0 = 2 ∨ uN f k0 = 3 ∨ uN f k0 = 4 ∨ uN f k0 = 5 ∨ uN f k0 = 6 := by omega
      rcases this with e | e | e | e | e <;> rw [e] <;> rfl
    rw [hqu]
    have wi : WithinQ zc p L := by
      refine ⟨Nat.le_of_eq himg, fun u h2 h6 => ?_⟩
      obtain ⟨j, hj, rfl⟩ := amJ f h2 h6
      by_cases e1 : j = k0
      · subst e1; rw [hc]; exact hi
      · by_cases e2 : j < k0
        · rw [hdone j e2]; exact Int.le_refl _
        · rw [hrest j (by omega) hj]; exact (qo.lo _ h2 h6).1
    refine RunG.ifB (fun e => ?_) fun e => ?_
    · simp at e
      have t1 : decide ((i : Int) < 5000) = true := decide_eq_true (by omega)
      rw [t1]
      simp only [bG]
      subst hP
      refine Run2.bind (arP (by omega) (s29.g.le hro) s29.pool (s29.inv.inv.ok po (by
        rw [List.length_map]
        have := (wi.room qo s.inv.rng).1
        have := (OQ po).2.2
        omega)) (u := uN f k0) hu2 (by omega)) ?_
      rintro fr er h32 ht
      obtain ⟨rfl, w', z', e1, s'⟩ := s29.take po qo wi ⟨hu2, hu6⟩ (by rw [hc]; exact e) ht
      have t0 : (!((0 : Int) == 0)) = false := rfl
      simp only [aQ, aY, ba, bc, ca, b7, b9, ce, bH, ci, cb, cd, cy, cB, bG, bu, bX, b8, bK, aU, be, aN, bA, bz, aO, aK, aS, cg, cI, bM, aR, aV, cm, cn, bN, bO, bL, bP, bC, bB, bQ, List.getElem?_cons_zero, List.getElem?_cons_succ, Nat.zero_add, Nat.reduceAdd, Nat.add_zero, t0, iT (show i ≤ 9223372036854775806 by omega)]
      refine ih (i + 1) h32 w' z' _ s' e1 ?_ ?_ (fun j hj => ?_) (fun j hj1 hj2 => ?_) (by omega) (by omega)
      · rw [afJ, if_pos rfl, hc]
      · rw [afJ, if_neg (by omega), himg]; rfl
      · rw [afJ, if_neg (fun h => by have := arT hk0 (by omega) (show uN f k0 = uN f j by omega); omega)]; exact hdone j hj
      · rw [afJ, if_neg (fun h => by have := arT hk0 hj2 (show uN f k0 = uN f j by omega); omega)]; exact hrest j hj1 hj2
    · simp at e
      refine hJ h29 w z L s29 hP ⟨himg, fun j hj => ?_, fun j hj1 hj2 => hrest j (by omega) hj2⟩
      by_cases e1 : j = k0
      · subst e1; rw [hc]; omega
      · exact hdone j (by omega)
theorem aqM {n : Nat} (hn : 5000 < n) {zc : CfgZ} (hfit : Fits n zc) {p f : Nat} {first : Int} (hfirst : 0 ≤ first ∧ first < 256) (hf : f = (first % 5).toNat) (hm : RB zc = true) (po : PartOk zc p) (hp : p < zc.parts.length) {hb : Heap} (hro : hb.ro ≤ hb.nx) {x : Nat} {t pp : AV} (hx : hb.cl x (zI zc t pp)) (htt : Ints hb .i64 t zc.turns) (hpp : Parts hb pp zc.parts)
    {P : Nat} (f1 f2 f3) (hn2 : 70000 < n) :
    ∀ (q k0 : Nat) (h : Heap) (w : PoolP) (z : PoolZ) (L : List (Int × Int)), QSt zc p hb h w z L → w.p = P → Round zc p f k0 L → k0 ≤ 5 → 5 - k0 < q →
    Run1 (fun k => iy n f1 f2 f3 (d6 n) (jI n) (jl n) k q (p : Int) first (.ptr x 0) (.ptr P 0) 0 (k0 : Int) h) fun r h' => r = true ∧ Grow hb h' := by
  intro q
  have qo := ajL hm po
  have hf5 : f < 5 := by omega
  induction q with
  | zero => omega
  | succ q ih =>
    intro k0 h w z L s hP r hk hq
    simp only [Lf]
    unfold mc
    refine RunG.ifB (fun e => ?_) fun e => ?_
    · simp at e
      have hk5 : k0 < 5 := by omega
      have m1 : first.tmod 5 = first % 5 := Int.tmod_eq_emod_of_nonneg hfirst.1
      have w1 : IntKind.u8.wrap (first % 5 + (k0 : Int)) = ((f + k0 : Nat) : Int) := by rw [afN (by omega) (by omega)]; omega
      have m2 : (((f + k0 : Nat) : Int)).tmod 5 = (((f + k0) % 5 : Nat) : Int) := by rw [Int.tmod_eq_emod_of_nonneg (by omega)]; omega
      have w2 : IntKind.u8.wrap (2 + (((f + k0) % 5 : Nat) : Int)) = (uN f k0 : Int) := by rw [afN (by omega) (by omega)]; unfold uN; omega
      simp only [aQ, aY, ba, bc, ca, b7, b9, ce, bH, ci, cb, cd, cy, cB, bG, bu, bX, b8, bK, aU, be, aN, bA, bz, aO, aK, aS, cg, cI, bM, aR, aV, cm, cn, bN, bO, bL, bP, bC, bB, bQ, List.getElem?_cons_zero, List.getElem?_cons_succ, Nat.zero_add, Nat.reduceAdd, Nat.add_zero, anv (show (5 : Int) ≠ 0 by decide), m1, w1, m2, w2]
      refine ara hn hf5 hk5 po qo hp hro hx hpp (P := P) f1 f2 f3 _ (J := fun k => iy n f1 f2 f3 (d6 n) (jI n) (jl n) k q) (fun h2 w2 z2 L2 s2 hP2 r2 => ?_) n 0 h w z L s hP (r.rest k0 (Nat.le_refl _) hk5) r.image r.done (fun j h1 h2 => r.rest j (by omega) h2) ((qo.lo _ (by unfold uN; omega) (by unfold uN; omega)).1) (by omega)
      unfold mb pE
      subst hP2
      have hu2 : 2 ≤ uN f k0 := by unfold uN; omega
      have hu6 : uN f k0 ≤ 6 := by unfold uN; omega
      have wi := r2.within qo
      refine Run2.bind (arP (by omega) (s2.g.le hro) s2.pool (s2.inv.inv.ok po (by
        rw [List.length_map]
        have := (wi.room qo s2.inv.rng).1
        have := (OQ po).2.2
        omega)) (u := uN f k0) hu2 (by omega)) ?_
      rintro fr er h22 ht
      rcases ht with ⟨_, _, rfl, rfl⟩ | ⟨hlt, _⟩
      · have t0 : (!((4 : Int) == 4)) = false := rfl
        have w3 : IntKind.u8.wrap ((k0 : Int) + 1) = ((k0 + 1 : Nat) : Int) := by rw [afN (by omega) (by omega)]; omega
        simp only [aQ, aY, ba, bc, ca, b7, b9, ce, bH, ci, cb, cd, cy, cB, bG, bu, bX, b8, bK, aU, be, aN, bA, bz, aO, aK, aS, cg, cI, bM, aR, aV, cm, cn, bN, bO, bL, bP, bC, bB, bQ, List.getElem?_cons_zero, List.getElem?_cons_succ, Nat.zero_add, Nat.reduceAdd, Nat.add_zero, t0, w3]
        exact ih (k0 + 1) _ w2 z2 L2 s2 rfl r2 (by omega) (by omega)
      · exfalso
        rw [s2.inv.quota, s2.inv.cnt _ (by omega)] at hlt
        have := r2.done k0 (by omega)
        omega
    · simp at e
      unfold mf pt pT pJ
      have t0 : ((0 : Int) == 0) = true := rfl
      subst hP
      simp only [aQ, aY, ba, bc, ca, b7, b9, ce, bH, ci, cb, cd, cy, cB, bG, bu, bX, b8, bK, aU, be, aN, bA, bz, aO, aK, aS, cg, cI, bM, aR, aV, cm, cn, bN, bO, bL, bP, bC, bB, bQ, List.getElem?_cons_zero, List.getElem?_cons_succ, Nat.zero_add, Nat.reduceAdd, Nat.add_zero, t0, bU (s.g.cl hx), im, ij, io, ii, il, iu, ip, ir, iq, ik, fg, eW, eZ, fy, fk, fe, fd, fu, fq, eR, eS, eV, eT, eU, fb, d9, du, dh, ft, fh, fj, fx, fA, eY, d7, d8, ea, ed, dg]
      have wi := r.within qo
      have hroom := (wi.room qo s.inv.rng).1
      have htot := (OQ po).2.2
      refine Run1.bind (v_adds hn hfit (s.g.le hro) (Cfg.mk' (htt.grow s.g) (hpp.grow s.g)) hp s.pool s.inv po hm wi (by omega) (by omega)) ?_
      rintro _ h15 ⟨rfl, g15⟩
      exact kZ ⟨rfl, s.g.trans g15⟩
theorem v_Quotas {n : Nat} (hn : 70000 < n) {zc : CfgZ} (hfit : Fits n zc) {h : Heap} (hro : h.ro ≤ h.nx) {c : List AV} (hc : Cfg h zc c) (p : Int) {first : Int} (hfirst : 0 ≤ first ∧ first < 256) :
    Run1 (q7 n (.agg c) p first h) fun r h' => r = true ∧ Grow h h' := by
  unfold q7 rj rl
  obtain ⟨t, pp, rfl, ht, hp⟩ := hc
  refine Run1.bind (xT ..) ?_
  rintro x h1 ⟨hb, g⟩
  have hw : ∀ K : AV → Heap → CRes, B5 nD [] h1 K = K (.bool true) h1 := fun K => rfl
  have t1 : ∀ A B : CRes, ifB (!true) A B = B := fun _ _ => rfl
  simp only [aQ, aY, ba, bc, ca, b7, b9, ce, bH, ci, cb, cd, cy, cB, bG, bu, bX, b8, bK, aU, be, aN, bA, bz, aO, aK, aS, cg, cI, bM, aR, aV, cm, cn, bN, bO, bL, bP, bC, bB, bQ, List.getElem?_cons_zero, List.getElem?_cons_succ, Nat.zero_add, Nat.reduceAdd, Nat.add_zero, hw, t1, bU hb, im, ij, io, ii, il, iu, ip, ir, iq, ik, fg, eW, eZ, fy, fk, fe, fd, fu, fq, eR, eS, eV, eT, eU, fb, d9, du, dh, ft, fh, fj, fx, fA, eY, d7, d8, ea, ed, dg]
  refine Run2.bind (v_PNew (by omega) hfit (g.le hro) (Cfg.mk' (ht.grow g) (hp.grow g)) p) ?_
  rintro r2 e2 h2 ⟨g2, q2⟩
  rcases q2 with ⟨a1, a2, rfl⟩ | ⟨rfl, a2, w, bs, rfl, mk, hmk⟩
  · have c1 : (!(e2 == 0)) = true := by simpa using a1
    have c2 : ∀ A B : CRes, ifB true A B = A := fun _ _ => rfl
    have c3 : ∀ c : Bool → CRes, X0 (.nil .ptr) .nilptr .nilptr c = c true := fun c => rfl
    simp only [aQ, aY, ba, bc, ca, b7, b9, ce, bH, ci, cb, cd, cy, cB, bG, bu, bX, b8, bK, aU, be, aN, bA, bz, aO, aK, aS, cg, cI, bM, aR, aV, cm, cn, bN, bO, bL, bP, bC, bB, bQ, List.getElem?_cons_zero, List.getElem?_cons_succ, Nat.zero_add, Nat.reduceAdd, Nat.add_zero, c1, c2, c3]
    exact kZ ⟨rfl, g.trans g2⟩
  · have hm1 : RB zc = true := by
      unfold FA at a2
      cases hmay : RB zc with
      | true => rfl
      | false => rw [hmay] at a2; simp at a2
    have hp0 : 0 ≤ p ∧ p < zc.parts.length := by
      unfold FA at a2
      rw [hm1, if_pos rfl] at a2
      by_cases hh : 0 ≤ p ∧ p < zc.parts.length
      · exact hh
      · rw [if_neg hh] at a2; omega
    obtain ⟨pn, rfl⟩ := Int.eq_ofNat_of_zero_le hp0.1
    have hpl : pn < zc.parts.length := by have := hp0.2; omega
    have po := apb hm1 hpl
    have qo := ajL hm1 po
    simp only [Int.toNat_natCast] at mk hmk
    have v0 := InvQ.new hm1 po hmk
    have pin : PoolIn h2 w (YZ zc pn bs) := mk.pool
    have ok0 := v0.inv.ok po (by simp)
    have c2 : (!((0 : Int) == 0)) = false := rfl
    have c3 : ∀ A B : CRes, ifB false A B = B := fun _ _ => rfl
    simp only [c2, c3]
    have hpos := po.pos
    refine Run2.bind (v_Image (o := (c0 zc pn).order.toNat) (by omega) ((g.trans g2).le hro) pin ok0 (by have := qo.ord; omega) (by show (c0 zc pn).order = _; have := qo.ord; omega) rfl) ?_
    rintro r er h12 (⟨_, _, _, hemp⟩ | ⟨rfl, k, a, rest, bv', i1, hk, hxx, hemp, _, _, hpin, hsub, cc⟩)
    · exfalso
      obtain ⟨o, mk0⟩ := hmk 0 hpos
      have hf := ani hm1 po hmk 0 hpos
      have hsum : sV (YZ zc pn bs) 0 = Dh zc (nz (c0 zc pn).cols 0) := mk0.sum
      have he := qo.each
      have hord := qo.ord
      have hD : 1 ≤ 2 ^ (c0 zc pn).order.toNat := Nat.one_le_two_pow
      have hcz : 2 ^ (c0 zc pn).order.toNat ≤ Dh zc (nz (c0 zc pn).cols 0) := by
        rw [← hsum, hf]
        generalize 2 ^ (c0 zc pn).order.toNat = D at *
        omega
      obtain ⟨j, j1, j2, j3⟩ := mk0.hb (by omega) (c0 zc pn).order.toNat (by omega) hcz
      exact j3 (hemp j j1 j2)
    · have hs := v0.step po (u := 1) (by omega) ok0.ne (by have := qo.ord; omega) i1 hk hxx hemp
      rw [List.nil_append] at hs
      have s0 : QSt zc pn h1 h12 { w with bv := bv' } _ _ := ⟨hpin, hs, fun d hd => by
        rcases hsub d hd with x3 | x3
        · exact mk.low d x3
        · exact Nat.le_trans g2.nx x3, cc.grow g2 mk.low⟩
      have hr : Round zc pn (first % 5).toNat 0 ((ld (YZ zc pn bs).colours (nz (YZ zc pn bs).mine 0) a (2 ^ (c0 zc pn).order.toNat)).map fun f => (f, ((1 : Nat) : Int))) := by
        refine ⟨?_, fun j hj => by omega, fun j _ _ => ?_⟩
        · rw [ajB, sD]; exact if_pos rfl
        · rw [ajB, if_neg (by unfold uN; omega)]
      refine RunG.mono (aqM (P := w.p) (f := (first % 5).toNat) (by omega) hfit hfirst rfl hm1 po hpl (g.le hro) hb (ht.grow g) (hp.grow g) _ _ _ hn n 0 h12 _ _ _ s0 rfl hr (by omega) (by omega)) ?_
      rintro ⟨r, h'⟩ ⟨e1, e2⟩
      exact ⟨e1, g.trans e2⟩
end Go.Proofs.YtnlbfbiogfilfaaGreat.Sh
