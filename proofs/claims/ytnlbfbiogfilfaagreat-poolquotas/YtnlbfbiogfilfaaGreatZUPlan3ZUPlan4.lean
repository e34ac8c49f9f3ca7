/- What things cost, by the code. -/
import Derived.Test.YtnlbfbiogfilfaaGreatZUPlanZUPlan2
set_option linter.all false
namespace Go.Proofs.YtnlbfbiogfilfaaGreat.Sh
open Go.Ai
@[simp] theorem acV (n : Nat) (a b c : Int) (h : Heap) (k : Bool → Heap → CRes) : mA n a b c h k = k (db a b c) h := by
  unfold mA QP Q8 LF L1
  by_cases hc : a < b
  · simp [db, hc, show ¬ b ≤ a by omega]
  · simp [db, hc, show b ≤ a by omega, ← Int.not_lt]
theorem v_Switch {n : Nat} (hn : 4 ≤ n) (h : Heap) (z : CfgZ) (a b : Int) : Run2 (rm n (.agg (Ca z)) a b h) fun v e h' => e = abt z a b ∧ (e = 0 → v = arK z a b) ∧ Grow h h' := by
  unfold rm QV Rf Li Mu
  refine Run1.bind (xT ..) ?_
  rintro x h1 ⟨hb, g⟩
  simp only [aQ, aY, ba, bc, ca, b7, b9, ce, bH, ci, cb, cd, cy, cB, bG, bu, bX, b8, bK, aU, be, aN, bA, bz, aO, aK, aS, cg, cI, bM, aR, aV, cm, cn, bN, bO, bL, bP, bC, bB, bQ, List.getElem?_cons_zero, List.getElem?_cons_succ, Nat.zero_add, Nat.reduceAdd, Nat.add_zero, bU hb, im, ij, io, ii, il, iu, ip, ir, iq, ik, fg, eW, eZ, fy, fk, fe, fd, fu, fq, eR, eS, eV, eT, eU, fb, d9, du, dh, ft, fh, fj, fx, fA, eY, d7, d8, ea, ed, dg]
  refine Run1.bind (ND hn h1 z) ?_
  rintro _ h2 ⟨rfl, g2⟩
  have gg := g.trans g2
  have hb2 := g2.cl hb
  simp only [aQ, aY, ba, bc, ca, b7, b9, ce, bH, ci, cb, cd, cy, cB, bG, bu, bX, b8, bK, aU, be, aN, bA, bz, aO, aK, aS, cg, cI, bM, aR, aV, cm, cn, bN, bO, bL, bP, bC, bB, bQ, List.getElem?_cons_zero, List.getElem?_cons_succ, Nat.zero_add, Nat.reduceAdd, Nat.add_zero, bU hb2, im, ij, io, ii, il, iu, ip, ir, iq, ik, fg, eW, eZ, fy, fk, fe, fd, fu, fq, eR, eS, eV, eT, eU, fb, d9, du, dh, ft, fh, fj, fx, fA, eY, d7, d8, ea, ed, dg, acV]
  refine RunG.ifB (fun e1 => QN ⟨?_, ?_, gg⟩) fun e1 => RunG.ifB (fun e2 => QN ⟨?_, ?_, gg⟩) fun e2 => RunG.ifB (fun e3 => QN ⟨?_, ?_, gg⟩) fun e3 => QN ⟨?_, ?_, gg⟩
  · simp at e1; simp [abt, e1]
  · intro h0; simp at e1; exact (e1 h0).elim
  · simp at e1 e2; simp [abt, e1, e2]
  · intro h0; cases h0
  · simp at e1 e2 e3; simp [abt, e1, e2, e3]
  · intro h0; cases h0
  · simp at e1 e2 e3; simp [abt, e1, e2, e3]
  · intro _; rfl
theorem asi {n : Nat} {x : Nat} {h : Heap} {s : ShapeZ} (hb : h.cl x (BA s)) (i : Bool) (f1) : Run1 (fun k => zN n f1 (mA n) k (.ptr x 0) i h) fun r h' => h' = h ∧ r = if i && (db s.user 2 4096 && (db s.limit 1 5120 && db s.nodes 1 4096)) then 0 else 2 := by
  unfold zN O2 Ou Ow Pa Pq Or OA
  simp only [aQ, aY, ba, bc, ca, b7, b9, ce, bH, ci, cb, cd, cy, cB, bG, bu, bX, b8, bK, aU, be, aN, bA, bz, aO, aK, aS, cg, cI, bM, aR, aV, cm, cn, bN, bO, bL, bP, bC, bB, bQ, List.getElem?_cons_zero, List.getElem?_cons_succ, Nat.zero_add, Nat.reduceAdd, Nat.add_zero, bU hb, im, ij, io, ii, il, iu, ip, ir, iq, ik, fg, eW, eZ, fy, fk, fe, fd, fu, fq, eR, eS, eV, eT, eU, fb, d9, du, dh, ft, fh, fj, fx, fA, eY, d7, d8, ea, ed, dg, acV]
  cases i <;> cases h1 : db s.user 2 4096 <;> cases h2 : db s.limit 1 5120 <;> cases h3 : db s.nodes 1 4096 <;> exact kZ ⟨rfl, by simp⟩
theorem asE {n : Nat} {y : Nat} {h : Heap} {s : ShapeZ} (hb : h.cl y (BA s)) (f1) : ∀ (m i : Nat) (b : Bool), i ≤ 4 → 4 - i < m → Run1 (fun k => zh n f1 (mA n) k m (.ptr y 0) b i h) fun r h' => h' = h ∧
    r = if (b || (List.range' i (4 - i)).any fun j => s.image == IntKind.i64.wrap (agM .i64 1 j)) && (db s.user 2 4096 && (db s.limit 1 5120 && db s.nodes 1 4096)) then 0 else 2 := by
  intro m
  induction m with
  | zero => omega
  | succ m ih =>
    intro i b hi hm
    simp only [ako]
    unfold E8 EE OT
    refine RunG.ifB (fun e => ?_) fun e => ?_
    · simp at e
      simp only [aQ, aY, ba, bc, ca, b7, b9, ce, bH, ci, cb, cd, cy, cB, bG, bu, bX, b8, bK, aU, be, aN, bA, bz, aO, aK, aS, cg, cI, bM, aR, aV, cm, cn, bN, bO, bL, bP, bC, bB, bQ, List.getElem?_cons_zero, List.getElem?_cons_succ, Nat.zero_add, Nat.reduceAdd, Nat.add_zero, bU hb, im, ij, io, ii, il, iu, ip, ir, iq, ik, fg, eW, eZ, fy, fk, fe, fd, fu, fq, eR, eS, eV, eT, eU, fb, d9, du, dh, ft, fh, fj, fx, fA, eY, d7, d8, ea, ed, dg, iT (show i ≤ 9223372036854775806 by omega), U3 (Int.natCast_nonneg i), Int.toNat_natCast]
      have hr : List.range' i (4 - i) = i :: List.range' (i + 1) (4 - (i + 1)) := by
        rw [show 4 - i = (4 - (i + 1)) + 1 by omega, List.range'_succ]
      rw [hr, List.any_cons]
      refine RunG.ifB (fun e1 => ?_) fun e1 => ?_
      · subst e1
        refine RunG.mono (ih (i + 1) true (by omega) (by omega)) ?_
        rintro ⟨r, h'⟩ ⟨q1, q2⟩
        exact ⟨q1, by rw [q2]; simp⟩
      · subst e1
        refine RunG.mono (ih (i + 1) _ (by omega) (by omega)) ?_
        rintro ⟨r, h'⟩ ⟨q1, q2⟩
        exact ⟨q1, by rw [Bool.false_or]; exact q2⟩
    · simp at e
      have : i = 4 := by omega
      subst this
      refine RunG.mono (asi hb b f1) ?_
      rintro ⟨r, h'⟩ ⟨q1, q2⟩
      exact ⟨q1, by rw [q2]; simp⟩
theorem v_asked {n : Nat} (hn : 10 ≤ n) (h : Heap) (z : CfgZ) (s : ShapeZ) : Run1 (tZ n (.agg (Ca z)) (.agg (BA s)) h) fun r h' => r = aj7 z s ∧ Grow h h' := by
  unfold tZ U7 VB
  refine Run1.bind (xT ..) ?_
  rintro x h1 ⟨hb, g⟩
  refine Run1.bind (xT ..) ?_
  rintro y h2 ⟨hb2, g2⟩
  simp only [aQ, aY, ba, bc, ca, b7, b9, ce, bH, ci, cb, cd, cy, cB, bG, bu, bX, b8, bK, aU, be, aN, bA, bz, aO, aK, aS, cg, cI, bM, aR, aV, cm, cn, bN, bO, bL, bP, bC, bB, bQ, List.getElem?_cons_zero, List.getElem?_cons_succ, Nat.zero_add, Nat.reduceAdd, Nat.add_zero, bU (g2.cl hb), im, ij, io, ii, il, iu, ip, ir, iq, ik, fg, eW, eZ, fy, fk, fe, fd, fu, fq, eR, eS, eV, eT, eU, fb, d9, du, dh, ft, fh, fj, fx, fA, eY, d7, d8, ea, ed, dg]
  refine Run1.bind (ND (by omega) h2 z) ?_
  rintro _ h3 ⟨rfl, g3⟩
  have gg := g.trans (g2.trans g3)
  have hb3 := g3.cl hb2
  refine RunG.ifB (fun e1 => kZ ⟨?_, gg⟩) fun e1 => ?_
  · simp at e1; simp [aj7, e1]
  simp at e1
  refine RunG.mono (asE hb3 (gE n) n 0 false (by omega) (by omega)) ?_
  rintro ⟨r, h'⟩ ⟨q1, q2⟩
  refine ⟨?_, by rw [q1]; exact gg⟩
  rw [q2]
  have hr : (List.range' 0 (4 - 0)).any (fun j => s.image == IntKind.i64.wrap (agM .i64 1 j)) = (decide (s.image = 1) || (decide (s.image = 2) || (decide (s.image = 4) || decide (s.image = 8)))) := by
    show (s.image == 1 || (s.image == 2 || (s.image == 4 || (s.image == 8 || false)))) = _
    rw [Bool.or_false]; rfl
  rw [hr, aj7, if_pos e1, Bool.false_or]
abbrev At1 (h : Heap) (x : Nat) (q : IntKind) (v : Int) : Prop := h.cl x [.int q v]
theorem act {q : IntKind} {v : Int} : ([AV.int q v] : List AV)[0]? = some (.int q v) := rfl
theorem v_f1 {n : Nat} {h : Heap} {x : Nat} {m : Int} (hx : At1 h x .u64 m) (k : Int → Heap → CRes) : gH n (.ptr x 0) h k = k (w64 (113 * m)) h := by
  unfold gH HB IR
  simp only [aQ, aY, ba, bc, ca, b7, b9, ce, bH, ci, cb, cd, cy, cB, bG, bu, bX, b8, bK, aU, be, aN, bA, bz, aO, aK, aS, cg, cI, bM, aR, aV, cm, cn, bN, bO, bL, bP, bC, bB, bQ, List.getElem?_cons_zero, List.getElem?_cons_succ, Nat.zero_add, Nat.reduceAdd, Nat.add_zero, bU hx, act]; rfl
theorem v_f2 {n : Nat} {h : Heap} {x : Nat} {m : Int} (hx : At1 h x .u64 m) (k : Int → Heap → CRes) : gu n (.ptr x 0) h k = k (w64 (64 * m)) h := by
  unfold gu Jd HU
  simp only [aQ, aY, ba, bc, ca, b7, b9, ce, bH, ci, cb, cd, cy, cB, bG, bu, bX, b8, bK, aU, be, aN, bA, bz, aO, aK, aS, cg, cI, bM, aR, aV, cm, cn, bN, bO, bL, bP, bC, bB, bQ, List.getElem?_cons_zero, List.getElem?_cons_succ, Nat.zero_add, Nat.reduceAdd, Nat.add_zero, bU hx, act]; rfl
theorem v_f4 {n : Nat} {h : Heap} {x : Nat} {m : Int} (hx : At1 h x .u64 m) (k : Int → Heap → CRes) : g0 n (.ptr x 0) h k = k (w64 (17 * m)) h := by
  unfold g0 HN Id
  simp only [aQ, aY, ba, bc, ca, b7, b9, ce, bH, ci, cb, cd, cy, cB, bG, bu, bX, b8, bK, aU, be, aN, bA, bz, aO, aK, aS, cg, cI, bM, aR, aV, cm, cn, bN, bO, bL, bP, bC, bB, bQ, List.getElem?_cons_zero, List.getElem?_cons_succ, Nat.zero_add, Nat.reduceAdd, Nat.add_zero, bU hx, act]; rfl
theorem v_f5 {n : Nat} {h : Heap} {x y : Nat} {a m : Int} (hx : At1 h x .u64 a) (hy : At1 h y .u64 m) (k : Int → Heap → CRes) : hO n (.ptr x 0) (.ptr y 0) h k = k (w64 (a + m)) h := by
  unfold hO Jh Hv
  simp only [aQ, aY, ba, bc, ca, b7, b9, ce, bH, ci, cb, cd, cy, cB, bG, bu, bX, b8, bK, aU, be, aN, bA, bz, aO, aK, aS, cg, cI, bM, aR, aV, cm, cn, bN, bO, bL, bP, bC, bB, bQ, List.getElem?_cons_zero, List.getElem?_cons_succ, Nat.zero_add, Nat.reduceAdd, Nat.add_zero, bU hx, bU hy, act]; rfl
theorem v_f6 {n : Nat} {h : Heap} {x y w : Nat} {s : ShapeZ} {a m : Int} (hx : At1 h x .u64 m) (hy : h.cl y (BA s)) (hw : At1 h w .u64 a) (k : Int → Heap → CRes) :
    gW n (.ptr x 0) (.ptr y 0) (.ptr w 0) h k = k (w64 (w64 (m + w64 (w64 (16 * w64 s.nodes) * m)) + a)) h := by
  unfold gW Hr IC
  simp only [aQ, aY, ba, bc, ca, b7, b9, ce, bH, ci, cb, cd, cy, cB, bG, bu, bX, b8, bK, aU, be, aN, bA, bz, aO, aK, aS, cg, cI, bM, aR, aV, cm, cn, bN, bO, bL, bP, bC, bB, bQ, List.getElem?_cons_zero, List.getElem?_cons_succ, Nat.zero_add, Nat.reduceAdd, Nat.add_zero, bU hx, bU hy, bU hw, act, im, ij, io, ii, il, iu, ip, ir, iq, ik, fg, eW, eZ, fy, fk, fe, fd, fu, fq, eR, eS, eV, eT, eU, fb, d9, du, dh, ft, fh, fj, fx, fA, eY, d7, d8, ea, ed, dg]; rfl
theorem v_f7 {n : Nat} {h : Heap} {x y : Nat} {z : CfgZ} {m : Int} (hx : h.cl x (Ca z)) (hy : At1 h y .u64 m) (k : Int → Heap → CRes) : gX n (.ptr x 0) (.ptr y 0) h k = k (w64 (w64 (64 * w64 (z.step + m)) + m)) h := by
  unfold gX IM Jl
  simp only [aQ, aY, ba, bc, ca, b7, b9, ce, bH, ci, cb, cd, cy, cB, bG, bu, bX, b8, bK, aU, be, aN, bA, bz, aO, aK, aS, cg, cI, bM, aR, aV, cm, cn, bN, bO, bL, bP, bC, bB, bQ, List.getElem?_cons_zero, List.getElem?_cons_succ, Nat.zero_add, Nat.reduceAdd, Nat.add_zero, bU hx, bU hy, act, im, ij, io, ii, il, iu, ip, ir, iq, ik, fg, eW, eZ, fy, fk, fe, fd, fu, fq, eR, eS, eV, eT, eU, fb, d9, du, dh, ft, fh, fj, fx, fA, eY, d7, d8, ea, ed, dg]; rfl
theorem v_f9 {n : Nat} {h : Heap} {x y w : Nat} {z : CfgZ} {m f : Int} (hx : At1 h x .u64 m) (hy : h.cl y (Ca z)) (hw : At1 h w .u64 f) (k : Int → Heap → CRes) :
    gY n (.ptr x 0) (.ptr y 0) (.ptr w 0) h k = k (w64 (w64 (w64 (w64 (26 * m) + z.fault) + f) + z.disk)) h := by
  unfold gY I9 Jk
  simp only [aQ, aY, ba, bc, ca, b7, b9, ce, bH, ci, cb, cd, cy, cB, bG, bu, bX, b8, bK, aU, be, aN, bA, bz, aO, aK, aS, cg, cI, bM, aR, aV, cm, cn, bN, bO, bL, bP, bC, bB, bQ, List.getElem?_cons_zero, List.getElem?_cons_succ, Nat.zero_add, Nat.reduceAdd, Nat.add_zero, bU hx, bU hy, bU hw, act, im, ij, io, ii, il, iu, ip, ir, iq, ik, fg, eW, eZ, fy, fk, fe, fd, fu, fq, eR, eS, eV, eT, eU, fb, d9, du, dh, ft, fh, fj, fx, fA, eY, d7, d8, ea, ed, dg]; rfl
theorem v_f10 {n : Nat} {h : Heap} {x y w : Nat} {z : CfgZ} {m f : Int} (hx : At1 h x .u64 m) (hy : h.cl y (Ca z)) (hw : At1 h w .u64 f) (k : Int → Heap → CRes) :
    gI n (.ptr x 0) (.ptr y 0) (.ptr w 0) h k = k (w64 (w64 (w64 (w64 (64 * m) + w64 (2 * z.fault)) + w64 (2 * f)) + z.disk)) h := by
  unfold gI Ff FF
  simp only [aQ, aY, ba, bc, ca, b7, b9, ce, bH, ci, cb, cd, cy, cB, bG, bu, bX, b8, bK, aU, be, aN, bA, bz, aO, aK, aS, cg, cI, bM, aR, aV, cm, cn, bN, bO, bL, bP, bC, bB, bQ, List.getElem?_cons_zero, List.getElem?_cons_succ, Nat.zero_add, Nat.reduceAdd, Nat.add_zero, bU hx, bU hy, bU hw, act, im, ij, io, ii, il, iu, ip, ir, iq, ik, fg, eW, eZ, fy, fk, fe, fd, fu, fq, eR, eS, eV, eT, eU, fb, d9, du, dh, ft, fh, fj, fx, fA, eY, d7, d8, ea, ed, dg]; rfl
theorem max2 (q : IntKind) (a b : Int) (k : AV → CRes) : Qd true [.int q a, .int q b] k = k (.int q (maxZ a b)) := by
  show oC (some (.int q (if ltF a b then b else a))) k = _
  rw [cy]; simp [maxZ]
theorem min2 (q : IntKind) (a b : Int) (k : AV → CRes) : Qd false [.int q a, .int q b] k = k (.int q (minZ a b)) := by
  show oC (some (.int q (if ltF b a then b else a))) k = _
  rw [cy]; simp [minZ]
theorem v_f8 {n : Nat} {h : Heap} {x y p u : Nat} {m a : Int} (hx : h.cl x [.func fZ [] [.ptr p 0]]) (hy : h.cl y [.func f0 [] [.ptr u 0]]) (hp : At1 h p .u64 m) (hu : At1 h u .u64 a) (k : Int → Heap → CRes) :
    m7 n (.ptr x 0) (.ptr y 0) h k = k (maxZ (w64 (113 * m)) (w64 (64 * a))) h := by
  unfold m7 HD H0
  have c1 : ∀ h k, qh (gH n) (gu n) (jA n) (g0 n) (hO n) (gW n) (gX n) (gY n) (gI n) (.func fZ [] [.ptr p 0]) [] h k =
      gH n (.ptr p 0) h fun u h => k (.int .u64 u) h := fun _ _ => rfl
  have c2 : ∀ h k, qh (gH n) (gu n) (jA n) (g0 n) (hO n) (gW n) (gX n) (gY n) (gI n) (.func f0 [] [.ptr u 0]) [] h k =
      gu n (.ptr u 0) h fun u h => k (.int .u64 u) h := fun _ _ => rfl
  have e1 : ([AV.func fZ [] [.ptr p 0]] : List AV)[0]? = some (.func fZ [] [.ptr p 0]) := rfl
  have e2 : ([AV.func f0 [] [.ptr u 0]] : List AV)[0]? = some (.func f0 [] [.ptr u 0]) := rfl
  have b0 : (h.shut true).back h.ro = h := by cases h; rfl
  simp only [aQ, aY, ba, bc, ca, b7, b9, ce, bH, ci, cb, cd, cy, cB, bG, bu, bX, b8, bK, aU, be, aN, bA, bz, aO, aK, aS, cg, cI, bM, aR, aV, cm, cn, bN, bO, bL, bP, bC, bB, bQ, List.getElem?_cons_zero, List.getElem?_cons_succ, Nat.zero_add, Nat.reduceAdd, Nat.add_zero, bU hx, e1, c1, v_f1 hp.shut, b0, bU hy, e2, c2, v_f2 hu, max2]
end Go.Proofs.YtnlbfbiogfilfaaGreat.Sh
/- The worst costs, by the code. -/
namespace Go.Proofs.YtnlbfbiogfilfaaGreat.Sh
open Go.Ai
def JC (pc ps pm pp pa pf pv pw : Nat) : List AV := [.func jC [] [], .func kL [] [.ptr pm 0], .func kF [] [.ptr pa 0, .ptr pm 0], .func kO [] [.ptr pm 0, .ptr ps 0, .ptr pa 0],
  .func fZ [] [.ptr pm 0], .func f0 [] [.ptr pp 0], .func kK [] [.ptr pc 0, .ptr pm 0], .func rM [] [.ptr pv 0, .ptr pw 0], .func kR [] [.ptr pm 0, .ptr pc 0, .ptr pf 0],
  .func jH [] [.ptr pm 0, .ptr pc 0, .ptr pf 0], .func jC [] []]
structure BoundsAt (h : Heap) (z : CfgZ) (s : ShapeZ) (pc ps pm pp pa pf pv pw : Nat) : Prop where
  fc : h.cl pc (Ca z)
  fs : h.cl ps (BA s)
  fm : At1 h pm .u64 z.miss
  fp : At1 h pp .u64 (pageC z)
  fa : At1 h pa .u64 (allC z s)
  ff : At1 h pf .u64 (aq0 z s)
  fv : h.cl pv [.func fZ [] [.ptr pm 0]]
  fw : h.cl pw [.func f0 [] [.ptr pp 0]]
theorem BoundsAt.grow {h h' : Heap} {z : CfgZ} {s : ShapeZ} {pc ps pm pp pa pf pv pw : Nat} (b : BoundsAt h z s pc ps pm pp pa pf pv pw) (g : Grow h h') : BoundsAt h' z s pc ps pm pp pa pf pv pw :=
  ⟨g.cl b.fc, g.cl b.fs, g.cl b.fm, g.cl b.fp, g.cl b.fa, g.cl b.ff, g.cl b.fv, g.cl b.fw⟩
theorem fn_0 {f : Nat} {c : List AV} : ([AV.func f [] c] : List AV)[0]? = some (.func f [] c) := rfl
theorem v_bounds {n : Nat} {h : Heap} (hro : h.ro ≤ h.nx) (z : CfgZ) (s : ShapeZ) : Run1 (rp n (.agg (Ca z)) (.agg (BA s)) h) fun r h' => ∃ pc ps pm pp pa pf pv pw, r = .agg (JC pc ps pm pp pa pf pv pw) ∧ BoundsAt h' z s pc ps pm pp pa pf pv pw ∧ Grow h h' := by
  unfold rp QK QZ
  refine Run1.bind (xT ..) ?_
  rintro pc h1 ⟨c1, g1⟩
  refine Run1.bind (xT ..) ?_
  rintro ps h2 ⟨s2, g2⟩
  have c2 := g2.cl c1
  have t2 := g1.trans g2
  refine Run1.bind (ah2 (t2.le hro) _ 0) ?_
  rintro q h3 ⟨hq, oq3, g3⟩
  have c3 := g3.cl c2
  have s3 := g3.cl s2
  have t3 := t2.trans g3
  simp only [aQ, aY, ba, bc, ca, b7, b9, ce, bH, ci, cb, cd, cy, cB, bG, bu, bX, b8, bK, aU, be, aN, bA, bz, aO, aK, aS, cg, cI, bM, aR, aV, cm, cn, bN, bO, bL, bP, bC, bB, bQ, List.getElem?_cons_zero, List.getElem?_cons_succ, Nat.zero_add, Nat.reduceAdd, Nat.add_zero, bU c3, im, ij, io, ii, il, iu, ip, ir, iq, ik, fg, eW, eZ, fy, fk, fe, fd, fu, fq, eR, eS, eV, eT, eU, fb, d9, du, dh, ft, fh, fj, fx, fA, eY, d7, d8, ea, ed, dg]
  refine Run1.bind (anq (t3.le hro) rfl) ?_
  rintro pm h4 ⟨n4, o4, g4⟩
  have m4 := o4.cl
  have c4 := g4.cl c3
  have s4 := g4.cl s3
  have t4 := t3.trans g4
  simp only [aQ, aY, ba, bc, ca, b7, b9, ce, bH, ci, cb, cd, cy, cB, bG, bu, bX, b8, bK, aU, be, aN, bA, bz, aO, aK, aS, cg, cI, bM, aR, aV, cm, cn, bN, bO, bL, bP, bC, bB, bQ, List.getElem?_cons_zero, List.getElem?_cons_succ, Nat.zero_add, Nat.reduceAdd, Nat.add_zero, bU c4, bU m4, act, im, ij, io, ii, il, iu, ip, ir, iq, ik, fg, eW, eZ, fy, fk, fe, fd, fu, fq, eR, eS, eV, eT, eU, fb, d9, du, dh, ft, fh, fj, fx, fA, eY, d7, d8, ea, ed, dg]
  refine Run1.bind (anq (t4.le hro) rfl) ?_
  rintro pp h5 ⟨n5, o5, g5⟩
  have p5 := o5.cl
  have m5 := g5.cl m4
  have c5 := g5.cl c4
  have s5 := g5.cl s4
  have t5 := t4.trans g5
  simp only [aQ, aY, ba, bc, ca, b7, b9, ce, bH, ci, cb, cd, cy, cB, bG, bu, bX, b8, bK, aU, be, aN, bA, bz, aO, aK, aS, cg, cI, bM, aR, aV, cm, cn, bN, bO, bL, bP, bC, bB, bQ, List.getElem?_cons_zero, List.getElem?_cons_succ, Nat.zero_add, Nat.reduceAdd, Nat.add_zero, bU s5, bU p5, act, im, ij, io, ii, il, iu, ip, ir, iq, ik, fg, eW, eZ, fy, fk, fe, fd, fu, fq, eR, eS, eV, eT, eU, fb, d9, du, dh, ft, fh, fj, fx, fA, eY, d7, d8, ea, ed, dg]
  refine Run1.bind (anq (t5.le hro) rfl) ?_
  rintro pa h6 ⟨n6, o6, g6⟩
  have a6 := o6.cl
  have p6 := g6.cl p5
  have m6 := g6.cl m5
  have c6 := g6.cl c5
  have s6 := g6.cl s5
  have t6 := t5.trans g6
  simp only [aQ, aY, ba, bc, ca, b7, b9, ce, bH, ci, cb, cd, cy, cB, bG, bu, bX, b8, bK, aU, be, aN, bA, bz, aO, aK, aS, cg, cI, bM, aR, aV, cm, cn, bN, bO, bL, bP, bC, bB, bQ, List.getElem?_cons_zero, List.getElem?_cons_succ, Nat.zero_add, Nat.reduceAdd, Nat.add_zero, bU s6, bU c6, im, ij, io, ii, il, iu, ip, ir, iq, ik, fg, eW, eZ, fy, fk, fe, fd, fu, fq, eR, eS, eV, eT, eU, fb, d9, du, dh, ft, fh, fj, fx, fA, eY, d7, d8, ea, ed, dg]
  refine Run1.bind (anq (t6.le hro) rfl) ?_
  rintro pf h7 ⟨n7, o7, g7⟩
  have t7 := t6.trans g7
  refine Run1.bind (anq (t7.le hro) rfl) ?_
  rintro pv h8 ⟨n8, o8, g8⟩
  have t8 := t7.trans g8
  refine Run1.bind (anq (t8.le hro) rfl) ?_
  rintro pw h9 ⟨n9, o9, g9⟩
  have t9 := t8.trans g9
  have v9 := g9.cl o8.cl
  simp only [aQ, aY, ba, bc, ca, b7, b9, ce, bH, ci, cb, cd, cy, cB, bG, bu, bX, b8, bK, aU, be, aN, bA, bz, aO, aK, aS, cg, cI, bM, aR, aV, cm, cn, bN, bO, bL, bP, bC, bB, bQ, List.getElem?_cons_zero, List.getElem?_cons_succ, Nat.zero_add, Nat.reduceAdd, Nat.add_zero, bU v9, bU o9.cl, fn_0]
  have g79 := g8.trans g9
  have g69 := g7.trans g79
  have g39 := g4.trans (g5.trans (g6.trans g69))
  refine Run0.bind (Va (cs := JC pc ps pm pp pa pf pv pw) (oq3.grow g39) rfl (by show 0 + 11 ≤ 11; decide)) ?_
  intro h10 hp
  rw [Uf _ _ (by rfl)] at hp
  have gq := hp.grow t9 (Nat.le_trans t2.nx hq)
  simp only [aQ, aY, ba, bc, ca, b7, b9, ce, bH, ci, cb, cd, cy, cB, bG, bu, bX, b8, bK, aU, be, aN, bA, bz, aO, aK, aS, cg, cI, bM, aR, aV, cm, cn, bN, bO, bL, bP, bC, bB, bQ, List.getElem?_cons_zero, List.getElem?_cons_succ, Nat.zero_add, Nat.reduceAdd, Nat.add_zero, bU hp.own.cl]
  have : sub (JC pc ps pm pp pa pf pv pw) 0 11 = some (JC pc ps pm pp pa pf pv pw) := by rw [pM]; rfl
  simp only [aQ, aY, ba, bc, ca, b7, b9, ce, bH, ci, cb, cd, cy, cB, bG, bu, bX, b8, bK, aU, be, aN, bA, bz, aO, aK, aS, cg, cI, bM, aR, aV, cm, cn, bN, bO, bL, bP, bC, bB, bQ, List.getElem?_cons_zero, List.getElem?_cons_succ, Nat.zero_add, Nat.reduceAdd, Nat.add_zero, this]
  refine kZ ⟨pc, ps, pm, pp, pa, pf, pv, pw, rfl, ?_, gq⟩
  have q3 := oq3.lt
  have k1 := g4.nx
  have k2 := g5.nx
  have k3 := g6.nx
  have k4 := g7.nx
  have k5 := g8.nx
  have k6 := c2.1
  have k7 := s2.1
  exact ⟨hp.cl (by omega) (g69.cl c6), hp.cl (by omega) (g69.cl s6), hp.cl (by omega) (g69.cl m6), hp.cl (by omega) (g69.cl p6), hp.cl (by omega) (g69.cl a6), hp.cl (by omega) (g79.cl o7.cl), hp.cl (by omega) v9, hp.cl (by omega) o9.cl⟩
noncomputable abbrev cfM (n : Nat) : dN := lK (tZ n) (rp n) (gH n) (gu n) (jA n) (g0 n) (hO n) (gW n) (gX n) (m7 n) (gY n) (gI n)
theorem asV {n : Nat} {h : Heap} {z : CfgZ} {s : ShapeZ} {pc ps pm pp pa pf pv pw : Nat} (b : BoundsAt h z s pc ps pm pp pa pf pv pw) {i : Nat} (hi : i < 11) (k : AV → Heap → CRes) :
    cfM n ((JC pc ps pm pp pa pf pv pw).getD i default) [] h k = k (.int .u64 (nz (aeV z s) i)) h := by
  match i, hi with
  | 0, _ => exact rfl
  | 1, _ => exact v_f4 (n := n) b.fm _
  | 2, _ => exact v_f5 (n := n) b.fa b.fm _
  | 3, _ => exact v_f6 (n := n) b.fm b.fs b.fa _
  | 4, _ => exact v_f1 (n := n) b.fm _
  | 5, _ => exact v_f2 (n := n) b.fp _
  | 6, _ => exact v_f7 (n := n) b.fc b.fm _
  | 7, _ => exact v_f8 (n := n) b.fv b.fw b.fm b.fp _
  | 8, _ => exact v_f9 (n := n) b.fm b.fc b.ff _
  | 9, _ => exact v_f10 (n := n) b.fm b.fc b.ff _
  | 10, _ => exact rfl
theorem v_Most_1 {n : Nat} {h : Heap} {z : CfgZ} {s : ShapeZ} {pc ps pm pp pa pf pv pw x y : Nat} (b : BoundsAt h z s pc ps pm pp pa pf pv pw) (hx : h.cl x (Ca z)) (hy : h.cl y (BA s)) : ∀ (m i : Nat) (a : Int), i ≤ 11 → 11 - i < m →
    Run2 (fun k => Cr n (tZ n) (rp n) (gH n) (gu n) (jA n) (g0 n) (hO n) (gW n) (gX n) (m7 n) (gY n) (gI n) k m (.ptr x 0) (.ptr y 0) a (.agg (JC pc ps pm pp pa pf pv pw)) i h)
      fun v e h' => h' = h ∧ e = 0 ∧ v = w64 (w64 (w64 s.image * z.miss) + ((aeV z s).drop i).foldl maxZ a) := by
  intro m
  induction m with
  | zero => omega
  | succ m ih =>
    intro i a hi hm
    simp only [amf]
    unfold Jo Jz Q2
    refine RunG.ifB (fun e => ?_) fun e => ?_
    · simp at e
      have e' : i < (aeV z s).length := by show i < 11; omega
      have eF : i < (JC pc ps pm pp pa pf pv pw).length := by show i < 11; omega
      have hd : ((JC pc ps pm pp pa pf pv pw)[i]) = (JC pc ps pm pp pa pf pv pw).getD i default := by rw [List.getD_eq_getElem?_getD, List.getElem?_eq_getElem eF]; rfl
      have key := asV (n := n) b (i := i) (by omega)
      unfold cfM at key
      rw [List.drop_eq_getElem_cons e', List.foldl_cons]
      simp only [aQ, aY, ba, bc, ca, b7, b9, ce, bH, ci, cb, cd, cy, cB, bG, bu, bX, b8, bK, aU, be, aN, bA, bz, aO, aK, aS, cg, cI, bM, aR, aV, cm, cn, bN, bO, bL, bP, bC, bB, bQ, List.getElem?_cons_zero, List.getElem?_cons_succ, Nat.zero_add, Nat.reduceAdd, Nat.add_zero, anN (l := JC pc ps pm pp pa pf pv pw) (n := 11) (i := i) rfl (by omega), hd, key, max2, iT (show i ≤ 9223372036854775806 by omega)]
      have := ih (i + 1) (maxZ a (nz (aeV z s) i)) (by omega) (by omega)
      rw [s9 e'] at this ⊢
      exact this
    · simp at e
      have : i = 11 := by omega
      subst this
      simp only [aQ, aY, ba, bc, ca, b7, b9, ce, bH, ci, cb, cd, cy, cB, bG, bu, bX, b8, bK, aU, be, aN, bA, bz, aO, aK, aS, cg, cI, bM, aR, aV, cm, cn, bN, bO, bL, bP, bC, bB, bQ, List.getElem?_cons_zero, List.getElem?_cons_succ, Nat.zero_add, Nat.reduceAdd, Nat.add_zero, bU hx, bU hy, im, ij, io, ii, il, iu, ip, ir, iq, ik, fg, eW, eZ, fy, fk, fe, fd, fu, fq, eR, eS, eV, eT, eU, fb, d9, du, dh, ft, fh, fj, fx, fA, eY, d7, d8, ea, ed, dg]
      exact QN ⟨rfl, rfl, rfl⟩
theorem v_Most {n : Nat} (hn : 100 < n) {h : Heap} (hro : h.ro ≤ h.nx) (z : CfgZ) (s : ShapeZ) : Run2 (xa n (.agg (Ca z)) (.agg (BA s)) h) fun v e h' => e = aj7 z s ∧ (e = 0 → v = mostC z s) ∧ Grow h h' := by
  unfold xa aaz Z5
  refine Run1.bind (xT ..) ?_
  rintro x h1 ⟨c1, g1⟩
  refine Run1.bind (xT ..) ?_
  rintro y h2 ⟨s2, g2⟩
  have c2 := g2.cl c1
  have t2 := g1.trans g2
  simp only [aQ, aY, ba, bc, ca, b7, b9, ce, bH, ci, cb, cd, cy, cB, bG, bu, bX, b8, bK, aU, be, aN, bA, bz, aO, aK, aS, cg, cI, bM, aR, aV, cm, cn, bN, bO, bL, bP, bC, bB, bQ, List.getElem?_cons_zero, List.getElem?_cons_succ, Nat.zero_add, Nat.reduceAdd, Nat.add_zero, bU c2, bU s2, im, ij, io, ii, il, iu, ip, ir, iq, ik, fg, eW, eZ, fy, fk, fe, fd, fu, fq, eR, eS, eV, eT, eU, fb, d9, du, dh, ft, fh, fj, fx, fA, eY, d7, d8, ea, ed, dg]
  refine Run1.bind (v_asked (by omega) h2 z s) ?_
  rintro _ h3 ⟨rfl, g3⟩
  have t3 := t2.trans g3
  have c3 := g3.cl c2
  have s3 := g3.cl s2
  refine RunG.ifB (fun e1 => QN ⟨rfl, fun h0 => ?_, t3⟩) fun e1 => ?_
  · simp at e1; exact (e1 h0).elim
  simp at e1
  simp only [aQ, aY, ba, bc, ca, b7, b9, ce, bH, ci, cb, cd, cy, cB, bG, bu, bX, b8, bK, aU, be, aN, bA, bz, aO, aK, aS, cg, cI, bM, aR, aV, cm, cn, bN, bO, bL, bP, bC, bB, bQ, List.getElem?_cons_zero, List.getElem?_cons_succ, Nat.zero_add, Nat.reduceAdd, Nat.add_zero, bU c3, bU s3, im, ij, io, ii, il, iu, ip, ir, iq, ik, fg, eW, eZ, fy, fk, fe, fd, fu, fq, eR, eS, eV, eT, eU, fb, d9, du, dh, ft, fh, fj, fx, fA, eY, d7, d8, ea, ed, dg]
  refine Run1.bind (v_bounds (t3.le hro) z s) ?_
  rintro _ h4 ⟨pc, ps, pm, pp, pa, pf, pv, pw, rfl, b, g4⟩
  refine RunG.mono (v_Most_1 b (g4.cl c3) (g4.cl s3) n 0 0 (by omega) (by omega)) ?_
  rintro ⟨v, e, h'⟩ ⟨q1, q2, q3⟩
  refine ⟨by rw [q2, e1], fun _ => ?_, by rw [q1]; exact t3.trans g4⟩
  rw [q3]; rfl
end Go.Proofs.YtnlbfbiogfilfaaGreat.Sh
