/- What things cost, by the code. -/
import Derived.Test.YtnlbfbiogfilfaaUPlanUPlan2
set_option linter.all false
namespace Go.Proofs.Ytnlbfbiogfilfaa.Sh
open Go.Ai
@[simp] theorem XQ (n : Nat) (a b c : Int) (h : Heap) (k : Bool → Heap → CRes) : kl n a b c h k = k (cR a b c) h := by
  unfold kl OT Or Bc Iv
  by_cases hc : a < b
  · simp [cR, hc, show ¬ b ≤ a by omega]
  · simp [cR, hc, show b ≤ a by omega, ← Int.not_lt]
theorem v_Switch {n : Nat} (hn : 4 ≤ n) (h : Heap) (z : CfgZ) (a b : Int) : Run2 (nJ n (.agg (AU z)) a b h) fun v e h' => e = W1 z a b ∧ (e = 0 → v = ao2 z a b) ∧ Grow h h' := by
  unfold nJ OR Ov A7 HE
  refine Run1.bind (yx ..) ?_
  rintro x h1 ⟨hb, g⟩
  simp only [aL, bg, bj, bl, cg, b8, cb, cj, bC, ck, ci, ce, cx, cz, bD, bq, bX, cd, bJ, bb, bo, aN, bu, bt, aP, aJ, be, cm, cF, bM, ba, bc, cq, cp, bL, bO, bN, bP, bw, bz, bK, List.getElem?_cons_zero, List.getElem?_cons_succ, Nat.zero_add, Nat.reduceAdd, Nat.add_zero, bS hb, ji, jv, jr, jg, jl, ju, jo, jk, jx, jf, fF, gd, fV, fZ, fC, fT, fL, f0, fK, fU, fJ, fE, fR, gb, ga, dR, de, cW, fN, fH, fY, gc, fW, fD, dP, dQ, dW, dS, cU]
  refine Run1.bind (JZ hn h1 z) ?_
  rintro _ h2 ⟨rfl, g2⟩
  have gg := g.trans g2
  have hb2 := g2.cl hb
  simp only [aL, bg, bj, bl, cg, b8, cb, cj, bC, ck, ci, ce, cx, cz, bD, bq, bX, cd, bJ, bb, bo, aN, bu, bt, aP, aJ, be, cm, cF, bM, ba, bc, cq, cp, bL, bO, bN, bP, bw, bz, bK, List.getElem?_cons_zero, List.getElem?_cons_succ, Nat.zero_add, Nat.reduceAdd, Nat.add_zero, bS hb2, ji, jv, jr, jg, jl, ju, jo, jk, jx, jf, fF, gd, fV, fZ, fC, fT, fL, f0, fK, fU, fJ, fE, fR, gb, ga, dR, de, cW, fN, fH, fY, gc, fW, fD, dP, dQ, dW, dS, cU, XQ]
  refine RunG.ifB (fun e1 => OJ ⟨?_, ?_, gg⟩) fun e1 => RunG.ifB (fun e2 => OJ ⟨?_, ?_, gg⟩) fun e2 => RunG.ifB (fun e3 => OJ ⟨?_, ?_, gg⟩) fun e3 => OJ ⟨?_, ?_, gg⟩
  · simp at e1; simp [W1, e1]
  · intro h0; simp at e1; exact (e1 h0).elim
  · simp at e1 e2; simp [W1, e1, e2]
  · intro h0; cases h0
  · simp at e1 e2 e3; simp [W1, e1, e2, e3]
  · intro h0; cases h0
  · simp at e1 e2 e3; simp [W1, e1, e2, e3]
  · intro _; rfl
theorem aqc {n : Nat} {x : Nat} {h : Heap} {s : ShapeZ} (hb : h.cl x (AD s)) (i : Bool) (f1) : Run1 (fun k => uI n f1 (kl n) k (.ptr x 0) i h) fun r h' => h' = h ∧ r = if i && (cR s.user 2 4096 && (cR s.limit 1 5120 && cR s.nodes 1 4096)) then 0 else 2 := by
  unfold uI Lq Cq LB DA Mj Dh Lt
  simp only [aL, bg, bj, bl, cg, b8, cb, cj, bC, ck, ci, ce, cx, cz, bD, bq, bX, cd, bJ, bb, bo, aN, bu, bt, aP, aJ, be, cm, cF, bM, ba, bc, cq, cp, bL, bO, bN, bP, bw, bz, bK, List.getElem?_cons_zero, List.getElem?_cons_succ, Nat.zero_add, Nat.reduceAdd, Nat.add_zero, bS hb, ji, jv, jr, jg, jl, ju, jo, jk, jx, jf, fF, gd, fV, fZ, fC, fT, fL, f0, fK, fU, fJ, fE, fR, gb, ga, dR, de, cW, fN, fH, fY, gc, fW, fD, dP, dQ, dW, dS, cU, XQ]
  cases i <;> cases h1 : cR s.user 2 4096 <;> cases h2 : cR s.limit 1 5120 <;> cases h3 : cR s.nodes 1 4096 <;> exact lD ⟨rfl, by simp⟩
theorem apr {n : Nat} {y : Nat} {h : Heap} {s : ShapeZ} (hb : h.cl y (AD s)) (f1) : ∀ (m i : Nat) (b : Bool), i ≤ 4 → 4 - i < m → Run1 (fun k => pS n f1 (kl n) k m (.ptr y 0) b i h) fun r h' => h' = h ∧
    r = if (b || (List.range' i (4 - i)).any fun j => s.image == IntKind.i64.wrap (acm .i64 1 j)) && (cR s.user 2 4096 && (cR s.limit 1 5120 && cR s.nodes 1 4096)) then 0 else 2 := by
  intro m
  induction m with
  | zero => omega
  | succ m ih =>
    intro i b hi hm
    simp only [agn]
    unfold DN yR LL
    refine RunG.ifB (fun e => ?_) fun e => ?_
    · simp at e
      simp only [aL, bg, bj, bl, cg, b8, cb, cj, bC, ck, ci, ce, cx, cz, bD, bq, bX, cd, bJ, bb, bo, aN, bu, bt, aP, aJ, be, cm, cF, bM, ba, bc, cq, cp, bL, bO, bN, bP, bw, bz, bK, List.getElem?_cons_zero, List.getElem?_cons_succ, Nat.zero_add, Nat.reduceAdd, Nat.add_zero, bS hb, ji, jv, jr, jg, jl, ju, jo, jk, jx, jf, fF, gd, fV, fZ, fC, fT, fL, f0, fK, fU, fJ, fE, fR, gb, ga, dR, de, cW, fN, fH, fY, gc, fW, fD, dP, dQ, dW, dS, cU, jd (show i ≤ 9223372036854775806 by omega), RD (Int.natCast_nonneg i), Int.toNat_natCast]
      have hr : List.range' i (4 - i) = i :: List.range' (i + 1) (4 - (i + 1)) := by
        rw [show 4 - i = (4 - (i + 1)) + 1 by omega, List.range'_succ]
      rw [hr, List.any_cons]
      refine RunG.ifB (fun e1 => ?_) fun e1 => ?_
      · subst e1
        refine RunG.mono (ih (i + 1) true (by omega) (by omega)) ?_
        rintro ⟨r, h'⟩ ⟨q1, q2⟩
        exact ⟨q1, by rw [q2]; simp⟩
      · subst e1
        refine RunG.mono (ih (i + 1) _ (by omega) (by omega)) ?_
        rintro ⟨r, h'⟩ ⟨q1, q2⟩
        exact ⟨q1, by rw [Bool.false_or]; exact q2⟩
    · simp at e
      have : i = 4 := by omega
      subst this
      refine RunG.mono (aqc hb b f1) ?_
      rintro ⟨r, h'⟩ ⟨q1, q2⟩
      exact ⟨q1, by rw [q2]; simp⟩
theorem v_asked {n : Nat} (hn : 10 ≤ n) (h : Heap) (z : CfgZ) (s : ShapeZ) : Run1 (pE n (.agg (AU z)) (.agg (AD s)) h) fun r h' => r = ahN z s ∧ Grow h h' := by
  unfold pE RM RF
  refine Run1.bind (yx ..) ?_
  rintro x h1 ⟨hb, g⟩
  refine Run1.bind (yx ..) ?_
  rintro y h2 ⟨hb2, g2⟩
  simp only [aL, bg, bj, bl, cg, b8, cb, cj, bC, ck, ci, ce, cx, cz, bD, bq, bX, cd, bJ, bb, bo, aN, bu, bt, aP, aJ, be, cm, cF, bM, ba, bc, cq, cp, bL, bO, bN, bP, bw, bz, bK, List.getElem?_cons_zero, List.getElem?_cons_succ, Nat.zero_add, Nat.reduceAdd, Nat.add_zero, bS (g2.cl hb), ji, jv, jr, jg, jl, ju, jo, jk, jx, jf, fF, gd, fV, fZ, fC, fT, fL, f0, fK, fU, fJ, fE, fR, gb, ga, dR, de, cW, fN, fH, fY, gc, fW, fD, dP, dQ, dW, dS, cU]
  refine Run1.bind (JZ (by omega) h2 z) ?_
  rintro _ h3 ⟨rfl, g3⟩
  have gg := g.trans (g2.trans g3)
  have hb3 := g3.cl hb2
  refine RunG.ifB (fun e1 => lD ⟨?_, gg⟩) fun e1 => ?_
  · simp at e1; simp [ahN, e1]
  simp at e1
  refine RunG.mono (apr hb3 (eO n) n 0 false (by omega) (by omega)) ?_
  rintro ⟨r, h'⟩ ⟨q1, q2⟩
  refine ⟨?_, by rw [q1]; exact gg⟩
  rw [q2]
  have hr : (List.range' 0 (4 - 0)).any (fun j => s.image == IntKind.i64.wrap (acm .i64 1 j)) = (decide (s.image = 1) || (decide (s.image = 2) || (decide (s.image = 4) || decide (s.image = 8)))) := by
    show (s.image == 1 || (s.image == 2 || (s.image == 4 || (s.image == 8 || false)))) = _
    rw [Bool.or_false]; rfl
  rw [hr, ahN, if_pos e1, Bool.false_or]
abbrev At1 (h : Heap) (x : Nat) (q : IntKind) (v : Int) : Prop := h.cl x [.int q v]
theorem YA {q : IntKind} {v : Int} : ([AV.int q v] : List AV)[0]? = some (.int q v) := rfl
theorem v_f1 {n : Nat} {h : Heap} {x : Nat} {m : Int} (hx : At1 h x .u64 m) (k : Int → Heap → CRes) : eY n (.ptr x 0) h k = k (w64 (113 * m)) h := by
  unfold eY Fv Fp
  simp only [aL, bg, bj, bl, cg, b8, cb, cj, bC, ck, ci, ce, cx, cz, bD, bq, bX, cd, bJ, bb, bo, aN, bu, bt, aP, aJ, be, cm, cF, bM, ba, bc, cq, cp, bL, bO, bN, bP, bw, bz, bK, List.getElem?_cons_zero, List.getElem?_cons_succ, Nat.zero_add, Nat.reduceAdd, Nat.add_zero, bS hx, YA]; rfl
theorem v_f2 {n : Nat} {h : Heap} {x : Nat} {m : Int} (hx : At1 h x .u64 m) (k : Int → Heap → CRes) : eZ n (.ptr x 0) h k = k (w64 (64 * m)) h := by
  unfold eZ FM Fy
  simp only [aL, bg, bj, bl, cg, b8, cb, cj, bC, ck, ci, ce, cx, cz, bD, bq, bX, cd, bJ, bb, bo, aN, bu, bt, aP, aJ, be, cm, cF, bM, ba, bc, cq, cp, bL, bO, bN, bP, bw, bz, bK, List.getElem?_cons_zero, List.getElem?_cons_succ, Nat.zero_add, Nat.reduceAdd, Nat.add_zero, bS hx, YA]; rfl
theorem v_f4 {n : Nat} {h : Heap} {x : Nat} {m : Int} (hx : At1 h x .u64 m) (k : Int → Heap → CRes) : ge n (.ptr x 0) h k = k (w64 (17 * m)) h := by
  unfold ge Fh E4
  simp only [aL, bg, bj, bl, cg, b8, cb, cj, bC, ck, ci, ce, cx, cz, bD, bq, bX, cd, bJ, bb, bo, aN, bu, bt, aP, aJ, be, cm, cF, bM, ba, bc, cq, cp, bL, bO, bN, bP, bw, bz, bK, List.getElem?_cons_zero, List.getElem?_cons_succ, Nat.zero_add, Nat.reduceAdd, Nat.add_zero, bS hx, YA]; rfl
theorem v_f5 {n : Nat} {h : Heap} {x y : Nat} {a m : Int} (hx : At1 h x .u64 a) (hy : At1 h y .u64 m) (k : Int → Heap → CRes) : gn n (.ptr x 0) (.ptr y 0) h k = k (w64 (a + m)) h := by
  unfold gn FJ F1
  simp only [aL, bg, bj, bl, cg, b8, cb, cj, bC, ck, ci, ce, cx, cz, bD, bq, bX, cd, bJ, bb, bo, aN, bu, bt, aP, aJ, be, cm, cF, bM, ba, bc, cq, cp, bL, bO, bN, bP, bw, bz, bK, List.getElem?_cons_zero, List.getElem?_cons_succ, Nat.zero_add, Nat.reduceAdd, Nat.add_zero, bS hx, bS hy, YA]; rfl
theorem v_f6 {n : Nat} {h : Heap} {x y w : Nat} {s : ShapeZ} {a m : Int} (hx : At1 h x .u64 m) (hy : h.cl y (AD s)) (hw : At1 h w .u64 a) (k : Int → Heap → CRes) :
    gl n (.ptr x 0) (.ptr y 0) (.ptr w 0) h k = k (w64 (w64 (m + w64 (w64 (16 * w64 s.nodes) * m)) + a)) h := by
  unfold gl Fb F6
  simp only [aL, bg, bj, bl, cg, b8, cb, cj, bC, ck, ci, ce, cx, cz, bD, bq, bX, cd, bJ, bb, bo, aN, bu, bt, aP, aJ, be, cm, cF, bM, ba, bc, cq, cp, bL, bO, bN, bP, bw, bz, bK, List.getElem?_cons_zero, List.getElem?_cons_succ, Nat.zero_add, Nat.reduceAdd, Nat.add_zero, bS hx, bS hy, bS hw, YA, ji, jv, jr, jg, jl, ju, jo, jk, jx, jf, fF, gd, fV, fZ, fC, fT, fL, f0, fK, fU, fJ, fE, fR, gb, ga, dR, de, cW, fN, fH, fY, gc, fW, fD, dP, dQ, dW, dS, cU]; rfl
theorem v_f7 {n : Nat} {h : Heap} {x y : Nat} {z : CfgZ} {m : Int} (hx : h.cl x (AU z)) (hy : At1 h y .u64 m) (k : Int → Heap → CRes) : gm n (.ptr x 0) (.ptr y 0) h k = k (w64 (w64 (64 * w64 (z.step + m)) + m)) h := by
  unfold gm FT Fu
  simp only [aL, bg, bj, bl, cg, b8, cb, cj, bC, ck, ci, ce, cx, cz, bD, bq, bX, cd, bJ, bb, bo, aN, bu, bt, aP, aJ, be, cm, cF, bM, ba, bc, cq, cp, bL, bO, bN, bP, bw, bz, bK, List.getElem?_cons_zero, List.getElem?_cons_succ, Nat.zero_add, Nat.reduceAdd, Nat.add_zero, bS hx, bS hy, YA, ji, jv, jr, jg, jl, ju, jo, jk, jx, jf, fF, gd, fV, fZ, fC, fT, fL, f0, fK, fU, fJ, fE, fR, gb, ga, dR, de, cW, fN, fH, fY, gc, fW, fD, dP, dQ, dW, dS, cU]; rfl
theorem v_f9 {n : Nat} {h : Heap} {x y w : Nat} {z : CfgZ} {m f : Int} (hx : At1 h x .u64 m) (hy : h.cl y (AU z)) (hw : At1 h w .u64 f) (k : Int → Heap → CRes) :
    gi n (.ptr x 0) (.ptr y 0) (.ptr w 0) h k = k (w64 (w64 (w64 (w64 (26 * m) + z.fault) + f) + z.disk)) h := by
  unfold gi F0 FD
  simp only [aL, bg, bj, bl, cg, b8, cb, cj, bC, ck, ci, ce, cx, cz, bD, bq, bX, cd, bJ, bb, bo, aN, bu, bt, aP, aJ, be, cm, cF, bM, ba, bc, cq, cp, bL, bO, bN, bP, bw, bz, bK, List.getElem?_cons_zero, List.getElem?_cons_succ, Nat.zero_add, Nat.reduceAdd, Nat.add_zero, bS hx, bS hy, bS hw, YA, ji, jv, jr, jg, jl, ju, jo, jk, jx, jf, fF, gd, fV, fZ, fC, fT, fL, f0, fK, fU, fJ, fE, fR, gb, ga, dR, de, cW, fN, fH, fY, gc, fW, fD, dP, dQ, dW, dS, cU]; rfl
theorem v_f10 {n : Nat} {h : Heap} {x y w : Nat} {z : CfgZ} {m f : Int} (hx : At1 h x .u64 m) (hy : h.cl y (AU z)) (hw : At1 h w .u64 f) (k : Int → Heap → CRes) :
    eS n (.ptr x 0) (.ptr y 0) (.ptr w 0) h k = k (w64 (w64 (w64 (w64 (64 * m) + w64 (2 * z.fault)) + w64 (2 * f)) + z.disk)) h := by
  unfold eS DS Dm
  simp only [aL, bg, bj, bl, cg, b8, cb, cj, bC, ck, ci, ce, cx, cz, bD, bq, bX, cd, bJ, bb, bo, aN, bu, bt, aP, aJ, be, cm, cF, bM, ba, bc, cq, cp, bL, bO, bN, bP, bw, bz, bK, List.getElem?_cons_zero, List.getElem?_cons_succ, Nat.zero_add, Nat.reduceAdd, Nat.add_zero, bS hx, bS hy, bS hw, YA, ji, jv, jr, jg, jl, ju, jo, jk, jx, jf, fF, gd, fV, fZ, fC, fT, fL, f0, fK, fU, fJ, fE, fR, gb, ga, dR, de, cW, fN, fH, fY, gc, fW, fD, dP, dQ, dW, dS, cU]; rfl
theorem max2 (q : IntKind) (a b : Int) (k : AV → CRes) : NH true [.int q a, .int q b] k = k (.int q (maxZ a b)) := by
  show oC (some (.int q (if ltF a b then b else a))) k = _
  rw [cx]; simp [maxZ]
theorem min2 (q : IntKind) (a b : Int) (k : AV → CRes) : NH false [.int q a, .int q b] k = k (.int q (minZ a b)) := by
  show oC (some (.int q (if ltF b a then b else a))) k = _
  rw [cx]; simp [minZ]
theorem v_f8 {n : Nat} {h : Heap} {x y p u : Nat} {m a : Int} (hx : h.cl x [.func d6 [] [.ptr p 0]]) (hy : h.cl y [.func dZ [] [.ptr u 0]]) (hp : At1 h p .u64 m) (hu : At1 h u .u64 a) (k : Int → Heap → CRes) :
    kS n (.ptr x 0) (.ptr y 0) h k = k (maxZ (w64 (113 * m)) (w64 (64 * a))) h := by
  unfold kS FU FE
  have c1 : ∀ h k, pW (eY n) (eZ n) (g0 n) (ge n) (gn n) (gl n) (gm n) (gi n) (eS n) (.func d6 [] [.ptr p 0]) [] h k =
      eY n (.ptr p 0) h fun u h => k (.int .u64 u) h := fun _ _ => rfl
  have c2 : ∀ h k, pW (eY n) (eZ n) (g0 n) (ge n) (gn n) (gl n) (gm n) (gi n) (eS n) (.func dZ [] [.ptr u 0]) [] h k =
      eZ n (.ptr u 0) h fun u h => k (.int .u64 u) h := fun _ _ => rfl
  have e1 : ([AV.func d6 [] [.ptr p 0]] : List AV)[0]? = some (.func d6 [] [.ptr p 0]) := rfl
  have e2 : ([AV.func dZ [] [.ptr u 0]] : List AV)[0]? = some (.func dZ [] [.ptr u 0]) := rfl
  have b0 : (h.shut true).back h.ro = h := by cases h; rfl
  simp only [aL, bg, bj, bl, cg, b8, cb, cj, bC, ck, ci, ce, cx, cz, bD, bq, bX, cd, bJ, bb, bo, aN, bu, bt, aP, aJ, be, cm, cF, bM, ba, bc, cq, cp, bL, bO, bN, bP, bw, bz, bK, List.getElem?_cons_zero, List.getElem?_cons_succ, Nat.zero_add, Nat.reduceAdd, Nat.add_zero, bS hx, e1, c1, v_f1 hp.shut, b0, bS hy, e2, c2, v_f2 hu, max2]
end Go.Proofs.Ytnlbfbiogfilfaa.Sh
/- The worst costs, by the code. -/
namespace Go.Proofs.Ytnlbfbiogfilfaa.Sh
open Go.Ai
def Gh (pc ps pm pp pa pf pv pw : Nat) : List AV := [.func gf [] [], .func gG [] [.ptr pm 0], .func gK [] [.ptr pa 0, .ptr pm 0], .func gI [] [.ptr pm 0, .ptr ps 0, .ptr pa 0],
  .func d6 [] [.ptr pm 0], .func dZ [] [.ptr pp 0], .func gE [] [.ptr pc 0, .ptr pm 0], .func kP [] [.ptr pv 0, .ptr pw 0], .func gJ [] [.ptr pm 0, .ptr pc 0, .ptr pf 0],
  .func fB [] [.ptr pm 0, .ptr pc 0, .ptr pf 0], .func gf [] []]
structure BoundsAt (h : Heap) (z : CfgZ) (s : ShapeZ) (pc ps pm pp pa pf pv pw : Nat) : Prop where
  fc : h.cl pc (AU z)
  fs : h.cl ps (AD s)
  fm : At1 h pm .u64 z.miss
  fp : At1 h pp .u64 (pageC z)
  fa : At1 h pa .u64 (allC z s)
  ff : At1 h pf .u64 (aom z s)
  fv : h.cl pv [.func d6 [] [.ptr pm 0]]
  fw : h.cl pw [.func dZ [] [.ptr pp 0]]
theorem BoundsAt.grow {h h' : Heap} {z : CfgZ} {s : ShapeZ} {pc ps pm pp pa pf pv pw : Nat} (b : BoundsAt h z s pc ps pm pp pa pf pv pw) (g : Grow h h') : BoundsAt h' z s pc ps pm pp pa pf pv pw :=
  ⟨g.cl b.fc, g.cl b.fs, g.cl b.fm, g.cl b.fp, g.cl b.fa, g.cl b.ff, g.cl b.fv, g.cl b.fw⟩
theorem fn_0 {f : Nat} {c : List AV} : ([AV.func f [] c] : List AV)[0]? = some (.func f [] c) := rfl
theorem v_bounds {n : Nat} {h : Heap} (hro : h.ro ≤ h.nx) (z : CfgZ) (s : ShapeZ) : Run1 (nK n (.agg (AU z)) (.agg (AD s)) h) fun r h' => ∃ pc ps pm pp pa pf pv pw, r = .agg (Gh pc ps pm pp pa pf pv pw) ∧ BoundsAt h' z s pc ps pm pp pa pf pv pw ∧ Grow h h' := by
  unfold nK Oq OH
  refine Run1.bind (yx ..) ?_
  rintro pc h1 ⟨c1, g1⟩
  refine Run1.bind (yx ..) ?_
  rintro ps h2 ⟨s2, g2⟩
  have c2 := g2.cl c1
  have t2 := g1.trans g2
  refine Run1.bind (amQ (t2.le hro) _ 0) ?_
  rintro q h3 ⟨hq, oq3, g3⟩
  have c3 := g3.cl c2
  have s3 := g3.cl s2
  have t3 := t2.trans g3
  simp only [aL, bg, bj, bl, cg, b8, cb, cj, bC, ck, ci, ce, cx, cz, bD, bq, bX, cd, bJ, bb, bo, aN, bu, bt, aP, aJ, be, cm, cF, bM, ba, bc, cq, cp, bL, bO, bN, bP, bw, bz, bK, List.getElem?_cons_zero, List.getElem?_cons_succ, Nat.zero_add, Nat.reduceAdd, Nat.add_zero, bS c3, ji, jv, jr, jg, jl, ju, jo, jk, jx, jf, fF, gd, fV, fZ, fC, fT, fL, f0, fK, fU, fJ, fE, fR, gb, ga, dR, de, cW, fN, fH, fY, gc, fW, fD, dP, dQ, dW, dS, cU]
  refine Run1.bind (akj (t3.le hro) rfl) ?_
  rintro pm h4 ⟨n4, o4, g4⟩
  have m4 := o4.cl
  have c4 := g4.cl c3
  have s4 := g4.cl s3
  have t4 := t3.trans g4
  simp only [aL, bg, bj, bl, cg, b8, cb, cj, bC, ck, ci, ce, cx, cz, bD, bq, bX, cd, bJ, bb, bo, aN, bu, bt, aP, aJ, be, cm, cF, bM, ba, bc, cq, cp, bL, bO, bN, bP, bw, bz, bK, List.getElem?_cons_zero, List.getElem?_cons_succ, Nat.zero_add, Nat.reduceAdd, Nat.add_zero, bS c4, bS m4, YA, ji, jv, jr, jg, jl, ju, jo, jk, jx, jf, fF, gd, fV, fZ, fC, fT, fL, f0, fK, fU, fJ, fE, fR, gb, ga, dR, de, cW, fN, fH, fY, gc, fW, fD, dP, dQ, dW, dS, cU]
  refine Run1.bind (akj (t4.le hro) rfl) ?_
  rintro pp h5 ⟨n5, o5, g5⟩
  have p5 := o5.cl
  have m5 := g5.cl m4
  have c5 := g5.cl c4
  have s5 := g5.cl s4
  have t5 := t4.trans g5
  simp only [aL, bg, bj, bl, cg, b8, cb, cj, bC, ck, ci, ce, cx, cz, bD, bq, bX, cd, bJ, bb, bo, aN, bu, bt, aP, aJ, be, cm, cF, bM, ba, bc, cq, cp, bL, bO, bN, bP, bw, bz, bK, List.getElem?_cons_zero, List.getElem?_cons_succ, Nat.zero_add, Nat.reduceAdd, Nat.add_zero, bS s5, bS p5, YA, ji, jv, jr, jg, jl, ju, jo, jk, jx, jf, fF, gd, fV, fZ, fC, fT, fL, f0, fK, fU, fJ, fE, fR, gb, ga, dR, de, cW, fN, fH, fY, gc, fW, fD, dP, dQ, dW, dS, cU]
  refine Run1.bind (akj (t5.le hro) rfl) ?_
  rintro pa h6 ⟨n6, o6, g6⟩
  have a6 := o6.cl
  have p6 := g6.cl p5
  have m6 := g6.cl m5
  have c6 := g6.cl c5
  have s6 := g6.cl s5
  have t6 := t5.trans g6
  simp only [aL, bg, bj, bl, cg, b8, cb, cj, bC, ck, ci, ce, cx, cz, bD, bq, bX, cd, bJ, bb, bo, aN, bu, bt, aP, aJ, be, cm, cF, bM, ba, bc, cq, cp, bL, bO, bN, bP, bw, bz, bK, List.getElem?_cons_zero, List.getElem?_cons_succ, Nat.zero_add, Nat.reduceAdd, Nat.add_zero, bS s6, bS c6, ji, jv, jr, jg, jl, ju, jo, jk, jx, jf, fF, gd, fV, fZ, fC, fT, fL, f0, fK, fU, fJ, fE, fR, gb, ga, dR, de, cW, fN, fH, fY, gc, fW, fD, dP, dQ, dW, dS, cU]
  refine Run1.bind (akj (t6.le hro) rfl) ?_
  rintro pf h7 ⟨n7, o7, g7⟩
  have t7 := t6.trans g7
  refine Run1.bind (akj (t7.le hro) rfl) ?_
  rintro pv h8 ⟨n8, o8, g8⟩
  have t8 := t7.trans g8
  refine Run1.bind (akj (t8.le hro) rfl) ?_
  rintro pw h9 ⟨n9, o9, g9⟩
  have t9 := t8.trans g9
  have v9 := g9.cl o8.cl
  simp only [aL, bg, bj, bl, cg, b8, cb, cj, bC, ck, ci, ce, cx, cz, bD, bq, bX, cd, bJ, bb, bo, aN, bu, bt, aP, aJ, be, cm, cF, bM, ba, bc, cq, cp, bL, bO, bN, bP, bw, bz, bK, List.getElem?_cons_zero, List.getElem?_cons_succ, Nat.zero_add, Nat.reduceAdd, Nat.add_zero, bS v9, bS o9.cl, fn_0]
  have g79 := g8.trans g9
  have g69 := g7.trans g79
  have g39 := g4.trans (g5.trans (g6.trans g69))
  refine Run0.bind (af7 (cs := Gh pc ps pm pp pa pf pv pw) (oq3.grow g39) rfl (by show 0 + 11 ≤ 11; decide)) ?_
  intro h10 hp
  rw [agZ _ _ (by rfl)] at hp
  have gq := hp.grow t9 (Nat.le_trans t2.nx hq)
  simp only [aL, bg, bj, bl, cg, b8, cb, cj, bC, ck, ci, ce, cx, cz, bD, bq, bX, cd, bJ, bb, bo, aN, bu, bt, aP, aJ, be, cm, cF, bM, ba, bc, cq, cp, bL, bO, bN, bP, bw, bz, bK, List.getElem?_cons_zero, List.getElem?_cons_succ, Nat.zero_add, Nat.reduceAdd, Nat.add_zero, bS hp.own.cl]
  have : sub (Gh pc ps pm pp pa pf pv pw) 0 11 = some (Gh pc ps pm pp pa pf pv pw) := by rw [pR]; rfl
  simp only [aL, bg, bj, bl, cg, b8, cb, cj, bC, ck, ci, ce, cx, cz, bD, bq, bX, cd, bJ, bb, bo, aN, bu, bt, aP, aJ, be, cm, cF, bM, ba, bc, cq, cp, bL, bO, bN, bP, bw, bz, bK, List.getElem?_cons_zero, List.getElem?_cons_succ, Nat.zero_add, Nat.reduceAdd, Nat.add_zero, this]
  refine lD ⟨pc, ps, pm, pp, pa, pf, pv, pw, rfl, ?_, gq⟩
  have q3 := oq3.lt
  have k1 := g4.nx
  have k2 := g5.nx
  have k3 := g6.nx
  have k4 := g7.nx
  have k5 := g8.nx
  have k6 := c2.1
  have k7 := s2.1
  exact ⟨hp.cl (by omega) (g69.cl c6), hp.cl (by omega) (g69.cl s6), hp.cl (by omega) (g69.cl m6), hp.cl (by omega) (g69.cl p6), hp.cl (by omega) (g69.cl a6), hp.cl (by omega) (g79.cl o7.cl), hp.cl (by omega) v9, hp.cl (by omega) o9.cl⟩
noncomputable abbrev cfM (n : Nat) : eg := l9 (pE n) (nK n) (eY n) (eZ n) (g0 n) (ge n) (gn n) (gl n) (gm n) (kS n) (gi n) (eS n)
theorem apS {n : Nat} {h : Heap} {z : CfgZ} {s : ShapeZ} {pc ps pm pp pa pf pv pw : Nat} (b : BoundsAt h z s pc ps pm pp pa pf pv pw) {i : Nat} (hi : i < 11) (k : AV → Heap → CRes) :
    cfM n ((Gh pc ps pm pp pa pf pv pw).getD i default) [] h k = k (.int .u64 (nz (Z8 z s) i)) h := by
  match i, hi with
  | 0, _ => exact rfl
  | 1, _ => exact v_f4 (n := n) b.fm _
  | 2, _ => exact v_f5 (n := n) b.fa b.fm _
  | 3, _ => exact v_f6 (n := n) b.fm b.fs b.fa _
  | 4, _ => exact v_f1 (n := n) b.fm _
  | 5, _ => exact v_f2 (n := n) b.fp _
  | 6, _ => exact v_f7 (n := n) b.fc b.fm _
  | 7, _ => exact v_f8 (n := n) b.fv b.fw b.fm b.fp _
  | 8, _ => exact v_f9 (n := n) b.fm b.fc b.ff _
  | 9, _ => exact v_f10 (n := n) b.fm b.fc b.ff _
  | 10, _ => exact rfl
theorem v_Most_1 {n : Nat} {h : Heap} {z : CfgZ} {s : ShapeZ} {pc ps pm pp pa pf pv pw x y : Nat} (b : BoundsAt h z s pc ps pm pp pa pf pv pw) (hx : h.cl x (AU z)) (hy : h.cl y (AD s)) : ∀ (m i : Nat) (a : Int), i ≤ 11 → 11 - i < m →
    Run2 (fun k => tS n (pE n) (nK n) (eY n) (eZ n) (g0 n) (ge n) (gn n) (gl n) (gm n) (kS n) (gi n) (eS n) k m (.ptr x 0) (.ptr y 0) a (.agg (Gh pc ps pm pp pa pf pv pw)) i h)
      fun v e h' => h' = h ∧ e = 0 ∧ v = w64 (w64 (w64 s.image * z.miss) + ((Z8 z s).drop i).foldl maxZ a) := by
  intro m
  induction m with
  | zero => omega
  | succ m ih =>
    intro i a hi hm
    simp only [aiM]
    unfold Gy AX OV
    refine RunG.ifB (fun e => ?_) fun e => ?_
    · simp at e
      have e' : i < (Z8 z s).length := by show i < 11; omega
      have eF : i < (Gh pc ps pm pp pa pf pv pw).length := by show i < 11; omega
      have hd : ((Gh pc ps pm pp pa pf pv pw)[i]) = (Gh pc ps pm pp pa pf pv pw).getD i default := by rw [List.getD_eq_getElem?_getD, List.getElem?_eq_getElem eF]; rfl
      have key := apS (n := n) b (i := i) (by omega)
      unfold cfM at key
      rw [List.drop_eq_getElem_cons e', List.foldl_cons]
      simp only [aL, bg, bj, bl, cg, b8, cb, cj, bC, ck, ci, ce, cx, cz, bD, bq, bX, cd, bJ, bb, bo, aN, bu, bt, aP, aJ, be, cm, cF, bM, ba, bc, cq, cp, bL, bO, bN, bP, bw, bz, bK, List.getElem?_cons_zero, List.getElem?_cons_succ, Nat.zero_add, Nat.reduceAdd, Nat.add_zero, apa (l := Gh pc ps pm pp pa pf pv pw) (n := 11) (i := i) rfl (by omega), hd, key, max2, jd (show i ≤ 9223372036854775806 by omega)]
      have := ih (i + 1) (maxZ a (nz (Z8 z s) i)) (by omega) (by omega)
      rw [vu e'] at this ⊢
      exact this
    · simp at e
      have : i = 11 := by omega
      subst this
      simp only [aL, bg, bj, bl, cg, b8, cb, cj, bC, ck, ci, ce, cx, cz, bD, bq, bX, cd, bJ, bb, bo, aN, bu, bt, aP, aJ, be, cm, cF, bM, ba, bc, cq, cp, bL, bO, bN, bP, bw, bz, bK, List.getElem?_cons_zero, List.getElem?_cons_succ, Nat.zero_add, Nat.reduceAdd, Nat.add_zero, bS hx, bS hy, ji, jv, jr, jg, jl, ju, jo, jk, jx, jf, fF, gd, fV, fZ, fC, fT, fL, f0, fK, fU, fJ, fE, fR, gb, ga, dR, de, cW, fN, fH, fY, gc, fW, fD, dP, dQ, dW, dS, cU]
      exact OJ ⟨rfl, rfl, rfl⟩
theorem v_Most {n : Nat} (hn : 100 < n) {h : Heap} (hro : h.ro ≤ h.nx) (z : CfgZ) (s : ShapeZ) : Run2 (rn n (.agg (AU z)) (.agg (AD s)) h) fun v e h' => e = ahN z s ∧ (e = 0 → v = mostC z s) ∧ Grow h h' := by
  unfold rn Wm VO
  refine Run1.bind (yx ..) ?_
  rintro x h1 ⟨c1, g1⟩
  refine Run1.bind (yx ..) ?_
  rintro y h2 ⟨s2, g2⟩
  have c2 := g2.cl c1
  have t2 := g1.trans g2
  simp only [aL, bg, bj, bl, cg, b8, cb, cj, bC, ck, ci, ce, cx, cz, bD, bq, bX, cd, bJ, bb, bo, aN, bu, bt, aP, aJ, be, cm, cF, bM, ba, bc, cq, cp, bL, bO, bN, bP, bw, bz, bK, List.getElem?_cons_zero, List.getElem?_cons_succ, Nat.zero_add, Nat.reduceAdd, Nat.add_zero, bS c2, bS s2, ji, jv, jr, jg, jl, ju, jo, jk, jx, jf, fF, gd, fV, fZ, fC, fT, fL, f0, fK, fU, fJ, fE, fR, gb, ga, dR, de, cW, fN, fH, fY, gc, fW, fD, dP, dQ, dW, dS, cU]
  refine Run1.bind (v_asked (by omega) h2 z s) ?_
  rintro _ h3 ⟨rfl, g3⟩
  have t3 := t2.trans g3
  have c3 := g3.cl c2
  have s3 := g3.cl s2
  refine RunG.ifB (fun e1 => OJ ⟨rfl, fun h0 => ?_, t3⟩) fun e1 => ?_
  · simp at e1; exact (e1 h0).elim
  simp at e1
  simp only [aL, bg, bj, bl, cg, b8, cb, cj, bC, ck, ci, ce, cx, cz, bD, bq, bX, cd, bJ, bb, bo, aN, bu, bt, aP, aJ, be, cm, cF, bM, ba, bc, cq, cp, bL, bO, bN, bP, bw, bz, bK, List.getElem?_cons_zero, List.getElem?_cons_succ, Nat.zero_add, Nat.reduceAdd, Nat.add_zero, bS c3, bS s3, ji, jv, jr, jg, jl, ju, jo, jk, jx, jf, fF, gd, fV, fZ, fC, fT, fL, f0, fK, fU, fJ, fE, fR, gb, ga, dR, de, cW, fN, fH, fY, gc, fW, fD, dP, dQ, dW, dS, cU]
  refine Run1.bind (v_bounds (t3.le hro) z s) ?_
  rintro _ h4 ⟨pc, ps, pm, pp, pa, pf, pv, pw, rfl, b, g4⟩
  refine RunG.mono (v_Most_1 b (g4.cl c3) (g4.cl s3) n 0 0 (by omega) (by omega)) ?_
  rintro ⟨v, e, h'⟩ ⟨q1, q2, q3⟩
  refine ⟨by rw [q2, e1], fun _ => ?_, by rw [q1]; exact t3.trans g4⟩
  rw [q3]; rfl
end Go.Proofs.Ytnlbfbiogfilfaa.Sh
