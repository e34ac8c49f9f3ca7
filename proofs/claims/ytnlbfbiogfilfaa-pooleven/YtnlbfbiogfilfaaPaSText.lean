/- The other half. -/
import Derived.Test.YtnlbfbiogfilfaaPaSText0
import Derived.Test.YtnlbfbiogfilfaaPaSCode
import Derived.Test.YtnlbfbiogfilfaaAiXPaSPrims
import Derived.KernelRfl
set_option linter.all false
namespace Go.Proofs.Ytnlbfbiogfilfaa.Sh
open Go.Ai
set_option maxRecDepth 100000
noncomputable section
/-! cofferdam/plan.Check -/
abbrev pC := AV → Heap → (AV → Heap → CRes) → CRes
abbrev tF := AV → Heap → CRes
def tE (g : pC) : Wr := fun l h k => mr l fun a0 l => nC l (g a0 h fun u0 h => k u0 h)
def i5 (bA : iR) (ad : bU) (aj : cn) (bV : kj) (bW : ki) (aw : c9) : eg := ft [(kI, ot bA), (f8, gy ad), (fh, fO aj), (pF, rl bV), (pt, rv bW), (mj, nc aw)]
abbrev wQ (k0 : Q0) (k : tF) : Prop := ∀ u0 h, k0 u0 h = k u0 h
abbrev Cz : Type := AV → Heap → CRes
abbrev L3 (J : Q1) (j : Cz) : Prop := ∀ v3 h, J ⟨cP [(p3, v3)], h⟩ = j v3 h
abbrev sg : Type := AV → AV → AV → Int → Int → Heap → CRes
abbrev DT (J : Q1) (j : sg) : Prop := ∀ v1 v3 v4 v29 v30 h, J ⟨cP [(p1, v1), (p3, v3), (p4, v4), (p29, (.int .i64 v29)), (p30, (.int .i64 v30))], h⟩ = j v1 v3 v4 v29 v30 h
section
variable (n : Nat) (bA : iR) (ad : bU) (aj : cn) (bV : kj) (bW : ki) (aw : c9) (k0 : Q0) (k : tF)
def UH (n : Nat) (bA : iR) (ad : bU) (aj : cn) (bV : kj) (bW : ki) (aw : c9) (k0 : Q0) : Q1 := (bH (i5 bA ad aj bV bW aw) jp Vi (cO z_plan_Check k0))
def KW (n : Nat) (bA : iR) (ad : bU) (aj : cn) (bV : kj) (bW : ki) (aw : c9) (k : tF) (v3 : AV) (h : Heap) : CRes :=
 iZ h v3 1 false fun x26 =>
 k x26 h
theorem agS (hk : wQ k0 k) : L3 (UH n bA ad aj bV bW aw k0 ) (KW n bA ad aj bV bW aw k ) := by
  obtain rfl := fx2 hk
  intro v3 h
  kernel_rfl
def LU : Q1 := UH n bA ad aj bV bW aw k0
def yu : Cz := KW n bA ad aj bV bW aw k
theorem ag7 (hk : wQ k0 k) : L3 (LU n bA ad aj bV bW aw k0 ) (yu n bA ad aj bV bW aw k ) := agS n bA ad aj bV bW aw k0 k hk
def Vu (n : Nat) (bA : iR) (ad : bU) (aj : cn) (bV : kj) (bW : ki) (aw : c9) (k0 : Q0) (J0 : Q1) (J1 : Q1) : Q1 := (bH (i5 bA ad aj bV bW aw) jp V9 (fun s => eM (.t p31) s (bH (i5 bA ad aj bV bW aw) jp UG (bH (i5 bA ad aj bV bW aw) jp U2 (bH (i5 bA ad aj bV bW aw) jp WF (bH (i5 bA ad aj bV bW aw) jp WL (fun s => cS Li s J1))))) (fun s => cS Wk s J0)))
def DD (n : Nat) (bA : iR) (ad : bU) (aj : cn) (bV : kj) (bW : ki) (aw : c9) (k : tF) (j0 : Cz) (j1 : sg) (v1 : AV) (v3 : AV) (v4 : AV) (v29 : Int) (v30 : Int) (h : Heap) : CRes :=
 ifB (ltF v30 v29)
 (iZ h v1 17 true fun x27 =>
 aw x27 v30 h fun x28 h29 =>
 mO .i64 4 v30 fun x30 =>
 i5 bA ad aj bV bW aw v4 [(.bool (eqF x28 0)), (.int .i64 x28), (.int .i64 x30)] h29 fun x31 h32 =>
 mO .i64 v30 1 fun x33 =>
 j1 v1 v3 v4 v29 x33 h32)
 (j0 v3 h)
theorem ag5 (hk : wQ k0 k) (J0 : Q1) (j0 : Cz) (h0 : L3 J0 j0) (J1 : Q1) (j1 : sg) (h1 : DT J1 j1) : DT (Vu n bA ad aj bV bW aw k0 J0 J1) (DD n bA ad aj bV bW aw k j0 j1) := by
  obtain rfl := fx2 hk
  obtain rfl := fx2 h0
  obtain rfl := fx6 h1
  intro v1 v3 v4 v29 v30 h
  kernel_rfl
def Dl (m : Nat) : Q1 := Nat.rec (motive := fun _ => Q1) (fun _ => .err) (fun _ ih => Vu n bA ad aj bV bW aw k0 (LU n bA ad aj bV bW aw k0 ) ih) m
def rO (m : Nat) : sg := Nat.rec (motive := fun _ => sg) (fun _ _ _ _ _ _ => .err) (fun _ ih => DD n bA ad aj bV bW aw k (yu n bA ad aj bV bW aw k ) ih) m
theorem aic (m : Nat) : rO n bA ad aj bV bW aw k (m + 1) = DD n bA ad aj bV bW aw k (yu n bA ad aj bV bW aw k ) (rO n bA ad aj bV bW aw k m) := rfl
theorem ah0 (hk : wQ k0 k) (m : Nat) : DT (Dl n bA ad aj bV bW aw k0 m) (rO n bA ad aj bV bW aw k m) := by
  induction m with
  | zero => intro v1 v3 v4 v29 v30 h; rfl
  | succ m ih => exact ag5 n bA ad aj bV bW aw k0 k hk (LU n bA ad aj bV bW aw k0 ) (yu n bA ad aj bV bW aw k ) (ag7 n bA ad aj bV bW aw k0 k hk ) (Dl n bA ad aj bV bW aw k0 m) (rO n bA ad aj bV bW aw k m) ih
def abg (n : Nat) (bA : iR) (ad : bU) (aj : cn) (bV : kj) (bW : ki) (aw : c9) (k0 : Q0) (J1 : Q1) : Q1 := (bH (i5 bA ad aj bV bW aw) jp Tk (bH (i5 bA ad aj bV bW aw) jp S0 (bH (i5 bA ad aj bV bW aw) jp SZ (bH (i5 bA ad aj bV bW aw) jp SK (bH (i5 bA ad aj bV bW aw) jp Vl (bH (i5 bA ad aj bV bW aw) jp Wy (bH (i5 bA ad aj bV bW aw) jp Uw (bH (i5 bA ad aj bV bW aw) jp UW (fun s => cS Li s J1)))))))))
def RB (n : Nat) (bA : iR) (ad : bU) (aj : cn) (bV : kj) (bW : ki) (aw : c9) (k : tF) (j1 : sg) (a0 : AV) (h : Heap) : CRes :=
 Co h a0 fun x0 h1 =>
 DK h1 (.cells [.nilslice] true 0) fun x2 h3 =>
 iZ h3 (.ptr x0 0) 17 true fun x4 =>
 ad x4 h3 fun x5 h6 =>
 bA x5 114 0 (.ptr x2 0) h6 fun h7 =>
 fld 6 h7 (.ptr x0 0) 6 true fun x8 x9 =>
 aj x9 h7 fun x10 h11 =>
 bA (eqF x10 0) 100 1 (.ptr x2 0) h11 fun h12 =>
 iZ h12 (.ptr x0 0) 17 true fun x13 =>
 bV x13 h12 fun x14 h15 =>
 bA x14 113 2 (.ptr x2 0) h15 fun h16 =>
 iZ h16 (.ptr x0 0) 17 true fun x17 =>
 bW x17 h16 fun x18 h19 =>
 bA x18 112 3 (.ptr x2 0) h19 fun h20 =>
 fld 16 h20 (.ptr x0 0) 1 false fun x21 x22 =>
 iP x22 fun x23 =>
 NH false [(.int .i64 x23), (.int .i64 8)] fun x24 =>
 UK .i64 x24 fun x25 =>
 j1 (.ptr x0 0) (.ptr x2 0) (.func 37 [] [(.ptr x2 0)]) x25 0 h20
theorem akY (n : Nat) (bA : iR) (ad : bU) (aj : cn) (bV : kj) (bW : ki) (aw : c9) (k0 : Q0) (k : tF) (hk : wQ k0 k) (J1 : Q1) (j1 : sg) (h1 : DT J1 j1) (a0 : AV) (h : Heap) : (abg n bA ad aj bV bW aw k0 J1) ⟨cP [(p0, a0)], h⟩ = (RB n bA ad aj bV bW aw k j1) a0 h := by
  obtain rfl := fx2 hk
  obtain rfl := fx6 h1
  kernel_rfl
def akU : Q1 := abg n bA ad aj bV bW aw k0 (Dl n bA ad aj bV bW aw k0 n)
def RL (n : Nat) (bA : iR) (ad : bU) (aj : cn) (bV : kj) (bW : ki) (aw : c9) (a0 : AV) (h : Heap) (k : tF) : CRes := RB n bA ad aj bV bW aw k (rO n bA ad aj bV bW aw k n) a0 h
theorem ak7 (n : Nat) (bA : iR) (ad : bU) (aj : cn) (bV : kj) (bW : ki) (aw : c9) (k0 : Q0) (s : St) : D (ft [(kI, ot bA), (f8, gy ad), (fh, fO aj), (pF, rl bV), (pt, rv bW), (mj, nc aw)]) jp n JU (cO z_plan_Check k0) (fun _ _ => .err) (cO z_plan_Check k0) s = akU n bA ad aj bV bW aw k0 s := by kernel_rfl
theorem alJ (n : Nat) (bA : iR) (ad : bU) (aj : cn) (bV : kj) (bW : ki) (aw : c9) (a0 : AV) (h : Heap) (k0 : Q0) : W a_plan_Check z_plan_Check [(kI, ot bA), (f8, gy ad), (fh, fO aj), (pF, rl bV), (pt, rv bW), (mj, nc aw)] jp n JU [a0] h k0 = RL n bA ad aj bV bW aw a0 h (fun u0 h => k0 u0 h) := by
  let k : tF := fun u0 h => k0 u0 h
  have hk : wQ k0 k := fun _ _ => rfl
  have hb : ∀ F : Tr AV → CRes, iS a_plan_Check [a0] .leaf F = F (cP [(p0, a0)]) := fun F => by kernel_rfl
  exact (nD hb).trans ((ak7 n bA ad aj bV bW aw k0 _).trans (akY n bA ad aj bV bW aw k0 k hk (Dl n bA ad aj bV bW aw k0 n) (rO n bA ad aj bV bW aw k n) (ah0 n bA ad aj bV bW aw k0 k hk n) a0 h))
end
def tD (n : Nat) : pC := RL n (kJ n) (eK n) (eO n) (nG n) (nH n) (kY n)
theorem akF {tbl : Tr AFn} (hp : cN tbl) (ht : tbl.get (key qY) = some aaH) (n : Nat) (adK : Sound tbl kI (ot (kJ n))) (vJ : Sound tbl f8 (gy (eK n))) (tT : Sound tbl fh (fO (eO n))) (agi : Sound tbl pF (rl (nG n))) (agb : Sound tbl pt (rv (nH n))) (R6 : Sound tbl mj (nc (kY n))) : Sound tbl qY (tE (tD n)) := by
  refine Sound.of (dK hp (ps := a_plan_Check) (rs := z_plan_Check) (l := [(kI, ot (kJ n)), (f8, gy (eK n)), (fh, fO (eO n)), (pF, rl (nG n)), (pt, rv (nH n)), (mj, nc (kY n))]) (ty := jp) (n := n) (c := JU) ht ⟨adK, vJ, tT, agi, agb, R6, trivial⟩) fun args H k r H' h => ?_
  unfold tE at h
  obtain ⟨a0, l0, e0, h0⟩ := cY h
  subst e0
  obtain ⟨e9, h9⟩ := db h0
  subst e9
  exact (alJ n (kJ n) (eK n) (eO n) (nG n) (nH n) (kY n) a0 H k).trans h9
/-! cofferdam/plan.May -/
abbrev cX := AV → Heap → (Bool → Heap → CRes) → CRes
abbrev E7 := Bool → Heap → CRes
def oZ (g : cX) : Wr := fun l h k => mr l fun a0 l => nC l (g a0 h fun u0 h => k (.bool u0) h)
def aeA (gR : pC) : eg := ft [(qY, tE gR)]
abbrev aeL (k0 : Q0) (k : E7) : Prop := ∀ u0 h, k0 (.bool u0) h = k u0 h
section
variable (n : Nat) (gR : pC) (k0 : Q0) (k : E7)
def agR (n : Nat) (gR : pC) (k0 : Q0) : Q1 := (bH (aeA gR) K7 aag (bH (aeA gR) K7 abP (cO z_plan_May k0)))
def ZA (n : Nat) (gR : pC) (k : E7) (a0 : AV) (h : Heap) : CRes :=
 Co h a0 fun x0 h1 =>
 iZ h1 (.ptr x0 0) 17 true fun x2 =>
 gR x2 h1 fun x3 h4 =>
 iP x3 fun x5 =>
 k (eqF x5 0) h4
theorem aoo (n : Nat) (gR : pC) (k0 : Q0) (k : E7) (hk : aeL k0 k) (a0 : AV) (h : Heap) : (agR n gR k0 ) ⟨cP [(p0, a0)], h⟩ = (ZA n gR k ) a0 h := by
  obtain rfl := fx2 hk
  kernel_rfl
def an1 : Q1 := agR n gR k0
def Zx (n : Nat) (gR : pC) (a0 : AV) (h : Heap) (k : E7) : CRes := ZA n gR k a0 h
theorem aoC (n : Nat) (gR : pC) (k0 : Q0) (s : St) : D (ft [(qY, tE gR)]) K7 n Rx (cO z_plan_May k0) (fun _ _ => .err) (cO z_plan_May k0) s = an1 n gR k0 s := by kernel_rfl
theorem aod (n : Nat) (gR : pC) (a0 : AV) (h : Heap) (k0 : Q0) : W a_plan_May z_plan_May [(qY, tE gR)] K7 n Rx [a0] h k0 = Zx n gR a0 h (fun u0 h => k0 (.bool u0) h) := by
  let k : E7 := fun u0 h => k0 (.bool u0) h
  have hk : aeL k0 k := fun _ _ => rfl
  have hb : ∀ F : Tr AV → CRes, iS a_plan_May [a0] .leaf F = F (cP [(p0, a0)]) := fun F => by kernel_rfl
  exact (nD hb).trans ((aoC n gR k0 _).trans (aoo n gR k0 k hk a0 h))
end
def qk (n : Nat) : cX := Zx n (tD n)
theorem aoc {tbl : Tr AFn} (hp : cN tbl) (ht : tbl.get (key nL) = some ahm) (n : Nat) (aji : Sound tbl qY (tE (tD n))) : Sound tbl nL (oZ (qk n)) := by
  refine Sound.of (dK hp (ps := a_plan_May) (rs := z_plan_May) (l := [(qY, tE (tD n))]) (ty := K7) (n := n) (c := Rx) ht ⟨aji, trivial⟩) fun args H k r H' h => ?_
  unfold oZ at h
  obtain ⟨a0, l0, e0, h0⟩ := cY h
  subst e0
  obtain ⟨e9, h9⟩ := db h0
  subst e9
  exact (aod n (tD n) a0 H k).trans h9
/-! cofferdam/plan.there -/
abbrev pr := AV → Int → Heap → (Int → Heap → CRes) → CRes
abbrev vC := Int → Heap → CRes
def tr (g : pr) : Wr := fun l h k => mr l fun a0 l => qA .i64 l fun a1 l => nC l (g a0 a1 h fun u0 h => k (.int .i64 u0) h)
def tY (au : cX) : eg := ft [(nL, oZ au)]
abbrev Gf (k0 : Q0) (k : vC) : Prop := ∀ u0 h, k0 (.int .i64 u0) h = k u0 h
abbrev Dr : Type := Bool → Heap → CRes
abbrev K3 (J : Q1) (j : Dr) : Prop := ∀ v18 h, J ⟨cP [(p18, (.bool v18))], h⟩ = j v18 h
section
variable (n : Nat) (au : cX) (k0 : Q0) (k : vC)
def UR (n : Nat) (au : cX) (k0 : Q0) : Q1 := (bH (tY au) py Vc (fun s => eM (.t p9) s (bH (tY au) py VR (cO z_plan_there k0)) (bH (tY au) py VA (cO z_plan_there k0))))
def LW (n : Nat) (au : cX) (k : vC) (v18 : Bool) (h : Heap) : CRes :=
 ifB v18
 (k 270 h)
 (k 0 h)
theorem ahS (hk : Gf k0 k) : K3 (UR n au k0 ) (LW n au k ) := by
  obtain rfl := fx2 hk
  intro v18 h
  kernel_rfl
def L8 : Q1 := UR n au k0
def CJ : Dr := LW n au k
theorem ahR (hk : Gf k0 k) : K3 (L8 n au k0 ) (CJ n au k ) := ahS n au k0 k hk
def abp (n : Nat) (au : cX) (k0 : Q0) (J0 : Q1) : Q1 := (bH (tY au) py WK (bH (tY au) py UB (fun s => eM (.t p5) s (bH (tY au) py Va (cO z_plan_there k0)) (bH (tY au) py V7 (fun s => cS V4 s J0)))))
def RR (n : Nat) (au : cX) (k : vC) (j0 : Dr) (a0 : AV) (a1 : Int) (h : Heap) : CRes :=
 Co h a0 fun x0 h1 =>
 iZ h1 (.ptr x0 0) 17 true fun x2 =>
 au x2 h1 fun x3 h4 =>
 ifB (jK x3)
 (k 5 h4)
 (ifB (ltF a1 0)
 (j0 true h4)
 (fld 16 h4 (.ptr x0 0) 1 false fun x5 x6 =>
 iP x6 fun x7 =>
 j0 (jK (ltF a1 x7)) h4))
theorem alV (n : Nat) (au : cX) (k0 : Q0) (k : vC) (hk : Gf k0 k) (J0 : Q1) (j0 : Dr) (h0 : K3 J0 j0) (a0 : AV) (a1 : Int) (h : Heap) : (abp n au k0 J0) ⟨cP [(p0, a0), (p1, (.int .i64 a1))], h⟩ = (RR n au k j0) a0 a1 h := by
  obtain rfl := fx2 hk
  obtain rfl := fx2 h0
  kernel_rfl
def amb : Q1 := abp n au k0 (L8 n au k0 )
def R1 (n : Nat) (au : cX) (a0 : AV) (a1 : Int) (h : Heap) (k : vC) : CRes := RR n au k (CJ n au k ) a0 a1 h
theorem alM (n : Nat) (au : cX) (k0 : Q0) (s : St) : D (ft [(nL, oZ au)]) py n Ks (cO z_plan_there k0) (fun _ _ => .err) (cO z_plan_there k0) s = amb n au k0 s := by kernel_rfl
theorem alE (n : Nat) (au : cX) (a0 : AV) (a1 : Int) (h : Heap) (k0 : Q0) : W a_plan_there z_plan_there [(nL, oZ au)] py n Ks [a0, (.int .i64 a1)] h k0 = R1 n au a0 a1 h (fun u0 h => k0 (.int .i64 u0) h) := by
  let k : vC := fun u0 h => k0 (.int .i64 u0) h
  have hk : Gf k0 k := fun _ _ => rfl
  have hb : ∀ F : Tr AV → CRes, iS a_plan_there [a0, (.int .i64 a1)] .leaf F = F (cP [(p0, a0), (p1, (.int .i64 a1))]) := fun F => by kernel_rfl
  exact (nD hb).trans ((alM n au k0 _).trans (alV n au k0 k hk (L8 n au k0 ) (CJ n au k ) (ahR n au k0 k hk ) a0 a1 h))
end
def tM (n : Nat) : pr := R1 n (qk n)
theorem akt {tbl : Tr AFn} (hp : cN tbl) (ht : tbl.get (key ra) = some abX) (n : Nat) (UD : Sound tbl nL (oZ (qk n))) : Sound tbl ra (tr (tM n)) := by
  refine Sound.of (dK hp (ps := a_plan_there) (rs := z_plan_there) (l := [(nL, oZ (qk n))]) (ty := py) (n := n) (c := Ks) ht ⟨UD, trivial⟩) fun args H k r H' h => ?_
  unfold tr at h
  obtain ⟨a0, l0, e0, h0⟩ := cY h
  subst e0
  obtain ⟨a1, l1, e1, h1⟩ := dT h0
  subst e1
  obtain ⟨e9, h9⟩ := db h1
  subst e9
  exact (alE n (qk n) a0 a1 H k).trans h9
/-! cofferdam/plan.Total -/
abbrev lu := AV → Int → Heap → (Int → Int → Heap → CRes) → CRes
abbrev z5 := Int → Int → Heap → CRes
def ti (g : lu) : Wr := fun l h k => mr l fun a0 l => qA .i64 l fun a1 l => nC l (g a0 a1 h fun u0 u1 h => k (.tuple [(.int .i64 u0), (.int .i64 u1)]) h)
def AY (fe : pr) (aA : c8) : eg := ft [(ra, tr fe), (lA, lW aA)]
abbrev XR (k0 : Q0) (k : z5) : Prop := ∀ u0 u1 h, k0 (.tuple [(.int .i64 u0), (.int .i64 u1)]) h = k u0 u1 h
section
variable (n : Nat) (fe : pr) (aA : c8) (k0 : Q0) (k : z5)
def aaF (n : Nat) (fe : pr) (aA : c8) (k0 : Q0) : Q1 := (bH (AY fe aA) ta UT (bH (AY fe aA) ta Vt (bH (AY fe aA) ta UP (fun s => eM (.t p11) s (bH (AY fe aA) ta U8 (cO z_plan_Total k0)) (bH (AY fe aA) ta VG (cO z_plan_Total k0))))))
def R4 (n : Nat) (fe : pr) (aA : c8) (k : z5) (a0 : AV) (a1 : Int) (h : Heap) : CRes :=
 Co h a0 fun x0 h1 =>
 iZ h1 (.ptr x0 0) 17 true fun x2 =>
 fe x2 a1 h1 fun x3 h4 =>
 ifB (jK (eqF x3 0))
 (k 0 x3 h4)
 (iZ h4 (.ptr x0 0) 17 true fun x5 =>
 aA x5 a1 h4 fun x6 h7 =>
 k x6 0 h7)
theorem akN (n : Nat) (fe : pr) (aA : c8) (k0 : Q0) (k : z5) (hk : XR k0 k) (a0 : AV) (a1 : Int) (h : Heap) : (aaF n fe aA k0 ) ⟨cP [(p0, a0), (p1, (.int .i64 a1))], h⟩ = (R4 n fe aA k ) a0 a1 h := by
  obtain rfl := fx3 hk
  kernel_rfl
def ale : Q1 := aaF n fe aA k0
def R3 (n : Nat) (fe : pr) (aA : c8) (a0 : AV) (a1 : Int) (h : Heap) (k : z5) : CRes := R4 n fe aA k a0 a1 h
theorem alL (n : Nat) (fe : pr) (aA : c8) (k0 : Q0) (s : St) : D (ft [(ra, tr fe), (lA, lW aA)]) ta n Kg (cO z_plan_Total k0) (fun _ _ => .err) (cO z_plan_Total k0) s = ale n fe aA k0 s := by kernel_rfl
theorem akD (n : Nat) (fe : pr) (aA : c8) (a0 : AV) (a1 : Int) (h : Heap) (k0 : Q0) : W a_plan_Total z_plan_Total [(ra, tr fe), (lA, lW aA)] ta n Kg [a0, (.int .i64 a1)] h k0 = R3 n fe aA a0 a1 h (fun u0 u1 h => k0 (.tuple [(.int .i64 u0), (.int .i64 u1)]) h) := by
  let k : z5 := fun u0 u1 h => k0 (.tuple [(.int .i64 u0), (.int .i64 u1)]) h
  have hk : XR k0 k := fun _ _ _ => rfl
  have hb : ∀ F : Tr AV → CRes, iS a_plan_Total [a0, (.int .i64 a1)] .leaf F = F (cP [(p0, a0), (p1, (.int .i64 a1))]) := fun F => by kernel_rfl
  exact (nD hb).trans ((alL n fe aA k0 _).trans (akN n fe aA k0 k hk a0 a1 h))
end
def tf (n : Nat) : lu := R3 n (tM n) (lZ n)
theorem ak3 {tbl : Tr AFn} (hp : cN tbl) (ht : tbl.get (key ri) = some abO) (n : Nat) (ajn : Sound tbl ra (tr (tM n))) (Ok : Sound tbl lA (lW (lZ n))) : Sound tbl ri (ti (tf n)) := by
  refine Sound.of (dK hp (ps := a_plan_Total) (rs := z_plan_Total) (l := [(ra, tr (tM n)), (lA, lW (lZ n))]) (ty := ta) (n := n) (c := Kg) ht ⟨ajn, Ok, trivial⟩) fun args H k r H' h => ?_
  unfold ti at h
  obtain ⟨a0, l0, e0, h0⟩ := cY h
  subst e0
  obtain ⟨a1, l1, e1, h1⟩ := dT h0
  subst e1
  obtain ⟨e9, h9⟩ := db h1
  subst e9
  exact (akD n (tM n) (lZ n) a0 a1 H k).trans h9
abbrev dh := AV → Heap → (AV → Heap → CRes) → CRes
abbrev km := AV → Heap → CRes
def im (g : dh) : Wr := fun l h k => mr l fun a0 l => nC l (g a0 h fun u0 h => k u0 h)
def oe : eg := ft []
abbrev yK (k0 : Q0) (k : km) : Prop := ∀ u0 h, k0 u0 h = k u0 h
section
variable (n : Nat) (k0 : Q0) (k : km)
def z9 (n : Nat) (k0 : Q0) : Q1 := (bH (oe ) jc yk (bH (oe ) jc xG (fun s => eM (.t p4) s (bH (oe ) jc xL (cO z_slices_Clone___int_int_ k0)) (bH (oe ) jc xW (cO z_slices_Clone___int_int_ k0)))))
def sP (n : Nat) (k : km) (a0 : AV) (h : Heap) : CRes :=
 Xz (.nil .sl) a0 .nilslice fun x0 =>
 ifB (Vz false x0)
 (k .nilslice h)
 (sf h 0 [] [] fun x1 h2 =>
 sw h2 1 x1 a0 fun x3 h4 =>
 k x3 h4)
theorem M3 (n : Nat) (k0 : Q0) (k : km) (hk : yK k0 k) (a0 : AV) (h : Heap) : (z9 n k0 ) ⟨cP [(p0, a0)], h⟩ = (sP n k ) a0 h := by
  obtain rfl := fx2 hk
  kernel_rfl
def M0 : Q1 := z9 n k0
def sK (n : Nat) (a0 : AV) (h : Heap) (k : km) : CRes := sP n k a0 h
theorem ML (n : Nat) (k0 : Q0) (s : St) : D (ft []) jc n oI (cO z_slices_Clone___int_int_ k0) (fun _ _ => .err) (cO z_slices_Clone___int_int_ k0) s = M0 n k0 s := by kernel_rfl
theorem M7 (n : Nat) (a0 : AV) (h : Heap) (k0 : Q0) : W a_slices_Clone___int_int_ z_slices_Clone___int_int_ [] jc n oI [a0] h k0 = sK n a0 h (fun u0 h => k0 u0 h) := by
  let k : km := fun u0 h => k0 u0 h
  have hk : yK k0 k := fun _ _ => rfl
  have hb : ∀ F : Tr AV → CRes, iS a_slices_Clone___int_int_ [a0] .leaf F = F (cP [(p0, a0)]) := fun F => by kernel_rfl
  exact (nD hb).trans ((ML n k0 _).trans (M3 n k0 k hk a0 h))
end
def ir (n : Nat) : dh := sK n
theorem MJ {tbl : Tr AFn} (hp : cN tbl) (ht : tbl.get (key gu) = some Al) (n : Nat) : Sound tbl gu (im (ir n)) := by
  refine Sound.of (dK hp (ps := a_slices_Clone___int_int_) (rs := z_slices_Clone___int_int_) (l := []) (ty := jc) (n := n) (c := oI) ht trivial) fun args H k r H' h => ?_
  unfold im at h
  obtain ⟨a0, l0, e0, h0⟩ := cY h
  subst e0
  obtain ⟨e9, h9⟩ := db h0
  subst e9
  exact (M7 n a0 H k).trans h9
/-! cofferdam/colour.within -/
abbrev cQ := Int → Int → Int → Heap → (Bool → Heap → CRes) → CRes
abbrev qo := Bool → Heap → CRes
def fu (g : cQ) : Wr := fun l h k => qA .i64 l fun a0 l => qA .i64 l fun a1 l => qA .i64 l fun a2 l => nC l (g a0 a1 a2 h fun u0 h => k (.bool u0) h)
def FH : eg := ft []
abbrev zP (k0 : Q0) (k : qo) : Prop := ∀ u0 h, k0 (.bool u0) h = k u0 h
abbrev xU : Type := Bool → Heap → CRes
abbrev Cw (J : Q1) (j : xU) : Prop := ∀ v14 h, J ⟨cP [(p14, (.bool v14))], h⟩ = j v14 h
section
variable (n : Nat) (k0 : Q0) (k : qo)
def Ng (n : Nat) (k0 : Q0) : Q1 := (bH (FH ) sY Oa (cO z_colour_within k0))
def DJ (n : Nat) (k : qo) (v14 : Bool) (h : Heap) : CRes :=
 k v14 h
theorem aaa (hk : zP k0 k) : Cw (Ng n k0 ) (DJ n k ) := by
  obtain rfl := fx2 hk
  intro v14 h
  kernel_rfl
def C9 : Q1 := Ng n k0
def xx : xU := DJ n k
theorem aaW (hk : zP k0 k) : Cw (C9 n k0 ) (xx n k ) := aaa n k0 k hk
def Se (n : Nat) (k0 : Q0) (J0 : Q1) : Q1 := (bH (FH ) sY Og (bH (FH ) sY Nf (fun s => cS NL s J0)))
def IA (n : Nat) (k : qo) (j0 : xU) (a0 : Int) (a1 : Int) (a2 : Int) (h : Heap) : CRes :=
 ifB (jK (ltF a0 a1))
 (j0 (jK (ltF a2 a0)) h)
 (j0 false h)
theorem aeW (n : Nat) (k0 : Q0) (k : qo) (hk : zP k0 k) (J0 : Q1) (j0 : xU) (h0 : Cw J0 j0) (a0 : Int) (a1 : Int) (a2 : Int) (h : Heap) : (Se n k0 J0) ⟨cP [(p0, (.int .i64 a0)), (p1, (.int .i64 a1)), (p2, (.int .i64 a2))], h⟩ = (IA n k j0) a0 a1 a2 h := by
  obtain rfl := fx2 hk
  obtain rfl := fx2 h0
  kernel_rfl
def aff : Q1 := Se n k0 (C9 n k0 )
def HN (n : Nat) (a0 : Int) (a1 : Int) (a2 : Int) (h : Heap) (k : qo) : CRes := IA n k (xx n k ) a0 a1 a2 h
theorem afB (n : Nat) (k0 : Q0) (s : St) : D (ft []) sY n BC (cO z_colour_within k0) (fun _ _ => .err) (cO z_colour_within k0) s = aff n k0 s := by kernel_rfl
theorem afS (n : Nat) (a0 : Int) (a1 : Int) (a2 : Int) (h : Heap) (k0 : Q0) : W a_colour_within z_colour_within [] sY n BC [(.int .i64 a0), (.int .i64 a1), (.int .i64 a2)] h k0 = HN n a0 a1 a2 h (fun u0 h => k0 (.bool u0) h) := by
  let k : qo := fun u0 h => k0 (.bool u0) h
  have hk : zP k0 k := fun _ _ => rfl
  have hb : ∀ F : Tr AV → CRes, iS a_colour_within [(.int .i64 a0), (.int .i64 a1), (.int .i64 a2)] .leaf F = F (cP [(p0, (.int .i64 a0)), (p1, (.int .i64 a1)), (p2, (.int .i64 a2))]) := fun F => by kernel_rfl
  exact (nD hb).trans ((afB n k0 _).trans (aeW n k0 k hk (C9 n k0 ) (xx n k ) (aaW n k0 k hk ) a0 a1 a2 h))
end
def gM (n : Nat) : cQ := HN n
theorem ae1 {tbl : Tr AFn} (hp : cN tbl) (ht : tbl.get (key eP) = some TV) (n : Nat) : Sound tbl eP (fu (gM n)) := by
  refine Sound.of (dK hp (ps := a_colour_within) (rs := z_colour_within) (l := []) (ty := sY) (n := n) (c := BC) ht trivial) fun args H k r H' h => ?_
  unfold fu at h
  obtain ⟨a0, l0, e0, h0⟩ := dT h
  subst e0
  obtain ⟨a1, l1, e1, h1⟩ := dT h0
  subst e1
  obtain ⟨a2, l2, e2, h2⟩ := dT h1
  subst e2
  obtain ⟨e9, h9⟩ := db h2
  subst e9
  exact (afS n a0 a1 a2 H k).trans h9
/-! cofferdam/colour.may -/
abbrev eG := Int → Heap → (Bool → Heap → CRes) → CRes
abbrev zB := Bool → Heap → CRes
def l7 (g : eG) : Wr := fun l h k => qA .i64 l fun a0 l => nC l (g a0 h fun u0 h => k (.bool u0) h)
def Yu (aG : cQ) : eg := ft [(eP, fu aG)]
abbrev XW (k0 : Q0) (k : zB) : Prop := ∀ u0 h, k0 (.bool u0) h = k u0 h
section
variable (n : Nat) (aG : cQ) (k0 : Q0) (k : zB)
def aa0 (n : Nat) (aG : cQ) (k0 : Q0) : Q1 := (bH (Yu aG) Dn WG (bH (Yu aG) Dn Vj (cO z_colour_may k0)))
def R7 (n : Nat) (aG : cQ) (k : zB) (a0 : Int) (h : Heap) : CRes :=
 aG a0 1 16 h fun x0 h1 =>
 k x0 h1
theorem alK (n : Nat) (aG : cQ) (k0 : Q0) (k : zB) (hk : XW k0 k) (a0 : Int) (h : Heap) : (aa0 n aG k0 ) ⟨cP [(p0, (.int .i64 a0))], h⟩ = (R7 n aG k ) a0 h := by
  obtain rfl := fx2 hk
  kernel_rfl
def alC : Q1 := aa0 n aG k0
def RI (n : Nat) (aG : cQ) (a0 : Int) (h : Heap) (k : zB) : CRes := R7 n aG k a0 h
theorem akI (n : Nat) (aG : cQ) (k0 : Q0) (s : St) : D (ft [(eP, fu aG)]) Dn n Kq (cO z_colour_may k0) (fun _ _ => .err) (cO z_colour_may k0) s = alC n aG k0 s := by kernel_rfl
theorem al7 (n : Nat) (aG : cQ) (a0 : Int) (h : Heap) (k0 : Q0) : W a_colour_may z_colour_may [(eP, fu aG)] Dn n Kq [(.int .i64 a0)] h k0 = RI n aG a0 h (fun u0 h => k0 (.bool u0) h) := by
  let k : zB := fun u0 h => k0 (.bool u0) h
  have hk : XW k0 k := fun _ _ => rfl
  have hb : ∀ F : Tr AV → CRes, iS a_colour_may [(.int .i64 a0)] .leaf F = F (cP [(p0, (.int .i64 a0))]) := fun F => by kernel_rfl
  exact (nD hb).trans ((akI n aG k0 _).trans (alK n aG k0 k hk a0 h))
end
def mz (n : Nat) : eG := RI n (gM n)
theorem alN {tbl : Tr AFn} (hp : cN tbl) (ht : tbl.get (key lq) = some aaI) (n : Nat) (uD : Sound tbl eP (fu (gM n))) : Sound tbl lq (l7 (mz n)) := by
  refine Sound.of (dK hp (ps := a_colour_may) (rs := z_colour_may) (l := [(eP, fu (gM n))]) (ty := Dn) (n := n) (c := Kq) ht ⟨uD, trivial⟩) fun args H k r H' h => ?_
  unfold l7 at h
  obtain ⟨a0, l0, e0, h0⟩ := dT h
  subst e0
  obtain ⟨e9, h9⟩ := db h0
  subst e9
  exact (al7 n (gM n) a0 H k).trans h9
/-! cofferdam/colour.Count -/
abbrev jq := Int → Int → Int → Heap → (Int → Int → Heap → CRes) → CRes
abbrev pK := Int → Int → Heap → CRes
def pO (g : jq) : Wr := fun l h k => qA .i64 l fun a0 l => qA .i64 l fun a1 l => qA .i64 l fun a2 l => nC l (g a0 a1 a2 h fun u0 u1 h => k (.tuple [(.int .i64 u0), (.int .i64 u1)]) h)
def wM (aG : cQ) (bk : eG) : eg := ft [(eP, fu aG), (lq, l7 bk)]
abbrev sZ (k0 : Q0) (k : pK) : Prop := ∀ u0 u1 h, k0 (.tuple [(.int .i64 u0), (.int .i64 u1)]) h = k u0 u1 h
abbrev zI : Type := Int → Int → Int → Bool → Heap → CRes
abbrev EY (J : Q1) (j : zI) : Prop := ∀ v0 v1 v2 v22 h, J ⟨cP [(p0, (.int .i64 v0)), (p1, (.int .i64 v1)), (p2, (.int .i64 v2)), (p22, (.bool v22))], h⟩ = j v0 v1 v2 v22 h
abbrev za : Type := Int → Int → Int → Bool → Heap → CRes
abbrev EW (J : Q1) (j : za) : Prop := ∀ v0 v1 v2 v15 h, J ⟨cP [(p0, (.int .i64 v0)), (p1, (.int .i64 v1)), (p2, (.int .i64 v2)), (p15, (.bool v15))], h⟩ = j v0 v1 v2 v15 h
section
variable (n : Nat) (aG : cQ) (bk : eG) (k0 : Q0) (k : pK)
def PE (n : Nat) (aG : cQ) (bk : eG) (k0 : Q0) : Q1 := (fun s => eM (.t p22) s (bH (wM aG bk) pT Qh (cO z_colour_Count k0)) (bH (wM aG bk) pT Ps (cO z_colour_Count k0)))
def FX (n : Nat) (aG : cQ) (bk : eG) (k : pK) (v0 : Int) (v1 : Int) (v2 : Int) (v22 : Bool) (h : Heap) : CRes :=
 ifB v22
 (k 0 2 h)
 (W5 .i64 v0 v2 fun x7 =>
 mO .i64 x7 v1 fun x8 =>
 W5 .i64 x8 1 fun x9 =>
 quoK .i64 x9 v1 fun x10 =>
 k x10 0 h)
theorem abZ (hk : sZ k0 k) : EY (PE n aG bk k0 ) (FX n aG bk k ) := by
  obtain rfl := fx3 hk
  intro v0 v1 v2 v22 h
  kernel_rfl
def E0 : Q1 := PE n aG bk k0
def zL : zI := FX n aG bk k
theorem adg (hk : sZ k0 k) : EY (E0 n aG bk k0 ) (zL n aG bk k ) := abZ n aG bk k0 k hk
def Pq (n : Nat) (aG : cQ) (bk : eG) (k0 : Q0) (J1 : Q1) : Q1 := (bH (wM aG bk) pT Px (fun s => cS Pa s J1))
def Ff (n : Nat) (aG : cQ) (bk : eG) (k : pK) (j1 : zI) (v0 : Int) (v1 : Int) (v2 : Int) (v15 : Bool) (h : Heap) : CRes :=
 ifB v15
 (j1 v0 v1 v2 true h)
 (W5 .i64 v1 1 fun x4 =>
 aG v2 0 x4 h fun x5 h6 =>
 j1 v0 v1 v2 (jK x5) h6)
theorem ab3 (hk : sZ k0 k) (J1 : Q1) (j1 : zI) (h1 : EY J1 j1) : EW (Pq n aG bk k0 J1) (Ff n aG bk k j1) := by
  obtain rfl := fx3 hk
  obtain rfl := fx5 h1
  intro v0 v1 v2 v15 h
  kernel_rfl
def E8 : Q1 := Pq n aG bk k0 (E0 n aG bk k0 )
def y6 : za := Ff n aG bk k (zL n aG bk k )
theorem acR (hk : sZ k0 k) : EW (E8 n aG bk k0 ) (y6 n aG bk k ) := ab3 n aG bk k0 k hk (E0 n aG bk k0 ) (zL n aG bk k ) (adg n aG bk k0 k hk )
def Wu (n : Nat) (aG : cQ) (bk : eG) (k0 : Q0) (J0 : Q1) : Q1 := (bH (wM aG bk) pT Rd (bH (wM aG bk) pT QP (fun s => cS QX s J0)))
def LK (n : Nat) (aG : cQ) (bk : eG) (k : pK) (j0 : za) (a0 : Int) (a1 : Int) (a2 : Int) (h : Heap) : CRes :=
 aG a0 1 4096 h fun x0 h1 =>
 ifB (jK x0)
 (j0 a0 a1 a2 true h1)
 (bk a1 h1 fun x2 h3 =>
 j0 a0 a1 a2 (jK x2) h3)
theorem ail (n : Nat) (aG : cQ) (bk : eG) (k0 : Q0) (k : pK) (hk : sZ k0 k) (J0 : Q1) (j0 : za) (h0 : EW J0 j0) (a0 : Int) (a1 : Int) (a2 : Int) (h : Heap) : (Wu n aG bk k0 J0) ⟨cP [(p0, (.int .i64 a0)), (p1, (.int .i64 a1)), (p2, (.int .i64 a2))], h⟩ = (LK n aG bk k j0) a0 a1 a2 h := by
  obtain rfl := fx3 hk
  obtain rfl := fx5 h0
  kernel_rfl
def ahZ : Q1 := Wu n aG bk k0 (E8 n aG bk k0 )
def MB (n : Nat) (aG : cQ) (bk : eG) (a0 : Int) (a1 : Int) (a2 : Int) (h : Heap) (k : pK) : CRes := LK n aG bk k (y6 n aG bk k ) a0 a1 a2 h
theorem ahX (n : Nat) (aG : cQ) (bk : eG) (k0 : Q0) (s : St) : D (ft [(eP, fu aG), (lq, l7 bk)]) pT n Cs (cO z_colour_Count k0) (fun _ _ => .err) (cO z_colour_Count k0) s = ahZ n aG bk k0 s := by kernel_rfl
theorem aie (n : Nat) (aG : cQ) (bk : eG) (a0 : Int) (a1 : Int) (a2 : Int) (h : Heap) (k0 : Q0) : W a_colour_Count z_colour_Count [(eP, fu aG), (lq, l7 bk)] pT n Cs [(.int .i64 a0), (.int .i64 a1), (.int .i64 a2)] h k0 = MB n aG bk a0 a1 a2 h (fun u0 u1 h => k0 (.tuple [(.int .i64 u0), (.int .i64 u1)]) h) := by
  let k : pK := fun u0 u1 h => k0 (.tuple [(.int .i64 u0), (.int .i64 u1)]) h
  have hk : sZ k0 k := fun _ _ _ => rfl
  have hb : ∀ F : Tr AV → CRes, iS a_colour_Count [(.int .i64 a0), (.int .i64 a1), (.int .i64 a2)] .leaf F = F (cP [(p0, (.int .i64 a0)), (p1, (.int .i64 a1)), (p2, (.int .i64 a2))]) := fun F => by kernel_rfl
  exact (nD hb).trans ((ahX n aG bk k0 _).trans (ail n aG bk k0 k hk (E8 n aG bk k0 ) (y6 n aG bk k ) (acR n aG bk k0 k hk ) a0 a1 a2 h))
end
def nX (n : Nat) : jq := MB n (gM n) (mz n)
theorem ahy {tbl : Tr AFn} (hp : cN tbl) (ht : tbl.get (key nV) = some Uv) (n : Nat) (uD : Sound tbl eP (fu (gM n))) (Ow : Sound tbl lq (l7 (mz n))) : Sound tbl nV (pO (nX n)) := by
  refine Sound.of (dK hp (ps := a_colour_Count) (rs := z_colour_Count) (l := [(eP, fu (gM n)), (lq, l7 (mz n))]) (ty := pT) (n := n) (c := Cs) ht ⟨uD, Ow, trivial⟩) fun args H k r H' h => ?_
  unfold pO at h
  obtain ⟨a0, l0, e0, h0⟩ := dT h
  subst e0
  obtain ⟨a1, l1, e1, h1⟩ := dT h0
  subst e1
  obtain ⟨a2, l2, e2, h2⟩ := dT h1
  subst e2
  obtain ⟨e9, h9⟩ := db h2
  subst e9
  exact (aie n (gM n) (mz n) a0 a1 a2 H k).trans h9
/-! cofferdam/buddy.New -/
abbrev mo := Int → Heap → (AV → Int → Heap → CRes) → CRes
abbrev mZ := AV → Int → Heap → CRes
def vd (g : mo) : Wr := fun l h k => qA .i64 l fun a0 l => nC l (g a0 h fun u0 u1 h => k (.tuple [u0, (.int .i64 u1)]) h)
def oh : eg := ft []
abbrev my (k0 : Q0) (k : mZ) : Prop := ∀ u0 u1 h, k0 (.tuple [u0, (.int .i64 u1)]) h = k u0 u1 h
abbrev Gl : Type := AV → Heap → CRes
abbrev OS (J : Q1) (j : Gl) : Prop := ∀ v4 h, J ⟨cP [(p4, v4)], h⟩ = j v4 h
abbrev Gj : Type := Int → AV → Int → Int → Heap → CRes
abbrev OU (J : Q1) (j : Gj) : Prop := ∀ v0 v4 v5 v6 h, J ⟨cP [(p0, (.int .i64 v0)), (p4, v4), (p5, (.int .i64 v5)), (p6, (.int .i64 v6))], h⟩ = j v0 v4 v5 v6 h
abbrev tW : Type := Int → AV → Int → Int → Heap → CRes
abbrev GC (J : Q1) (j : tW) : Prop := ∀ v0 v4 v5 v6 h, J ⟨cP [(p0, (.int .i64 v0)), (p4, v4), (p5, (.int .i64 v5)), (p6, (.int .i64 v6))], h⟩ = j v0 v4 v5 v6 h
abbrev lU : Type := Int → AV → Int → Int → Heap → CRes
abbrev wV (J : Q1) (j : lU) : Prop := ∀ v0 v4 v5 v6 h, J ⟨cP [(p0, (.int .i64 v0)), (p4, v4), (p5, (.int .i64 v5)), (p6, (.int .i64 v6))], h⟩ = j v0 v4 v5 v6 h
abbrev Gi : Type := Int → Bool → Heap → CRes
abbrev OW (J : Q1) (j : Gi) : Prop := ∀ v0 v12 h, J ⟨cP [(p0, (.int .i64 v0)), (p12, (.bool v12))], h⟩ = j v0 v12 h
section
variable (n : Nat) (k0 : Q0) (k : mZ)
def YR (n : Nat) (k0 : Q0) : Q1 := (bH (oh ) mm YX (cO z_buddy_New k0))
def Ot (n : Nat) (k : mZ) (v4 : AV) (h : Heap) : CRes :=
 k v4 0 h
theorem ajF (hk : my k0 k) : OS (YR n k0 ) (Ot n k ) := by
  obtain rfl := fx3 hk
  intro v4 h
  kernel_rfl
def Oh : Q1 := YR n k0
def A0 : Gl := Ot n k
theorem ajf (hk : my k0 k) : OS (Oh n k0 ) (A0 n k ) := ajF n k0 k hk
def Yk (n : Nat) (k0 : Q0) (J1 : Q1) : Q1 := (bH (oh ) mm Yt (bH (oh ) mm X0 (fun s => cS OC s J1)))
def OE (n : Nat) (k : mZ) (j1 : lU) (v0 : Int) (v4 : AV) (v5 : Int) (v6 : Int) (h : Heap) : CRes :=
 nfa 2 v4 fun x5 =>
 R0 1 7 x5 v6 fun x6 =>
 iZ h x6 1 false fun x7 =>
 sf h 1 [(.int .i64 0)] [(0, 1, (.int .i64 v5))] fun x8 h9 =>
 sw h9 1 x7 x8 fun x10 h11 =>
 nfa 2 v4 fun x12 =>
 R0 1 7 x12 v6 fun x13 =>
 pl h11 x13 1 x10 fun h14 =>
 ae4 .i64 1 v6 fun x15 =>
 mO .i64 v5 x15 fun x16 =>
 j1 v0 v4 x16 v6 h14
theorem ai3 (hk : my k0 k) (J1 : Q1) (j1 : lU) (h1 : wV J1 j1) : OU (Yk n k0 J1) (OE n k j1) := by
  obtain rfl := fx3 hk
  obtain rfl := fx5 h1
  intro v0 v4 v5 v6 h
  kernel_rfl
def Oz (J1 : Q1) : Q1 := Yk n k0 J1
def AZ (j1 : lU) : Gj := OE n k j1
theorem aiF (hk : my k0 k) (J1 : Q1) (j1 : lU) (h1 : wV J1 j1) : OU (Oz n k0 J1) (AZ n k j1) := ai3 n k0 k hk J1 j1 h1
def Y5 (n : Nat) (k0 : Q0) (J2 : Q1) (J3 : Q1) : Q1 := (bH (oh ) mm YQ (fun s => eM (.t p29) s (bH (oh ) mm YM (fun s => cS OB s J3)) (fun s => cS Yi s J2)))
def Gx (n : Nat) (k : mZ) (j2 : Gj) (j3 : tW) (v0 : Int) (v4 : AV) (v5 : Int) (v6 : Int) (h : Heap) : CRes :=
 ae4 .i64 1 v6 fun x17 =>
 mO .i64 v5 x17 fun x18 =>
 ifB (ltF v0 x18)
 (W5 .i64 v6 1 fun x19 =>
 j3 v0 v4 v5 x19 h)
 (j2 v0 v4 v5 v6 h)
theorem aiU (hk : my k0 k) (J2 : Q1) (j2 : Gj) (h2 : OU J2 j2) (J3 : Q1) (j3 : tW) (h3 : GC J3 j3) : GC (Y5 n k0 J2 J3) (Gx n k j2 j3) := by
  obtain rfl := fx3 hk
  obtain rfl := fx5 h2
  obtain rfl := fx5 h3
  intro v0 v4 v5 v6 h
  kernel_rfl
def Gu (J1 : Q1) (m : Nat) : Q1 := Nat.rec (motive := fun _ => Q1) (fun _ => .err) (fun _ ih => Y5 n k0 (Oz n k0 J1) ih) m
def rt (j1 : lU) (m : Nat) : tW := Nat.rec (motive := fun _ => tW) (fun _ _ _ _ _ => .err) (fun _ ih => Gx n k (AZ n k j1) ih) m
theorem ajs (j1 : lU) (m : Nat) : rt n k j1 (m + 1) = Gx n k (AZ n k j1) (rt n k j1 m) := rfl
theorem aiW (hk : my k0 k) (J1 : Q1) (j1 : lU) (h1 : wV J1 j1) (m : Nat) : GC (Gu n k0 J1 m) (rt n k j1 m) := by
  induction m with
  | zero => intro v0 v4 v5 v6 h; rfl
  | succ m ih => exact aiU n k0 k hk (Oz n k0 J1) (AZ n k j1) (aiF n k0 k hk J1 j1 h1) (Gu n k0 J1 m) (rt n k j1 m) ih
def X2 (n : Nat) (k0 : Q0) (J0 : Q1) (J3 : Q1) : Q1 := (bH (oh ) mm Yh (fun s => eM (.t p19) s (fun s => cS OB s J3) (fun s => cS Y6 s J0)))
def Gm (n : Nat) (k : mZ) (j0 : Gl) (j3 : tW) (v0 : Int) (v4 : AV) (v5 : Int) (v6 : Int) (h : Heap) : CRes :=
 ifB (ltF v5 v0)
 (j3 v0 v4 v5 v6 h)
 (j0 v4 h)
theorem ajh (hk : my k0 k) (J0 : Q1) (j0 : Gl) (h0 : OS J0 j0) (J3 : Q1) (j3 : tW) (h3 : GC J3 j3) : wV (X2 n k0 J0 J3) (Gm n k j0 j3) := by
  obtain rfl := fx3 hk
  obtain rfl := fx2 h0
  obtain rfl := fx5 h3
  intro v0 v4 v5 v6 h
  kernel_rfl
def AW (m : Nat) : Q1 := Nat.rec (motive := fun _ => Q1) (fun _ => .err) (fun _ ih => X2 n k0 (Oh n k0 ) (Gu n k0 ih n)) m
def pB (m : Nat) : lU := Nat.rec (motive := fun _ => lU) (fun _ _ _ _ _ => .err) (fun _ ih => Gm n k (A0 n k ) (rt n k ih n)) m
theorem ai8 (m : Nat) : pB n k (m + 1) = Gm n k (A0 n k ) (rt n k (pB n k m) n) := rfl
theorem ajd (hk : my k0 k) (m : Nat) : wV (AW n k0 m) (pB n k m) := by
  induction m with
  | zero => intro v0 v4 v5 v6 h; rfl
  | succ m ih => exact ajh n k0 k hk (Oh n k0 ) (A0 n k ) (ajf n k0 k hk ) (Gu n k0 (AW n k0 m) n) (rt n k (pB n k m) n) (aiW n k0 k hk (AW n k0 m) (pB n k m) ih n)
def XU (n : Nat) (k0 : Q0) (J1 : Q1) : Q1 := (fun s => eM (.t p12) s (bH (oh ) mm Ys (cO z_buddy_New k0)) (bH (oh ) mm Yx (bH (oh ) mm X5 (fun s => cS OC s J1))))
def ON (n : Nat) (k : mZ) (j1 : lU) (v0 : Int) (v12 : Bool) (h : Heap) : CRes :=
 ifB v12
 (k .nilptr 2 h)
 (DK h (.mp []) fun x0 h1 =>
 BZ [(.bool false), (.int .i64 0), .nilslice, .nilslice, .nilslice, .nilslice, .nilslice, .nilslice, .nilslice, .nilmap] [(0, 1, (.bool true)), (1, 1, (.int .i64 v0)), (9, 1, (.map x0))] fun x2 =>
 Co h1 x2 fun x3 h4 =>
 j1 v0 (.ptr x3 0) 0 6 h4)
theorem aiy (hk : my k0 k) (J1 : Q1) (j1 : lU) (h1 : wV J1 j1) : OW (XU n k0 J1) (ON n k j1) := by
  obtain rfl := fx3 hk
  obtain rfl := fx5 h1
  intro v0 v12 h
  kernel_rfl
def OK : Q1 := XU n k0 (AW n k0 n)
def Gr : Gi := ON n k (pB n k n)
theorem aiR (hk : my k0 k) : OW (OK n k0 ) (Gr n k ) := aiy n k0 k hk (AW n k0 n) (pB n k n) (ajd n k0 k hk n)
def aei (n : Nat) (k0 : Q0) (J4 : Q1) : Q1 := (bH (oh ) mm V3 (bH (oh ) mm YZ (fun s => cS Yb s J4)))
def U0 (n : Nat) (k : mZ) (j4 : Gi) (a0 : Int) (h : Heap) : CRes :=
 ifB (ltF a0 0)
 (j4 a0 true h)
 (j4 a0 (ltF 4096 a0) h)
theorem anN (n : Nat) (k0 : Q0) (k : mZ) (hk : my k0 k) (J4 : Q1) (j4 : Gi) (h4 : OW J4 j4) (a0 : Int) (h : Heap) : (aei n k0 J4) ⟨cP [(p0, (.int .i64 a0))], h⟩ = (U0 n k j4) a0 h := by
  obtain rfl := fx3 hk
  obtain rfl := fx3 h4
  kernel_rfl
def ans : Q1 := aei n k0 (OK n k0 )
def VW (n : Nat) (a0 : Int) (h : Heap) (k : mZ) : CRes := U0 n k (Gr n k ) a0 h
theorem anu (n : Nat) (k0 : Q0) (s : St) : D (ft []) mm n N1 (cO z_buddy_New k0) (fun _ _ => .err) (cO z_buddy_New k0) s = ans n k0 s := by kernel_rfl
theorem amB (n : Nat) (a0 : Int) (h : Heap) (k0 : Q0) : W a_buddy_New z_buddy_New [] mm n N1 [(.int .i64 a0)] h k0 = VW n a0 h (fun u0 u1 h => k0 (.tuple [u0, (.int .i64 u1)]) h) := by
  let k : mZ := fun u0 u1 h => k0 (.tuple [u0, (.int .i64 u1)]) h
  have hk : my k0 k := fun _ _ _ => rfl
  have hb : ∀ F : Tr AV → CRes, iS a_buddy_New [(.int .i64 a0)] .leaf F = F (cP [(p0, (.int .i64 a0))]) := fun F => by kernel_rfl
  exact (nD hb).trans ((anu n k0 _).trans (anN n k0 k hk (OK n k0 ) (Gr n k ) (aiR n k0 k hk ) a0 h))
end
def tP (n : Nat) : mo := VW n
theorem anG {tbl : Tr AFn} (hp : cN tbl) (ht : tbl.get (key tu) = some aer) (n : Nat) : Sound tbl tu (vd (tP n)) := by
  refine Sound.of (dK hp (ps := a_buddy_New) (rs := z_buddy_New) (l := []) (ty := mm) (n := n) (c := N1) ht trivial) fun args H k r H' h => ?_
  unfold vd at h
  obtain ⟨a0, l0, e0, h0⟩ := dT h
  subst e0
  obtain ⟨e9, h9⟩ := db h0
  subst e9
  exact (amB n a0 H k).trans h9
/-! cofferdam/pool.New -/
abbrev dG := AV → Int → Heap → (AV → Int → Heap → CRes) → CRes
abbrev yW := AV → Int → Heap → CRes
def yy (g : dG) : Wr := fun l h k => mr l fun a0 l => qA .i64 l fun a1 l => nC l (g a0 a1 h fun u0 u1 h => k (.tuple [u0, (.int .i64 u1)]) h)
def js (b9 : lu) (aH : dh) (bE : jq) (cu : mo) : eg := ft [(ri, ti b9), (gu, im aH), (nV, pO bE), (tu, vd cu)]
abbrev Ci (k0 : Q0) (k : yW) : Prop := ∀ u0 u1 h, k0 (.tuple [u0, (.int .i64 u1)]) h = k u0 u1 h
abbrev Kj : Type := AV → Heap → CRes
abbrev RG (J : Q1) (j : Kj) : Prop := ∀ v9 h, J ⟨cP [(p9, v9)], h⟩ = j v9 h
abbrev vw : Type := AV → AV → AV → Int → Int → Heap → CRes
abbrev KO (J : Q1) (j : vw) : Prop := ∀ v2 v9 v57 v58 v59 h, J ⟨cP [(p2, v2), (p9, v9), (p57, v57), (p58, (.int .i64 v58)), (p59, (.int .i64 v59))], h⟩ = j v2 v9 v57 v58 v59 h
section
variable (n : Nat) (b9 : lu) (aH : dh) (bE : jq) (cu : mo) (k0 : Q0) (k : yW)
def abR (n : Nat) (b9 : lu) (aH : dh) (bE : jq) (cu : mo) (k0 : Q0) : Q1 := (bH (js b9 aH bE cu) ja aaG (cO z_pool_New k0))
def RT (n : Nat) (b9 : lu) (aH : dh) (bE : jq) (cu : mo) (k : yW) (v9 : AV) (h : Heap) : CRes :=
 k v9 0 h
theorem alg (hk : Ci k0 k) : RG (abR n b9 aH bE cu k0 ) (RT n b9 aH bE cu k ) := by
  obtain rfl := fx3 hk
  intro v9 h
  kernel_rfl
def RC : Q1 := abR n b9 aH bE cu k0
def CY : Kj := RT n b9 aH bE cu k
theorem aly (hk : Ci k0 k) : RG (RC n b9 aH bE cu k0 ) (CY n b9 aH bE cu k ) := alg n b9 aH bE cu k0 k hk
def abH (n : Nat) (b9 : lu) (aH : dh) (bE : jq) (cu : mo) (k0 : Q0) (J0 : Q1) (J1 : Q1) : Q1 := (bH (js b9 aH bE cu) ja Yy (fun s => eM (.t p60) s (bH (js b9 aH bE cu) ja abc (bH (js b9 aH bE cu) ja Z7 (bH (js b9 aH bE cu) ja aat (fun s => eM (.t p73) s (bH (js b9 aH bE cu) ja aaU (cO z_pool_New k0)) (bH (js b9 aH bE cu) ja aaD (bH (js b9 aH bE cu) ja abT (fun s => eM (.t p81) s (bH (js b9 aH bE cu) ja aam (cO z_pool_New k0)) (bH (js b9 aH bE cu) ja abt (bH (js b9 aH bE cu) ja aaj (fun s => cS RQ s J1)))))))))) (fun s => cS abU s J0)))
def KL (n : Nat) (b9 : lu) (aH : dh) (bE : jq) (cu : mo) (k : yW) (j0 : Kj) (j1 : vw) (v2 : AV) (v9 : AV) (v57 : AV) (v58 : Int) (v59 : Int) (h : Heap) : CRes :=
 ifB (ltF v59 v58)
 (DW .i64 1 h v57 v59 fun x42 x43 =>
 mV .i64 0 h v2 fun x44 x45 =>
 mV .i64 1 h v2 fun x46 x47 =>
 bE x45 x47 x43 h fun x48 x49 h50 =>
 ifB (jK (eqF x49 0))
 (k .nilptr x49 h50)
 (cu x48 h50 fun x51 x52 h53 =>
 ifB (jK (eqF x52 0))
 (k .nilptr x52 h53)
 (ac7 11 h53 v9 1 false fun x54 x55 =>
 sf h53 1 [.nilptr] [(0, 1, x51)] fun x56 h57 =>
 sw h57 1 x55 x56 fun x58 h59 =>
 nfst 11 h59 v9 1 x58 fun x60 h61 =>
 mO .i64 v59 1 fun x62 =>
 j1 v2 v9 v57 v58 x62 h61)))
 (j0 v9 h)
theorem ali (hk : Ci k0 k) (J0 : Q1) (j0 : Kj) (h0 : RG J0 j0) (J1 : Q1) (j1 : vw) (h1 : KO J1 j1) : KO (abH n b9 aH bE cu k0 J0 J1) (KL n b9 aH bE cu k j0 j1) := by
  obtain rfl := fx3 hk
  obtain rfl := fx2 h0
  obtain rfl := fx6 h1
  intro v2 v9 v57 v58 v59 h
  kernel_rfl
def KJ (m : Nat) : Q1 := Nat.rec (motive := fun _ => Q1) (fun _ => .err) (fun _ ih => abH n b9 aH bE cu k0 (RC n b9 aH bE cu k0 ) ih) m
def vF (m : Nat) : vw := Nat.rec (motive := fun _ => vw) (fun _ _ _ _ _ _ => .err) (fun _ ih => KL n b9 aH bE cu k (CY n b9 aH bE cu k ) ih) m
theorem al9 (m : Nat) : vF n b9 aH bE cu k (m + 1) = KL n b9 aH bE cu k (CY n b9 aH bE cu k ) (vF n b9 aH bE cu k m) := rfl
theorem ama (hk : Ci k0 k) (m : Nat) : KO (KJ n b9 aH bE cu k0 m) (vF n b9 aH bE cu k m) := by
  induction m with
  | zero => intro v2 v9 v57 v58 v59 h; rfl
  | succ m ih => exact ali n b9 aH bE cu k0 k hk (RC n b9 aH bE cu k0 ) (CY n b9 aH bE cu k ) (aly n b9 aH bE cu k0 k hk ) (KJ n b9 aH bE cu k0 m) (vF n b9 aH bE cu k m) ih
def ahO (n : Nat) (b9 : lu) (aH : dh) (bE : jq) (cu : mo) (k0 : Q0) (J1 : Q1) : Q1 := (bH (js b9 aH bE cu) ja Yz (bH (js b9 aH bE cu) ja Yq (bH (js b9 aH bE cu) ja Y1 (fun s => eM (.t p22) s (bH (js b9 aH bE cu) ja Yd (cO z_pool_New k0)) (bH (js b9 aH bE cu) ja X9 (bH (js b9 aH bE cu) ja Ym (bH (js b9 aH bE cu) ja Ya (bH (js b9 aH bE cu) ja YH (fun s => cS RQ s J1)))))))))
def ZU (n : Nat) (b9 : lu) (aH : dh) (bE : jq) (cu : mo) (k : yW) (j1 : vw) (a0 : AV) (a1 : Int) (h : Heap) : CRes :=
 Co h a0 fun x0 h1 =>
 iZ h1 (.ptr x0 0) 17 true fun x2 =>
 b9 x2 a1 h1 fun x3 x4 h5 =>
 ifB (jK (eqF x4 0))
 (k .nilptr x4 h5)
 (fld 16 h5 (.ptr x0 0) 1 false fun x6 x7 =>
 eld 8 h5 x7 a1 8 true fun x8 x9 =>
 DK h5 (.cells [.nilslice, (.int .i64 0), (.int .i64 0), (.int .i64 0), (.int .i64 0), (.int .i64 0), (.int .i64 0), (.int .i64 0)] true 0) fun x10 h11 =>
 pl h11 (.ptr x10 0) 8 x9 fun h12 =>
 mV .i64 1 h12 (.ptr x0 0) fun x13 x14 =>
 fld 0 h12 (.ptr x10 0) 1 false fun x15 x16 =>
 aH x16 (h12.shut true) fun x17 h18 =>
 mV .i64 1 (h18.back h12.ro) (.ptr x10 0) fun x19 x20 =>
 DK (h18.back h12.ro) (.mp []) fun x21 h22 =>
 BZ [(.int .i64 0), .nilslice, (.int .i64 0), (.int .i64 0), (.int .i64 0), (.int .i64 0), (.int .i64 0), (.int .i64 0), (.int .i64 0), (.int .i64 0), (.int .i64 0), .nilslice, .nilmap, (.int .i64 0), (.int .i64 0), (.int .i64 0), (.int .i64 0), (.int .i64 0), (.int .i64 0), (.int .i64 0)] [(0, 1, (.int .i64 x14)), (1, 1, x17), (2, 1, (.int .i64 x20)), (10, 1, (.int .i64 x3)), (12, 1, (.map x21))] fun x23 =>
 Co h22 x23 fun x24 h25 =>
 mV .i64 2 h25 (.ptr x10 0) fun x26 x27 =>
 mV .i64 3 h25 (.ptr x10 0) fun x28 x29 =>
 mV .i64 4 h25 (.ptr x10 0) fun x30 x31 =>
 mV .i64 5 h25 (.ptr x10 0) fun x32 x33 =>
 mV .i64 6 h25 (.ptr x10 0) fun x34 x35 =>
 BZ [(.int .i64 0), (.int .i64 0), (.int .i64 0), (.int .i64 0), (.int .i64 0), (.int .i64 0), (.int .i64 0)] [(2, 1, (.int .i64 x27)), (3, 1, (.int .i64 x29)), (4, 1, (.int .i64 x31)), (5, 1, (.int .i64 x33)), (6, 1, (.int .i64 x35))] fun x36 =>
 nfst 3 h25 (.ptr x24 0) 7 x36 fun x37 h38 =>
 ac7 1 h38 (.ptr x24 0) 1 false fun x39 x40 =>
 iP x40 fun x41 =>
 j1 (.ptr x0 0) (.ptr x24 0) x40 x41 0 h38)
theorem aor (n : Nat) (b9 : lu) (aH : dh) (bE : jq) (cu : mo) (k0 : Q0) (k : yW) (hk : Ci k0 k) (J1 : Q1) (j1 : vw) (h1 : KO J1 j1) (a0 : AV) (a1 : Int) (h : Heap) : (ahO n b9 aH bE cu k0 J1) ⟨cP [(p0, a0), (p1, (.int .i64 a1))], h⟩ = (ZU n b9 aH bE cu k j1) a0 a1 h := by
  obtain rfl := fx3 hk
  obtain rfl := fx6 h1
  kernel_rfl
def anX : Q1 := ahO n b9 aH bE cu k0 (KJ n b9 aH bE cu k0 n)
def ZJ (n : Nat) (b9 : lu) (aH : dh) (bE : jq) (cu : mo) (a0 : AV) (a1 : Int) (h : Heap) (k : yW) : CRes := ZU n b9 aH bE cu k (vF n b9 aH bE cu k n) a0 a1 h
theorem aoI (n : Nat) (b9 : lu) (aH : dh) (bE : jq) (cu : mo) (k0 : Q0) (s : St) : D (ft [(ri, ti b9), (gu, im aH), (nV, pO bE), (tu, vd cu)]) ja n RP (cO z_pool_New k0) (fun _ _ => .err) (cO z_pool_New k0) s = anX n b9 aH bE cu k0 s := by kernel_rfl
theorem aoe (n : Nat) (b9 : lu) (aH : dh) (bE : jq) (cu : mo) (a0 : AV) (a1 : Int) (h : Heap) (k0 : Q0) : W a_pool_New z_pool_New [(ri, ti b9), (gu, im aH), (nV, pO bE), (tu, vd cu)] ja n RP [a0, (.int .i64 a1)] h k0 = ZJ n b9 aH bE cu a0 a1 h (fun u0 u1 h => k0 (.tuple [u0, (.int .i64 u1)]) h) := by
  let k : yW := fun u0 u1 h => k0 (.tuple [u0, (.int .i64 u1)]) h
  have hk : Ci k0 k := fun _ _ _ => rfl
  have hb : ∀ F : Tr AV → CRes, iS a_pool_New [a0, (.int .i64 a1)] .leaf F = F (cP [(p0, a0), (p1, (.int .i64 a1))]) := fun F => by kernel_rfl
  exact (nD hb).trans ((aoI n b9 aH bE cu k0 _).trans (aor n b9 aH bE cu k0 k hk (KJ n b9 aH bE cu k0 n) (vF n b9 aH bE cu k n) (ama n b9 aH bE cu k0 k hk n) a0 a1 h))
end
def yS (n : Nat) : dG := ZJ n (tf n) (ir n) (nX n) (tP n)
theorem aoO {tbl : Tr AFn} (hp : cN tbl) (ht : tbl.get (key vA) = some agM) (n : Nat) (aiZ : Sound tbl ri (ti (tf n))) (Mo : Sound tbl gu (im (ir n))) (ae0 : Sound tbl nV (pO (nX n))) (al1 : Sound tbl tu (vd (tP n))) : Sound tbl vA (yy (yS n)) := by
  refine Sound.of (dK hp (ps := a_pool_New) (rs := z_pool_New) (l := [(ri, ti (tf n)), (gu, im (ir n)), (nV, pO (nX n)), (tu, vd (tP n))]) (ty := ja) (n := n) (c := RP) ht ⟨aiZ, Mo, ae0, al1, trivial⟩) fun args H k r H' h => ?_
  unfold yy at h
  obtain ⟨a0, l0, e0, h0⟩ := cY h
  subst e0
  obtain ⟨a1, l1, e1, h1⟩ := dT h0
  subst e1
  obtain ⟨e9, h9⟩ := db h1
  subst e9
  exact (aoe n (tf n) (ir n) (nX n) (tP n) a0 a1 H k).trans h9
abbrev cw := AV → Heap → (Bool → Heap → CRes) → CRes
abbrev mU := Bool → Heap → CRes
def dL (g : cw) : Wr := fun l h k => mr l fun a0 l => nC l (g a0 h fun u0 h => k (.bool u0) h)
def AM : eg := ft []
abbrev uq (k0 : Q0) (k : mU) : Prop := ∀ u0 h, k0 (.bool u0) h = k u0 h
abbrev tp : Type := Bool → Heap → CRes
abbrev yM (J : Q1) (j : tp) : Prop := ∀ v11 h, J ⟨cP [(p11, (.bool v11))], h⟩ = j v11 h
section
variable (n : Nat) (k0 : Q0) (k : mU)
def GF (n : Nat) (k0 : Q0) : Q1 := (bH (AM ) pd GU (cO z_pool_Pool__there k0))
def yQ (n : Nat) (k : mU) (v11 : Bool) (h : Heap) : CRes :=
 k v11 h
theorem Wa (hk : uq k0 k) : yM (GF n k0 ) (yQ n k ) := by
  obtain rfl := fx2 hk
  intro v11 h
  kernel_rfl
def yz : Q1 := GF n k0
def tj : tp := yQ n k
theorem Wl (hk : uq k0 k) : yM (yz n k0 ) (tj n k ) := Wa n k0 k hk
def KX (n : Nat) (k0 : Q0) (J0 : Q1) : Q1 := (bH (AM ) pd GG (bH (AM ) pd GP (fun s => cS GZ s J0)))
def B9 (n : Nat) (k : mU) (j0 : tp) (a0 : AV) (h : Heap) : CRes :=
 Xz (.nil .ptr) a0 .nilptr fun x0 =>
 ifB (Vz true x0)
 (ac7 12 h a0 1 false fun x1 x2 =>
 Xz (.nil .mp) x2 .nilmap fun x3 =>
 j0 (Vz true x3) h)
 (j0 false h)
theorem ZH (n : Nat) (k0 : Q0) (k : mU) (hk : uq k0 k) (J0 : Q1) (j0 : tp) (h0 : yM J0 j0) (a0 : AV) (h : Heap) : (KX n k0 J0) ⟨cP [(p0, a0)], h⟩ = (B9 n k j0) a0 h := by
  obtain rfl := fx2 hk
  obtain rfl := fx2 h0
  kernel_rfl
def Zz : Q1 := KX n k0 (yz n k0 )
def BU (n : Nat) (a0 : AV) (h : Heap) (k : mU) : CRes := B9 n k (tj n k ) a0 h
theorem ZK (n : Nat) (k0 : Q0) (s : St) : D (ft []) pd n vy (cO z_pool_Pool__there k0) (fun _ _ => .err) (cO z_pool_Pool__there k0) s = Zz n k0 s := by kernel_rfl
theorem ZI (n : Nat) (a0 : AV) (h : Heap) (k0 : Q0) : W a_pool_Pool__there z_pool_Pool__there [] pd n vy [a0] h k0 = BU n a0 h (fun u0 h => k0 (.bool u0) h) := by
  let k : mU := fun u0 h => k0 (.bool u0) h
  have hk : uq k0 k := fun _ _ => rfl
  have hb : ∀ F : Tr AV → CRes, iS a_pool_Pool__there [a0] .leaf F = F (cP [(p0, a0)]) := fun F => by kernel_rfl
  exact (nD hb).trans ((ZK n k0 _).trans (ZH n k0 k hk (yz n k0 ) (tj n k ) (Wl n k0 k hk ) a0 h))
end
def eB (n : Nat) : cw := BU n
theorem Zi {tbl : Tr AFn} (hp : cN tbl) (ht : tbl.get (key dC) = some Mg) (n : Nat) : Sound tbl dC (dL (eB n)) := by
  refine Sound.of (dK hp (ps := a_pool_Pool__there) (rs := z_pool_Pool__there) (l := []) (ty := pd) (n := n) (c := vy) ht trivial) fun args H k r H' h => ?_
  unfold dL at h
  obtain ⟨a0, l0, e0, h0⟩ := cY h
  subst e0
  obtain ⟨e9, h9⟩ := db h0
  subst e9
  exact (ZI n a0 H k).trans h9
abbrev cA := AV → Heap → (Bool → Heap → CRes) → CRes
abbrev me := Bool → Heap → CRes
def gk (g : cA) : Wr := fun l h k => mr l fun a0 l => nC l (g a0 h fun u0 h => k (.bool u0) h)
def yI : eg := ft []
abbrev tO (k0 : Q0) (k : me) : Prop := ∀ u0 h, k0 (.bool u0) h = k u0 h
abbrev sx : Type := Bool → Heap → CRes
abbrev w6 (J : Q1) (j : sx) : Prop := ∀ v11 h, J ⟨cP [(p11, (.bool v11))], h⟩ = j v11 h
section
variable (n : Nat) (k0 : Q0) (k : me)
def Ey (n : Nat) (k0 : Q0) : Q1 := (bH (yI ) ol Ev (cO z_buddy_Buddy__none k0))
def xd (n : Nat) (k : me) (v11 : Bool) (h : Heap) : CRes :=
 k v11 h
theorem T8 (hk : tO k0 k) : w6 (Ey n k0 ) (xd n k ) := by
  obtain rfl := fx2 hk
  intro v11 h
  kernel_rfl
def wW : Q1 := Ey n k0
def so : sx := xd n k
theorem Uk (hk : tO k0 k) : w6 (wW n k0 ) (so n k ) := T8 n k0 k hk
def Jt (n : Nat) (k0 : Q0) (J0 : Q1) : Q1 := (bH (yI ) ol Es (bH (yI ) ol Ej (fun s => cS EP s J0)))
def AF (n : Nat) (k : me) (j0 : sx) (a0 : AV) (h : Heap) : CRes :=
 Xz (.nil .ptr) a0 .nilptr fun x0 =>
 ifB (Vz false x0)
 (j0 true h)
 (nfldB 0 h a0 fun x1 x2 =>
 j0 (jK x2) h)
theorem W8 (n : Nat) (k0 : Q0) (k : me) (hk : tO k0 k) (J0 : Q1) (j0 : sx) (h0 : w6 J0 j0) (a0 : AV) (h : Heap) : (Jt n k0 J0) ⟨cP [(p0, a0)], h⟩ = (AF n k j0) a0 h := by
  obtain rfl := fx2 hk
  obtain rfl := fx2 h0
  kernel_rfl
def Xd : Q1 := Jt n k0 (wW n k0 )
def Ax (n : Nat) (a0 : AV) (h : Heap) (k : me) : CRes := AF n k (so n k ) a0 h
theorem XG (n : Nat) (k0 : Q0) (s : St) : D (ft []) ol n uz (cO z_buddy_Buddy__none k0) (fun _ _ => .err) (cO z_buddy_Buddy__none k0) s = Xd n k0 s := by kernel_rfl
theorem XH (n : Nat) (a0 : AV) (h : Heap) (k0 : Q0) : W a_buddy_Buddy__none z_buddy_Buddy__none [] ol n uz [a0] h k0 = Ax n a0 h (fun u0 h => k0 (.bool u0) h) := by
  let k : me := fun u0 h => k0 (.bool u0) h
  have hk : tO k0 k := fun _ _ => rfl
  have hb : ∀ F : Tr AV → CRes, iS a_buddy_Buddy__none [a0] .leaf F = F (cP [(p0, a0)]) := fun F => by kernel_rfl
  exact (nD hb).trans ((XG n k0 _).trans (W8 n k0 k hk (wW n k0 ) (so n k ) (Uk n k0 k hk ) a0 h))
end
def gN (n : Nat) : cA := Ax n
theorem Xq {tbl : Tr AFn} (hp : cN tbl) (ht : tbl.get (key eU) = some JA) (n : Nat) : Sound tbl eU (gk (gN n)) := by
  refine Sound.of (dK hp (ps := a_buddy_Buddy__none) (rs := z_buddy_Buddy__none) (l := []) (ty := ol) (n := n) (c := uz) ht trivial) fun args H k r H' h => ?_
  unfold gk at h
  obtain ⟨a0, l0, e0, h0⟩ := cY h
  subst e0
  obtain ⟨e9, h9⟩ := db h0
  subst e9
  exact (XH n a0 H k).trans h9
abbrev cG := AV → Int → Int → Heap → (AV → Heap → CRes) → CRes
abbrev jW := AV → Heap → CRes
def gW (g : cG) : Wr := fun l h k => mr l fun a0 l => qA .i64 l fun a1 l => qA .i64 l fun a2 l => nC l (g a0 a1 a2 h fun u0 h => k u0 h)
def gD : eg := ft []
abbrev ye (k0 : Q0) (k : jW) : Prop := ∀ u0 h, k0 u0 h = k u0 h
section
variable (n : Nat) (k0 : Q0) (k : jW)
def yw (n : Nat) (k0 : Q0) : Q1 := (bH (gD ) ed vL (bH (gD ) ed wc (bH (gD ) ed wC (fun s => eM (.t p16) s (bH (gD ) ed vW (cO z_slices_Delete___int_int_ k0)) (bH (gD ) ed wj (bH (gD ) ed wB (bH (gD ) ed vN (bH (gD ) ed wd (cO z_slices_Delete___int_int_ k0)))))))))
def sa (n : Nat) (k : jW) (a0 : AV) (a1 : Int) (a2 : Int) (h : Heap) : CRes :=
 iP a0 fun x0 =>
 slK (.sl 1) a0 (some (.int .i64 a1)) (some (.int .i64 a2)) (some (.int .i64 x0)) fun x1 =>
 ifB (eqF a1 a2)
 (k a0 h)
 (iP a0 fun x2 =>
 slK (.sl 1) a0 none (some (.int .i64 a1)) none fun x3 =>
 slK (.sl 1) a0 (some (.int .i64 a2)) none none fun x4 =>
 sw h 1 x3 x4 fun x5 h6 =>
 iP x5 fun x7 =>
 slK (.sl 1) x5 (some (.int .i64 x7)) (some (.int .i64 x2)) none fun x8 =>
 akE h6 [(.int .i64 0)] x8 fun h9 =>
 k x5 h9)
theorem Mu (n : Nat) (k0 : Q0) (k : jW) (hk : ye k0 k) (a0 : AV) (a1 : Int) (a2 : Int) (h : Heap) : (yw n k0 ) ⟨cP [(p0, a0), (p1, (.int .i64 a1)), (p2, (.int .i64 a2))], h⟩ = (sa n k ) a0 a1 a2 h := by
  obtain rfl := fx2 hk
  kernel_rfl
def L2 : Q1 := yw n k0
def rR (n : Nat) (a0 : AV) (a1 : Int) (a2 : Int) (h : Heap) (k : jW) : CRes := sa n k a0 a1 a2 h
theorem LZ (n : Nat) (k0 : Q0) (s : St) : D (ft []) ed n nQ (cO z_slices_Delete___int_int_ k0) (fun _ _ => .err) (cO z_slices_Delete___int_int_ k0) s = L2 n k0 s := by kernel_rfl
theorem Lh (n : Nat) (a0 : AV) (a1 : Int) (a2 : Int) (h : Heap) (k0 : Q0) : W a_slices_Delete___int_int_ z_slices_Delete___int_int_ [] ed n nQ [a0, (.int .i64 a1), (.int .i64 a2)] h k0 = rR n a0 a1 a2 h (fun u0 h => k0 u0 h) := by
  let k : jW := fun u0 h => k0 u0 h
  have hk : ye k0 k := fun _ _ => rfl
  have hb : ∀ F : Tr AV → CRes, iS a_slices_Delete___int_int_ [a0, (.int .i64 a1), (.int .i64 a2)] .leaf F = F (cP [(p0, a0), (p1, (.int .i64 a1)), (p2, (.int .i64 a2))]) := fun F => by kernel_rfl
  exact (nD hb).trans ((LZ n k0 _).trans (Mu n k0 k hk a0 a1 a2 h))
end
def eJ (n : Nat) : cG := rR n
theorem LF {tbl : Tr AFn} (hp : cN tbl) (ht : tbl.get (key fS) = some yJ) (n : Nat) : Sound tbl fS (gW (eJ n)) := by
  refine Sound.of (dK hp (ps := a_slices_Delete___int_int_) (rs := z_slices_Delete___int_int_) (l := []) (ty := ed) (n := n) (c := nQ) ht trivial) fun args H k r H' h => ?_
  unfold gW at h
  obtain ⟨a0, l0, e0, h0⟩ := cY h
  subst e0
  obtain ⟨a1, l1, e1, h1⟩ := dT h0
  subst e1
  obtain ⟨a2, l2, e2, h2⟩ := dT h1
  subst e2
  obtain ⟨e9, h9⟩ := db h2
  subst e9
  exact (Lh n a0 a1 a2 H k).trans h9
abbrev ie := Int → Heap → (Bool → Heap → CRes) → CRes
abbrev rG := Bool → Heap → CRes
def na (g : ie) : Wr := fun l h k => qA .i64 l fun a0 l => nC l (g a0 h fun u0 h => k (.bool u0) h)
def Nd : eg := ft []
abbrev Oc (k0 : Q0) (k : rG) : Prop := ∀ u0 h, k0 (.bool u0) h = k u0 h
section
variable (n : Nat) (k0 : Q0) (k : rG)
def Qk (n : Nat) (k0 : Q0) : Q1 := (bH (Nd ) uK MF (bH (Nd ) uK Mh (cO z_cmp_isNaN_int_ k0)))
def FQ (n : Nat) (k : rG) (a0 : Int) (h : Heap) : CRes :=
 k (jK (eqF a0 a0)) h
theorem ab6 (n : Nat) (k0 : Q0) (k : rG) (hk : Oc k0 k) (a0 : Int) (h : Heap) : (Qk n k0 ) ⟨cP [(p0, (.int .i64 a0))], h⟩ = (FQ n k ) a0 h := by
  obtain rfl := fx2 hk
  kernel_rfl
def adO : Q1 := Qk n k0
def FI (n : Nat) (a0 : Int) (h : Heap) (k : rG) : CRes := FQ n k a0 h
theorem adM (n : Nat) (k0 : Q0) (s : St) : D (ft []) uK n zW (cO z_cmp_isNaN_int_ k0) (fun _ _ => .err) (cO z_cmp_isNaN_int_ k0) s = adO n k0 s := by kernel_rfl
theorem adj (n : Nat) (a0 : Int) (h : Heap) (k0 : Q0) : W a_cmp_isNaN_int_ z_cmp_isNaN_int_ [] uK n zW [(.int .i64 a0)] h k0 = FI n a0 h (fun u0 h => k0 (.bool u0) h) := by
  let k : rG := fun u0 h => k0 (.bool u0) h
  have hk : Oc k0 k := fun _ _ => rfl
  have hb : ∀ F : Tr AV → CRes, iS a_cmp_isNaN_int_ [(.int .i64 a0)] .leaf F = F (cP [(p0, (.int .i64 a0))]) := fun F => by kernel_rfl
  exact (nD hb).trans ((adM n k0 _).trans (ab6 n k0 k hk a0 h))
end
def o0 (n : Nat) : ie := FI n
theorem adC {tbl : Tr AFn} (hp : cN tbl) (ht : tbl.get (key lV) = some OY) (n : Nat) : Sound tbl lV (na (o0 n)) := by
  refine Sound.of (dK hp (ps := a_cmp_isNaN_int_) (rs := z_cmp_isNaN_int_) (l := []) (ty := uK) (n := n) (c := zW) ht trivial) fun args H k r H' h => ?_
  unfold na at h
  obtain ⟨a0, l0, e0, h0⟩ := dT h
  subst e0
  obtain ⟨e9, h9⟩ := db h0
  subst e9
  exact (adj n a0 H k).trans h9
abbrev gP := Int → Int → Heap → (Bool → Heap → CRes) → CRes
abbrev oA := Bool → Heap → CRes
def ou (g : gP) : Wr := fun l h k => qA .i64 l fun a0 l => qA .i64 l fun a1 l => nC l (g a0 a1 h fun u0 h => k (.bool u0) h)
def zU (b7 : ie) : eg := ft [(lV, na b7)]
abbrev rB (k0 : Q0) (k : oA) : Prop := ∀ u0 h, k0 (.bool u0) h = k u0 h
abbrev xw : Type := Bool → Heap → CRes
abbrev DQ (J : Q1) (j : xw) : Prop := ∀ v16 h, J ⟨cP [(p16, (.bool v16))], h⟩ = j v16 h
abbrev xp : Type := Int → Int → Bool → Heap → CRes
abbrev DF (J : Q1) (j : xp) : Prop := ∀ v0 v1 v11 h, J ⟨cP [(p0, (.int .i64 v0)), (p1, (.int .i64 v1)), (p11, (.bool v11))], h⟩ = j v0 v1 v11 h
section
variable (n : Nat) (b7 : ie) (k0 : Q0) (k : oA)
def N0 (n : Nat) (b7 : ie) (k0 : Q0) : Q1 := (bH (zU b7) qp NN (cO z_cmp_Less_int_ k0))
def C7 (n : Nat) (b7 : ie) (k : oA) (v16 : Bool) (h : Heap) : CRes :=
 k v16 h
theorem aaX (hk : rB k0 k) : DQ (N0 n b7 k0 ) (C7 n b7 k ) := by
  obtain rfl := fx2 hk
  intro v16 h
  kernel_rfl
def Cv : Q1 := N0 n b7 k0
def xK : xw := C7 n b7 k
theorem abq (hk : rB k0 k) : DQ (Cv n b7 k0 ) (xK n b7 k ) := aaX n b7 k0 k hk
def N6 (n : Nat) (b7 : ie) (k0 : Q0) (J1 : Q1) : Q1 := (bH (zU b7) qp No (fun s => cS NS s J1))
def Dz (n : Nat) (b7 : ie) (k : oA) (j1 : xw) (v0 : Int) (v1 : Int) (v11 : Bool) (h : Heap) : CRes :=
 ifB v11
 (j1 true h)
 (j1 (ltF v0 v1) h)
theorem abF (hk : rB k0 k) (J1 : Q1) (j1 : xw) (h1 : DQ J1 j1) : DF (N6 n b7 k0 J1) (Dz n b7 k j1) := by
  obtain rfl := fx2 hk
  obtain rfl := fx2 h1
  intro v0 v1 v11 h
  kernel_rfl
def Di : Q1 := N6 n b7 k0 (Cv n b7 k0 )
def xB : xp := Dz n b7 k (xK n b7 k )
theorem abx (hk : rB k0 k) : DF (Di n b7 k0 ) (xB n b7 k ) := abF n b7 k0 k hk (Cv n b7 k0 ) (xK n b7 k ) (abq n b7 k0 k hk )
def S3 (n : Nat) (b7 : ie) (k0 : Q0) (J0 : Q1) : Q1 := (bH (zU b7) qp Nt (bH (zU b7) qp NJ (fun s => cS Nc s J0)))
def H8 (n : Nat) (b7 : ie) (k : oA) (j0 : xp) (a0 : Int) (a1 : Int) (h : Heap) : CRes :=
 b7 a0 h fun x0 h1 =>
 ifB x0
 (b7 a1 h1 fun x2 h3 =>
 j0 a0 a1 (jK x2) h3)
 (j0 a0 a1 false h1)
theorem afy (n : Nat) (b7 : ie) (k0 : Q0) (k : oA) (hk : rB k0 k) (J0 : Q1) (j0 : xp) (h0 : DF J0 j0) (a0 : Int) (a1 : Int) (h : Heap) : (S3 n b7 k0 J0) ⟨cP [(p0, (.int .i64 a0)), (p1, (.int .i64 a1))], h⟩ = (H8 n b7 k j0) a0 a1 h := by
  obtain rfl := fx2 hk
  obtain rfl := fx4 h0
  kernel_rfl
def afQ : Q1 := S3 n b7 k0 (Di n b7 k0 )
def HK (n : Nat) (b7 : ie) (a0 : Int) (a1 : Int) (h : Heap) (k : oA) : CRes := H8 n b7 k (xB n b7 k ) a0 a1 h
theorem aeZ (n : Nat) (b7 : ie) (k0 : Q0) (s : St) : D (ft [(lV, na b7)]) qp n Bq (cO z_cmp_Less_int_ k0) (fun _ _ => .err) (cO z_cmp_Less_int_ k0) s = afQ n b7 k0 s := by kernel_rfl
theorem afO (n : Nat) (b7 : ie) (a0 : Int) (a1 : Int) (h : Heap) (k0 : Q0) : W a_cmp_Less_int_ z_cmp_Less_int_ [(lV, na b7)] qp n Bq [(.int .i64 a0), (.int .i64 a1)] h k0 = HK n b7 a0 a1 h (fun u0 h => k0 (.bool u0) h) := by
  let k : oA := fun u0 h => k0 (.bool u0) h
  have hk : rB k0 k := fun _ _ => rfl
  have hb : ∀ F : Tr AV → CRes, iS a_cmp_Less_int_ [(.int .i64 a0), (.int .i64 a1)] .leaf F = F (cP [(p0, (.int .i64 a0)), (p1, (.int .i64 a1))]) := fun F => by kernel_rfl
  exact (nD hb).trans ((aeZ n b7 k0 _).trans (afy n b7 k0 k hk (Di n b7 k0 ) (xB n b7 k ) (abx n b7 k0 k hk ) a0 a1 h))
end
def mG (n : Nat) : gP := HK n (o0 n)
theorem afW {tbl : Tr AFn} (hp : cN tbl) (ht : tbl.get (key mJ) = some Ti) (n : Nat) (abK : Sound tbl lV (na (o0 n))) : Sound tbl mJ (ou (mG n)) := by
  refine Sound.of (dK hp (ps := a_cmp_Less_int_) (rs := z_cmp_Less_int_) (l := [(lV, na (o0 n))]) (ty := qp) (n := n) (c := Bq) ht ⟨abK, trivial⟩) fun args H k r H' h => ?_
  unfold ou at h
  obtain ⟨a0, l0, e0, h0⟩ := dT h
  subst e0
  obtain ⟨a1, l1, e1, h1⟩ := dT h0
  subst e1
  obtain ⟨e9, h9⟩ := db h1
  subst e9
  exact (afO n (o0 n) a0 a1 H k).trans h9
abbrev d9 := Int → Heap → (Bool → Heap → CRes) → CRes
abbrev oo := Bool → Heap → CRes
def kX (g : d9) : Wr := fun l h k => qA .i64 l fun a0 l => nC l (g a0 h fun u0 h => k (.bool u0) h)
def Hv : eg := ft []
abbrev Hc (k0 : Q0) (k : oo) : Prop := ∀ u0 h, k0 (.bool u0) h = k u0 h
section
variable (n : Nat) (k0 : Q0) (k : oo)
def JI (n : Nat) (k0 : Q0) : Q1 := (bH (Hv ) qw EM (bH (Hv ) qw El (cO z_slices_isNaN_int_ k0)))
def AI (n : Nat) (k : oo) (a0 : Int) (h : Heap) : CRes :=
 k (jK (eqF a0 a0)) h
theorem Xm (n : Nat) (k0 : Q0) (k : oo) (hk : Hc k0 k) (a0 : Int) (h : Heap) : (JI n k0 ) ⟨cP [(p0, (.int .i64 a0))], h⟩ = (AI n k ) a0 h := by
  obtain rfl := fx2 hk
  kernel_rfl
def Xw : Q1 := JI n k0
def Au (n : Nat) (a0 : Int) (h : Heap) (k : oo) : CRes := AI n k a0 h
theorem XO (n : Nat) (k0 : Q0) (s : St) : D (ft []) qw n uw (cO z_slices_isNaN_int_ k0) (fun _ _ => .err) (cO z_slices_isNaN_int_ k0) s = Xw n k0 s := by kernel_rfl
theorem XM (n : Nat) (a0 : Int) (h : Heap) (k0 : Q0) : W a_slices_isNaN_int_ z_slices_isNaN_int_ [] qw n uw [(.int .i64 a0)] h k0 = Au n a0 h (fun u0 h => k0 (.bool u0) h) := by
  let k : oo := fun u0 h => k0 (.bool u0) h
  have hk : Hc k0 k := fun _ _ => rfl
  have hb : ∀ F : Tr AV → CRes, iS a_slices_isNaN_int_ [(.int .i64 a0)] .leaf F = F (cP [(p0, (.int .i64 a0))]) := fun F => by kernel_rfl
  exact (nD hb).trans ((XO n k0 _).trans (Xm n k0 k hk a0 h))
end
def jO (n : Nat) : d9 := Au n
theorem Xp {tbl : Tr AFn} (hp : cN tbl) (ht : tbl.get (key jM) = some I4) (n : Nat) : Sound tbl jM (kX (jO n)) := by
  refine Sound.of (dK hp (ps := a_slices_isNaN_int_) (rs := z_slices_isNaN_int_) (l := []) (ty := qw) (n := n) (c := uw) ht trivial) fun args H k r H' h => ?_
  unfold kX at h
  obtain ⟨a0, l0, e0, h0⟩ := dT h
  subst e0
  obtain ⟨e9, h9⟩ := db h0
  subst e9
  exact (XM n a0 H k).trans h9
abbrev dn := AV → Int → Heap → (Int → Bool → Heap → CRes) → CRes
abbrev dU := Int → Bool → Heap → CRes
def eI (g : dn) : Wr := fun l h k => mr l fun a0 l => qA .i64 l fun a1 l => nC l (g a0 a1 h fun u0 u1 h => k (.tuple [(.int .i64 u0), (.bool u1)]) h)
def dk (br : gP) (aK : d9) : eg := ft [(mJ, ou br), (jM, kX aK)]
abbrev en (k0 : Q0) (k : dU) : Prop := ∀ u0 u1 h, k0 (.tuple [(.int .i64 u0), (.bool u1)]) h = k u0 u1 h
abbrev kF : Type := Int → Bool → Heap → CRes
abbrev mR (J : Q1) (j : kF) : Prop := ∀ v31 v53 h, J ⟨cP [(p31, (.int .i64 v31)), (p53, (.bool v53))], h⟩ = j v31 v53 h
abbrev kH : Type := AV → Int → Int → Int → Heap → CRes
abbrev mS (J : Q1) (j : kH) : Prop := ∀ v0 v1 v6 v7 h, J ⟨cP [(p0, v0), (p1, (.int .i64 v1)), (p6, (.int .i64 v6)), (p7, (.int .i64 v7))], h⟩ = j v0 v1 v6 v7 h
abbrev eR : Type := AV → Int → Int → Int → Int → Heap → CRes
abbrev kq (J : Q1) (j : eR) : Prop := ∀ v0 v1 v6 v7 v8 h, J ⟨cP [(p0, v0), (p1, (.int .i64 v1)), (p6, (.int .i64 v6)), (p7, (.int .i64 v7)), (p8, (.int .i64 v8))], h⟩ = j v0 v1 v6 v7 v8 h
section
variable (n : Nat) (br : gP) (aK : d9) (k0 : Q0) (k : dU)
def r9 (n : Nat) (br : gP) (aK : d9) (k0 : Q0) : Q1 := (bH (dk br aK) cV rW (cO z_slices_BinarySearch___int_int_ k0))
def mP (n : Nat) (br : gP) (aK : d9) (k : dU) (v31 : Int) (v53 : Bool) (h : Heap) : CRes :=
 k v31 v53 h
theorem B3 (hk : en k0 k) : mR (r9 n br aK k0 ) (mP n br aK k ) := by
  obtain rfl := fx3 hk
  intro v31 v53 h
  kernel_rfl
def mQ : Q1 := r9 n br aK k0
def kx : kF := mP n br aK k
theorem B0 (hk : en k0 k) : mR (mQ n br aK k0 ) (kx n br aK k ) := B3 n br aK k0 k hk
def sc (n : Nat) (br : gP) (aK : d9) (k0 : Q0) (J0 : Q1) : Q1 := (bH (dk br aK) cV rV (fun s => cS sh s J0))
def mT (n : Nat) (br : gP) (aK : d9) (k : dU) (j0 : kF) (v0 : AV) (v1 : Int) (v6 : Int) (v7 : Int) (h : Heap) : CRes :=
 ifB (ltF v7 v6)
 (DW .i64 1 h v0 v7 fun x1 x2 =>
 ifB (eqF x2 v1)
 (j0 v7 true h)
 (DW .i64 1 h v0 v7 fun x3 x4 =>
 aK x4 h fun x5 h6 =>
 ifB x5
 (aK v1 h6 fun x7 h8 =>
 j0 v7 x7 h8)
 (j0 v7 false h6)))
 (j0 v7 false h)
theorem B5 (hk : en k0 k) (J0 : Q1) (j0 : kF) (h0 : mR J0 j0) : mS (sc n br aK k0 J0) (mT n br aK k j0) := by
  obtain rfl := fx3 hk
  obtain rfl := fx3 h0
  intro v0 v1 v6 v7 h
  kernel_rfl
def mN : Q1 := sc n br aK k0 (mQ n br aK k0 )
def iU : kH := mT n br aK k (kx n br aK k )
theorem B6 (hk : en k0 k) : mS (mN n br aK k0 ) (iU n br aK k ) := B5 n br aK k0 k hk (mQ n br aK k0 ) (kx n br aK k ) (B0 n br aK k0 k hk )
def rN (n : Nat) (br : gP) (aK : d9) (k0 : Q0) (J1 : Q1) (J2 : Q1) : Q1 := (bH (dk br aK) cV rQ (fun s => eM (.t p15) s (bH (dk br aK) cV rL (bH (dk br aK) cV rK (fun s => eM (.t p27) s (bH (dk br aK) cV rS (fun s => cS kz s J2)) (bH (dk br aK) cV se (fun s => cS kz s J2))))) (fun s => cS rU s J1)))
def kp (n : Nat) (br : gP) (aK : d9) (k : dU) (j1 : kH) (j2 : eR) (v0 : AV) (v1 : Int) (v6 : Int) (v7 : Int) (v8 : Int) (h : Heap) : CRes :=
 ifB (ltF v7 v8)
 (mO .i64 v7 v8 fun x9 =>
 A5 .u64 x9 fun x10 =>
 shrK .u64 x10 1 fun x11 =>
 A5 .i64 x11 fun x12 =>
 DW .i64 1 h v0 x12 fun x13 x14 =>
 br x14 v1 h fun x15 h16 =>
 ifB x15
 (mO .i64 x12 1 fun x17 =>
 j2 v0 v1 v6 x17 v8 h16)
 (j2 v0 v1 v6 v7 x12 h16))
 (j1 v0 v1 v6 v7 h)
theorem BV (hk : en k0 k) (J1 : Q1) (j1 : kH) (h1 : mS J1 j1) (J2 : Q1) (j2 : eR) (h2 : kq J2 j2) : kq (rN n br aK k0 J1 J2) (kp n br aK k j1 j2) := by
  obtain rfl := fx3 hk
  obtain rfl := fx5 h1
  obtain rfl := fx6 h2
  intro v0 v1 v6 v7 v8 h
  kernel_rfl
def kG (m : Nat) : Q1 := Nat.rec (motive := fun _ => Q1) (fun _ => .err) (fun _ ih => rN n br aK k0 (mN n br aK k0 ) ih) m
def eQ (m : Nat) : eR := Nat.rec (motive := fun _ => eR) (fun _ _ _ _ _ _ => .err) (fun _ ih => kp n br aK k (iU n br aK k ) ih) m
theorem Ca (m : Nat) : eQ n br aK k (m + 1) = kp n br aK k (iU n br aK k ) (eQ n br aK k m) := rfl
theorem BR (hk : en k0 k) (m : Nat) : kq (kG n br aK k0 m) (eQ n br aK k m) := by
  induction m with
  | zero => intro v0 v1 v6 v7 v8 h; rfl
  | succ m ih => exact BV n br aK k0 k hk (mN n br aK k0 ) (iU n br aK k ) (B6 n br aK k0 k hk ) (kG n br aK k0 m) (eQ n br aK k m) ih
def tc (n : Nat) (br : gP) (aK : d9) (k0 : Q0) (J2 : Q1) : Q1 := (bH (dk br aK) cV rJ (bH (dk br aK) cV rP (bH (dk br aK) cV rZ (fun s => cS kz s J2))))
def oi (n : Nat) (br : gP) (aK : d9) (k : dU) (j2 : eR) (a0 : AV) (a1 : Int) (h : Heap) : CRes :=
 iP a0 fun x0 =>
 j2 a0 a1 x0 0 x0 h
theorem Dp (n : Nat) (br : gP) (aK : d9) (k0 : Q0) (k : dU) (hk : en k0 k) (J2 : Q1) (j2 : eR) (h2 : kq J2 j2) (a0 : AV) (a1 : Int) (h : Heap) : (tc n br aK k0 J2) ⟨cP [(p0, a0), (p1, (.int .i64 a1))], h⟩ = (oi n br aK k j2) a0 a1 h := by
  obtain rfl := fx3 hk
  obtain rfl := fx6 h2
  kernel_rfl
def CZ : Q1 := tc n br aK k0 (kG n br aK k0 n)
def n0 (n : Nat) (br : gP) (aK : d9) (a0 : AV) (a1 : Int) (h : Heap) (k : dU) : CRes := oi n br aK k (eQ n br aK k n) a0 a1 h
theorem CG (n : Nat) (br : gP) (aK : d9) (k0 : Q0) (s : St) : D (ft [(mJ, ou br), (jM, kX aK)]) cV n ly (cO z_slices_BinarySearch___int_int_ k0) (fun _ _ => .err) (cO z_slices_BinarySearch___int_int_ k0) s = CZ n br aK k0 s := by kernel_rfl
theorem CF (n : Nat) (br : gP) (aK : d9) (a0 : AV) (a1 : Int) (h : Heap) (k0 : Q0) : W a_slices_BinarySearch___int_int_ z_slices_BinarySearch___int_int_ [(mJ, ou br), (jM, kX aK)] cV n ly [a0, (.int .i64 a1)] h k0 = n0 n br aK a0 a1 h (fun u0 u1 h => k0 (.tuple [(.int .i64 u0), (.bool u1)]) h) := by
  let k : dU := fun u0 u1 h => k0 (.tuple [(.int .i64 u0), (.bool u1)]) h
  have hk : en k0 k := fun _ _ _ => rfl
  have hb : ∀ F : Tr AV → CRes, iS a_slices_BinarySearch___int_int_ [a0, (.int .i64 a1)] .leaf F = F (cP [(p0, a0), (p1, (.int .i64 a1))]) := fun F => by kernel_rfl
  exact (nD hb).trans ((CG n br aK k0 _).trans (Dp n br aK k0 k hk (kG n br aK k0 n) (eQ n br aK k n) (BR n br aK k0 k hk n) a0 a1 h))
end
def eE (n : Nat) : dn := n0 n (mG n) (jO n)
theorem CU {tbl : Tr AFn} (hp : cN tbl) (ht : tbl.get (key dN) = some s9) (n : Nat) (adT : Sound tbl mJ (ou (mG n))) (V1 : Sound tbl jM (kX (jO n))) : Sound tbl dN (eI (eE n)) := by
  refine Sound.of (dK hp (ps := a_slices_BinarySearch___int_int_) (rs := z_slices_BinarySearch___int_int_) (l := [(mJ, ou (mG n)), (jM, kX (jO n))]) (ty := cV) (n := n) (c := ly) ht ⟨adT, V1, trivial⟩) fun args H k r H' h => ?_
  unfold eI at h
  obtain ⟨a0, l0, e0, h0⟩ := cY h
  subst e0
  obtain ⟨a1, l1, e1, h1⟩ := dT h0
  subst e1
  obtain ⟨e9, h9⟩ := db h1
  subst e9
  exact (CF n (mG n) (jO n) a0 a1 H k).trans h9
abbrev da := AV → Int → Int → Heap → (Heap → CRes) → CRes
abbrev pk := Heap → CRes
def lO (g : da) : Wr := fun l h k => mr l fun a0 l => qA .i64 l fun a1 l => qA .i64 l fun a2 l => nC l (g a0 a1 a2 h fun h => k (.tuple []) h)
def Jz (ct : dn) (cK : Wr) : eg := ft [(dN, eI ct), (jU, cK)]
abbrev JC (k0 : Q0) (k : pk) : Prop := ∀ h, k0 (.tuple []) h = k h
section
variable (n : Nat) (ct : dn) (cK : Wr) (k0 : Q0) (k : pk)
def K9 (n : Nat) (ct : dn) (cK : Wr) (k0 : Q0) : Q1 := (bH (Jz ct cK) sd Ht (bH (Jz ct cK) sd G5 (cO z_buddy_Buddy__put k0)))
def B8 (n : Nat) (ct : dn) (cK : Wr) (k : pk) (a0 : AV) (a1 : Int) (a2 : Int) (h : Heap) : CRes :=
 nfa 2 a0 fun x0 =>
 R0 1 7 x0 a2 fun x1 =>
 iZ h x1 1 false fun x2 =>
 ct x2 a1 h fun x3 x4 h5 =>
 nfa 2 a0 fun x6 =>
 R0 1 7 x6 a2 fun x7 =>
 iZ h5 x7 1 false fun x8 =>
 sf h5 1 [(.int .i64 0)] [(0, 1, (.int .i64 a1))] fun x9 h10 =>
 cK [x8, (.int .i64 x3), x9] h10 fun x11 h12 =>
 nfa 2 a0 fun x13 =>
 R0 1 7 x13 a2 fun x14 =>
 pl h12 x14 1 x11 fun h15 =>
 k h15
theorem ZL (n : Nat) (ct : dn) (cK : Wr) (k0 : Q0) (k : pk) (hk : JC k0 k) (a0 : AV) (a1 : Int) (a2 : Int) (h : Heap) : (K9 n ct cK k0 ) ⟨cP [(p0, a0), (p1, (.int .i64 a1)), (p2, (.int .i64 a2))], h⟩ = (B8 n ct cK k ) a0 a1 a2 h := by
  obtain rfl := fx1 hk
  kernel_rfl
def Zr : Q1 := K9 n ct cK k0
def B7 (n : Nat) (ct : dn) (cK : Wr) (a0 : AV) (a1 : Int) (a2 : Int) (h : Heap) (k : pk) : CRes := B8 n ct cK k a0 a1 a2 h
theorem ZP (n : Nat) (ct : dn) (cK : Wr) (k0 : Q0) (s : St) : D (ft [(dN, eI ct), (jU, cK)]) sd n vx (cO z_buddy_Buddy__put k0) (fun _ _ => .err) (cO z_buddy_Buddy__put k0) s = Zr n ct cK k0 s := by kernel_rfl
theorem Zl (n : Nat) (ct : dn) (cK : Wr) (a0 : AV) (a1 : Int) (a2 : Int) (h : Heap) (k0 : Q0) : W a_buddy_Buddy__put z_buddy_Buddy__put [(dN, eI ct), (jU, cK)] sd n vx [a0, (.int .i64 a1), (.int .i64 a2)] h k0 = B7 n ct cK a0 a1 a2 h (fun h => k0 (.tuple []) h) := by
  let k : pk := fun h => k0 (.tuple []) h
  have hk : JC k0 k := fun _ => rfl
  have hb : ∀ F : Tr AV → CRes, iS a_buddy_Buddy__put [a0, (.int .i64 a1), (.int .i64 a2)] .leaf F = F (cP [(p0, a0), (p1, (.int .i64 a1)), (p2, (.int .i64 a2))]) := fun F => by kernel_rfl
  exact (nD hb).trans ((ZP n ct cK k0 _).trans (ZL n ct cK k0 k hk a0 a1 a2 h))
end
def jy (n : Nat) : da := B7 n (eE n) (JB lP)
theorem ZN {tbl : Tr AFn} (hp : cN tbl) (ht : tbl.get (key kD) = some MC) (n : Nat) (Cn : Sound tbl dN (eI (eE n))) (KB : Sound tbl jU (JB lP)) : Sound tbl kD (lO (jy n)) := by
  refine Sound.of (dK hp (ps := a_buddy_Buddy__put) (rs := z_buddy_Buddy__put) (l := [(dN, eI (eE n)), (jU, JB lP)]) (ty := sd) (n := n) (c := vx) ht ⟨Cn, KB, trivial⟩) fun args H k r H' h => ?_
  unfold lO at h
  obtain ⟨a0, l0, e0, h0⟩ := cY h
  subst e0
  obtain ⟨a1, l1, e1, h1⟩ := dT h0
  subst e1
  obtain ⟨a2, l2, e2, h2⟩ := dT h1
  subst e2
  obtain ⟨e9, h9⟩ := db h2
  subst e9
  exact (Zl n (eE n) (JB lP) a0 a1 a2 H k).trans h9
abbrev eT := AV → Int → Heap → (Int → Int → Heap → CRes) → CRes
abbrev gO := Int → Int → Heap → CRes
def kV (g : eT) : Wr := fun l h k => mr l fun a0 l => qA .i64 l fun a1 l => nC l (g a0 a1 h fun u0 u1 h => k (.tuple [(.int .i64 u0), (.int .i64 u1)]) h)
def dj (ak : cA) (am : cG) (az : da) : eg := ft [(eU, gk ak), (fS, gW am), (kD, lO az)]
abbrev eD (k0 : Q0) (k : gO) : Prop := ∀ u0 u1 h, k0 (.tuple [(.int .i64 u0), (.int .i64 u1)]) h = k u0 u1 h
abbrev sD : Type := AV → Int → Int → Heap → CRes
abbrev xh (J : Q1) (j : sD) : Prop := ∀ v0 v1 v7 h, J ⟨cP [(p0, v0), (p1, (.int .i64 v1)), (p7, (.int .i64 v7))], h⟩ = j v0 v1 v7 h
abbrev la : Type := AV → Int → Int → Int → Heap → CRes
abbrev sm (J : Q1) (j : la) : Prop := ∀ v0 v1 v6 v7 h, J ⟨cP [(p0, v0), (p1, (.int .i64 v1)), (p6, (.int .i64 v6)), (p7, (.int .i64 v7))], h⟩ = j v0 v1 v6 v7 h
abbrev si : Type := AV → Int → Int → Heap → CRes
abbrev xa (J : Q1) (j : si) : Prop := ∀ v0 v1 v6 h, J ⟨cP [(p0, v0), (p1, (.int .i64 v1)), (p6, (.int .i64 v6))], h⟩ = j v0 v1 v6 h
abbrev st : Type := AV → Int → Int → Bool → Heap → CRes
abbrev w3 (J : Q1) (j : st) : Prop := ∀ v0 v1 v6 v30 h, J ⟨cP [(p0, v0), (p1, (.int .i64 v1)), (p6, (.int .i64 v6)), (p30, (.bool v30))], h⟩ = j v0 v1 v6 v30 h
abbrev iV : Type := AV → Int → Int → Heap → CRes
abbrev oX (J : Q1) (j : iV) : Prop := ∀ v0 v1 v6 h, J ⟨cP [(p0, v0), (p1, (.int .i64 v1)), (p6, (.int .i64 v6))], h⟩ = j v0 v1 v6 h
abbrev sB : Type := AV → Int → Bool → Heap → CRes
abbrev w5 (J : Q1) (j : sB) : Prop := ∀ v0 v1 v17 h, J ⟨cP [(p0, v0), (p1, (.int .i64 v1)), (p17, (.bool v17))], h⟩ = j v0 v1 v17 h
section
variable (n : Nat) (ak : cA) (am : cG) (az : da) (k0 : Q0) (k : gO)
def D6 (n : Nat) (ak : cA) (am : cG) (az : da) (k0 : Q0) : Q1 := (bH (dj ak am az) c0 EE (bH (dj ak am az) c0 EC (cO z_buddy_Buddy__Take k0)))
def w8 (n : Nat) (ak : cA) (am : cG) (az : da) (k : gO) (v0 : AV) (v1 : Int) (v7 : Int) (h : Heap) : CRes :=
 ac7 9 h v0 1 false fun x19 x20 =>
 abm h (.cell .int) x20 (.int .i64 v7) (.int .i64 v1) fun h21 =>
 k v7 0 h21
theorem T7 (hk : eD k0 k) : xh (D6 n ak am az k0 ) (w8 n ak am az k ) := by
  obtain rfl := fx3 hk
  intro v0 v1 v7 h
  kernel_rfl
def xb : Q1 := D6 n ak am az k0
def oU : sD := w8 n ak am az k
theorem Un (hk : eD k0 k) : xh (xb n ak am az k0 ) (oU n ak am az k ) := T7 n ak am az k0 k hk
def Ec (n : Nat) (ak : cA) (am : cG) (az : da) (k0 : Q0) (J0 : Q1) (J1 : Q1) : Q1 := (bH (dj ak am az) c0 EJ (fun s => eM (.t p57) s (bH (dj ak am az) c0 EF (bH (dj ak am az) c0 D7 (fun s => cS w4 s J1))) (fun s => cS ED s J0)))
def sy (n : Nat) (ak : cA) (am : cG) (az : da) (k : gO) (j0 : sD) (j1 : la) (v0 : AV) (v1 : Int) (v6 : Int) (v7 : Int) (h : Heap) : CRes :=
 ifB (ltF v1 v6)
 (W5 .i64 v6 1 fun x22 =>
 ae4 .i64 1 x22 fun x23 =>
 mO .i64 v7 x23 fun x24 =>
 az v0 x24 x22 h fun h25 =>
 j1 v0 v1 x22 v7 h25)
 (j0 v0 v1 v7 h)
theorem Uq (hk : eD k0 k) (J0 : Q1) (j0 : sD) (h0 : xh J0 j0) (J1 : Q1) (j1 : la) (h1 : sm J1 j1) : sm (Ec n ak am az k0 J0 J1) (sy n ak am az k j0 j1) := by
  obtain rfl := fx3 hk
  obtain rfl := fx4 h0
  obtain rfl := fx5 h1
  intro v0 v1 v6 v7 h
  kernel_rfl
def ss (m : Nat) : Q1 := Nat.rec (motive := fun _ => Q1) (fun _ => .err) (fun _ ih => Ec n ak am az k0 (xb n ak am az k0 ) ih) m
def lb (m : Nat) : la := Nat.rec (motive := fun _ => la) (fun _ _ _ _ _ => .err) (fun _ ih => sy n ak am az k (oU n ak am az k ) ih) m
theorem Uc (m : Nat) : lb n ak am az k (m + 1) = sy n ak am az k (oU n ak am az k ) (lb n ak am az k m) := rfl
theorem T9 (hk : eD k0 k) (m : Nat) : sm (ss n ak am az k0 m) (lb n ak am az k m) := by
  induction m with
  | zero => intro v0 v1 v6 v7 h; rfl
  | succ m ih => exact Uq n ak am az k0 k hk (xb n ak am az k0 ) (oU n ak am az k ) (Un n ak am az k0 k hk ) (ss n ak am az k0 m) (lb n ak am az k m) ih
def ES (n : Nat) (ak : cA) (am : cG) (az : da) (k0 : Q0) (J1 : Q1) : Q1 := (bH (dj ak am az) c0 D9 (fun s => eM (.t p34) s (bH (dj ak am az) c0 EA (cO z_buddy_Buddy__Take k0)) (bH (dj ak am az) c0 Eo (bH (dj ak am az) c0 Er (fun s => cS w4 s J1)))))
def w9 (n : Nat) (ak : cA) (am : cG) (az : da) (k : gO) (j1 : la) (v0 : AV) (v1 : Int) (v6 : Int) (h : Heap) : CRes :=
 ifB (ltF 6 v6)
 (k 0 90 h)
 (nfa 2 v0 fun x2 =>
 R0 1 7 x2 v6 fun x3 =>
 iZ h x3 1 false fun x4 =>
 DW .i64 1 h x4 0 fun x5 x6 =>
 nfa 2 v0 fun x7 =>
 R0 1 7 x7 v6 fun x8 =>
 iZ h x8 1 false fun x9 =>
 am x9 0 1 h fun x10 h11 =>
 nfa 2 v0 fun x12 =>
 R0 1 7 x12 v6 fun x13 =>
 pl h11 x13 1 x10 fun h14 =>
 j1 v0 v1 v6 x6 h14)
theorem Ua (hk : eD k0 k) (J1 : Q1) (j1 : la) (h1 : sm J1 j1) : xa (ES n ak am az k0 J1) (w9 n ak am az k j1) := by
  obtain rfl := fx3 hk
  obtain rfl := fx5 h1
  intro v0 v1 v6 h
  kernel_rfl
def xe : Q1 := ES n ak am az k0 (ss n ak am az k0 n)
def sj : si := w9 n ak am az k (lb n ak am az k n)
theorem Uh (hk : eD k0 k) : xa (xe n ak am az k0 ) (sj n ak am az k ) := Ua n ak am az k0 k hk (ss n ak am az k0 n) (lb n ak am az k n) (T9 n ak am az k0 k hk n)
def EN (n : Nat) (ak : cA) (am : cG) (az : da) (k0 : Q0) (J2 : Q1) (J3 : Q1) : Q1 := (fun s => eM (.t p30) s (bH (dj ak am az) c0 EB (fun s => cS wY s J3)) (fun s => cS EO s J2))
def xc (n : Nat) (ak : cA) (am : cG) (az : da) (k : gO) (j2 : si) (j3 : iV) (v0 : AV) (v1 : Int) (v6 : Int) (v30 : Bool) (h : Heap) : CRes :=
 ifB v30
 (mO .i64 v6 1 fun x26 =>
 j3 v0 v1 x26 h)
 (j2 v0 v1 v6 h)
theorem Up (hk : eD k0 k) (J2 : Q1) (j2 : si) (h2 : xa J2 j2) (J3 : Q1) (j3 : iV) (h3 : oX J3 j3) : w3 (EN n ak am az k0 J2 J3) (xc n ak am az k j2 j3) := by
  obtain rfl := fx3 hk
  obtain rfl := fx4 h2
  obtain rfl := fx4 h3
  intro v0 v1 v6 v30 h
  kernel_rfl
def xi (J3 : Q1) : Q1 := EN n ak am az k0 (xe n ak am az k0 ) J3
def oT (j3 : iV) : st := xc n ak am az k (sj n ak am az k ) j3
theorem Uj (hk : eD k0 k) (J3 : Q1) (j3 : iV) (h3 : oX J3 j3) : w3 (xi n ak am az k0 J3) (oT n ak am az k j3) := Up n ak am az k0 k hk (xe n ak am az k0 ) (sj n ak am az k ) (Uh n ak am az k0 k hk ) J3 j3 h3
def Ek (n : Nat) (ak : cA) (am : cG) (az : da) (k0 : Q0) (J4 : Q1) : Q1 := (bH (dj ak am az) c0 Ds (fun s => cS En s J4))
def sq (n : Nat) (ak : cA) (am : cG) (az : da) (k : gO) (j4 : st) (v0 : AV) (v1 : Int) (v6 : Int) (h : Heap) : CRes :=
 ifB (jK (ltF 6 v6))
 (nfa 2 v0 fun x15 =>
 R0 1 7 x15 v6 fun x16 =>
 iZ h x16 1 false fun x17 =>
 iP x17 fun x18 =>
 j4 v0 v1 v6 (eqF x18 0) h)
 (j4 v0 v1 v6 false h)
theorem Ue (hk : eD k0 k) (J4 : Q1) (j4 : st) (h4 : w3 J4 j4) : oX (Ek n ak am az k0 J4) (sq n ak am az k j4) := by
  obtain rfl := fx3 hk
  obtain rfl := fx5 h4
  intro v0 v1 v6 h
  kernel_rfl
def oY (m : Nat) : Q1 := Nat.rec (motive := fun _ => Q1) (fun _ => .err) (fun _ ih => Ek n ak am az k0 (xi n ak am az k0 ih)) m
def jL (m : Nat) : iV := Nat.rec (motive := fun _ => iV) (fun _ _ _ _ => .err) (fun _ ih => sq n ak am az k (oT n ak am az k ih)) m
theorem T5 (m : Nat) : jL n ak am az k (m + 1) = sq n ak am az k (oT n ak am az k (jL n ak am az k m)) := rfl
theorem Ub (hk : eD k0 k) (m : Nat) : oX (oY n ak am az k0 m) (jL n ak am az k m) := by
  induction m with
  | zero => intro v0 v1 v6 h; rfl
  | succ m ih => exact Ue n ak am az k0 k hk (xi n ak am az k0 (oY n ak am az k0 m)) (oT n ak am az k (jL n ak am az k m)) (Uj n ak am az k0 k hk (oY n ak am az k0 m) (jL n ak am az k m) ih)
def Ep (n : Nat) (ak : cA) (am : cG) (az : da) (k0 : Q0) (J3 : Q1) : Q1 := (bH (dj ak am az) c0 Dw (fun s => eM (.t p11) s (bH (dj ak am az) c0 DR (cO z_buddy_Buddy__Take k0)) (bH (dj ak am az) c0 C2 (fun s => cS wY s J3))))
def w7 (n : Nat) (ak : cA) (am : cG) (az : da) (k : gO) (j3 : iV) (v0 : AV) (v1 : Int) (v17 : Bool) (h : Heap) : CRes :=
 ifB v17
 (k 0 2 h)
 (j3 v0 v1 v1 h)
theorem Ug (hk : eD k0 k) (J3 : Q1) (j3 : iV) (h3 : oX J3 j3) : w5 (Ep n ak am az k0 J3) (w7 n ak am az k j3) := by
  obtain rfl := fx3 hk
  obtain rfl := fx4 h3
  intro v0 v1 v17 h
  kernel_rfl
def wX : Q1 := Ep n ak am az k0 (oY n ak am az k0 n)
def sA : sB := w7 n ak am az k (jL n ak am az k n)
theorem Um (hk : eD k0 k) : w5 (wX n ak am az k0 ) (sA n ak am az k ) := Ug n ak am az k0 k hk (oY n ak am az k0 n) (jL n ak am az k n) (Ub n ak am az k0 k hk n)
def Jl (n : Nat) (ak : cA) (am : cG) (az : da) (k0 : Q0) (J5 : Q1) : Q1 := (bH (dj ak am az) c0 DC (bH (dj ak am az) c0 DP (fun s => eM (.t p8) s (bH (dj ak am az) c0 CB (cO z_buddy_Buddy__Take k0)) (bH (dj ak am az) c0 Da (fun s => cS Ez s J5)))))
def AE (n : Nat) (ak : cA) (am : cG) (az : da) (k : gO) (j5 : sB) (a0 : AV) (a1 : Int) (h : Heap) : CRes :=
 ak a0 h fun x0 h1 =>
 ifB x0
 (k 0 1 h1)
 (ifB (ltF a1 0)
 (j5 a0 a1 true h1)
 (j5 a0 a1 (ltF 6 a1) h1))
theorem Xb (n : Nat) (ak : cA) (am : cG) (az : da) (k0 : Q0) (k : gO) (hk : eD k0 k) (J5 : Q1) (j5 : sB) (h5 : w5 J5 j5) (a0 : AV) (a1 : Int) (h : Heap) : (Jl n ak am az k0 J5) ⟨cP [(p0, a0), (p1, (.int .i64 a1))], h⟩ = (AE n ak am az k j5) a0 a1 h := by
  obtain rfl := fx3 hk
  obtain rfl := fx4 h5
  kernel_rfl
def Xl : Q1 := Jl n ak am az k0 (wX n ak am az k0 )
def AL (n : Nat) (ak : cA) (am : cG) (az : da) (a0 : AV) (a1 : Int) (h : Heap) (k : gO) : CRes := AE n ak am az k (sA n ak am az k ) a0 a1 h
theorem XI (n : Nat) (ak : cA) (am : cG) (az : da) (k0 : Q0) (s : St) : D (ft [(eU, gk ak), (fS, gW am), (kD, lO az)]) c0 n um (cO z_buddy_Buddy__Take k0) (fun _ _ => .err) (cO z_buddy_Buddy__Take k0) s = Xl n ak am az k0 s := by kernel_rfl
theorem Xh (n : Nat) (ak : cA) (am : cG) (az : da) (a0 : AV) (a1 : Int) (h : Heap) (k0 : Q0) : W a_buddy_Buddy__Take z_buddy_Buddy__Take [(eU, gk ak), (fS, gW am), (kD, lO az)] c0 n um [a0, (.int .i64 a1)] h k0 = AL n ak am az a0 a1 h (fun u0 u1 h => k0 (.tuple [(.int .i64 u0), (.int .i64 u1)]) h) := by
  let k : gO := fun u0 u1 h => k0 (.tuple [(.int .i64 u0), (.int .i64 u1)]) h
  have hk : eD k0 k := fun _ _ _ => rfl
  have hb : ∀ F : Tr AV → CRes, iS a_buddy_Buddy__Take [a0, (.int .i64 a1)] .leaf F = F (cP [(p0, a0), (p1, (.int .i64 a1))]) := fun F => by kernel_rfl
  exact (nD hb).trans ((XI n ak am az k0 _).trans (Xb n ak am az k0 k hk (wX n ak am az k0 ) (sA n ak am az k ) (Um n ak am az k0 k hk ) a0 a1 h))
end
def jQ (n : Nat) : eT := AL n (gN n) (eJ n) (jy n)
theorem Xv {tbl : Tr AFn} (hp : cN tbl) (ht : tbl.get (key jP) = some I8) (n : Nat) (yC : Sound tbl eU (gk (gN n))) (Ky : Sound tbl fS (gW (eJ n))) (W9 : Sound tbl kD (lO (jy n))) : Sound tbl jP (kV (jQ n)) := by
  refine Sound.of (dK hp (ps := a_buddy_Buddy__Take) (rs := z_buddy_Buddy__Take) (l := [(eU, gk (gN n)), (fS, gW (eJ n)), (kD, lO (jy n))]) (ty := c0) (n := n) (c := um) ht ⟨yC, Ky, W9, trivial⟩) fun args H k r H' h => ?_
  unfold kV at h
  obtain ⟨a0, l0, e0, h0⟩ := cY h
  subst e0
  obtain ⟨a1, l1, e1, h1⟩ := dT h0
  subst e1
  obtain ⟨e9, h9⟩ := db h1
  subst e9
  exact (Xh n (gN n) (eJ n) (jy n) a0 a1 H k).trans h9
/-! cofferdam/colour.Frame -/
abbrev jt := Int → Int → Int → Heap → (Int → Int → Heap → CRes) → CRes
abbrev pG := Int → Int → Heap → CRes
def pJ (g : jt) : Wr := fun l h k => qA .i64 l fun a0 l => qA .i64 l fun a1 l => qA .i64 l fun a2 l => nC l (g a0 a1 a2 h fun u0 u1 h => k (.tuple [(.int .i64 u0), (.int .i64 u1)]) h)
def vV (aG : cQ) (bk : eG) : eg := ft [(eP, fu aG), (lq, l7 bk)]
abbrev sT (k0 : Q0) (k : pG) : Prop := ∀ u0 u1 h, k0 (.tuple [(.int .i64 u0), (.int .i64 u1)]) h = k u0 u1 h
abbrev zN : Type := Int → Int → Int → Bool → Heap → CRes
abbrev Fq (J : Q1) (j : zN) : Prop := ∀ v0 v1 v2 v26 h, J ⟨cP [(p0, (.int .i64 v0)), (p1, (.int .i64 v1)), (p2, (.int .i64 v2)), (p26, (.bool v26))], h⟩ = j v0 v1 v2 v26 h
abbrev zn : Type := Int → Int → Int → Bool → Heap → CRes
abbrev FB (J : Q1) (j : zn) : Prop := ∀ v0 v1 v2 v17 h, J ⟨cP [(p0, (.int .i64 v0)), (p1, (.int .i64 v1)), (p2, (.int .i64 v2)), (p17, (.bool v17))], h⟩ = j v0 v1 v2 v17 h
section
variable (n : Nat) (aG : cQ) (bk : eG) (k0 : Q0) (k : pG)
def QA (n : Nat) (aG : cQ) (bk : eG) (k0 : Q0) : Q1 := (fun s => eM (.t p26) s (bH (vV aG bk) pQ Re (cO z_colour_Frame k0)) (bH (vV aG bk) pQ PF (cO z_colour_Frame k0)))
def Fs (n : Nat) (aG : cQ) (bk : eG) (k : pG) (v0 : Int) (v1 : Int) (v2 : Int) (v26 : Bool) (h : Heap) : CRes :=
 ifB v26
 (k 0 2 h)
 (LV .i64 v1 v2 fun x9 =>
 mO .i64 x9 v0 fun x10 =>
 k x10 0 h)
theorem aco (hk : sT k0 k) : Fq (QA n aG bk k0 ) (Fs n aG bk k ) := by
  obtain rfl := fx3 hk
  intro v0 v1 v2 v26 h
  kernel_rfl
def E9 : Q1 := QA n aG bk k0
def zQ : zN := Fs n aG bk k
theorem ad2 (hk : sT k0 k) : Fq (E9 n aG bk k0 ) (zQ n aG bk k ) := aco n aG bk k0 k hk
def Qa (n : Nat) (aG : cQ) (bk : eG) (k0 : Q0) (J1 : Q1) : Q1 := (bH (vV aG bk) pQ PP (fun s => cS PI s J1))
def Fr (n : Nat) (aG : cQ) (bk : eG) (k : pG) (j1 : zN) (v0 : Int) (v1 : Int) (v2 : Int) (v17 : Bool) (h : Heap) : CRes :=
 ifB v17
 (j1 v0 v1 v2 true h)
 (W5 .i64 4095 v0 fun x5 =>
 quoK .i64 x5 v2 fun x6 =>
 aG v1 0 x6 h fun x7 h8 =>
 j1 v0 v1 v2 (jK x7) h8)
theorem acy (hk : sT k0 k) (J1 : Q1) (j1 : zN) (h1 : Fq J1 j1) : FB (Qa n aG bk k0 J1) (Fr n aG bk k j1) := by
  obtain rfl := fx3 hk
  obtain rfl := fx5 h1
  intro v0 v1 v2 v17 h
  kernel_rfl
def FV : Q1 := Qa n aG bk k0 (E9 n aG bk k0 )
def zr : zn := Fr n aG bk k (zQ n aG bk k )
theorem acf (hk : sT k0 k) : FB (FV n aG bk k0 ) (zr n aG bk k ) := acy n aG bk k0 k hk (E9 n aG bk k0 ) (zQ n aG bk k ) (ad2 n aG bk k0 k hk )
def VB (n : Nat) (aG : cQ) (bk : eG) (k0 : Q0) (J0 : Q1) : Q1 := (bH (vV aG bk) pQ QJ (bH (vV aG bk) pQ O3 (fun s => cS QL s J0)))
def L0 (n : Nat) (aG : cQ) (bk : eG) (k : pG) (j0 : zn) (a0 : Int) (a1 : Int) (a2 : Int) (h : Heap) : CRes :=
 bk a2 h fun x0 h1 =>
 ifB (jK x0)
 (j0 a0 a1 a2 true h1)
 (W5 .i64 a2 1 fun x2 =>
 aG a0 0 x2 h1 fun x3 h4 =>
 j0 a0 a1 a2 (jK x3) h4)
theorem ahF (n : Nat) (aG : cQ) (bk : eG) (k0 : Q0) (k : pG) (hk : sT k0 k) (J0 : Q1) (j0 : zn) (h0 : FB J0 j0) (a0 : Int) (a1 : Int) (a2 : Int) (h : Heap) : (VB n aG bk k0 J0) ⟨cP [(p0, (.int .i64 a0)), (p1, (.int .i64 a1)), (p2, (.int .i64 a2))], h⟩ = (L0 n aG bk k j0) a0 a1 a2 h := by
  obtain rfl := fx3 hk
  obtain rfl := fx5 h0
  kernel_rfl
def agL : Q1 := VB n aG bk k0 (FV n aG bk k0 )
def Mm (n : Nat) (aG : cQ) (bk : eG) (a0 : Int) (a1 : Int) (a2 : Int) (h : Heap) (k : pG) : CRes := L0 n aG bk k (zr n aG bk k ) a0 a1 a2 h
theorem ahG (n : Nat) (aG : cQ) (bk : eG) (k0 : Q0) (s : St) : D (ft [(eP, fu aG), (lq, l7 bk)]) pQ n DI (cO z_colour_Frame k0) (fun _ _ => .err) (cO z_colour_Frame k0) s = agL n aG bk k0 s := by kernel_rfl
theorem agU (n : Nat) (aG : cQ) (bk : eG) (a0 : Int) (a1 : Int) (a2 : Int) (h : Heap) (k0 : Q0) : W a_colour_Frame z_colour_Frame [(eP, fu aG), (lq, l7 bk)] pQ n DI [(.int .i64 a0), (.int .i64 a1), (.int .i64 a2)] h k0 = Mm n aG bk a0 a1 a2 h (fun u0 u1 h => k0 (.tuple [(.int .i64 u0), (.int .i64 u1)]) h) := by
  let k : pG := fun u0 u1 h => k0 (.tuple [(.int .i64 u0), (.int .i64 u1)]) h
  have hk : sT k0 k := fun _ _ _ => rfl
  have hb : ∀ F : Tr AV → CRes, iS a_colour_Frame [(.int .i64 a0), (.int .i64 a1), (.int .i64 a2)] .leaf F = F (cP [(p0, (.int .i64 a0)), (p1, (.int .i64 a1)), (p2, (.int .i64 a2))]) := fun F => by kernel_rfl
  exact (nD hb).trans ((ahG n aG bk k0 _).trans (ahF n aG bk k0 k hk (FV n aG bk k0 ) (zr n aG bk k ) (acf n aG bk k0 k hk ) a0 a1 a2 h))
end
def nM (n : Nat) : jt := Mm n (gM n) (mz n)
theorem agj {tbl : Tr AFn} (hp : cN tbl) (ht : tbl.get (key nW) = some Ve) (n : Nat) (uD : Sound tbl eP (fu (gM n))) (Ow : Sound tbl lq (l7 (mz n))) : Sound tbl nW (pJ (nM n)) := by
  refine Sound.of (dK hp (ps := a_colour_Frame) (rs := z_colour_Frame) (l := [(eP, fu (gM n)), (lq, l7 (mz n))]) (ty := pQ) (n := n) (c := DI) ht ⟨uD, Ow, trivial⟩) fun args H k r H' h => ?_
  unfold pJ at h
  obtain ⟨a0, l0, e0, h0⟩ := dT h
  subst e0
  obtain ⟨a1, l1, e1, h1⟩ := dT h0
  subst e1
  obtain ⟨a2, l2, e2, h2⟩ := dT h1
  subst e2
  obtain ⟨e9, h9⟩ := db h2
  subst e9
  exact (agU n (gM n) (mz n) a0 a1 a2 H k).trans h9
abbrev cT := AV → Int → Int → Int → Heap → (AV → Int → Heap → CRes) → CRes
abbrev lN := AV → Int → Heap → CRes
def gH (g : cT) : Wr := fun l h k => mr l fun a0 l => qA .i64 l fun a1 l => qA .i64 l fun a2 l => qA .u8 l fun a3 l => nC l (g a0 a1 a2 a3 h fun u0 u1 h => k (.tuple [u0, (.int .i64 u1)]) h)
def ea (aZ : eT) (bR : jt) : eg := ft [(jP, kV aZ), (nW, pJ bR)]
abbrev oq (k0 : Q0) (k : lN) : Prop := ∀ u0 u1 h, k0 (.tuple [u0, (.int .i64 u1)]) h = k u0 u1 h
abbrev tz : Type := AV → Heap → CRes
abbrev yN (J : Q1) (j : tz) : Prop := ∀ v12 h, J ⟨cP [(p12, v12)], h⟩ = j v12 h
abbrev lQ : Type := AV → Int → Int → Int → AV → Int → Int → Heap → CRes
abbrev tg (J : Q1) (j : lQ) : Prop := ∀ v0 v1 v3 v10 v12 v31 v32 h, J ⟨cP [(p0, v0), (p1, (.int .i64 v1)), (p3, (.int .u8 v3)), (p10, (.int .i64 v10)), (p12, v12), (p31, (.int .i64 v31)), (p32, (.int .i64 v32))], h⟩ = j v0 v1 v3 v10 v12 v31 v32 h
section
variable (n : Nat) (aZ : eT) (bR : jt) (k0 : Q0) (k : lN)
def Hi (n : Nat) (aZ : eT) (bR : jt) (k0 : Q0) : Q1 := (bH (ea aZ bR) dA G9 (cO z_pool_Pool__taken k0))
def ys (n : Nat) (aZ : eT) (bR : jt) (k : lN) (v12 : AV) (h : Heap) : CRes :=
 k v12 0 h
theorem Ws (hk : oq k0 k) : yN (Hi n aZ bR k0 ) (ys n aZ bR k ) := by
  obtain rfl := fx3 hk
  intro v12 h
  kernel_rfl
def yH : Q1 := Hi n aZ bR k0
def pM : tz := ys n aZ bR k
theorem UA (hk : oq k0 k) : yN (yH n aZ bR k0 ) (pM n aZ bR k ) := Ws n aZ bR k0 k hk
def G6 (n : Nat) (aZ : eT) (bR : jt) (k0 : Q0) (J0 : Q1) (J1 : Q1) : Q1 := (bH (ea aZ bR) dA GO (fun s => eM (.t p33) s (bH (ea aZ bR) dA Hs (bH (ea aZ bR) dA GX (bH (ea aZ bR) dA Hk (fun s => eM (.t p54) s (bH (ea aZ bR) dA G1 (cO z_pool_Pool__taken k0)) (bH (ea aZ bR) dA Hu (bH (ea aZ bR) dA GM (bH (ea aZ bR) dA G2 (bH (ea aZ bR) dA G8 (fun s => cS yU s J1))))))))) (fun s => cS GN s J0)))
def td (n : Nat) (aZ : eT) (bR : jt) (k : lN) (j0 : tz) (j1 : lQ) (v0 : AV) (v1 : Int) (v3 : Int) (v10 : Int) (v12 : AV) (v31 : Int) (v32 : Int) (h : Heap) : CRes :=
 ifB (ltF v32 v31)
 (ac7 1 h v0 1 false fun x8 x9 =>
 DW .i64 1 h x9 v1 fun x10 x11 =>
 mO .i64 v10 v32 fun x12 =>
 nfldI .i64 0 h v0 fun x13 x14 =>
 bR x11 x12 x14 h fun x15 x16 h17 =>
 ifB (jK (eqF x16 0))
 (k .nilslice x16 h17)
 (ac7 12 h17 v0 1 false fun x18 x19 =>
 abm h17 (.cell .int) x19 (.int .i64 x15) (.int .u8 v3) fun h20 =>
 nfa 13 v0 fun x21 =>
 R0 1 7 x21 v3 fun x22 =>
 ldI .i64 h20 x22 fun x23 =>
 mO .i64 x23 1 fun x24 =>
 nfa 13 v0 fun x25 =>
 R0 1 7 x25 v3 fun x26 =>
 pl h20 x26 1 (.int .i64 x24) fun h27 =>
 sf h27 1 [(.int .i64 0)] [(0, 1, (.int .i64 x15))] fun x28 h29 =>
 sw h29 1 v12 x28 fun x30 h31 =>
 mO .i64 v32 1 fun x32 =>
 j1 v0 v1 v3 v10 x30 v31 x32 h31))
 (j0 v12 h)
theorem WB (hk : oq k0 k) (J0 : Q1) (j0 : tz) (h0 : yN J0 j0) (J1 : Q1) (j1 : lQ) (h1 : tg J1 j1) : tg (G6 n aZ bR k0 J0 J1) (td n aZ bR k j0 j1) := by
  obtain rfl := fx3 hk
  obtain rfl := fx2 h0
  obtain rfl := fx8 h1
  intro v0 v1 v3 v10 v12 v31 v32 h
  kernel_rfl
def th (m : Nat) : Q1 := Nat.rec (motive := fun _ => Q1) (fun _ => .err) (fun _ ih => G6 n aZ bR k0 (yH n aZ bR k0 ) ih) m
def lL (m : Nat) : lQ := Nat.rec (motive := fun _ => lQ) (fun _ _ _ _ _ _ _ _ => .err) (fun _ ih => td n aZ bR k (pM n aZ bR k ) ih) m
theorem Wv (m : Nat) : lL n aZ bR k (m + 1) = td n aZ bR k (pM n aZ bR k ) (lL n aZ bR k m) := rfl
theorem WM (hk : oq k0 k) (m : Nat) : tg (th n aZ bR k0 m) (lL n aZ bR k m) := by
  induction m with
  | zero => intro v0 v1 v3 v10 v12 v31 v32 h; rfl
  | succ m ih => exact WB n aZ bR k0 k hk (yH n aZ bR k0 ) (pM n aZ bR k ) (UA n aZ bR k0 k hk ) (th n aZ bR k0 m) (lL n aZ bR k m) ih
def K6 (n : Nat) (aZ : eT) (bR : jt) (k0 : Q0) (J1 : Q1) : Q1 := (bH (ea aZ bR) dA Ea (bH (ea aZ bR) dA D8 (bH (ea aZ bR) dA Em (fun s => eM (.t p29) s (bH (ea aZ bR) dA ER (cO z_pool_Pool__taken k0)) (bH (ea aZ bR) dA Eg (bH (ea aZ bR) dA Eh (fun s => cS yU s J1)))))))
def B4 (n : Nat) (aZ : eT) (bR : jt) (k : lN) (j1 : lQ) (a0 : AV) (a1 : Int) (a2 : Int) (a3 : Int) (h : Heap) : CRes :=
 ac7 11 h a0 1 false fun x0 x1 =>
 eld 1 h x1 a1 1 false fun x2 x3 =>
 aZ x3 a2 h fun x4 x5 h6 =>
 ifB (jK (eqF x5 0))
 (k .nilslice 4 h6)
 (ae4 .i64 1 a2 fun x7 =>
 j1 a0 a1 a3 x4 .nilslice x7 0 h6)
theorem Zq (n : Nat) (aZ : eT) (bR : jt) (k0 : Q0) (k : lN) (hk : oq k0 k) (J1 : Q1) (j1 : lQ) (h1 : tg J1 j1) (a0 : AV) (a1 : Int) (a2 : Int) (a3 : Int) (h : Heap) : (K6 n aZ bR k0 J1) ⟨cP [(p0, a0), (p1, (.int .i64 a1)), (p2, (.int .i64 a2)), (p3, (.int .u8 a3))], h⟩ = (B4 n aZ bR k j1) a0 a1 a2 a3 h := by
  obtain rfl := fx3 hk
  obtain rfl := fx8 h1
  kernel_rfl
def Zu : Q1 := K6 n aZ bR k0 (th n aZ bR k0 n)
def Cb (n : Nat) (aZ : eT) (bR : jt) (a0 : AV) (a1 : Int) (a2 : Int) (a3 : Int) (h : Heap) (k : lN) : CRes := B4 n aZ bR k (lL n aZ bR k n) a0 a1 a2 a3 h
theorem ZG (n : Nat) (aZ : eT) (bR : jt) (k0 : Q0) (s : St) : D (ft [(jP, kV aZ), (nW, pJ bR)]) dA n vD (cO z_pool_Pool__taken k0) (fun _ _ => .err) (cO z_pool_Pool__taken k0) s = Zu n aZ bR k0 s := by kernel_rfl
theorem Z2 (n : Nat) (aZ : eT) (bR : jt) (a0 : AV) (a1 : Int) (a2 : Int) (a3 : Int) (h : Heap) (k0 : Q0) : W a_pool_Pool__taken z_pool_Pool__taken [(jP, kV aZ), (nW, pJ bR)] dA n vD [a0, (.int .i64 a1), (.int .i64 a2), (.int .u8 a3)] h k0 = Cb n aZ bR a0 a1 a2 a3 h (fun u0 u1 h => k0 (.tuple [u0, (.int .i64 u1)]) h) := by
  let k : lN := fun u0 u1 h => k0 (.tuple [u0, (.int .i64 u1)]) h
  have hk : oq k0 k := fun _ _ _ => rfl
  have hb : ∀ F : Tr AV → CRes, iS a_pool_Pool__taken [a0, (.int .i64 a1), (.int .i64 a2), (.int .u8 a3)] .leaf F = F (cP [(p0, a0), (p1, (.int .i64 a1)), (p2, (.int .i64 a2)), (p3, (.int .u8 a3))]) := fun F => by kernel_rfl
  exact (nD hb).trans ((ZG n aZ bR k0 _).trans (Zq n aZ bR k0 k hk (th n aZ bR k0 n) (lL n aZ bR k n) (WM n aZ bR k0 k hk n) a0 a1 a2 a3 h))
end
def il (n : Nat) : cT := Cb n (jQ n) (nM n)
theorem ZZ {tbl : Tr AFn} (hp : cN tbl) (ht : tbl.get (key fP) = some KV) (n : Nat) (Wh : Sound tbl jP (kV (jQ n))) (afd : Sound tbl nW (pJ (nM n))) : Sound tbl fP (gH (il n)) := by
  refine Sound.of (dK hp (ps := a_pool_Pool__taken) (rs := z_pool_Pool__taken) (l := [(jP, kV (jQ n)), (nW, pJ (nM n))]) (ty := dA) (n := n) (c := vD) ht ⟨Wh, afd, trivial⟩) fun args H k r H' h => ?_
  unfold gH at h
  obtain ⟨a0, l0, e0, h0⟩ := cY h
  subst e0
  obtain ⟨a1, l1, e1, h1⟩ := dT h0
  subst e1
  obtain ⟨a2, l2, e2, h2⟩ := dT h1
  subst e2
  obtain ⟨a3, l3, e3, h3⟩ := dT h2
  subst e3
  obtain ⟨e9, h9⟩ := db h3
  subst e9
  exact (Z2 n (jQ n) (nM n) a0 a1 a2 a3 H k).trans h9
abbrev cv := AV → Heap → (AV → Int → Heap → CRes) → CRes
abbrev pj := AV → Int → Heap → CRes
def lM (g : cv) : Wr := fun l h k => mr l fun a0 l => nC l (g a0 h fun u0 u1 h => k (.tuple [u0, (.int .i64 u1)]) h)
def om (aq : cw) (aB : cT) : eg := ft [(dC, dL aq), (fP, gH aB)]
abbrev I7 (k0 : Q0) (k : pj) : Prop := ∀ u0 u1 h, k0 (.tuple [u0, (.int .i64 u1)]) h = k u0 u1 h
section
variable (n : Nat) (aq : cw) (aB : cT) (k0 : Q0) (k : pj)
def L1 (n : Nat) (aq : cw) (aB : cT) (k0 : Q0) : Q1 := (bH (om aq aB) kC G7 (bH (om aq aB) kC GS (fun s => eM (.t p6) s (bH (om aq aB) kC GY (cO z_pool_Pool__Image k0)) (bH (om aq aB) kC Hq (fun s => eM (.t p12) s (bH (om aq aB) kC Hh (cO z_pool_Pool__Image k0)) (bH (om aq aB) kC GJ (cO z_pool_Pool__Image k0)))))))
def BS (n : Nat) (aq : cw) (aB : cT) (k : pj) (a0 : AV) (h : Heap) : CRes :=
 aq a0 h fun x0 h1 =>
 ifB (jK x0)
 (k .nilslice 1 h1)
 (nfa 13 a0 fun x2 =>
 R0 1 7 x2 1 fun x3 =>
 ldI .i64 h1 x3 fun x4 =>
 ifB (ltF 0 x4)
 (k .nilslice 91 h1)
 (nfldI .i64 2 h1 a0 fun x5 x6 =>
 aB a0 0 x6 1 h1 fun x7 x8 h9 =>
 k x7 x8 h9))
theorem ZC (n : Nat) (aq : cw) (aB : cT) (k0 : Q0) (k : pj) (hk : I7 k0 k) (a0 : AV) (h : Heap) : (L1 n aq aB k0 ) ⟨cP [(p0, a0)], h⟩ = (BS n aq aB k ) a0 h := by
  obtain rfl := fx3 hk
  kernel_rfl
def Zh : Q1 := L1 n aq aB k0
def B1 (n : Nat) (aq : cw) (aB : cT) (a0 : AV) (h : Heap) (k : pj) : CRes := BS n aq aB k a0 h
theorem Zb (n : Nat) (aq : cw) (aB : cT) (k0 : Q0) (s : St) : D (ft [(dC, dL aq), (fP, gH aB)]) kC n vB (cO z_pool_Pool__Image k0) (fun _ _ => .err) (cO z_pool_Pool__Image k0) s = Zh n aq aB k0 s := by kernel_rfl
theorem ZO (n : Nat) (aq : cw) (aB : cT) (a0 : AV) (h : Heap) (k0 : Q0) : W a_pool_Pool__Image z_pool_Pool__Image [(dC, dL aq), (fP, gH aB)] kC n vB [a0] h k0 = B1 n aq aB a0 h (fun u0 u1 h => k0 (.tuple [u0, (.int .i64 u1)]) h) := by
  let k : pj := fun u0 u1 h => k0 (.tuple [u0, (.int .i64 u1)]) h
  have hk : I7 k0 k := fun _ _ _ => rfl
  have hb : ∀ F : Tr AV → CRes, iS a_pool_Pool__Image [a0] .leaf F = F (cP [(p0, a0)]) := fun F => by kernel_rfl
  exact (nD hb).trans ((Zb n aq aB k0 _).trans (ZC n aq aB k0 k hk a0 h))
end
def lS (n : Nat) : cv := B1 n (eB n) (il n)
theorem Zj {tbl : Tr AFn} (hp : cN tbl) (ht : tbl.get (key kw) = some L5) (n : Nat) (qy : Sound tbl dC (dL (eB n))) (AH : Sound tbl fP (gH (il n))) : Sound tbl kw (lM (lS n)) := by
  refine Sound.of (dK hp (ps := a_pool_Pool__Image) (rs := z_pool_Pool__Image) (l := [(dC, dL (eB n)), (fP, gH (il n))]) (ty := kC) (n := n) (c := vB) ht ⟨qy, AH, trivial⟩) fun args H k r H' h => ?_
  unfold lM at h
  obtain ⟨a0, l0, e0, h0⟩ := cY h
  subst e0
  obtain ⟨e9, h9⟩ := db h0
  subst e9
  exact (ZO n (eB n) (il n) a0 H k).trans h9
abbrev cL := AV → Heap → (Int → Heap → CRes) → CRes
abbrev kT := Int → Heap → CRes
def gh (g : cL) : Wr := fun l h k => mr l fun a0 l => nC l (g a0 h fun u0 h => k (.int .i64 u0) h)
def iE (ak : cA) : eg := ft [(eU, gk ak)]
abbrev mW (k0 : Q0) (k : kT) : Prop := ∀ u0 h, k0 (.int .i64 u0) h = k u0 h
abbrev sr : Type := Int → Heap → CRes
abbrev wZ (J : Q1) (j : sr) : Prop := ∀ v3 h, J ⟨cP [(p3, (.int .i64 v3))], h⟩ = j v3 h
abbrev k8 : Type := Int → AV → Int → Heap → CRes
abbrev sE (J : Q1) (j : k8) : Prop := ∀ v3 v11 v12 h, J ⟨cP [(p3, (.int .i64 v3)), (p11, v11), (p12, (.int .i64 v12))], h⟩ = j v3 v11 v12 h
section
variable (n : Nat) (ak : cA) (k0 : Q0) (k : kT)
def Et (n : Nat) (ak : cA) (k0 : Q0) : Q1 := (bH (iE ak) gj Ew (cO z_buddy_Buddy__Free k0))
def xg (n : Nat) (ak : cA) (k : kT) (v3 : Int) (h : Heap) : CRes :=
 k v3 h
theorem T6 (hk : mW k0 k) : wZ (Et n ak k0 ) (xg n ak k ) := by
  obtain rfl := fx2 hk
  intro v3 h
  kernel_rfl
def xk : Q1 := Et n ak k0
def oS : sr := xg n ak k
theorem Uf (hk : mW k0 k) : wZ (xk n ak k0 ) (oS n ak k ) := T6 n ak k0 k hk
def EL (n : Nat) (ak : cA) (k0 : Q0) (J0 : Q1) (J1 : Q1) : Q1 := (bH (iE ak) gj EQ (fun s => eM (.t p13) s (bH (iE ak) gj EH (bH (iE ak) gj EI (bH (iE ak) gj Eu (fun s => cS w0 s J1)))) (fun s => cS Ei s J0)))
def su (n : Nat) (ak : cA) (k : kT) (j0 : sr) (j1 : k8) (v3 : Int) (v11 : AV) (v12 : Int) (h : Heap) : CRes :=
 ifB (ltF v12 7)
 (Yn 1 7 false v11 v12 fun x4 =>
 iP x4 fun x5 =>
 ae4 .i64 x5 v12 fun x6 =>
 mO .i64 v3 x6 fun x7 =>
 mO .i64 v12 1 fun x8 =>
 j1 x7 v11 x8 h)
 (j0 v3 h)
theorem Ul (hk : mW k0 k) (J0 : Q1) (j0 : sr) (h0 : wZ J0 j0) (J1 : Q1) (j1 : k8) (h1 : sE J1 j1) : sE (EL n ak k0 J0 J1) (su n ak k j0 j1) := by
  obtain rfl := fx2 hk
  obtain rfl := fx2 h0
  obtain rfl := fx4 h1
  intro v3 v11 v12 h
  kernel_rfl
def sC (m : Nat) : Q1 := Nat.rec (motive := fun _ => Q1) (fun _ => .err) (fun _ ih => EL n ak k0 (xk n ak k0 ) ih) m
def kZ (m : Nat) : k8 := Nat.rec (motive := fun _ => k8) (fun _ _ _ _ => .err) (fun _ ih => su n ak k (oS n ak k ) ih) m
theorem Ud (m : Nat) : kZ n ak k (m + 1) = su n ak k (oS n ak k ) (kZ n ak k m) := rfl
theorem Ui (hk : mW k0 k) (m : Nat) : sE (sC n ak k0 m) (kZ n ak k m) := by
  induction m with
  | zero => intro v3 v11 v12 h; rfl
  | succ m ih => exact Ul n ak k0 k hk (xk n ak k0 ) (oS n ak k ) (Uf n ak k0 k hk ) (sC n ak k0 m) (kZ n ak k m) ih
def I1 (n : Nat) (ak : cA) (k0 : Q0) (J1 : Q1) : Q1 := (bH (iE ak) gj Eb (bH (iE ak) gj EG (fun s => eM (.t p7) s (bH (iE ak) gj EK (cO z_buddy_Buddy__Free k0)) (bH (iE ak) gj Ee (bH (iE ak) gj Ef (fun s => cS w0 s J1))))))
def Ar (n : Nat) (ak : cA) (k : kT) (j1 : k8) (a0 : AV) (h : Heap) : CRes :=
 ak a0 h fun x0 h1 =>
 ifB x0
 (k 0 h1)
 (ac7 2 h1 a0 7 true fun x2 x3 =>
 j1 0 x3 0 h1)
theorem Xn (n : Nat) (ak : cA) (k0 : Q0) (k : kT) (hk : mW k0 k) (J1 : Q1) (j1 : k8) (h1 : sE J1 j1) (a0 : AV) (h : Heap) : (I1 n ak k0 J1) ⟨cP [(p0, a0)], h⟩ = (Ar n ak k j1) a0 h := by
  obtain rfl := fx2 hk
  obtain rfl := fx4 h1
  kernel_rfl
def Xf : Q1 := I1 n ak k0 (sC n ak k0 n)
def AN (n : Nat) (ak : cA) (a0 : AV) (h : Heap) (k : kT) : CRes := Ar n ak k (kZ n ak k n) a0 h
theorem W6 (n : Nat) (ak : cA) (k0 : Q0) (s : St) : D (ft [(eU, gk ak)]) gj n uB (cO z_buddy_Buddy__Free k0) (fun _ _ => .err) (cO z_buddy_Buddy__Free k0) s = Xf n ak k0 s := by kernel_rfl
theorem Xc (n : Nat) (ak : cA) (a0 : AV) (h : Heap) (k0 : Q0) : W a_buddy_Buddy__Free z_buddy_Buddy__Free [(eU, gk ak)] gj n uB [a0] h k0 = AN n ak a0 h (fun u0 h => k0 (.int .i64 u0) h) := by
  let k : kT := fun u0 h => k0 (.int .i64 u0) h
  have hk : mW k0 k := fun _ _ => rfl
  have hb : ∀ F : Tr AV → CRes, iS a_buddy_Buddy__Free [a0] .leaf F = F (cP [(p0, a0)]) := fun F => by kernel_rfl
  exact (nD hb).trans ((W6 n ak k0 _).trans (Xn n ak k0 k hk (sC n ak k0 n) (kZ n ak k n) (Ui n ak k0 k hk n) a0 h))
end
def ez (n : Nat) : cL := AN n (gN n)
theorem XJ {tbl : Tr AFn} (hp : cN tbl) (ht : tbl.get (key eV) = some Jr) (n : Nat) (yC : Sound tbl eU (gk (gN n))) : Sound tbl eV (gh (ez n)) := by
  refine Sound.of (dK hp (ps := a_buddy_Buddy__Free) (rs := z_buddy_Buddy__Free) (l := [(eU, gk (gN n))]) (ty := gj) (n := n) (c := uB) ht ⟨yC, trivial⟩) fun args H k r H' h => ?_
  unfold gh at h
  obtain ⟨a0, l0, e0, h0⟩ := cY h
  subst e0
  obtain ⟨e9, h9⟩ := db h0
  subst e9
  exact (Xc n (gN n) a0 H k).trans h9
abbrev cC := AV → Int → Heap → (Int → Int → Heap → CRes) → CRes
abbrev jm := Int → Int → Heap → CRes
def ml (g : cC) : Wr := fun l h k => mr l fun a0 l => qA .u8 l fun a1 l => nC l (g a0 a1 h fun u0 u1 h => k (.tuple [(.int .i64 u0), (.int .i64 u1)]) h)
def dB (aq : cw) (aB : cT) (ar : cL) : eg := ft [(dC, dL aq), (fP, gH aB), (eV, gh ar)]
abbrev jA (k0 : Q0) (k : jm) : Prop := ∀ u0 u1 h, k0 (.tuple [(.int .i64 u0), (.int .i64 u1)]) h = k u0 u1 h
abbrev uA : Type := AV → Int → Int → Heap → CRes
abbrev AJ (J : Q1) (j : uA) : Prop := ∀ v0 v1 v6 h, J ⟨cP [(p0, v0), (p1, (.int .u8 v1)), (p6, (.int .i64 v6))], h⟩ = j v0 v1 v6 h
abbrev uo : Type := AV → Int → Int → AV → Int → Int → Heap → CRes
abbrev AK (J : Q1) (j : uo) : Prop := ∀ v0 v1 v6 v39 v40 v41 h, J ⟨cP [(p0, v0), (p1, (.int .u8 v1)), (p6, (.int .i64 v6)), (p39, v39), (p40, (.int .i64 v40)), (p41, (.int .i64 v41))], h⟩ = j v0 v1 v6 v39 v40 v41 h
abbrev jN : Type := AV → Int → Int → AV → Int → Int → Heap → CRes
abbrev qB (J : Q1) (j : jN) : Prop := ∀ v0 v1 v6 v39 v40 v41 h, J ⟨cP [(p0, v0), (p1, (.int .u8 v1)), (p6, (.int .i64 v6)), (p39, v39), (p40, (.int .i64 v40)), (p41, (.int .i64 v41))], h⟩ = j v0 v1 v6 v39 v40 v41 h
abbrev ux : Type := AV → Int → Bool → Heap → CRes
abbrev Az (J : Q1) (j : ux) : Prop := ∀ v0 v1 v21 h, J ⟨cP [(p0, v0), (p1, (.int .u8 v1)), (p21, (.bool v21))], h⟩ = j v0 v1 v21 h
section
variable (n : Nat) (aq : cw) (aB : cT) (ar : cL) (k0 : Q0) (k : jm)
def JG (n : Nat) (aq : cw) (aB : cT) (ar : cL) (k0 : Q0) : Q1 := (bH (dB aq aB ar) dg Jy (bH (dB aq aB ar) dg Jb (fun s => eM (.t p67) s (bH (dB aq aB ar) dg JE (cO z_pool_Pool__Take k0)) (bH (dB aq aB ar) dg Jh (cO z_pool_Pool__Take k0)))))
def Ay (n : Nat) (aq : cw) (aB : cT) (ar : cL) (k : jm) (v0 : AV) (v1 : Int) (v6 : Int) (h : Heap) : CRes :=
 aB v0 v6 0 v1 h fun x11 x12 h13 =>
 ifB (jK (eqF x12 0))
 (k 0 x12 h13)
 (DW .i64 1 h13 x11 0 fun x14 x15 =>
 k x15 0 h13)
theorem Xk (hk : jA k0 k) : AJ (JG n aq aB ar k0 ) (Ay n aq aB ar k ) := by
  obtain rfl := fx3 hk
  intro v0 v1 v6 h
  kernel_rfl
def AG : Q1 := JG n aq aB ar k0
def oj : uA := Ay n aq aB ar k
theorem XA (hk : jA k0 k) : AJ (AG n aq aB ar k0 ) (oj n aq aB ar k ) := Xk n aq aB ar k0 k hk
def Jm (n : Nat) (aq : cw) (aB : cT) (ar : cL) (k0 : Q0) (J1 : Q1) : Q1 := (bH (dB aq aB ar) dg I9 (fun s => cS As s J1))
def AR (n : Nat) (aq : cw) (aB : cT) (ar : cL) (k : jm) (j1 : jN) (v0 : AV) (v1 : Int) (v6 : Int) (v39 : AV) (v40 : Int) (v41 : Int) (h : Heap) : CRes :=
 mO .i64 v41 1 fun x26 =>
 j1 v0 v1 v6 v39 v40 x26 h
theorem XP (hk : jA k0 k) (J1 : Q1) (j1 : jN) (h1 : qB J1 j1) : AK (Jm n aq aB ar k0 J1) (AR n aq aB ar k j1) := by
  obtain rfl := fx3 hk
  obtain rfl := fx7 h1
  intro v0 v1 v6 v39 v40 v41 h
  kernel_rfl
def AQ (J1 : Q1) : Q1 := Jm n aq aB ar k0 J1
def qC (j1 : jN) : uo := AR n aq aB ar k j1
theorem XK (hk : jA k0 k) (J1 : Q1) (j1 : jN) (h1 : qB J1 j1) : AK (AQ n aq aB ar k0 J1) (qC n aq aB ar k j1) := XP n aq aB ar k0 k hk J1 j1 h1
def JL (n : Nat) (aq : cw) (aB : cT) (ar : cL) (k0 : Q0) (J0 : Q1) (J2 : Q1) : Q1 := (bH (dB aq aB ar) dg Jg (fun s => eM (.t p42) s (bH (dB aq aB ar) dg Jd (bH (dB aq aB ar) dg Je (fun s => eM (.t p56) s (bH (dB aq aB ar) dg Jo (fun s => cS AO s J2)) (fun s => cS AO s J2)))) (fun s => cS Jq s J0)))
def un (n : Nat) (aq : cw) (aB : cT) (ar : cL) (k : jm) (j0 : uA) (j2 : uo) (v0 : AV) (v1 : Int) (v6 : Int) (v39 : AV) (v40 : Int) (v41 : Int) (h : Heap) : CRes :=
 ifB (ltF v41 v40)
 (eld 1 h v39 v41 1 false fun x16 x17 =>
 ar x17 (h.shut true) fun x18 h19 =>
 ac7 11 (h19.back h.ro) v0 1 false fun x20 x21 =>
 eld 1 (h19.back h.ro) x21 v6 1 false fun x22 x23 =>
 ar x23 (h19.back h.ro) fun x24 h25 =>
 ifB (ltF x24 x18)
 (j2 v0 v1 v41 v39 v40 v41 h25)
 (j2 v0 v1 v6 v39 v40 v41 h25))
 (j0 v0 v1 v6 h)
theorem XN (hk : jA k0 k) (J0 : Q1) (j0 : uA) (h0 : AJ J0 j0) (J2 : Q1) (j2 : uo) (h2 : AK J2 j2) : qB (JL n aq aB ar k0 J0 J2) (un n aq aB ar k j0 j2) := by
  obtain rfl := fx3 hk
  obtain rfl := fx4 h0
  obtain rfl := fx7 h2
  intro v0 v1 v6 v39 v40 v41 h
  kernel_rfl
def qz (m : Nat) : Q1 := Nat.rec (motive := fun _ => Q1) (fun _ => .err) (fun _ ih => JL n aq aB ar k0 (AG n aq aB ar k0 ) (AQ n aq aB ar k0 ih)) m
def kW (m : Nat) : jN := Nat.rec (motive := fun _ => jN) (fun _ _ _ _ _ _ _ => .err) (fun _ ih => un n aq aB ar k (oj n aq aB ar k ) (qC n aq aB ar k ih)) m
theorem XB (m : Nat) : kW n aq aB ar k (m + 1) = un n aq aB ar k (oj n aq aB ar k ) (qC n aq aB ar k (kW n aq aB ar k m)) := rfl
theorem Xr (hk : jA k0 k) (m : Nat) : qB (qz n aq aB ar k0 m) (kW n aq aB ar k m) := by
  induction m with
  | zero => intro v0 v1 v6 v39 v40 v41 h; rfl
  | succ m ih => exact XN n aq aB ar k0 k hk (AG n aq aB ar k0 ) (oj n aq aB ar k ) (XA n aq aB ar k0 k hk ) (AQ n aq aB ar k0 (qz n aq aB ar k0 m)) (qC n aq aB ar k (kW n aq aB ar k m)) (XK n aq aB ar k0 k hk (qz n aq aB ar k0 m) (kW n aq aB ar k m) ih)
def Jn (n : Nat) (aq : cw) (aB : cT) (ar : cL) (k0 : Q0) (J1 : Q1) : Q1 := (bH (dB aq aB ar) dg G0 (fun s => eM (.t p15) s (bH (dB aq aB ar) dg Hw (cO z_pool_Pool__Take k0)) (bH (dB aq aB ar) dg GV (fun s => eM (.t p22) s (bH (dB aq aB ar) dg Hl (cO z_pool_Pool__Take k0)) (bH (dB aq aB ar) dg GK (bH (dB aq aB ar) dg Jj (fun s => cS As s J1)))))))
def Av (n : Nat) (aq : cw) (aB : cT) (ar : cL) (k : jm) (j1 : jN) (v0 : AV) (v1 : Int) (v21 : Bool) (h : Heap) : CRes :=
 ifB v21
 (k 0 2 h)
 (nfa 13 v0 fun x2 =>
 R0 1 7 x2 v1 fun x3 =>
 ldI .i64 h x3 fun x4 =>
 nfa 3 v0 fun x5 =>
 R0 1 7 x5 v1 fun x6 =>
 ldI .i64 h x6 fun x7 =>
 ifB (jK (ltF x4 x7))
 (k 0 4 h)
 (ac7 11 h v0 1 false fun x8 x9 =>
 iP x9 fun x10 =>
 j1 v0 v1 0 x9 x10 0 h))
theorem Xt (hk : jA k0 k) (J1 : Q1) (j1 : jN) (h1 : qB J1 j1) : Az (Jn n aq aB ar k0 J1) (Av n aq aB ar k j1) := by
  obtain rfl := fx3 hk
  obtain rfl := fx7 h1
  intro v0 v1 v21 h
  kernel_rfl
def AA : Q1 := Jn n aq aB ar k0 (qz n aq aB ar k0 n)
def uy : ux := Av n aq aB ar k (kW n aq aB ar k n)
theorem XF (hk : jA k0 k) : Az (AA n aq aB ar k0 ) (uy n aq aB ar k ) := Xt n aq aB ar k0 k hk (qz n aq aB ar k0 n) (kW n aq aB ar k n) (Xr n aq aB ar k0 k hk n)
def NW (n : Nat) (aq : cw) (aB : cT) (ar : cL) (k0 : Q0) (J3 : Q1) : Q1 := (bH (dB aq aB ar) dg Hf (bH (dB aq aB ar) dg G4 (fun s => eM (.t p11) s (bH (dB aq aB ar) dg GT (cO z_pool_Pool__Take k0)) (bH (dB aq aB ar) dg GQ (fun s => cS JD s J3)))))
def Ct (n : Nat) (aq : cw) (aB : cT) (ar : cL) (k : jm) (j3 : ux) (a0 : AV) (a1 : Int) (h : Heap) : CRes :=
 aq a0 h fun x0 h1 =>
 ifB (jK x0)
 (k 0 1 h1)
 (ifB (ltF a1 2)
 (j3 a0 a1 true h1)
 (j3 a0 a1 (ltF 6 a1) h1))
theorem aaV (n : Nat) (aq : cw) (aB : cT) (ar : cL) (k0 : Q0) (k : jm) (hk : jA k0 k) (J3 : Q1) (j3 : ux) (h3 : Az J3 j3) (a0 : AV) (a1 : Int) (h : Heap) : (NW n aq aB ar k0 J3) ⟨cP [(p0, a0), (p1, (.int .u8 a1))], h⟩ = (Ct n aq aB ar k j3) a0 a1 h := by
  obtain rfl := fx3 hk
  obtain rfl := fx4 h3
  kernel_rfl
def abb : Q1 := NW n aq aB ar k0 (AA n aq aB ar k0 )
def Dg (n : Nat) (aq : cw) (aB : cT) (ar : cL) (a0 : AV) (a1 : Int) (h : Heap) (k : jm) : CRes := Ct n aq aB ar k (uy n aq aB ar k ) a0 a1 h
theorem aaY (n : Nat) (aq : cw) (aB : cT) (ar : cL) (k0 : Q0) (s : St) : D (ft [(dC, dL aq), (fP, gH aB), (eV, gh ar)]) dg n xF (cO z_pool_Pool__Take k0) (fun _ _ => .err) (cO z_pool_Pool__Take k0) s = abb n aq aB ar k0 s := by kernel_rfl
theorem aaq (n : Nat) (aq : cw) (aB : cT) (ar : cL) (a0 : AV) (a1 : Int) (h : Heap) (k0 : Q0) : W a_pool_Pool__Take z_pool_Pool__Take [(dC, dL aq), (fP, gH aB), (eV, gh ar)] dg n xF [a0, (.int .u8 a1)] h k0 = Dg n aq aB ar a0 a1 h (fun u0 u1 h => k0 (.tuple [(.int .i64 u0), (.int .i64 u1)]) h) := by
  let k : jm := fun u0 u1 h => k0 (.tuple [(.int .i64 u0), (.int .i64 u1)]) h
  have hk : jA k0 k := fun _ _ _ => rfl
  have hb : ∀ F : Tr AV → CRes, iS a_pool_Pool__Take [a0, (.int .u8 a1)] .leaf F = F (cP [(p0, a0), (p1, (.int .u8 a1))]) := fun F => by kernel_rfl
  exact (nD hb).trans ((aaY n aq aB ar k0 _).trans (aaV n aq aB ar k0 k hk (AA n aq aB ar k0 ) (uy n aq aB ar k ) (XF n aq aB ar k0 k hk ) a0 a1 h))
end
def ib (n : Nat) : cC := Dg n (eB n) (il n) (ez n)
theorem aaE {tbl : Tr AFn} (hp : cN tbl) (ht : tbl.get (key lj) = some Od) (n : Nat) (qy : Sound tbl dC (dL (eB n))) (AH : Sound tbl fP (gH (il n))) (yE : Sound tbl eV (gh (ez n))) : Sound tbl lj (ml (ib n)) := by
  refine Sound.of (dK hp (ps := a_pool_Pool__Take) (rs := z_pool_Pool__Take) (l := [(dC, dL (eB n)), (fP, gH (il n)), (eV, gh (ez n))]) (ty := dg) (n := n) (c := xF) ht ⟨qy, AH, yE, trivial⟩) fun args H k r H' h => ?_
  unfold ml at h
  obtain ⟨a0, l0, e0, h0⟩ := cY h
  subst e0
  obtain ⟨a1, l1, e1, h1⟩ := dT h0
  subst e1
  obtain ⟨e9, h9⟩ := db h1
  subst e9
  exact (aaq n (eB n) (il n) (ez n) a0 a1 H k).trans h9
/-! cofferdam/cofferdamlaw12.PoolApart -/
abbrev ago := Bool → Heap → CRes
abbrev cD := AV → Heap → (AV → Heap → CRes) → CRes
abbrev mn := AV → Heap → CRes
def mi (g : cD) : Wr := fun l h k => mr l fun a0 l => nC l (g a0 h fun u0 h => k u0 h)
def jz (aq : cw) (ar : cL) : eg := ft [(dC, dL aq), (eV, gh ar)]
abbrev pg (k0 : Q0) (k : mn) : Prop := ∀ u0 h, k0 u0 h = k u0 h
abbrev ut : Type := AV → Heap → CRes
abbrev AB (J : Q1) (j : ut) : Prop := ∀ v3 h, J ⟨cP [(p3, v3)], h⟩ = j v3 h
abbrev mf : Type := AV → AV → Int → Int → Heap → CRes
abbrev uu (J : Q1) (j : mf) : Prop := ∀ v3 v12 v13 v14 h, J ⟨cP [(p3, v3), (p12, v12), (p13, (.int .i64 v13)), (p14, (.int .i64 v14))], h⟩ = j v3 v12 v13 v14 h
section
variable (n : Nat) (aq : cw) (ar : cL) (k0 : Q0) (k : mn)
def JK (n : Nat) (aq : cw) (ar : cL) (k0 : Q0) : Q1 := (bH (jz aq ar) ii Jp (cO z_pool_Pool__Free k0))
def Aq (n : Nat) (aq : cw) (ar : cL) (k : mn) (v3 : AV) (h : Heap) : CRes :=
 k v3 h
theorem Xg (hk : pg k0 k) : AB (JK n aq ar k0 ) (Aq n aq ar k ) := by
  obtain rfl := fx2 hk
  intro v3 h
  kernel_rfl
def AP : Q1 := JK n aq ar k0
def qx : ut := Aq n aq ar k
theorem Xx (hk : pg k0 k) : AB (AP n aq ar k0 ) (qx n aq ar k ) := Xg n aq ar k0 k hk
def I2 (n : Nat) (aq : cw) (ar : cL) (k0 : Q0) (J0 : Q1) (J1 : Q1) : Q1 := (bH (jz aq ar) ii Ja (fun s => eM (.t p15) s (bH (jz aq ar) ii JH (bH (jz aq ar) ii JN (bH (jz aq ar) ii JJ (fun s => cS Aw s J1)))) (fun s => cS JM s J0)))
def uv (n : Nat) (aq : cw) (ar : cL) (k : mn) (j0 : ut) (j1 : mf) (v3 : AV) (v12 : AV) (v13 : Int) (v14 : Int) (h : Heap) : CRes :=
 ifB (ltF v14 v13)
 (eld 1 h v12 v14 1 false fun x5 x6 =>
 ar x6 h fun x7 h8 =>
 sf h8 1 [(.int .i64 0)] [(0, 1, (.int .i64 x7))] fun x9 h10 =>
 sw h10 1 v3 x9 fun x11 h12 =>
 mO .i64 v14 1 fun x13 =>
 j1 x11 v12 v13 x13 h12)
 (j0 v3 h)
theorem Xi (hk : pg k0 k) (J0 : Q1) (j0 : ut) (h0 : AB J0 j0) (J1 : Q1) (j1 : mf) (h1 : uu J1 j1) : uu (I2 n aq ar k0 J0 J1) (uv n aq ar k j0 j1) := by
  obtain rfl := fx2 hk
  obtain rfl := fx2 h0
  obtain rfl := fx5 h1
  intro v3 v12 v13 v14 h
  kernel_rfl
def ur (m : Nat) : Q1 := Nat.rec (motive := fun _ => Q1) (fun _ => .err) (fun _ ih => I2 n aq ar k0 (AP n aq ar k0 ) ih) m
def md (m : Nat) : mf := Nat.rec (motive := fun _ => mf) (fun _ _ _ _ _ => .err) (fun _ ih => uv n aq ar k (qx n aq ar k ) ih) m
theorem XD (m : Nat) : md n aq ar k (m + 1) = uv n aq ar k (qx n aq ar k ) (md n aq ar k m) := rfl
theorem Xa (hk : pg k0 k) (m : Nat) : uu (ur n aq ar k0 m) (md n aq ar k m) := by
  induction m with
  | zero => intro v3 v12 v13 v14 h; rfl
  | succ m ih => exact Xi n aq ar k0 k hk (AP n aq ar k0 ) (qx n aq ar k ) (Xx n aq ar k0 k hk ) (ur n aq ar k0 m) (md n aq ar k m) ih
def Ny (n : Nat) (aq : cw) (ar : cL) (k0 : Q0) (J1 : Q1) : Q1 := (bH (jz aq ar) ii I5 (bH (jz aq ar) ii JO (fun s => eM (.t p8) s (bH (jz aq ar) ii Jf (cO z_pool_Pool__Free k0)) (bH (jz aq ar) ii Ju (bH (jz aq ar) ii Ji (fun s => cS Aw s J1))))))
def Dx (n : Nat) (aq : cw) (ar : cL) (k : mn) (j1 : mf) (a0 : AV) (h : Heap) : CRes :=
 aq a0 h fun x0 h1 =>
 ifB (jK x0)
 (k .nilslice h1)
 (ac7 11 h1 a0 1 false fun x2 x3 =>
 iP x3 fun x4 =>
 j1 .nilslice x3 x4 0 h1)
theorem aaL (n : Nat) (aq : cw) (ar : cL) (k0 : Q0) (k : mn) (hk : pg k0 k) (J1 : Q1) (j1 : mf) (h1 : uu J1 j1) (a0 : AV) (h : Heap) : (Ny n aq ar k0 J1) ⟨cP [(p0, a0)], h⟩ = (Dx n aq ar k j1) a0 h := by
  obtain rfl := fx2 hk
  obtain rfl := fx5 h1
  kernel_rfl
def abA : Q1 := Ny n aq ar k0 (ur n aq ar k0 n)
def Cu (n : Nat) (aq : cw) (ar : cL) (a0 : AV) (h : Heap) (k : mn) : CRes := Dx n aq ar k (md n aq ar k n) a0 h
theorem abf (n : Nat) (aq : cw) (ar : cL) (k0 : Q0) (s : St) : D (ft [(dC, dL aq), (eV, gh ar)]) ii n xA (cO z_pool_Pool__Free k0) (fun _ _ => .err) (cO z_pool_Pool__Free k0) s = abA n aq ar k0 s := by kernel_rfl
theorem aad (n : Nat) (aq : cw) (ar : cL) (a0 : AV) (h : Heap) (k0 : Q0) : W a_pool_Pool__Free z_pool_Pool__Free [(dC, dL aq), (eV, gh ar)] ii n xA [a0] h k0 = Cu n aq ar a0 h (fun u0 h => k0 u0 h) := by
  let k : mn := fun u0 h => k0 u0 h
  have hk : pg k0 k := fun _ _ => rfl
  have hb : ∀ F : Tr AV → CRes, iS a_pool_Pool__Free [a0] .leaf F = F (cP [(p0, a0)]) := fun F => by kernel_rfl
  exact (nD hb).trans ((abf n aq ar k0 _).trans (aaL n aq ar k0 k hk (ur n aq ar k0 n) (md n aq ar k n) (Xa n aq ar k0 k hk n) a0 h))
end
def ij (n : Nat) : cD := Cu n (eB n) (ez n)
theorem aaP {tbl : Tr AFn} (hp : cN tbl) (ht : tbl.get (key lm) = some Of) (n : Nat) (qy : Sound tbl dC (dL (eB n))) (yE : Sound tbl eV (gh (ez n))) : Sound tbl lm (mi (ij n)) := by
  refine Sound.of (dK hp (ps := a_pool_Pool__Free) (rs := z_pool_Pool__Free) (l := [(dC, dL (eB n)), (eV, gh (ez n))]) (ty := ii) (n := n) (c := xA) ht ⟨qy, yE, trivial⟩) fun args H k r H' h => ?_
  unfold mi at h
  obtain ⟨a0, l0, e0, h0⟩ := cY h
  subst e0
  obtain ⟨e9, h9⟩ := db h0
  subst e9
  exact (aad n (eB n) (ez n) a0 H k).trans h9
/-! cofferdam/cofferdamref00.EqInts -/
abbrev bT := AV → AV → Heap → (Bool → Heap → CRes) → CRes
abbrev iY := Bool → Heap → CRes
def iX (g : bT) : Wr := fun l h k => mr l fun a0 l => mr l fun a1 l => nC l (g a0 a1 h fun u0 h => k (.bool u0) h)
def gT : eg := ft []
abbrev kQ (k0 : Q0) (k : iY) : Prop := ∀ u0 h, k0 (.bool u0) h = k u0 h
abbrev oQ : Type := Heap → CRes
abbrev sO (J : Q1) (j : oQ) : Prop := ∀ h, J ⟨cP [], h⟩ = j h
abbrev jb : Type := AV → AV → Int → Heap → CRes
abbrev oL (J : Q1) (j : jb) : Prop := ∀ v0 v1 v5 h, J ⟨cP [(p0, v0), (p1, v1), (p5, (.int .i64 v5))], h⟩ = j v0 v1 v5 h
section
variable (n : Nat) (k0 : Q0) (k : iY)
def Ap (n : Nat) (k0 : Q0) : Q1 := (bH (gT ) ew Am (cO z_cofferdamref00_EqInts k0))
def sS (n : Nat) (k : iY) (h : Heap) : CRes :=
 k true h
theorem M4 (hk : kQ k0 k) : sO (Ap n k0 ) (sS n k ) := by
  obtain rfl := fx2 hk
  intro h
  kernel_rfl
def sL : Q1 := Ap n k0
def mc : oQ := sS n k
theorem MM (hk : kQ k0 k) : sO (sL n k0 ) (mc n k ) := M4 n k0 k hk
def Ah (n : Nat) (k0 : Q0) (J0 : Q1) (J1 : Q1) : Q1 := (bH (gT ) ew z7 (fun s => eM (.t p14) s (bH (gT ) ew Ak (fun s => eM (.t p25) s (bH (gT ) ew An (cO z_cofferdamref00_EqInts k0)) (bH (gT ) ew Ag (fun s => cS sJ s J1)))) (fun s => cS z6 s J0)))
def oO (n : Nat) (k : iY) (j0 : oQ) (j1 : jb) (v0 : AV) (v1 : AV) (v5 : Int) (h : Heap) : CRes :=
 iP v0 fun x2 =>
 ifB (ltF v5 x2)
 (DW .i64 1 h v0 v5 fun x3 x4 =>
 DW .i64 1 h v1 v5 fun x5 x6 =>
 ifB (jK (eqF x4 x6))
 (k false h)
 (mO .i64 v5 1 fun x7 =>
 j1 v0 v1 x7 h))
 (j0 h)
theorem MU (hk : kQ k0 k) (J0 : Q1) (j0 : oQ) (h0 : sO J0 j0) (J1 : Q1) (j1 : jb) (h1 : oL J1 j1) : oL (Ah n k0 J0 J1) (oO n k j0 j1) := by
  obtain rfl := fx2 hk
  obtain rfl := fx1 h0
  obtain rfl := fx4 h1
  intro v0 v1 v5 h
  kernel_rfl
def oN (m : Nat) : Q1 := Nat.rec (motive := fun _ => Q1) (fun _ => .err) (fun _ ih => Ah n k0 (sL n k0 ) ih) m
def i9 (m : Nat) : jb := Nat.rec (motive := fun _ => jb) (fun _ _ _ _ => .err) (fun _ ih => oO n k (mc n k ) ih) m
theorem MQ (m : Nat) : i9 n k (m + 1) = oO n k (mc n k ) (i9 n k m) := rfl
theorem M1 (hk : kQ k0 k) (m : Nat) : oL (oN n k0 m) (i9 n k m) := by
  induction m with
  | zero => intro v0 v1 v5 h; rfl
  | succ m ih => exact MU n k0 k hk (sL n k0 ) (mc n k ) (MM n k0 k hk ) (oN n k0 m) (i9 n k m) ih
def Ck (n : Nat) (k0 : Q0) (J1 : Q1) : Q1 := (bH (gT ) ew Ae (bH (gT ) ew Ao (fun s => eM (.t p10) s (bH (gT ) ew z8 (cO z_cofferdamref00_EqInts k0)) (bH (gT ) ew Aj (fun s => cS sJ s J1)))))
def uG (n : Nat) (k : iY) (j1 : jb) (a0 : AV) (a1 : AV) (h : Heap) : CRes :=
 iP a0 fun x0 =>
 iP a1 fun x1 =>
 ifB (jK (eqF x0 x1))
 (k false h)
 (j1 a0 a1 0 h)
theorem Ri (n : Nat) (k0 : Q0) (k : iY) (hk : kQ k0 k) (J1 : Q1) (j1 : jb) (h1 : oL J1 j1) (a0 : AV) (a1 : AV) (h : Heap) : (Ck n k0 J1) ⟨cP [(p0, a0), (p1, a1)], h⟩ = (uG n k j1) a0 a1 h := by
  obtain rfl := fx2 hk
  obtain rfl := fx4 h1
  kernel_rfl
def Qn : Q1 := Ck n k0 (oN n k0 n)
def uW (n : Nat) (a0 : AV) (a1 : AV) (h : Heap) (k : iY) : CRes := uG n k (i9 n k n) a0 a1 h
theorem QU (n : Nat) (k0 : Q0) (s : St) : D (ft []) ew n pV (cO z_cofferdamref00_EqInts k0) (fun _ _ => .err) (cO z_cofferdamref00_EqInts k0) s = Qn n k0 s := by kernel_rfl
theorem QF (n : Nat) (a0 : AV) (a1 : AV) (h : Heap) (k0 : Q0) : W a_cofferdamref00_EqInts z_cofferdamref00_EqInts [] ew n pV [a0, a1] h k0 = uW n a0 a1 h (fun u0 h => k0 (.bool u0) h) := by
  let k : iY := fun u0 h => k0 (.bool u0) h
  have hk : kQ k0 k := fun _ _ => rfl
  have hb : ∀ F : Tr AV → CRes, iS a_cofferdamref00_EqInts [a0, a1] .leaf F = F (cP [(p0, a0), (p1, a1)]) := fun F => by kernel_rfl
  exact (nD hb).trans ((QU n k0 _).trans (Ri n k0 k hk (oN n k0 n) (i9 n k n) (M1 n k0 k hk n) a0 a1 h))
end
def d7 (n : Nat) : bT := uW n
theorem QY {tbl : Tr AFn} (hp : cN tbl) (ht : tbl.get (key gZ) = some Ch) (n : Nat) : Sound tbl gZ (iX (d7 n)) := by
  refine Sound.of (dK hp (ps := a_cofferdamref00_EqInts) (rs := z_cofferdamref00_EqInts) (l := []) (ty := ew) (n := n) (c := pV) ht trivial) fun args H k r H' h => ?_
  unfold iX at h
  obtain ⟨a0, l0, e0, h0⟩ := cY h
  subst e0
  obtain ⟨a1, l1, e1, h1⟩ := cY h0
  subst e1
  obtain ⟨e9, h9⟩ := db h1
  subst e9
  exact (QF n a0 a1 H k).trans h9
/-! cofferdam/cofferdamlaw12.PoolEven -/
abbrev Af := AV → Int → AV → Heap → (Bool → Heap → CRes) → CRes
abbrev cJ := Bool → Heap → CRes
def sI (g : Af) : Wr := fun l h k => mr l fun a0 l => qA .i64 l fun a1 l => mr l fun a2 l => nC l (g a0 a1 a2 h fun u0 h => k (.bool u0) h)
def bQ (ab : Wr) (av : dG) (au : cX) (af : cv) (ai : cC) (ah : cD) (aa : bT) : eg := ft [(ma, ab), (vA, yy av), (nL, oZ au), (kw, lM af), (lj, ml ai), (lm, mi ah), (gZ, iX aa)]
abbrev bZ (k0 : Q0) (k : cJ) : Prop := ∀ u0 h, k0 (.bool u0) h = k u0 h
abbrev nf : Type := Heap → CRes
abbrev qV (J : Q1) (j : nf) : Prop := ∀ h, J ⟨cP [], h⟩ = j h
abbrev nj : Type := AV → AV → AV → Int → Heap → CRes
abbrev rh (J : Q1) (j : nj) : Prop := ∀ v2 v7 v9 v11 h, J ⟨cP [(p2, v2), (p7, v7), (p9, v9), (p11, (.int .i64 v11))], h⟩ = j v2 v7 v9 v11 h
abbrev ng : Type := AV → AV → AV → Int → AV → AV → Int → Heap → CRes
abbrev rg (J : Q1) (j : ng) : Prop := ∀ v2 v7 v9 v11 v15 v18 v19 h, J ⟨cP [(p2, v2), (p7, v7), (p9, v9), (p11, (.int .i64 v11)), (p15, v15), (p18, v18), (p19, (.int .i64 v19))], h⟩ = j v2 v7 v9 v11 v15 v18 v19 h
abbrev nw : Type := AV → AV → AV → Int → AV → AV → Int → Int → Bool → Heap → CRes
abbrev qK (J : Q1) (j : nw) : Prop := ∀ v2 v7 v9 v11 v15 v18 v19 v20 v160 h, J ⟨cP [(p2, v2), (p7, v7), (p9, v9), (p11, (.int .i64 v11)), (p15, v15), (p18, v18), (p19, (.int .i64 v19)), (p20, (.int .i64 v20)), (p160, (.bool v160))], h⟩ = j v2 v7 v9 v11 v15 v18 v19 v20 v160 h
abbrev fq : Type := AV → AV → AV → Int → AV → AV → Int → Int → Heap → CRes
abbrev ll (J : Q1) (j : fq) : Prop := ∀ v2 v7 v9 v11 v15 v18 v19 v20 h, J ⟨cP [(p2, v2), (p7, v7), (p9, v9), (p11, (.int .i64 v11)), (p15, v15), (p18, v18), (p19, (.int .i64 v19)), (p20, (.int .i64 v20))], h⟩ = j v2 v7 v9 v11 v15 v18 v19 v20 h
abbrev dp : Type := AV → AV → AV → Int → AV → AV → Int → Heap → CRes
abbrev jH (J : Q1) (j : dp) : Prop := ∀ v2 v7 v9 v11 v15 v18 v19 h, J ⟨cP [(p2, v2), (p7, v7), (p9, v9), (p11, (.int .i64 v11)), (p15, v15), (p18, v18), (p19, (.int .i64 v19))], h⟩ = j v2 v7 v9 v11 v15 v18 v19 h
abbrev nv : Type := AV → AV → AV → Int → AV → AV → Bool → Heap → CRes
abbrev qM (J : Q1) (j : nv) : Prop := ∀ v2 v7 v9 v11 v15 v18 v128 h, J ⟨cP [(p2, v2), (p7, v7), (p9, v9), (p11, (.int .i64 v11)), (p15, v15), (p18, v18), (p128, (.bool v128))], h⟩ = j v2 v7 v9 v11 v15 v18 v128 h
abbrev nu : Type := AV → AV → AV → Int → Int → Heap → CRes
abbrev qO (J : Q1) (j : nu) : Prop := ∀ v2 v7 v9 v11 v12 h, J ⟨cP [(p2, v2), (p7, v7), (p9, v9), (p11, (.int .i64 v11)), (p12, (.int .u8 v12))], h⟩ = j v2 v7 v9 v11 v12 h
abbrev mK : Type := AV → AV → AV → Int → Int → AV → Int → Bool → Heap → CRes
abbrev qi (J : Q1) (j : mK) : Prop := ∀ v2 v7 v9 v11 v12 v13 v14 v103 h, J ⟨cP [(p2, v2), (p7, v7), (p9, v9), (p11, (.int .i64 v11)), (p12, (.int .u8 v12)), (p13, v13), (p14, (.int .i64 v14)), (p103, (.bool v103))], h⟩ = j v2 v7 v9 v11 v12 v13 v14 v103 h
abbrev fk : Type := AV → AV → AV → Int → Int → AV → Int → Heap → CRes
abbrev li (J : Q1) (j : fk) : Prop := ∀ v2 v7 v9 v11 v12 v13 v14 h, J ⟨cP [(p2, v2), (p7, v7), (p9, v9), (p11, (.int .i64 v11)), (p12, (.int .u8 v12)), (p13, v13), (p14, (.int .i64 v14))], h⟩ = j v2 v7 v9 v11 v12 v13 v14 h
abbrev mA : Type := AV → AV → AV → Int → Bool → Heap → CRes
abbrev qd (J : Q1) (j : mA) : Prop := ∀ v2 v7 v9 v11 v62 h, J ⟨cP [(p2, v2), (p7, v7), (p9, v9), (p11, (.int .i64 v11)), (p62, (.bool v62))], h⟩ = j v2 v7 v9 v11 v62 h
abbrev cH : Type := AV → AV → AV → Int → Heap → CRes
abbrev et (J : Q1) (j : cH) : Prop := ∀ v2 v7 v9 v11 h, J ⟨cP [(p2, v2), (p7, v7), (p9, v9), (p11, (.int .i64 v11))], h⟩ = j v2 v7 v9 v11 h
abbrev mE : Type := Bool → Heap → CRes
abbrev qc (J : Q1) (j : mE) : Prop := ∀ v52 h, J ⟨cP [(p52, (.bool v52))], h⟩ = j v52 h
abbrev mM : Type := AV → AV → AV → Int → AV → Int → Bool → Heap → CRes
abbrev qm (J : Q1) (j : mM) : Prop := ∀ v2 v3 v7 v8 v9 v10 v40 h, J ⟨cP [(p2, v2), (p3, v3), (p7, v7), (p8, (.int .i64 v8)), (p9, v9), (p10, (.int .i64 v10)), (p40, (.bool v40))], h⟩ = j v2 v3 v7 v8 v9 v10 v40 h
section
variable (n : Nat) (ab : Wr) (av : dG) (au : cX) (af : cv) (ai : cC) (ah : cD) (aa : bT) (k0 : Q0) (k : cJ)
def xX (n : Nat) (ab : Wr) (av : dG) (au : cX) (af : cv) (ai : cC) (ah : cD) (aa : bT) (k0 : Q0) : Q1 := (bH (bQ ab av au af ai ah aa) bF yb (cO z_cofferdamlaw12_PoolEven k0))
def qL (n : Nat) (ab : Wr) (av : dG) (au : cX) (af : cv) (ai : cC) (ah : cD) (aa : bT) (k : cJ) (h : Heap) : CRes :=
 k true h
theorem Kz (hk : bZ k0 k) : qV (xX n ab av au af ai ah aa k0 ) (qL n ab av au af ai ah aa k ) := by
  obtain rfl := fx2 hk
  intro h
  kernel_rfl
def rb : Q1 := xX n ab av au af ai ah aa k0
def nr : nf := qL n ab av au af ai ah aa k
theorem JW (hk : bZ k0 k) : qV (rb n ab av au af ai ah aa k0 ) (nr n ab av au af ai ah aa k ) := Kz n ab av au af ai ah aa k0 k hk
def yc (n : Nat) (ab : Wr) (av : dG) (au : cX) (af : cv) (ai : cC) (ah : cD) (aa : bT) (k0 : Q0) (J1 : Q1) : Q1 := (bH (bQ ab av au af ai ah aa) bF xV (fun s => cS qR s J1))
def qJ (n : Nat) (ab : Wr) (av : dG) (au : cX) (af : cv) (ai : cC) (ah : cD) (aa : bT) (k : cJ) (j1 : cH) (v2 : AV) (v7 : AV) (v9 : AV) (v11 : Int) (h : Heap) : CRes :=
 mO .i64 v11 1 fun x53 =>
 j1 v2 v7 v9 x53 h
theorem JY (hk : bZ k0 k) (J1 : Q1) (j1 : cH) (h1 : et J1 j1) : rh (yc n ab av au af ai ah aa k0 J1) (qJ n ab av au af ai ah aa k j1) := by
  obtain rfl := fx2 hk
  obtain rfl := fx5 h1
  intro v2 v7 v9 v11 h
  kernel_rfl
def q0 (J1 : Q1) : Q1 := yc n ab av au af ai ah aa k0 J1
def jI (j1 : cH) : nj := qJ n ab av au af ai ah aa k j1
theorem JV (hk : bZ k0 k) (J1 : Q1) (j1 : cH) (h1 : et J1 j1) : rh (q0 n ab av au af ai ah aa k0 J1) (jI n ab av au af ai ah aa k j1) := JY n ab av au af ai ah aa k0 k hk J1 j1 h1
def xv (n : Nat) (ab : Wr) (av : dG) (au : cX) (af : cv) (ai : cC) (ah : cD) (aa : bT) (k0 : Q0) (J3 : Q1) : Q1 := (bH (bQ ab av au af ai ah aa) bF xI (fun s => cS qN s J3))
def qX (n : Nat) (ab : Wr) (av : dG) (au : cX) (af : cv) (ai : cC) (ah : cD) (aa : bT) (k : cJ) (j3 : dp) (v2 : AV) (v7 : AV) (v9 : AV) (v11 : Int) (v15 : AV) (v18 : AV) (v19 : Int) (h : Heap) : CRes :=
 mO .i64 v19 1 fun x55 =>
 j3 v2 v7 v9 v11 v15 v18 x55 h
theorem Kn (hk : bZ k0 k) (J3 : Q1) (j3 : dp) (h3 : jH J3 j3) : rg (xv n ab av au af ai ah aa k0 J3) (qX n ab av au af ai ah aa k j3) := by
  obtain rfl := fx2 hk
  obtain rfl := fx8 h3
  intro v2 v7 v9 v11 v15 v18 v19 h
  kernel_rfl
def qS (J3 : Q1) : Q1 := xv n ab av au af ai ah aa k0 J3
def jF (j3 : dp) : ng := qX n ab av au af ai ah aa k j3
theorem Kw (hk : bZ k0 k) (J3 : Q1) (j3 : dp) (h3 : jH J3 j3) : rg (qS n ab av au af ai ah aa k0 J3) (jF n ab av au af ai ah aa k j3) := Kn n ab av au af ai ah aa k0 k hk J3 j3 h3
def xl (n : Nat) (ab : Wr) (av : dG) (au : cX) (af : cv) (ai : cC) (ah : cD) (aa : bT) (k0 : Q0) (J5 : Q1) : Q1 := (fun s => eM (.t p160) s (bH (bQ ab av au af ai ah aa) bF xZ (cO z_cofferdamlaw12_PoolEven k0)) (bH (bQ ab av au af ai ah aa) bF yl (fun s => cS q9 s J5)))
def qG (n : Nat) (ab : Wr) (av : dG) (au : cX) (af : cv) (ai : cC) (ah : cD) (aa : bT) (k : cJ) (j5 : fq) (v2 : AV) (v7 : AV) (v9 : AV) (v11 : Int) (v15 : AV) (v18 : AV) (v19 : Int) (v20 : Int) (v160 : Bool) (h : Heap) : CRes :=
 ifB v160
 (k false h)
 (mO .i64 v20 1 fun x65 =>
 j5 v2 v7 v9 v11 v15 v18 v19 x65 h)
theorem Kt (hk : bZ k0 k) (J5 : Q1) (j5 : fq) (h5 : ll J5 j5) : qK (xl n ab av au af ai ah aa k0 J5) (qG n ab av au af ai ah aa k j5) := by
  obtain rfl := fx2 hk
  obtain rfl := fx9 h5
  intro v2 v7 v9 v11 v15 v18 v19 v20 v160 h
  kernel_rfl
def qQ (J5 : Q1) : Q1 := xl n ab av au af ai ah aa k0 J5
def lf (j5 : fq) : nw := qG n ab av au af ai ah aa k j5
theorem KH (hk : bZ k0 k) (J5 : Q1) (j5 : fq) (h5 : ll J5 j5) : qK (qQ n ab av au af ai ah aa k0 J5) (lf n ab av au af ai ah aa k j5) := Kt n ab av au af ai ah aa k0 k hk J5 j5 h5
def xO (n : Nat) (ab : Wr) (av : dG) (au : cX) (af : cv) (ai : cC) (ah : cD) (aa : bT) (k0 : Q0) (J4 : Q1) (J6 : Q1) : Q1 := (bH (bQ ab av au af ai ah aa) bF xY (fun s => eM (.t p138) s (bH (bQ ab av au af ai ah aa) bF yg (fun s => cS xP s J6)) (fun s => cS xo s J4)))
def nl (n : Nat) (ab : Wr) (av : dG) (au : cX) (af : cv) (ai : cC) (ah : cD) (aa : bT) (k : cJ) (j4 : ng) (j6 : nw) (v2 : AV) (v7 : AV) (v9 : AV) (v11 : Int) (v15 : AV) (v18 : AV) (v19 : Int) (v20 : Int) (h : Heap) : CRes :=
 iP v15 fun x56 =>
 ifB (ltF v20 x56)
 (DW .i64 1 h v18 v19 fun x57 x58 =>
 DW .i64 1 h v15 v19 fun x59 x60 =>
 ifB (ltF x58 x60)
 (DW .i64 1 h v15 v20 fun x61 x62 =>
 DW .i64 1 h v15 v19 fun x63 x64 =>
 j6 v2 v7 v9 v11 v15 v18 v19 v20 (ltF x64 x62) h)
 (j6 v2 v7 v9 v11 v15 v18 v19 v20 false h))
 (j4 v2 v7 v9 v11 v15 v18 v19 h)
theorem Ki (hk : bZ k0 k) (J4 : Q1) (j4 : ng) (h4 : rg J4 j4) (J6 : Q1) (j6 : nw) (h6 : qK J6 j6) : ll (xO n ab av au af ai ah aa k0 J4 J6) (nl n ab av au af ai ah aa k j4 j6) := by
  obtain rfl := fx2 hk
  obtain rfl := fx8 h4
  obtain rfl := fx10 h6
  intro v2 v7 v9 v11 v15 v18 v19 v20 h
  kernel_rfl
def lz (J3 : Q1) (m : Nat) : Q1 := Nat.rec (motive := fun _ => Q1) (fun _ => .err) (fun _ ih => xO n ab av au af ai ah aa k0 (qS n ab av au af ai ah aa k0 J3) (qQ n ab av au af ai ah aa k0 ih)) m
def fg (j3 : dp) (m : Nat) : fq := Nat.rec (motive := fun _ => fq) (fun _ _ _ _ _ _ _ _ _ => .err) (fun _ ih => nl n ab av au af ai ah aa k (jF n ab av au af ai ah aa k j3) (lf n ab av au af ai ah aa k ih)) m
theorem KE (j3 : dp) (m : Nat) : fg n ab av au af ai ah aa k j3 (m + 1) = nl n ab av au af ai ah aa k (jF n ab av au af ai ah aa k j3) (lf n ab av au af ai ah aa k (fg n ab av au af ai ah aa k j3 m)) := rfl
theorem Kf (hk : bZ k0 k) (J3 : Q1) (j3 : dp) (h3 : jH J3 j3) (m : Nat) : ll (lz n ab av au af ai ah aa k0 J3 m) (fg n ab av au af ai ah aa k j3 m) := by
  induction m with
  | zero => intro v2 v7 v9 v11 v15 v18 v19 v20 h; rfl
  | succ m ih => exact Ki n ab av au af ai ah aa k0 k hk (qS n ab av au af ai ah aa k0 J3) (jF n ab av au af ai ah aa k j3) (Kw n ab av au af ai ah aa k0 k hk J3 j3 h3) (qQ n ab av au af ai ah aa k0 (lz n ab av au af ai ah aa k0 J3 m)) (lf n ab av au af ai ah aa k (fg n ab av au af ai ah aa k j3 m)) (KH n ab av au af ai ah aa k0 k hk (lz n ab av au af ai ah aa k0 J3 m) (fg n ab av au af ai ah aa k j3 m) ih)
def xR (n : Nat) (ab : Wr) (av : dG) (au : cX) (af : cv) (ai : cC) (ah : cD) (aa : bT) (k0 : Q0) (J2 : Q1) (J5 : Q1) : Q1 := (bH (bQ ab av au af ai ah aa) bF xS (fun s => eM (.t p132) s (bH (bQ ab av au af ai ah aa) bF xC (fun s => cS q9 s J5)) (fun s => cS xT s J2)))
def ns (n : Nat) (ab : Wr) (av : dG) (au : cX) (af : cv) (ai : cC) (ah : cD) (aa : bT) (k : cJ) (j2 : nj) (j5 : fq) (v2 : AV) (v7 : AV) (v9 : AV) (v11 : Int) (v15 : AV) (v18 : AV) (v19 : Int) (h : Heap) : CRes :=
 iP v15 fun x54 =>
 ifB (ltF v19 x54)
 (j5 v2 v7 v9 v11 v15 v18 v19 0 h)
 (j2 v2 v7 v9 v11 h)
theorem JQ (hk : bZ k0 k) (J2 : Q1) (j2 : nj) (h2 : rh J2 j2) (J5 : Q1) (j5 : fq) (h5 : ll J5 j5) : jH (xR n ab av au af ai ah aa k0 J2 J5) (ns n ab av au af ai ah aa k j2 j5) := by
  obtain rfl := fx2 hk
  obtain rfl := fx5 h2
  obtain rfl := fx9 h5
  intro v2 v7 v9 v11 v15 v18 v19 h
  kernel_rfl
def lh (J1 : Q1) (m : Nat) : Q1 := Nat.rec (motive := fun _ => Q1) (fun _ => .err) (fun _ ih => xR n ab av au af ai ah aa k0 (q0 n ab av au af ai ah aa k0 J1) (lz n ab av au af ai ah aa k0 ih n)) m
def eu (j1 : cH) (m : Nat) : dp := Nat.rec (motive := fun _ => dp) (fun _ _ _ _ _ _ _ _ => .err) (fun _ ih => ns n ab av au af ai ah aa k (jI n ab av au af ai ah aa k j1) (fg n ab av au af ai ah aa k ih n)) m
theorem Ke (j1 : cH) (m : Nat) : eu n ab av au af ai ah aa k j1 (m + 1) = ns n ab av au af ai ah aa k (jI n ab av au af ai ah aa k j1) (fg n ab av au af ai ah aa k (eu n ab av au af ai ah aa k j1 m) n) := rfl
theorem KF (hk : bZ k0 k) (J1 : Q1) (j1 : cH) (h1 : et J1 j1) (m : Nat) : jH (lh n ab av au af ai ah aa k0 J1 m) (eu n ab av au af ai ah aa k j1 m) := by
  induction m with
  | zero => intro v2 v7 v9 v11 v15 v18 v19 h; rfl
  | succ m ih => exact JQ n ab av au af ai ah aa k0 k hk (q0 n ab av au af ai ah aa k0 J1) (jI n ab av au af ai ah aa k j1) (JV n ab av au af ai ah aa k0 k hk J1 j1 h1) (lz n ab av au af ai ah aa k0 (lh n ab av au af ai ah aa k0 J1 m) n) (fg n ab av au af ai ah aa k (eu n ab av au af ai ah aa k j1 m) n) (Kf n ab av au af ai ah aa k0 k hk (lh n ab av au af ai ah aa k0 J1 m) (eu n ab av au af ai ah aa k j1 m) ih n)
def xQ (n : Nat) (ab : Wr) (av : dG) (au : cX) (af : cv) (ai : cC) (ah : cD) (aa : bT) (k0 : Q0) (J3 : Q1) : Q1 := (fun s => eM (.t p128) s (bH (bQ ab av au af ai ah aa) bF vI (cO z_cofferdamlaw12_PoolEven k0)) (bH (bQ ab av au af ai ah aa) bF ya (fun s => cS qN s J3)))
def rj (n : Nat) (ab : Wr) (av : dG) (au : cX) (af : cv) (ai : cC) (ah : cD) (aa : bT) (k : cJ) (j3 : dp) (v2 : AV) (v7 : AV) (v9 : AV) (v11 : Int) (v15 : AV) (v18 : AV) (v128 : Bool) (h : Heap) : CRes :=
 ifB v128
 (k false h)
 (j3 v2 v7 v9 v11 v15 v18 0 h)
theorem KK (hk : bZ k0 k) (J3 : Q1) (j3 : dp) (h3 : jH J3 j3) : qM (xQ n ab av au af ai ah aa k0 J3) (rj n ab av au af ai ah aa k j3) := by
  obtain rfl := fx2 hk
  obtain rfl := fx8 h3
  intro v2 v7 v9 v11 v15 v18 v128 h
  kernel_rfl
def qU (J1 : Q1) : Q1 := xQ n ab av au af ai ah aa k0 (lh n ab av au af ai ah aa k0 J1 n)
def nA (j1 : cH) : nv := rj n ab av au af ai ah aa k (eu n ab av au af ai ah aa k j1 n)
theorem KI (hk : bZ k0 k) (J1 : Q1) (j1 : cH) (h1 : et J1 j1) : qM (qU n ab av au af ai ah aa k0 J1) (nA n ab av au af ai ah aa k j1) := KK n ab av au af ai ah aa k0 k hk (lh n ab av au af ai ah aa k0 J1 n) (eu n ab av au af ai ah aa k j1 n) (KF n ab av au af ai ah aa k0 k hk J1 j1 h1 n)
def yf (n : Nat) (ab : Wr) (av : dG) (au : cX) (af : cv) (ai : cC) (ah : cD) (aa : bT) (k0 : Q0) (J7 : Q1) : Q1 := (bH (bQ ab av au af ai ah aa) bF wD (bH (bQ ab av au af ai ah aa) bF wG (bH (bQ ab av au af ai ah aa) bF ww (bH (bQ ab av au af ai ah aa) bF wg (fun s => cS xE s J7)))))
def qI (n : Nat) (ab : Wr) (av : dG) (au : cX) (af : cv) (ai : cC) (ah : cD) (aa : bT) (k : cJ) (j7 : nv) (v2 : AV) (v7 : AV) (v9 : AV) (v11 : Int) (v12 : Int) (h : Heap) : CRes :=
 ah v9 h fun x30 h31 =>
 ai v9 v12 h31 fun x32 x33 h34 =>
 ah v9 h34 fun x35 h36 =>
 iP x35 fun x37 =>
 iP x30 fun x38 =>
 ifB (jK (eqF x37 x38))
 (j7 v2 v7 v9 v11 x30 x35 true h36)
 (ifB (jK (eqF x33 0))
 (aa x35 x30 h36 fun x39 h40 =>
 j7 v2 v7 v9 v11 x30 x35 (jK x39) h40)
 (j7 v2 v7 v9 v11 x30 x35 false h36))
theorem Ka (hk : bZ k0 k) (J7 : Q1) (j7 : nv) (h7 : qM J7 j7) : qO (yf n ab av au af ai ah aa k0 J7) (qI n ab av au af ai ah aa k j7) := by
  obtain rfl := fx2 hk
  obtain rfl := fx8 h7
  intro v2 v7 v9 v11 v12 h
  kernel_rfl
def qF (J1 : Q1) : Q1 := yf n ab av au af ai ah aa k0 (qU n ab av au af ai ah aa k0 J1)
def jG (j1 : cH) : nu := qI n ab av au af ai ah aa k (nA n ab av au af ai ah aa k j1)
theorem JS (hk : bZ k0 k) (J1 : Q1) (j1 : cH) (h1 : et J1 j1) : qO (qF n ab av au af ai ah aa k0 J1) (jG n ab av au af ai ah aa k j1) := Ka n ab av au af ai ah aa k0 k hk (qU n ab av au af ai ah aa k0 J1) (nA n ab av au af ai ah aa k j1) (KI n ab av au af ai ah aa k0 k hk J1 j1 h1)
def vP (n : Nat) (ab : Wr) (av : dG) (au : cX) (af : cv) (ai : cC) (ah : cD) (aa : bT) (k0 : Q0) (J9 : Q1) : Q1 := (fun s => eM (.t p103) s (bH (bQ ab av au af ai ah aa) bF vS (cO z_cofferdamlaw12_PoolEven k0)) (bH (bQ ab av au af ai ah aa) bF vT (fun s => cS rf s J9)))
def qq (n : Nat) (ab : Wr) (av : dG) (au : cX) (af : cv) (ai : cC) (ah : cD) (aa : bT) (k : cJ) (j9 : fk) (v2 : AV) (v7 : AV) (v9 : AV) (v11 : Int) (v12 : Int) (v13 : AV) (v14 : Int) (v103 : Bool) (h : Heap) : CRes :=
 ifB v103
 (k false h)
 (mO .i64 v14 1 fun x52 =>
 j9 v2 v7 v9 v11 v12 v13 x52 h)
theorem HX (hk : bZ k0 k) (J9 : Q1) (j9 : fk) (h9 : li J9 j9) : qi (vP n ab av au af ai ah aa k0 J9) (qq n ab av au af ai ah aa k j9) := by
  obtain rfl := fx2 hk
  obtain rfl := fx8 h9
  intro v2 v7 v9 v11 v12 v13 v14 v103 h
  kernel_rfl
def qe (J9 : Q1) : Q1 := vP n ab av au af ai ah aa k0 J9
def kN (j9 : fk) : mK := qq n ab av au af ai ah aa k j9
theorem Ig (hk : bZ k0 k) (J9 : Q1) (j9 : fk) (h9 : li J9 j9) : qi (qe n ab av au af ai ah aa k0 J9) (kN n ab av au af ai ah aa k j9) := HX n ab av au af ai ah aa k0 k hk J9 j9 h9
def yh (n : Nat) (ab : Wr) (av : dG) (au : cX) (af : cv) (ai : cC) (ah : cD) (aa : bT) (k0 : Q0) (J8 : Q1) (J10 : Q1) : Q1 := (bH (bQ ab av au af ai ah aa) bF wo (fun s => eM (.t p80) s (bH (bQ ab av au af ai ah aa) bF wE (fun s => cS wl s J10)) (fun s => cS xq s J8)))
def ni (n : Nat) (ab : Wr) (av : dG) (au : cX) (af : cv) (ai : cC) (ah : cD) (aa : bT) (k : cJ) (j8 : nu) (j10 : mK) (v2 : AV) (v7 : AV) (v9 : AV) (v11 : Int) (v12 : Int) (v13 : AV) (v14 : Int) (h : Heap) : CRes :=
 iP v13 fun x41 =>
 ifB (ltF v14 x41)
 (W5 .i64 v14 1 fun x42 =>
 DW .i64 1 h v13 x42 fun x43 x44 =>
 DW .i64 1 h v13 v14 fun x45 x46 =>
 ifB (ltF x46 x44)
 (j10 v2 v7 v9 v11 v12 v13 v14 true h)
 (DW .i64 1 h v13 v14 fun x47 x48 =>
 DW .i64 1 h v13 0 fun x49 x50 =>
 mO .i64 x50 1 fun x51 =>
 j10 v2 v7 v9 v11 v12 v13 v14 (ltF x51 x48) h))
 (j8 v2 v7 v9 v11 v12 h)
theorem Kb (hk : bZ k0 k) (J8 : Q1) (j8 : nu) (h8 : qO J8 j8) (J10 : Q1) (j10 : mK) (h10 : qi J10 j10) : li (yh n ab av au af ai ah aa k0 J8 J10) (ni n ab av au af ai ah aa k j8 j10) := by
  obtain rfl := fx2 hk
  obtain rfl := fx6 h8
  obtain rfl := fx9 h10
  intro v2 v7 v9 v11 v12 v13 v14 h
  kernel_rfl
def lg (J1 : Q1) (m : Nat) : Q1 := Nat.rec (motive := fun _ => Q1) (fun _ => .err) (fun _ ih => yh n ab av au af ai ah aa k0 (qF n ab av au af ai ah aa k0 J1) (qe n ab av au af ai ah aa k0 ih)) m
def gA (j1 : cH) (m : Nat) : fk := Nat.rec (motive := fun _ => fk) (fun _ _ _ _ _ _ _ _ => .err) (fun _ ih => ni n ab av au af ai ah aa k (jG n ab av au af ai ah aa k j1) (kN n ab av au af ai ah aa k ih)) m
theorem JP (j1 : cH) (m : Nat) : gA n ab av au af ai ah aa k j1 (m + 1) = ni n ab av au af ai ah aa k (jG n ab av au af ai ah aa k j1) (kN n ab av au af ai ah aa k (gA n ab av au af ai ah aa k j1 m)) := rfl
theorem Kk (hk : bZ k0 k) (J1 : Q1) (j1 : cH) (h1 : et J1 j1) (m : Nat) : li (lg n ab av au af ai ah aa k0 J1 m) (gA n ab av au af ai ah aa k j1 m) := by
  induction m with
  | zero => intro v2 v7 v9 v11 v12 v13 v14 h; rfl
  | succ m ih => exact Kb n ab av au af ai ah aa k0 k hk (qF n ab av au af ai ah aa k0 J1) (jG n ab av au af ai ah aa k j1) (JS n ab av au af ai ah aa k0 k hk J1 j1 h1) (qe n ab av au af ai ah aa k0 (lg n ab av au af ai ah aa k0 J1 m)) (kN n ab av au af ai ah aa k (gA n ab av au af ai ah aa k j1 m)) (Ig n ab av au af ai ah aa k0 k hk (lg n ab av au af ai ah aa k0 J1 m) (gA n ab av au af ai ah aa k j1 m) ih)
def we (n : Nat) (ab : Wr) (av : dG) (au : cX) (af : cv) (ai : cC) (ah : cD) (aa : bT) (k0 : Q0) (J0 : Q1) (J9 : Q1) : Q1 := (fun s => eM (.t p62) s (bH (bQ ab av au af ai ah aa) bF vR (bH (bQ ab av au af ai ah aa) bF wi (bH (bQ ab av au af ai ah aa) bF wA (bH (bQ ab av au af ai ah aa) bF wh (fun s => cS rf s J9))))) (fun s => cS xt s J0))
def qn (n : Nat) (ab : Wr) (av : dG) (au : cX) (af : cv) (ai : cC) (ah : cD) (aa : bT) (k : cJ) (j0 : nf) (j9 : fk) (v2 : AV) (v7 : AV) (v9 : AV) (v11 : Int) (v62 : Bool) (h : Heap) : CRes :=
 ifB v62
 (iaSK 3 v2 v11 fun x20 =>
 mV .u8 2 h x20 fun x21 x22 =>
 remK .u8 x22 5 fun x23 =>
 mO .u8 2 x23 fun x24 =>
 ai v7 x24 h fun x25 x26 h27 =>
 ah v7 h27 fun x28 h29 =>
 j9 v2 v7 v9 v11 x24 x28 1 h29)
 (j0 h)
theorem HQ (hk : bZ k0 k) (J0 : Q1) (j0 : nf) (h0 : qV J0 j0) (J9 : Q1) (j9 : fk) (h9 : li J9 j9) : qd (we n ab av au af ai ah aa k0 J0 J9) (qn n ab av au af ai ah aa k j0 j9) := by
  obtain rfl := fx2 hk
  obtain rfl := fx1 h0
  obtain rfl := fx8 h9
  intro v2 v7 v9 v11 v62 h
  kernel_rfl
def qu (J1 : Q1) : Q1 := we n ab av au af ai ah aa k0 (rb n ab av au af ai ah aa k0 ) (lg n ab av au af ai ah aa k0 J1 n)
def kO (j1 : cH) : mA := qn n ab av au af ai ah aa k (nr n ab av au af ai ah aa k ) (gA n ab av au af ai ah aa k j1 n)
theorem Ip (hk : bZ k0 k) (J1 : Q1) (j1 : cH) (h1 : et J1 j1) : qd (qu n ab av au af ai ah aa k0 J1) (kO n ab av au af ai ah aa k j1) := HQ n ab av au af ai ah aa k0 k hk (rb n ab av au af ai ah aa k0 ) (nr n ab av au af ai ah aa k ) (JW n ab av au af ai ah aa k0 k hk ) (lg n ab av au af ai ah aa k0 J1 n) (gA n ab av au af ai ah aa k j1 n) (Kk n ab av au af ai ah aa k0 k hk J1 j1 h1 n)
def xJ (n : Nat) (ab : Wr) (av : dG) (au : cX) (af : cv) (ai : cC) (ah : cD) (aa : bT) (k0 : Q0) (J11 : Q1) : Q1 := (bH (bQ ab av au af ai ah aa) bF wx (fun s => cS vZ s J11))
def nh (n : Nat) (ab : Wr) (av : dG) (au : cX) (af : cv) (ai : cC) (ah : cD) (aa : bT) (k : cJ) (j11 : mA) (v2 : AV) (v7 : AV) (v9 : AV) (v11 : Int) (h : Heap) : CRes :=
 iP v2 fun x19 =>
 ifB (ltF v11 x19)
 (j11 v2 v7 v9 v11 (ltF v11 60) h)
 (j11 v2 v7 v9 v11 false h)
theorem JT (hk : bZ k0 k) (J11 : Q1) (j11 : mA) (h11 : qd J11 j11) : et (xJ n ab av au af ai ah aa k0 J11) (nh n ab av au af ai ah aa k j11) := by
  obtain rfl := fx2 hk
  obtain rfl := fx6 h11
  intro v2 v7 v9 v11 h
  kernel_rfl
def ld (m : Nat) : Q1 := Nat.rec (motive := fun _ => Q1) (fun _ => .err) (fun _ ih => xJ n ab av au af ai ah aa k0 (qu n ab av au af ai ah aa k0 ih)) m
def dV (m : Nat) : cH := Nat.rec (motive := fun _ => cH) (fun _ _ _ _ _ => .err) (fun _ ih => nh n ab av au af ai ah aa k (kO n ab av au af ai ah aa k ih)) m
theorem Kr (m : Nat) : dV n ab av au af ai ah aa k (m + 1) = nh n ab av au af ai ah aa k (kO n ab av au af ai ah aa k (dV n ab av au af ai ah aa k m)) := rfl
theorem KM (hk : bZ k0 k) (m : Nat) : et (ld n ab av au af ai ah aa k0 m) (dV n ab av au af ai ah aa k m) := by
  induction m with
  | zero => intro v2 v7 v9 v11 h; rfl
  | succ m ih => exact JT n ab av au af ai ah aa k0 k hk (qu n ab av au af ai ah aa k0 (ld n ab av au af ai ah aa k0 m)) (kO n ab av au af ai ah aa k (dV n ab av au af ai ah aa k m)) (Ip n ab av au af ai ah aa k0 k hk (ld n ab av au af ai ah aa k0 m) (dV n ab av au af ai ah aa k m) ih)
def wO (n : Nat) (ab : Wr) (av : dG) (au : cX) (af : cv) (ai : cC) (ah : cD) (aa : bT) (k0 : Q0) : Q1 := (bH (bQ ab av au af ai ah aa) bF wu (cO z_cofferdamlaw12_PoolEven k0))
def qf (n : Nat) (ab : Wr) (av : dG) (au : cX) (af : cv) (ai : cC) (ah : cD) (aa : bT) (k : cJ) (v52 : Bool) (h : Heap) : CRes :=
 k v52 h
theorem Ib (hk : bZ k0 k) : qc (wO n ab av au af ai ah aa k0 ) (qf n ab av au af ai ah aa k ) := by
  obtain rfl := fx2 hk
  intro v52 h
  kernel_rfl
def qt : Q1 := wO n ab av au af ai ah aa k0
def mL : mE := qf n ab av au af ai ah aa k
theorem IX (hk : bZ k0 k) : qc (qt n ab av au af ai ah aa k0 ) (mL n ab av au af ai ah aa k ) := Ib n ab av au af ai ah aa k0 k hk
def wK (n : Nat) (ab : Wr) (av : dG) (au : cX) (af : cv) (ai : cC) (ah : cD) (aa : bT) (k0 : Q0) (J1 : Q1) (J12 : Q1) : Q1 := (fun s => eM (.t p40) s (bH (bQ ab av au af ai ah aa) bF vX (fun s => cS wJ s J12)) (bH (bQ ab av au af ai ah aa) bF wH (bH (bQ ab av au af ai ah aa) bF wy (fun s => cS qR s J1))))
def qb (n : Nat) (ab : Wr) (av : dG) (au : cX) (af : cv) (ai : cC) (ah : cD) (aa : bT) (k : cJ) (j1 : cH) (j12 : mE) (v2 : AV) (v3 : AV) (v7 : AV) (v8 : Int) (v9 : AV) (v10 : Int) (v40 : Bool) (h : Heap) : CRes :=
 ifB v40
 (ifB (eqF v8 v10)
 (iZ h v3 17 true fun x13 =>
 au x13 h fun x14 h15 =>
 ifB (jK x14)
 (j12 true h15)
 (j12 (eqF v8 270) h15))
 (j12 false h))
 (af v9 h fun x16 x17 h18 =>
 j1 v2 v7 v9 0 h18)
theorem ID (hk : bZ k0 k) (J1 : Q1) (j1 : cH) (h1 : et J1 j1) (J12 : Q1) (j12 : mE) (h12 : qc J12 j12) : qm (wK n ab av au af ai ah aa k0 J1 J12) (qb n ab av au af ai ah aa k j1 j12) := by
  obtain rfl := fx2 hk
  obtain rfl := fx5 h1
  obtain rfl := fx2 h12
  intro v2 v3 v7 v8 v9 v10 v40 h
  kernel_rfl
def qa : Q1 := wK n ab av au af ai ah aa k0 (ld n ab av au af ai ah aa k0 n) (qt n ab av au af ai ah aa k0 )
def mD : mM := qb n ab av au af ai ah aa k (dV n ab av au af ai ah aa k n) (mL n ab av au af ai ah aa k )
theorem IE (hk : bZ k0 k) : qm (qa n ab av au af ai ah aa k0 ) (mD n ab av au af ai ah aa k ) := ID n ab av au af ai ah aa k0 k hk (ld n ab av au af ai ah aa k0 n) (dV n ab av au af ai ah aa k n) (KM n ab av au af ai ah aa k0 k hk n) (qt n ab av au af ai ah aa k0 ) (mL n ab av au af ai ah aa k ) (IX n ab av au af ai ah aa k0 k hk )
def Ad (n : Nat) (ab : Wr) (av : dG) (au : cX) (af : cv) (ai : cC) (ah : cD) (aa : bT) (k0 : Q0) (J13 : Q1) : Q1 := (bH (bQ ab av au af ai ah aa) bF wv (bH (bQ ab av au af ai ah aa) bF wb (fun s => eM (.t p22) s (bH (bQ ab av au af ai ah aa) bF wN (cO z_cofferdamlaw12_PoolEven k0)) (bH (bQ ab av au af ai ah aa) bF wz (bH (bQ ab av au af ai ah aa) bF vO (bH (bQ ab av au af ai ah aa) bF wa (fun s => cS wt s J13)))))))
def sM (n : Nat) (ab : Wr) (av : dG) (au : cX) (af : cv) (ai : cC) (ah : cD) (aa : bT) (k : cJ) (j13 : mM) (a0 : AV) (a1 : Int) (a2 : AV) (h : Heap) : CRes :=
 Co h a0 fun x0 h1 =>
 ab [] h1 fun x2 h3 =>
 I6 x2 fun x4 =>
 ifB (jK x4)
 (k false h3)
 (iZ h3 (.ptr x0 0) 17 true fun x5 =>
 av x5 a1 h3 fun x6 x7 h8 =>
 iZ h8 (.ptr x0 0) 17 true fun x9 =>
 av x9 a1 h8 fun x10 x11 h12 =>
 ifB (jK (eqF x7 0))
 (j13 a2 (.ptr x0 0) x6 x7 x10 x11 true h12)
 (j13 a2 (.ptr x0 0) x6 x7 x10 x11 (jK (eqF x11 0)) h12))
theorem MW (n : Nat) (ab : Wr) (av : dG) (au : cX) (af : cv) (ai : cC) (ah : cD) (aa : bT) (k0 : Q0) (k : cJ) (hk : bZ k0 k) (J13 : Q1) (j13 : mM) (h13 : qm J13 j13) (a0 : AV) (a1 : Int) (a2 : AV) (h : Heap) : (Ad n ab av au af ai ah aa k0 J13) ⟨cP [(p0, a0), (p1, (.int .i64 a1)), (p2, a2)], h⟩ = (sM n ab av au af ai ah aa k j13) a0 a1 a2 h := by
  obtain rfl := fx2 hk
  obtain rfl := fx8 h13
  kernel_rfl
def MP : Q1 := Ad n ab av au af ai ah aa k0 (qa n ab av au af ai ah aa k0 )
def sR (n : Nat) (ab : Wr) (av : dG) (au : cX) (af : cv) (ai : cC) (ah : cD) (aa : bT) (a0 : AV) (a1 : Int) (a2 : AV) (h : Heap) (k : cJ) : CRes := sM n ab av au af ai ah aa k (mD n ab av au af ai ah aa k ) a0 a1 a2 h
theorem MT (n : Nat) (ab : Wr) (av : dG) (au : cX) (af : cv) (ai : cC) (ah : cD) (aa : bT) (k0 : Q0) (s : St) : D (ft [(ma, ab), (vA, yy av), (nL, oZ au), (kw, lM af), (lj, ml ai), (lm, mi ah), (gZ, iX aa)]) bF n oM (cO z_cofferdamlaw12_PoolEven k0) (fun _ _ => .err) (cO z_cofferdamlaw12_PoolEven k0) s = MP n ab av au af ai ah aa k0 s := by kernel_rfl
theorem MV (n : Nat) (ab : Wr) (av : dG) (au : cX) (af : cv) (ai : cC) (ah : cD) (aa : bT) (a0 : AV) (a1 : Int) (a2 : AV) (h : Heap) (k0 : Q0) : W a_cofferdamlaw12_PoolEven z_cofferdamlaw12_PoolEven [(ma, ab), (vA, yy av), (nL, oZ au), (kw, lM af), (lj, ml ai), (lm, mi ah), (gZ, iX aa)] bF n oM [a0, (.int .i64 a1), a2] h k0 = sR n ab av au af ai ah aa a0 a1 a2 h (fun u0 h => k0 (.bool u0) h) := by
  let k : cJ := fun u0 h => k0 (.bool u0) h
  have hk : bZ k0 k := fun _ _ => rfl
  have hb : ∀ F : Tr AV → CRes, iS a_cofferdamlaw12_PoolEven [a0, (.int .i64 a1), a2] .leaf F = F (cP [(p0, a0), (p1, (.int .i64 a1)), (p2, a2)]) := fun F => by kernel_rfl
  exact (nD hb).trans ((MT n ab av au af ai ah aa k0 _).trans (MW n ab av au af ai ah aa k0 k hk (qa n ab av au af ai ah aa k0 ) (mD n ab av au af ai ah aa k ) (IE n ab av au af ai ah aa k0 k hk ) a0 a1 a2 h))
end
def oR (n : Nat) : Af := sR n (JB l6) (yS n) (qk n) (lS n) (ib n) (ij n) (d7 n)
theorem MN {tbl : Tr AFn} (hp : cN tbl) (ht : tbl.get (key oJ) = some Ab) (n : Nat) (Ra : Sound tbl ma (JB l6)) (amI : Sound tbl vA (yy (yS n))) (UD : Sound tbl nL (oZ (qk n))) (Xo : Sound tbl kw (lM (lS n))) (Y9 : Sound tbl lj (ml (ib n))) (ZW : Sound tbl lm (mi (ij n))) (OG : Sound tbl gZ (iX (d7 n))) : Sound tbl oJ (sI (oR n)) := by
  refine Sound.of (dK hp (ps := a_cofferdamlaw12_PoolEven) (rs := z_cofferdamlaw12_PoolEven) (l := [(ma, JB l6), (vA, yy (yS n)), (nL, oZ (qk n)), (kw, lM (lS n)), (lj, ml (ib n)), (lm, mi (ij n)), (gZ, iX (d7 n))]) (ty := bF) (n := n) (c := oM) ht ⟨Ra, amI, UD, Xo, Y9, ZW, OG, trivial⟩) fun args H k r H' h => ?_
  unfold sI at h
  obtain ⟨a0, l0, e0, h0⟩ := cY h
  subst e0
  obtain ⟨a1, l1, e1, h1⟩ := dT h0
  subst e1
  obtain ⟨a2, l2, e2, h2⟩ := cY h1
  subst e2
  obtain ⟨e9, h9⟩ := db h2
  subst e9
  exact (MV n (JB l6) (yS n) (qk n) (lS n) (ib n) (ij n) (d7 n) a0 a1 a2 H k).trans h9
end
end Go.Proofs.Ytnlbfbiogfilfaa.Sh
