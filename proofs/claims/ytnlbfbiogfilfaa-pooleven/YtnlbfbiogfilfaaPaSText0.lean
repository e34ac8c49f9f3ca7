/- The program's functions in continuation style: printed by a program, held against their code by the kernel. -/
import Derived.Test.YtnlbfbiogfilfaaPaSCode
import Derived.Test.YtnlbfbiogfilfaaAiXPaSPrims
import Derived.KernelRfl
set_option linter.all false
namespace Go.Proofs.Ytnlbfbiogfilfaa.Sh
open Go.Ai
set_option maxRecDepth 100000
noncomputable section
/-! cofferdam/plan.Check$1 -/
abbrev iR := Bool → Int → Int → AV → Heap → (Heap → CRes) → CRes
abbrev sV := Heap → CRes
def ot (g : iR) : Wr := fun l h k => aBool l fun a0 l => qA .i64 l fun a1 l => qA .i64 l fun a2 l => mr l fun a3 l => nC l (g a0 a1 a2 a3 h fun h => k (.tuple []) h)
def O8 : eg := ft []
abbrev Q2 (k0 : Q0) (k : sV) : Prop := ∀ h, k0 (.tuple []) h = k h
section
variable (n : Nat) (k0 : Q0) (k : sV)
def Su (n : Nat) (k0 : Q0) : Q1 := (bH (O8 ) wI NY (fun s => eM (.t p8) s (bH (O8 ) wI NE (cO z_plan_Check_f1 k0)) (cO z_plan_Check_f1 k0)))
def HR (n : Nat) (k : sV) (a0 : Bool) (a1 : Int) (a2 : Int) (a3 : AV) (h : Heap) : CRes :=
 ifB (jK a0)
 (iZ h a3 1 false fun x0 =>
 BZ [(.int .i64 0), (.int .i64 0)] [(0, 1, (.int .i64 a1)), (1, 1, (.int .i64 a2))] fun x1 =>
 sf h 1 [(.int .i64 0), (.int .i64 0)] [(0, 2, x1)] fun x2 h3 =>
 sw h3 2 x0 x2 fun x4 h5 =>
 pl h5 a3 1 x4 fun h6 =>
 k h6)
 (k h)
theorem aeT (n : Nat) (k0 : Q0) (k : sV) (hk : Q2 k0 k) (a0 : Bool) (a1 : Int) (a2 : Int) (a3 : AV) (h : Heap) : (Su n k0 ) ⟨cP [(p0, (.bool a0)), (p1, (.int .i64 a1)), (p2, (.int .i64 a2)), (p3, a3)], h⟩ = (HR n k ) a0 a1 a2 a3 h := by
  obtain rfl := fx1 hk
  kernel_rfl
def afG : Q1 := Su n k0
def HM (n : Nat) (a0 : Bool) (a1 : Int) (a2 : Int) (a3 : AV) (h : Heap) (k : sV) : CRes := HR n k a0 a1 a2 a3 h
theorem afw (n : Nat) (k0 : Q0) (s : St) : D (ft []) wI n Bv (cO z_plan_Check_f1 k0) (fun _ _ => .err) (cO z_plan_Check_f1 k0) s = afG n k0 s := by kernel_rfl
theorem afn (n : Nat) (a0 : Bool) (a1 : Int) (a2 : Int) (a3 : AV) (h : Heap) (k0 : Q0) : W a_plan_Check_f1 z_plan_Check_f1 [] wI n Bv [(.bool a0), (.int .i64 a1), (.int .i64 a2), a3] h k0 = HM n a0 a1 a2 a3 h (fun h => k0 (.tuple []) h) := by
  let k : sV := fun h => k0 (.tuple []) h
  have hk : Q2 k0 k := fun _ => rfl
  have hb : ∀ F : Tr AV → CRes, iS a_plan_Check_f1 [(.bool a0), (.int .i64 a1), (.int .i64 a2), a3] .leaf F = F (cP [(p0, (.bool a0)), (p1, (.int .i64 a1)), (p2, (.int .i64 a2)), (p3, a3)]) := fun F => by kernel_rfl
  exact (nD hb).trans ((afw n k0 _).trans (aeT n k0 k hk a0 a1 a2 a3 h))
end
def kJ (n : Nat) : iR := HM n
theorem afm {tbl : Tr AFn} (hp : cN tbl) (ht : tbl.get (key kI) = some To) (n : Nat) : Sound tbl kI (ot (kJ n)) := by
  refine Sound.of (dK hp (ps := a_plan_Check_f1) (rs := z_plan_Check_f1) (l := []) (ty := wI) (n := n) (c := Bv) ht trivial) fun args H k r H' h => ?_
  unfold ot at h
  obtain ⟨a0, l0, e0, h0⟩ := apE h
  subst e0
  obtain ⟨a1, l1, e1, h1⟩ := dT h0
  subst e1
  obtain ⟨a2, l2, e2, h2⟩ := dT h1
  subst e2
  obtain ⟨a3, l3, e3, h3⟩ := cY h2
  subst e3
  obtain ⟨e9, h9⟩ := db h3
  subst e9
  exact (afn n a0 a1 a2 a3 H k).trans h9
/-! cofferdam/plan.within -/
abbrev bG := Int → Int → Int → Heap → (Bool → Heap → CRes) → CRes
abbrev tV := Bool → Heap → CRes
def dE (g : bG) : Wr := fun l h k => qA .i64 l fun a0 l => qA .i64 l fun a1 l => qA .i64 l fun a2 l => nC l (g a0 a1 a2 h fun u0 h => k (.bool u0) h)
def Ms : eg := ft []
abbrev CH (k0 : Q0) (k : tV) : Prop := ∀ u0 h, k0 (.bool u0) h = k u0 h
abbrev A8 : Type := Bool → Heap → CRes
abbrev IT (J : Q1) (j : A8) : Prop := ∀ v14 h, J ⟨cP [(p14, (.bool v14))], h⟩ = j v14 h
section
variable (n : Nat) (k0 : Q0) (k : tV)
def SE (n : Nat) (k0 : Q0) : Q1 := (bH (Ms ) wT TC (cO z_plan_within k0))
def HG (n : Nat) (k : tV) (v14 : Bool) (h : Heap) : CRes :=
 k v14 h
theorem afI (hk : CH k0 k) : IT (SE n k0 ) (HG n k ) := by
  obtain rfl := fx2 hk
  intro v14 h
  kernel_rfl
def H3 : Q1 := SE n k0
def Bo : A8 := HG n k
theorem afL (hk : CH k0 k) : IT (H3 n k0 ) (Bo n k ) := afI n k0 k hk
def YF (n : Nat) (k0 : Q0) (J0 : Q1) : Q1 := (bH (Ms ) wT TH (bH (Ms ) wT SD (fun s => cS Sf s J0)))
def Ox (n : Nat) (k : tV) (j0 : A8) (a0 : Int) (a1 : Int) (a2 : Int) (h : Heap) : CRes :=
 ifB (jK (ltF a0 a1))
 (j0 (jK (ltF a2 a0)) h)
 (j0 false h)
theorem ai6 (n : Nat) (k0 : Q0) (k : tV) (hk : CH k0 k) (J0 : Q1) (j0 : A8) (h0 : IT J0 j0) (a0 : Int) (a1 : Int) (a2 : Int) (h : Heap) : (YF n k0 J0) ⟨cP [(p0, (.int .i64 a0)), (p1, (.int .i64 a1)), (p2, (.int .i64 a2))], h⟩ = (Ox n k j0) a0 a1 a2 h := by
  obtain rfl := fx2 hk
  obtain rfl := fx2 h0
  kernel_rfl
def aiz : Q1 := YF n k0 (H3 n k0 )
def OD (n : Nat) (a0 : Int) (a1 : Int) (a2 : Int) (h : Heap) (k : tV) : CRes := Ox n k (Bo n k ) a0 a1 a2 h
theorem aiA (n : Nat) (k0 : Q0) (s : St) : D (ft []) wT n Gg (cO z_plan_within k0) (fun _ _ => .err) (cO z_plan_within k0) s = aiz n k0 s := by kernel_rfl
theorem ajq (n : Nat) (a0 : Int) (a1 : Int) (a2 : Int) (h : Heap) (k0 : Q0) : W a_plan_within z_plan_within [] wT n Gg [(.int .i64 a0), (.int .i64 a1), (.int .i64 a2)] h k0 = OD n a0 a1 a2 h (fun u0 h => k0 (.bool u0) h) := by
  let k : tV := fun u0 h => k0 (.bool u0) h
  have hk : CH k0 k := fun _ _ => rfl
  have hb : ∀ F : Tr AV → CRes, iS a_plan_within [(.int .i64 a0), (.int .i64 a1), (.int .i64 a2)] .leaf F = F (cP [(p0, (.int .i64 a0)), (p1, (.int .i64 a1)), (p2, (.int .i64 a2))]) := fun F => by kernel_rfl
  exact (nD hb).trans ((aiA n k0 _).trans (ai6 n k0 k hk (H3 n k0 ) (Bo n k ) (afL n k0 k hk ) a0 a1 a2 h))
end
def dX (n : Nat) : bG := OD n
theorem ajD {tbl : Tr AFn} (hp : cN tbl) (ht : tbl.get (key dm) = some XY) (n : Nat) : Sound tbl dm (dE (dX n)) := by
  refine Sound.of (dK hp (ps := a_plan_within) (rs := z_plan_within) (l := []) (ty := wT) (n := n) (c := Gg) ht trivial) fun args H k r H' h => ?_
  unfold dE at h
  obtain ⟨a0, l0, e0, h0⟩ := dT h
  subst e0
  obtain ⟨a1, l1, e1, h1⟩ := dT h0
  subst e1
  obtain ⟨a2, l2, e2, h2⟩ := dT h1
  subst e2
  obtain ⟨e9, h9⟩ := db h2
  subst e9
  exact (ajq n a0 a1 a2 H k).trans h9
/-! cofferdam/plan.power -/
abbrev fj := Int → Int → Heap → (Bool → Heap → CRes) → CRes
abbrev vG := Bool → Heap → CRes
def te (g : fj) : Wr := fun l h k => qA .i64 l fun a0 l => qA .i64 l fun a1 l => nC l (g a0 a1 h fun u0 h => k (.bool u0) h)
def Ol (ae : bG) : eg := ft [(dm, dE ae)]
abbrev GE (k0 : Q0) (k : vG) : Prop := ∀ u0 h, k0 (.bool u0) h = k u0 h
abbrev CV : Type := Bool → Heap → CRes
abbrev Ls (J : Q1) (j : CV) : Prop := ∀ v14 h, J ⟨cP [(p14, (.bool v14))], h⟩ = j v14 h
section
variable (n : Nat) (ae : bG) (k0 : Q0) (k : vG)
def VS (n : Nat) (ae : bG) (k0 : Q0) : Q1 := (bH (Ol ae) zM WD (cO z_plan_power k0))
def LS (n : Nat) (ae : bG) (k : vG) (v14 : Bool) (h : Heap) : CRes :=
 k v14 h
theorem agO (hk : GE k0 k) : Ls (VS n ae k0 ) (LS n ae k ) := by
  obtain rfl := fx2 hk
  intro v14 h
  kernel_rfl
def Lu : Q1 := VS n ae k0
def CR : CV := LS n ae k
theorem agh (hk : GE k0 k) : Ls (Lu n ae k0 ) (CR n ae k ) := agO n ae k0 k hk
def aaO (n : Nat) (ae : bG) (k0 : Q0) (J0 : Q1) : Q1 := (bH (Ol ae) zM Wi (bH (Ol ae) zM UU (fun s => cS Vd s J0)))
def RZ (n : Nat) (ae : bG) (k : vG) (j0 : CV) (a0 : Int) (a1 : Int) (h : Heap) : CRes :=
 ae a0 1 a1 h fun x0 h1 =>
 ifB x0
 (W5 .i64 a0 1 fun x2 =>
 bitK .and .i64 a0 x2 fun x3 =>
 j0 (eqF x3 0) h1)
 (j0 false h1)
theorem akX (n : Nat) (ae : bG) (k0 : Q0) (k : vG) (hk : GE k0 k) (J0 : Q1) (j0 : CV) (h0 : Ls J0 j0) (a0 : Int) (a1 : Int) (h : Heap) : (aaO n ae k0 J0) ⟨cP [(p0, (.int .i64 a0)), (p1, (.int .i64 a1))], h⟩ = (RZ n ae k j0) a0 a1 h := by
  obtain rfl := fx2 hk
  obtain rfl := fx2 h0
  kernel_rfl
def als : Q1 := aaO n ae k0 (Lu n ae k0 )
def RS (n : Nat) (ae : bG) (a0 : Int) (a1 : Int) (h : Heap) (k : vG) : CRes := RZ n ae k (CR n ae k ) a0 a1 h
theorem alf (n : Nat) (ae : bG) (k0 : Q0) (s : St) : D (ft [(dm, dE ae)]) zM n JR (cO z_plan_power k0) (fun _ _ => .err) (cO z_plan_power k0) s = als n ae k0 s := by kernel_rfl
theorem alm (n : Nat) (ae : bG) (a0 : Int) (a1 : Int) (h : Heap) (k0 : Q0) : W a_plan_power z_plan_power [(dm, dE ae)] zM n JR [(.int .i64 a0), (.int .i64 a1)] h k0 = RS n ae a0 a1 h (fun u0 h => k0 (.bool u0) h) := by
  let k : vG := fun u0 h => k0 (.bool u0) h
  have hk : GE k0 k := fun _ _ => rfl
  have hb : ∀ F : Tr AV → CRes, iS a_plan_power [(.int .i64 a0), (.int .i64 a1)] .leaf F = F (cP [(p0, (.int .i64 a0)), (p1, (.int .i64 a1))]) := fun F => by kernel_rfl
  exact (nD hb).trans ((alf n ae k0 _).trans (akX n ae k0 k hk (Lu n ae k0 ) (CR n ae k ) (agh n ae k0 k hk ) a0 a1 h))
end
def tw (n : Nat) : fj := RS n (dX n)
theorem alG {tbl : Tr AFn} (hp : cN tbl) (ht : tbl.get (key qD) = some aa5) (n : Nat) (oc : Sound tbl dm (dE (dX n))) : Sound tbl qD (te (tw n)) := by
  refine Sound.of (dK hp (ps := a_plan_power) (rs := z_plan_power) (l := [(dm, dE (dX n))]) (ty := zM) (n := n) (c := JR) ht ⟨oc, trivial⟩) fun args H k r H' h => ?_
  unfold te at h
  obtain ⟨a0, l0, e0, h0⟩ := dT h
  subst e0
  obtain ⟨a1, l1, e1, h1⟩ := dT h0
  subst e1
  obtain ⟨e9, h9⟩ := db h1
  subst e9
  exact (alm n (dX n) a0 a1 H k).trans h9
/-! cofferdam/plan.machine -/
abbrev bU := AV → Heap → (Bool → Heap → CRes) → CRes
abbrev jZ := Bool → Heap → CRes
def gy (g : bU) : Wr := fun l h k => mr l fun a0 l => nC l (g a0 h fun u0 h => k (.bool u0) h)
def mw (aO : fj) (ae : bG) : eg := ft [(qD, te aO), (dm, dE ae)]
abbrev gQ (k0 : Q0) (k : jZ) : Prop := ∀ u0 h, k0 (.bool u0) h = k u0 h
abbrev zS : Type := Bool → Heap → CRes
abbrev Fk (J : Q1) (j : zS) : Prop := ∀ v44 h, J ⟨cP [(p44, (.bool v44))], h⟩ = j v44 h
abbrev zV : Type := AV → Bool → Heap → CRes
abbrev F9 (J : Q1) (j : zV) : Prop := ∀ v1 v38 h, J ⟨cP [(p1, v1), (p38, (.bool v38))], h⟩ = j v1 v38 h
abbrev zX : Type := AV → Bool → Heap → CRes
abbrev FS (J : Q1) (j : zX) : Prop := ∀ v1 v33 h, J ⟨cP [(p1, v1), (p33, (.bool v33))], h⟩ = j v1 v33 h
abbrev zA : Type := AV → Bool → Heap → CRes
abbrev F7 (J : Q1) (j : zA) : Prop := ∀ v1 v28 h, J ⟨cP [(p1, v1), (p28, (.bool v28))], h⟩ = j v1 v28 h
abbrev zm : Type := AV → Bool → Heap → CRes
abbrev FA (J : Q1) (j : zm) : Prop := ∀ v1 v23 h, J ⟨cP [(p1, v1), (p23, (.bool v23))], h⟩ = j v1 v23 h
abbrev zx : Type := AV → Bool → Heap → CRes
abbrev Fc (J : Q1) (j : zx) : Prop := ∀ v1 v18 h, J ⟨cP [(p1, v1), (p18, (.bool v18))], h⟩ = j v1 v18 h
abbrev zw : Type := AV → Bool → Heap → CRes
abbrev EX (J : Q1) (j : zw) : Prop := ∀ v1 v10 h, J ⟨cP [(p1, v1), (p10, (.bool v10))], h⟩ = j v1 v10 h
section
variable (n : Nat) (aO : fj) (ae : bG) (k0 : Q0) (k : jZ)
def Rb (n : Nat) (aO : fj) (ae : bG) (k0 : Q0) : Q1 := (bH (mw aO ae) kL PJ (cO z_plan_machine k0))
def FL (n : Nat) (aO : fj) (ae : bG) (k : jZ) (v44 : Bool) (h : Heap) : CRes :=
 k v44 h
theorem ac4 (hk : gQ k0 k) : Fk (Rb n aO ae k0 ) (FL n aO ae k ) := by
  obtain rfl := fx2 hk
  intro v44 h
  kernel_rfl
def FR : Q1 := Rb n aO ae k0
def zZ : zS := FL n aO ae k
theorem acv (hk : gQ k0 k) : Fk (FR n aO ae k0 ) (zZ n aO ae k ) := ac4 n aO ae k0 k hk
def Pj (n : Nat) (aO : fj) (ae : bG) (k0 : Q0) (J6 : Q1) : Q1 := (bH (mw aO ae) kL PM (fun s => cS Qp s J6))
def Fa (n : Nat) (aO : fj) (ae : bG) (k : jZ) (j6 : zS) (v1 : AV) (v38 : Bool) (h : Heap) : CRes :=
 ifB v38
 (faK 16 v1 fun x31 =>
 iZ h x31 1 false fun x32 =>
 iP x32 fun x33 =>
 ae x33 1 8 h fun x34 h35 =>
 j6 x34 h35)
 (j6 false h)
theorem ad8 (hk : gQ k0 k) (J6 : Q1) (j6 : zS) (h6 : Fk J6 j6) : F9 (Pj n aO ae k0 J6) (Fa n aO ae k j6) := by
  obtain rfl := fx2 hk
  obtain rfl := fx2 h6
  intro v1 v38 h
  kernel_rfl
def FN : Q1 := Pj n aO ae k0 (FR n aO ae k0 )
def zz : zV := Fa n aO ae k (zZ n aO ae k )
theorem acY (hk : gQ k0 k) : F9 (FN n aO ae k0 ) (zz n aO ae k ) := ad8 n aO ae k0 k hk (FR n aO ae k0 ) (zZ n aO ae k ) (acv n aO ae k0 k hk )
def Qf (n : Nat) (aO : fj) (ae : bG) (k0 : Q0) (J5 : Q1) : Q1 := (bH (mw aO ae) kL Q6 (fun s => cS QI s J5))
def Ga (n : Nat) (aO : fj) (ae : bG) (k : jZ) (j5 : zV) (v1 : AV) (v33 : Bool) (h : Heap) : CRes :=
 ifB v33
 (faK 5 v1 fun x27 =>
 ldI .i64 h x27 fun x28 =>
 ae x28 1 64 h fun x29 h30 =>
 j5 v1 x29 h30)
 (j5 v1 false h)
theorem ad7 (hk : gQ k0 k) (J5 : Q1) (j5 : zV) (h5 : F9 J5 j5) : FS (Qf n aO ae k0 J5) (Ga n aO ae k j5) := by
  obtain rfl := fx2 hk
  obtain rfl := fx3 h5
  intro v1 v33 h
  kernel_rfl
def FY : Q1 := Qf n aO ae k0 (FN n aO ae k0 )
def zJ : zX := Ga n aO ae k (zz n aO ae k )
theorem acG (hk : gQ k0 k) : FS (FY n aO ae k0 ) (zJ n aO ae k ) := ad7 n aO ae k0 k hk (FN n aO ae k0 ) (zz n aO ae k ) (acY n aO ae k0 k hk )
def Q8 (n : Nat) (aO : fj) (ae : bG) (k0 : Q0) (J4 : Q1) : Q1 := (bH (mw aO ae) kL Rf (fun s => cS OX s J4))
def E1 (n : Nat) (aO : fj) (ae : bG) (k : jZ) (j4 : zX) (v1 : AV) (v28 : Bool) (h : Heap) : CRes :=
 ifB v28
 (faK 4 v1 fun x23 =>
 ldI .i64 h x23 fun x24 =>
 ae x24 1 16 h fun x25 h26 =>
 j4 v1 x25 h26)
 (j4 v1 false h)
theorem acJ (hk : gQ k0 k) (J4 : Q1) (j4 : zX) (h4 : FS J4 j4) : F7 (Q8 n aO ae k0 J4) (E1 n aO ae k j4) := by
  obtain rfl := fx2 hk
  obtain rfl := fx3 h4
  intro v1 v28 h
  kernel_rfl
def Fj : Q1 := Q8 n aO ae k0 (FY n aO ae k0 )
def y4 : zA := E1 n aO ae k (zJ n aO ae k )
theorem adN (hk : gQ k0 k) : F7 (Fj n aO ae k0 ) (y4 n aO ae k ) := acJ n aO ae k0 k hk (FY n aO ae k0 ) (zJ n aO ae k ) (acG n aO ae k0 k hk )
def Rg (n : Nat) (aO : fj) (ae : bG) (k0 : Q0) (J3 : Q1) : Q1 := (bH (mw aO ae) kL PL (fun s => cS Qe s J3))
def F4 (n : Nat) (aO : fj) (ae : bG) (k : jZ) (j3 : zA) (v1 : AV) (v23 : Bool) (h : Heap) : CRes :=
 ifB v23
 (faK 2 v1 fun x19 =>
 ldI .i64 h x19 fun x20 =>
 ae x20 1 16 h fun x21 h22 =>
 j3 v1 x21 h22)
 (j3 v1 false h)
theorem ab8 (hk : gQ k0 k) (J3 : Q1) (j3 : zA) (h3 : F7 J3 j3) : FA (Rg n aO ae k0 J3) (F4 n aO ae k j3) := by
  obtain rfl := fx2 hk
  obtain rfl := fx3 h3
  intro v1 v23 h
  kernel_rfl
def Fg : Q1 := Rg n aO ae k0 (Fj n aO ae k0 )
def zv : zm := F4 n aO ae k (y4 n aO ae k )
theorem aeb (hk : gQ k0 k) : FA (Fg n aO ae k0 ) (zv n aO ae k ) := ab8 n aO ae k0 k hk (Fj n aO ae k0 ) (y4 n aO ae k ) (adN n aO ae k0 k hk )
def QQ (n : Nat) (aO : fj) (ae : bG) (k0 : Q0) (J2 : Q1) : Q1 := (bH (mw aO ae) kL Pb (fun s => cS PU s J2))
def Ge (n : Nat) (aO : fj) (ae : bG) (k : jZ) (j2 : zm) (v1 : AV) (v18 : Bool) (h : Heap) : CRes :=
 ifB v18
 (faK 3 v1 fun x15 =>
 ldI .i64 h x15 fun x16 =>
 aO x16 4096 h fun x17 h18 =>
 j2 v1 x17 h18)
 (j2 v1 false h)
theorem acg (hk : gQ k0 k) (J2 : Q1) (j2 : zm) (h2 : FA J2 j2) : Fc (QQ n aO ae k0 J2) (Ge n aO ae k j2) := by
  obtain rfl := fx2 hk
  obtain rfl := fx3 h2
  intro v1 v18 h
  kernel_rfl
def Fm : Q1 := QQ n aO ae k0 (Fg n aO ae k0 )
def y0 : zx := Ge n aO ae k (zv n aO ae k )
theorem acF (hk : gQ k0 k) : Fc (Fm n aO ae k0 ) (y0 n aO ae k ) := acg n aO ae k0 k hk (Fg n aO ae k0 ) (zv n aO ae k ) (aeb n aO ae k0 k hk )
def P7 (n : Nat) (aO : fj) (ae : bG) (k0 : Q0) (J1 : Q1) : Q1 := (bH (mw aO ae) kL Q3 (fun s => cS Qq s J1))
def Fe (n : Nat) (aO : fj) (ae : bG) (k : jZ) (j1 : zx) (v1 : AV) (v10 : Bool) (h : Heap) : CRes :=
 ifB v10
 (faK 0 v1 fun x10 =>
 ldI .i64 h x10 fun x11 =>
 mV .i64 1 h v1 fun x12 x13 =>
 remK .i64 x11 x13 fun x14 =>
 j1 v1 (eqF x14 0) h)
 (j1 v1 false h)
theorem ac8 (hk : gQ k0 k) (J1 : Q1) (j1 : zx) (h1 : Fc J1 j1) : EX (P7 n aO ae k0 J1) (Fe n aO ae k j1) := by
  obtain rfl := fx2 hk
  obtain rfl := fx3 h1
  intro v1 v10 h
  kernel_rfl
def F8 : Q1 := P7 n aO ae k0 (Fm n aO ae k0 )
def zf : zw := Fe n aO ae k (y0 n aO ae k )
theorem act (hk : gQ k0 k) : EX (F8 n aO ae k0 ) (zf n aO ae k ) := ac8 n aO ae k0 k hk (Fm n aO ae k0 ) (y0 n aO ae k ) (acF n aO ae k0 k hk )
def V6 (n : Nat) (aO : fj) (ae : bG) (k0 : Q0) (J0 : Q1) : Q1 := (bH (mw aO ae) kL QE (bH (mw aO ae) kL O4 (fun s => cS Q5 s J0)))
def Me (n : Nat) (aO : fj) (ae : bG) (k : jZ) (j0 : zw) (a0 : AV) (h : Heap) : CRes :=
 Co h a0 fun x0 h1 =>
 mV .i64 1 h1 (.ptr x0 0) fun x2 x3 =>
 aO x3 16 h1 fun x4 h5 =>
 ifB x4
 (faK 0 (.ptr x0 0) fun x6 =>
 ldI .i64 h5 x6 fun x7 =>
 ae x7 1 4096 h5 fun x8 h9 =>
 j0 (.ptr x0 0) x8 h9)
 (j0 (.ptr x0 0) false h5)
theorem ah3 (n : Nat) (aO : fj) (ae : bG) (k0 : Q0) (k : jZ) (hk : gQ k0 k) (J0 : Q1) (j0 : zw) (h0 : EX J0 j0) (a0 : AV) (h : Heap) : (V6 n aO ae k0 J0) ⟨cP [(p0, a0)], h⟩ = (Me n aO ae k j0) a0 h := by
  obtain rfl := fx2 hk
  obtain rfl := fx3 h0
  kernel_rfl
def ahp : Q1 := V6 n aO ae k0 (F8 n aO ae k0 )
def LQ (n : Nat) (aO : fj) (ae : bG) (a0 : AV) (h : Heap) (k : jZ) : CRes := Me n aO ae k (zf n aO ae k ) a0 h
theorem ah9 (n : Nat) (aO : fj) (ae : bG) (k0 : Q0) (s : St) : D (ft [(qD, te aO), (dm, dE ae)]) kL n C0 (cO z_plan_machine k0) (fun _ _ => .err) (cO z_plan_machine k0) s = ahp n aO ae k0 s := by kernel_rfl
theorem aig (n : Nat) (aO : fj) (ae : bG) (a0 : AV) (h : Heap) (k0 : Q0) : W a_plan_machine z_plan_machine [(qD, te aO), (dm, dE ae)] kL n C0 [a0] h k0 = LQ n aO ae a0 h (fun u0 h => k0 (.bool u0) h) := by
  let k : jZ := fun u0 h => k0 (.bool u0) h
  have hk : gQ k0 k := fun _ _ => rfl
  have hb : ∀ F : Tr AV → CRes, iS a_plan_machine [a0] .leaf F = F (cP [(p0, a0)]) := fun F => by kernel_rfl
  exact (nD hb).trans ((ah9 n aO ae k0 _).trans (ah3 n aO ae k0 k hk (F8 n aO ae k0 ) (zf n aO ae k ) (act n aO ae k0 k hk ) a0 h))
end
def eK (n : Nat) : bU := LQ n (tw n) (dX n)
theorem ah1 {tbl : Tr AFn} (hp : cN tbl) (ht : tbl.get (key f8) = some Vb) (n : Nat) (aiK : Sound tbl qD (te (tw n))) (oc : Sound tbl dm (dE (dX n))) : Sound tbl f8 (gy (eK n)) := by
  refine Sound.of (dK hp (ps := a_plan_machine) (rs := z_plan_machine) (l := [(qD, te (tw n)), (dm, dE (dX n))]) (ty := kL) (n := n) (c := C0) ht ⟨aiK, oc, trivial⟩) fun args H k r H' h => ?_
  unfold gy at h
  obtain ⟨a0, l0, e0, h0⟩ := cY h
  subst e0
  obtain ⟨e9, h9⟩ := db h0
  subst e9
  exact (aig n (tw n) (dX n) a0 H k).trans h9
/-! cofferdam/cost.Check -/
abbrev cn := AV → Heap → (Int → Heap → CRes) → CRes
abbrev mC := Int → Heap → CRes
def fO (g : cn) : Wr := fun l h k => mr l fun a0 l => nC l (g a0 h fun u0 h => k (.int .i64 u0) h)
def i8 : eg := ft []
abbrev kh (k0 : Q0) (k : mC) : Prop := ∀ u0 h, k0 (.int .i64 u0) h = k u0 h
abbrev CL : Type := Heap → CRes
abbrev Lb (J : Q1) (j : CL) : Prop := ∀ h, J ⟨cP [], h⟩ = j h
abbrev CP : Type := AV → Int → Int → Bool → Heap → CRes
abbrev Lv (J : Q1) (j : CP) : Prop := ∀ v35 v36 v37 v46 h, J ⟨cP [(p35, v35), (p36, (.int .i64 v36)), (p37, (.int .i64 v37)), (p46, (.bool v46))], h⟩ = j v35 v36 v37 v46 h
abbrev oa : Type := AV → Int → Int → Heap → CRes
abbrev yF (J : Q1) (j : oa) : Prop := ∀ v35 v36 v37 h, J ⟨cP [(p35, v35), (p36, (.int .i64 v36)), (p37, (.int .i64 v37))], h⟩ = j v35 v36 v37 h
abbrev Cy : Type := AV → Heap → CRes
abbrev My (J : Q1) (j : Cy) : Prop := ∀ v1 h, J ⟨cP [(p1, v1)], h⟩ = j v1 h
abbrev CQ : Type := AV → Int → AV → Int → Int → Bool → Heap → CRes
abbrev LI (J : Q1) (j : CQ) : Prop := ∀ v1 v5 v14 v15 v16 v26 h, J ⟨cP [(p1, v1), (p5, (.int .u64 v5)), (p14, v14), (p15, (.int .i64 v15)), (p16, (.int .i64 v16)), (p26, (.bool v26))], h⟩ = j v1 v5 v14 v15 v16 v26 h
abbrev nS : Type := AV → Int → AV → Int → Int → Heap → CRes
abbrev yT (J : Q1) (j : nS) : Prop := ∀ v1 v3 v14 v15 v16 h, J ⟨cP [(p1, v1), (p3, (.int .u64 v3)), (p14, v14), (p15, (.int .i64 v15)), (p16, (.int .i64 v16))], h⟩ = j v1 v3 v14 v15 v16 h
section
variable (n : Nat) (k0 : Q0) (k : mC)
def UC (n : Nat) (k0 : Q0) : Q1 := (bH (i8 ) iy V5 (cO z_cost_Check k0))
def Lk (n : Nat) (k : mC) (h : Heap) : CRes :=
 k 0 h
theorem ahq (hk : kh k0 k) : Lb (UC n k0 ) (Lk n k ) := by
  obtain rfl := fx2 hk
  intro h
  kernel_rfl
def Mw : Q1 := UC n k0
def yA : CL := Lk n k
theorem ah7 (hk : kh k0 k) : Lb (Mw n k0 ) (yA n k ) := ahq n k0 k hk
def Uu (n : Nat) (k0 : Q0) (J1 : Q1) : Q1 := (fun s => eM (.t p46) s (bH (i8 ) iy UF (cO z_cost_Check k0)) (bH (i8 ) iy VF (fun s => cS LE s J1)))
def LH (n : Nat) (k : mC) (j1 : oa) (v35 : AV) (v36 : Int) (v37 : Int) (v46 : Bool) (h : Heap) : CRes :=
 ifB v46
 (k 100 h)
 (mO .i64 v37 1 fun x25 =>
 j1 v35 v36 x25 h)
theorem aih (hk : kh k0 k) (J1 : Q1) (j1 : oa) (h1 : yF J1 j1) : Lv (Uu n k0 J1) (LH n k j1) := by
  obtain rfl := fx2 hk
  obtain rfl := fx4 h1
  intro v35 v36 v37 v46 h
  kernel_rfl
def L4 (J1 : Q1) : Q1 := Uu n k0 J1
def yV (j1 : oa) : CP := LH n k j1
theorem ahY (hk : kh k0 k) (J1 : Q1) (j1 : oa) (h1 : yF J1 j1) : Lv (L4 n k0 J1) (yV n k j1) := aih n k0 k hk J1 j1 h1
def Ww (n : Nat) (k0 : Q0) (J0 : Q1) (J2 : Q1) : Q1 := (bH (i8 ) iy Vm (fun s => eM (.t p38) s (bH (i8 ) iy WJ (bH (i8 ) iy VI (fun s => cS VC s J2))) (fun s => cS UO s J0)))
def CS (n : Nat) (k : mC) (j0 : CL) (j2 : CP) (v35 : AV) (v36 : Int) (v37 : Int) (h : Heap) : CRes :=
 ifB (ltF v37 v36)
 (DW .u64 1 h v35 v37 fun x22 x23 =>
 ifB (ltF x23 1)
 (j2 v35 v36 v37 true h)
 (j2 v35 v36 v37 (ltF 65536 x23) h))
 (j0 h)
theorem agE (hk : kh k0 k) (J0 : Q1) (j0 : CL) (h0 : Lb J0 j0) (J2 : Q1) (j2 : CP) (h2 : Lv J2 j2) : yF (Ww n k0 J0 J2) (CS n k j0 j2) := by
  obtain rfl := fx2 hk
  obtain rfl := fx1 h0
  obtain rfl := fx5 h2
  intro v35 v36 v37 h
  kernel_rfl
def yX (m : Nat) : Q1 := Nat.rec (motive := fun _ => Q1) (fun _ => .err) (fun _ ih => Ww n k0 (Mw n k0 ) (L4 n k0 ih)) m
def r6 (m : Nat) : oa := Nat.rec (motive := fun _ => oa) (fun _ _ _ _ => .err) (fun _ ih => CS n k (yA n k ) (yV n k ih)) m
theorem aha (hk : kh k0 k) (m : Nat) : yF (yX n k0 m) (r6 n k m) := by
  induction m with
  | zero => intro v35 v36 v37 h; rfl
  | succ m ih => exact agE n k0 k hk (Mw n k0 ) (yA n k ) (ah7 n k0 k hk ) (L4 n k0 (yX n k0 m)) (yV n k (r6 n k m)) (ahY n k0 k hk (yX n k0 m) (r6 n k m) ih)
def UV (n : Nat) (k0 : Q0) (J1 : Q1) : Q1 := (bH (i8 ) iy Wc (fun s => cS LE s J1))
def ME (n : Nat) (k : mC) (j1 : oa) (v1 : AV) (h : Heap) : CRes :=
 mV .u64 3 h v1 fun x11 x12 =>
 mV .u64 4 h v1 fun x13 x14 =>
 mV .u64 5 h v1 fun x15 x16 =>
 sf h 3 [(.int .u64 0), (.int .u64 0), (.int .u64 0)] [(0, 1, (.int .u64 x12)), (1, 1, (.int .u64 x14)), (2, 1, (.int .u64 x16))] fun x17 h18 =>
 iP x17 fun x19 =>
 j1 x17 x19 0 h18
theorem ahV (hk : kh k0 k) (J1 : Q1) (j1 : oa) (h1 : yF J1 j1) : My (UV n k0 J1) (ME n k j1) := by
  obtain rfl := fx2 hk
  obtain rfl := fx4 h1
  intro v1 h
  kernel_rfl
def LP : Q1 := UV n k0 (yX n k0 n)
def uM : Cy := ME n k (r6 n k n)
theorem aht (hk : kh k0 k) : My (LP n k0 ) (uM n k ) := ahV n k0 k hk (yX n k0 n) (r6 n k n) (aha n k0 k hk n)
def U3 (n : Nat) (k0 : Q0) (J4 : Q1) : Q1 := (fun s => eM (.t p26) s (bH (i8 ) iy VZ (cO z_cost_Check k0)) (bH (i8 ) iy UQ (bH (i8 ) iy UE (fun s => cS Mq s J4))))
def Lf (n : Nat) (k : mC) (j4 : nS) (v1 : AV) (v5 : Int) (v14 : AV) (v15 : Int) (v16 : Int) (v26 : Bool) (h : Heap) : CRes :=
 ifB v26
 (k 100 h)
 (mO .i64 v16 1 fun x24 =>
 j4 v1 v5 v14 v15 x24 h)
theorem ahA (hk : kh k0 k) (J4 : Q1) (j4 : nS) (h4 : yT J4 j4) : LI (U3 n k0 J4) (Lf n k j4) := by
  obtain rfl := fx2 hk
  obtain rfl := fx6 h4
  intro v1 v5 v14 v15 v16 v26 h
  kernel_rfl
def La (J4 : Q1) : Q1 := U3 n k0 J4
def yG (j4 : nS) : CQ := Lf n k j4
theorem agl (hk : kh k0 k) (J4 : Q1) (j4 : nS) (h4 : yT J4 j4) : LI (La n k0 J4) (yG n k j4) := ahA n k0 k hk J4 j4 h4
def UJ (n : Nat) (k0 : Q0) (J3 : Q1) (J5 : Q1) : Q1 := (bH (i8 ) iy TK (fun s => eM (.t p17) s (bH (i8 ) iy TO (bH (i8 ) iy S9 (fun s => cS Vq s J5))) (fun s => cS Wn s J3)))
def DH (n : Nat) (k : mC) (j3 : Cy) (j5 : CQ) (v1 : AV) (v3 : Int) (v14 : AV) (v15 : Int) (v16 : Int) (h : Heap) : CRes :=
 ifB (ltF v16 v15)
 (DW .u64 1 h v14 v16 fun x20 x21 =>
 ifB (ltF x21 v3)
 (j5 v1 x21 v14 v15 v16 true h)
 (j5 v1 x21 v14 v15 v16 (ltF 65536 x21) h))
 (j3 v1 h)
theorem ahU (hk : kh k0 k) (J3 : Q1) (j3 : Cy) (h3 : My J3 j3) (J5 : Q1) (j5 : CQ) (h5 : LI J5 j5) : yT (UJ n k0 J3 J5) (DH n k j3 j5) := by
  obtain rfl := fx2 hk
  obtain rfl := fx2 h3
  obtain rfl := fx7 h5
  intro v1 v3 v14 v15 v16 h
  kernel_rfl
def yo (m : Nat) : Q1 := Nat.rec (motive := fun _ => Q1) (fun _ => .err) (fun _ ih => UJ n k0 (LP n k0 ) (La n k0 ih)) m
def rX (m : Nat) : nS := Nat.rec (motive := fun _ => nS) (fun _ _ _ _ _ _ => .err) (fun _ ih => DH n k (uM n k ) (yG n k ih)) m
theorem agC (hk : kh k0 k) (m : Nat) : yT (yo n k0 m) (rX n k m) := by
  induction m with
  | zero => intro v1 v3 v14 v15 v16 h; rfl
  | succ m ih => exact ahU n k0 k hk (LP n k0 ) (uM n k ) (aht n k0 k hk ) (La n k0 (yo n k0 m)) (yG n k (rX n k m)) (agl n k0 k hk (yo n k0 m) (rX n k m) ih)
def abi (n : Nat) (k0 : Q0) (J4 : Q1) : Q1 := (bH (i8 ) iy TA (bH (i8 ) iy Tg (bH (i8 ) iy Tf (fun s => cS Mq s J4))))
def RX (n : Nat) (k : mC) (j4 : nS) (a0 : AV) (h : Heap) : CRes :=
 Co h a0 fun x0 h1 =>
 mV .u64 0 h1 (.ptr x0 0) fun x2 x3 =>
 mV .u64 1 h1 (.ptr x0 0) fun x4 x5 =>
 mV .u64 2 h1 (.ptr x0 0) fun x6 x7 =>
 sf h1 3 [(.int .u64 0), (.int .u64 0), (.int .u64 0)] [(0, 1, (.int .u64 x3)), (1, 1, (.int .u64 x5)), (2, 1, (.int .u64 x7))] fun x8 h9 =>
 iP x8 fun x10 =>
 j4 (.ptr x0 0) 1 x8 x10 0 h9
theorem alk (n : Nat) (k0 : Q0) (k : mC) (hk : kh k0 k) (J4 : Q1) (j4 : nS) (h4 : yT J4 j4) (a0 : AV) (h : Heap) : (abi n k0 J4) ⟨cP [(p0, a0)], h⟩ = (RX n k j4) a0 h := by
  obtain rfl := fx2 hk
  obtain rfl := fx6 h4
  kernel_rfl
def akV : Q1 := abi n k0 (yo n k0 n)
def R9 (n : Nat) (a0 : AV) (h : Heap) (k : mC) : CRes := RX n k (rX n k n) a0 h
theorem al5 (n : Nat) (k0 : Q0) (s : St) : D (ft []) iy n Kv (cO z_cost_Check k0) (fun _ _ => .err) (cO z_cost_Check k0) s = akV n k0 s := by kernel_rfl
theorem akK (n : Nat) (a0 : AV) (h : Heap) (k0 : Q0) : W a_cost_Check z_cost_Check [] iy n Kv [a0] h k0 = R9 n a0 h (fun u0 h => k0 (.int .i64 u0) h) := by
  let k : mC := fun u0 h => k0 (.int .i64 u0) h
  have hk : kh k0 k := fun _ _ => rfl
  have hb : ∀ F : Tr AV → CRes, iS a_cost_Check [a0] .leaf F = F (cP [(p0, a0)]) := fun F => by kernel_rfl
  exact (nD hb).trans ((al5 n k0 _).trans (alk n k0 k hk (yo n k0 n) (rX n k n) (agC n k0 k hk n) a0 h))
end
def eO (n : Nat) : cn := R9 n
theorem aln {tbl : Tr AFn} (hp : cN tbl) (ht : tbl.get (key fh) = some aa9) (n : Nat) : Sound tbl fh (fO (eO n)) := by
  refine Sound.of (dK hp (ps := a_cost_Check) (rs := z_cost_Check) (l := []) (ty := iy) (n := n) (c := Kv) ht trivial) fun args H k r H' h => ?_
  unfold fO at h
  obtain ⟨a0, l0, e0, h0⟩ := cY h
  subst e0
  obtain ⟨e9, h9⟩ := db h0
  subst e9
  exact (akK n a0 H k).trans h9
abbrev eW := AV → Int → Heap → (Int → Heap → CRes) → CRes
abbrev iu := Int → Heap → CRes
def iv (g : eW) : Wr := fun l h k => mr l fun a0 l => qA .i64 l fun a1 l => nC l (g a0 a1 h fun u0 h => k (.int .i64 u0) h)
def gX : eg := ft []
abbrev jT (k0 : Q0) (k : iu) : Prop := ∀ u0 h, k0 (.int .i64 u0) h = k u0 h
abbrev nm : Type := Heap → CRes
abbrev rc (J : Q1) (j : nm) : Prop := ∀ h, J ⟨cP [], h⟩ = j h
abbrev iB : Type := AV → Int → Int → Int → Heap → CRes
abbrev np (J : Q1) (j : iB) : Prop := ∀ v0 v1 v7 v8 h, J ⟨cP [(p0, v0), (p1, (.int .i64 v1)), (p7, (.int .i64 v7)), (p8, (.int .i64 v8))], h⟩ = j v0 v1 v7 v8 h
section
variable (n : Nat) (k0 : Q0) (k : iu)
def yj (n : Nat) (k0 : Q0) : Q1 := (bH (gX ) ep xn (cO z_slices_Index___int_int_ k0))
def qP (n : Nat) (k : iu) (h : Heap) : CRes :=
 k (-1) h
theorem Km (hk : jT k0 k) : rc (yj n k0 ) (qP n k ) := by
  obtain rfl := fx2 hk
  intro h
  kernel_rfl
def qZ : Q1 := yj n k0
def lp : nm := qP n k
theorem KD (hk : jT k0 k) : rc (qZ n k0 ) (lp n k ) := Km n k0 k hk
def ym (n : Nat) (k0 : Q0) (J0 : Q1) (J1 : Q1) : Q1 := (bH (gX ) ep yd (fun s => eM (.t p9) s (bH (gX ) ep xM (bH (gX ) ep yi (fun s => eM (.t p16) s (bH (gX ) ep xu (cO z_slices_Index___int_int_ k0)) (bH (gX ) ep xz (fun s => cS qW s J1))))) (fun s => cS xN s J0)))
def nk (n : Nat) (k : iu) (j0 : nm) (j1 : iB) (v0 : AV) (v1 : Int) (v7 : Int) (v8 : Int) (h : Heap) : CRes :=
 ifB (ltF v8 v7)
 (DW .i64 1 h v0 v8 fun x1 x2 =>
 ifB (eqF v1 x2)
 (k v8 h)
 (mO .i64 v8 1 fun x3 =>
 j1 v0 v1 v7 x3 h))
 (j0 h)
theorem Kx (hk : jT k0 k) (J0 : Q1) (j0 : nm) (h0 : rc J0 j0) (J1 : Q1) (j1 : iB) (h1 : np J1 j1) : np (ym n k0 J0 J1) (nk n k j0 j1) := by
  obtain rfl := fx2 hk
  obtain rfl := fx1 h0
  obtain rfl := fx5 h1
  intro v0 v1 v7 v8 h
  kernel_rfl
def nq (m : Nat) : Q1 := Nat.rec (motive := fun _ => Q1) (fun _ => .err) (fun _ ih => ym n k0 (qZ n k0 ) ih) m
def jD (m : Nat) : iB := Nat.rec (motive := fun _ => iB) (fun _ _ _ _ _ => .err) (fun _ ih => nk n k (lp n k ) ih) m
theorem JX (hk : jT k0 k) (m : Nat) : np (nq n k0 m) (jD n k m) := by
  induction m with
  | zero => intro v0 v1 v7 v8 h; rfl
  | succ m ih => exact Kx n k0 k hk (qZ n k0 ) (lp n k ) (KD n k0 k hk ) (nq n k0 m) (jD n k m) ih
def Ac (n : Nat) (k0 : Q0) (J1 : Q1) : Q1 := (bH (gX ) ep xy (bH (gX ) ep xr (fun s => cS qW s J1)))
def sN (n : Nat) (k : iu) (j1 : iB) (a0 : AV) (a1 : Int) (h : Heap) : CRes :=
 iP a0 fun x0 =>
 j1 a0 a1 x0 0 h
theorem MR (n : Nat) (k0 : Q0) (k : iu) (hk : jT k0 k) (J1 : Q1) (j1 : iB) (h1 : np J1 j1) (a0 : AV) (a1 : Int) (h : Heap) : (Ac n k0 J1) ⟨cP [(p0, a0), (p1, (.int .i64 a1))], h⟩ = (sN n k j1) a0 a1 h := by
  obtain rfl := fx2 hk
  obtain rfl := fx5 h1
  kernel_rfl
def MO : Q1 := Ac n k0 (nq n k0 n)
def sQ (n : Nat) (a0 : AV) (a1 : Int) (h : Heap) (k : iu) : CRes := sN n k (jD n k n) a0 a1 h
theorem MY (n : Nat) (k0 : Q0) (s : St) : D (ft []) ep n oK (cO z_slices_Index___int_int_ k0) (fun _ _ => .err) (cO z_slices_Index___int_int_ k0) s = MO n k0 s := by kernel_rfl
theorem M6 (n : Nat) (a0 : AV) (a1 : Int) (h : Heap) (k0 : Q0) : W a_slices_Index___int_int_ z_slices_Index___int_int_ [] ep n oK [a0, (.int .i64 a1)] h k0 = sQ n a0 a1 h (fun u0 h => k0 (.int .i64 u0) h) := by
  let k : iu := fun u0 h => k0 (.int .i64 u0) h
  have hk : jT k0 k := fun _ _ => rfl
  have hb : ∀ F : Tr AV → CRes, iS a_slices_Index___int_int_ [a0, (.int .i64 a1)] .leaf F = F (cP [(p0, a0), (p1, (.int .i64 a1))]) := fun F => by kernel_rfl
  exact (nD hb).trans ((MY n k0 _).trans (MR n k0 k hk (nq n k0 n) (jD n k n) (JX n k0 k hk n) a0 a1 h))
end
def io (n : Nat) : eW := sQ n
theorem MH {tbl : Tr AFn} (hp : cN tbl) (ht : tbl.get (key gw) = some Aa) (n : Nat) : Sound tbl gw (iv (io n)) := by
  refine Sound.of (dK hp (ps := a_slices_Index___int_int_) (rs := z_slices_Index___int_int_) (l := []) (ty := ep) (n := n) (c := oK) ht trivial) fun args H k r H' h => ?_
  unfold iv at h
  obtain ⟨a0, l0, e0, h0⟩ := cY h
  subst e0
  obtain ⟨a1, l1, e1, h1⟩ := dT h0
  subst e1
  obtain ⟨e9, h9⟩ := db h1
  subst e9
  exact (M6 n a0 a1 H k).trans h9
abbrev cy := AV → Int → Heap → (Bool → Heap → CRes) → CRes
abbrev je := Bool → Heap → CRes
def gp (g : cy) : Wr := fun l h k => mr l fun a0 l => qA .i64 l fun a1 l => nC l (g a0 a1 h fun u0 h => k (.bool u0) h)
def vh (cM : eW) : eg := ft [(gw, iv cM)]
abbrev vq (k0 : Q0) (k : je) : Prop := ∀ u0 h, k0 (.bool u0) h = k u0 h
section
variable (n : Nat) (cM : eW) (k0 : Q0) (k : je)
def wm (n : Nat) (cM : eW) (k0 : Q0) : Q1 := (bH (vh cM) kM uQ (bH (vh cM) kM uE (cO z_slices_Contains___int_int_ k0)))
def ql (n : Nat) (cM : eW) (k : je) (a0 : AV) (a1 : Int) (h : Heap) : CRes :=
 cM a0 a1 h fun x0 h1 =>
 k (jK (ltF x0 0)) h1
theorem HY (n : Nat) (cM : eW) (k0 : Q0) (k : je) (hk : vq k0 k) (a0 : AV) (a1 : Int) (h : Heap) : (wm n cM k0 ) ⟨cP [(p0, a0), (p1, (.int .i64 a1))], h⟩ = (ql n cM k ) a0 a1 h := by
  obtain rfl := fx2 hk
  kernel_rfl
def HD : Q1 := wm n cM k0
def qh (n : Nat) (cM : eW) (a0 : AV) (a1 : Int) (h : Heap) (k : je) : CRes := ql n cM k a0 a1 h
theorem Iz (n : Nat) (cM : eW) (k0 : Q0) (s : St) : D (ft [(gw, iv cM)]) kM n mI (cO z_slices_Contains___int_int_ k0) (fun _ _ => .err) (cO z_slices_Contains___int_int_ k0) s = HD n cM k0 s := by kernel_rfl
theorem HU (n : Nat) (cM : eW) (a0 : AV) (a1 : Int) (h : Heap) (k0 : Q0) : W a_slices_Contains___int_int_ z_slices_Contains___int_int_ [(gw, iv cM)] kM n mI [a0, (.int .i64 a1)] h k0 = qh n cM a0 a1 h (fun u0 h => k0 (.bool u0) h) := by
  let k : je := fun u0 h => k0 (.bool u0) h
  have hk : vq k0 k := fun _ _ => rfl
  have hb : ∀ F : Tr AV → CRes, iS a_slices_Contains___int_int_ [a0, (.int .i64 a1)] .leaf F = F (cP [(p0, a0), (p1, (.int .i64 a1))]) := fun F => by kernel_rfl
  exact (nD hb).trans ((Iz n cM k0 _).trans (HY n cM k0 k hk a0 a1 h))
end
def cI (n : Nat) : cy := qh n (io n)
theorem Iu {tbl : Tr AFn} (hp : cN tbl) (ht : tbl.get (key eN) = some vM) (n : Nat) (K4 : Sound tbl gw (iv (io n))) : Sound tbl eN (gp (cI n)) := by
  refine Sound.of (dK hp (ps := a_slices_Contains___int_int_) (rs := z_slices_Contains___int_int_) (l := [(gw, iv (io n))]) (ty := kM) (n := n) (c := mI) ht ⟨K4, trivial⟩) fun args H k r H' h => ?_
  unfold gp at h
  obtain ⟨a0, l0, e0, h0⟩ := cY h
  subst e0
  obtain ⟨a1, l1, e1, h1⟩ := dT h0
  subst e1
  obtain ⟨e9, h9⟩ := db h1
  subst e9
  exact (HU n (io n) a0 a1 H k).trans h9
/-! cofferdam/plan.colours -/
abbrev mv := AV → Int → Heap → (Bool → Heap → CRes) → CRes
abbrev jh := Bool → Heap → CRes
def pL (g : mv) : Wr := fun l h k => mr l fun a0 l => qA .i64 l fun a1 l => nC l (g a0 a1 h fun u0 h => k (.bool u0) h)
def gL (al : cy) : eg := ft [(eN, gp al)]
abbrev iT (k0 : Q0) (k : jh) : Prop := ∀ u0 h, k0 (.bool u0) h = k u0 h
abbrev zg : Type := AV → Heap → CRes
abbrev Fi (J : Q1) (j : zg) : Prop := ∀ v5 h, J ⟨cP [(p5, v5)], h⟩ = j v5 h
abbrev y5 : Type := Int → AV → AV → AV → Int → Int → Heap → CRes
abbrev FP (J : Q1) (j : y5) : Prop := ∀ v1 v2 v5 v16 v17 v18 h, J ⟨cP [(p1, (.int .i64 v1)), (p2, v2), (p5, v5), (p16, v16), (p17, (.int .i64 v17)), (p18, (.int .i64 v18))], h⟩ = j v1 v2 v5 v16 v17 v18 h
abbrev pe : Type := Int → AV → AV → Int → AV → Int → Int → AV → Int → Int → Heap → CRes
abbrev zt (J : Q1) (j : pe) : Prop := ∀ v1 v2 v5 v7 v16 v17 v18 v47 v48 v49 h, J ⟨cP [(p1, (.int .i64 v1)), (p2, v2), (p5, v5), (p7, (.int .i64 v7)), (p16, v16), (p17, (.int .i64 v17)), (p18, (.int .i64 v18)), (p47, v47), (p48, (.int .i64 v48)), (p49, (.int .i64 v49))], h⟩ = j v1 v2 v5 v7 v16 v17 v18 v47 v48 v49 h
abbrev zd : Type := Int → AV → AV → Int → AV → Int → Int → Bool → Heap → CRes
abbrev F3 (J : Q1) (j : zd) : Prop := ∀ v1 v2 v5 v7 v16 v17 v18 v43 h, J ⟨cP [(p1, (.int .i64 v1)), (p2, v2), (p5, v5), (p7, (.int .i64 v7)), (p16, v16), (p17, (.int .i64 v17)), (p18, (.int .i64 v18)), (p43, (.bool v43))], h⟩ = j v1 v2 v5 v7 v16 v17 v18 v43 h
abbrev zi : Type := Int → AV → AV → Int → Int → AV → Int → Int → Bool → Heap → CRes
abbrev FZ (J : Q1) (j : zi) : Prop := ∀ v1 v2 v5 v6 v7 v16 v17 v18 v30 h, J ⟨cP [(p1, (.int .i64 v1)), (p2, v2), (p5, v5), (p6, (.int .i64 v6)), (p7, (.int .i64 v7)), (p16, v16), (p17, (.int .i64 v17)), (p18, (.int .i64 v18)), (p30, (.bool v30))], h⟩ = j v1 v2 v5 v6 v7 v16 v17 v18 v30 h
abbrev gF : Type := Int → AV → AV → AV → Int → Int → Heap → CRes
abbrev mY (J : Q1) (j : gF) : Prop := ∀ v1 v2 v5 v16 v17 v18 h, J ⟨cP [(p1, (.int .i64 v1)), (p2, v2), (p5, v5), (p16, v16), (p17, (.int .i64 v17)), (p18, (.int .i64 v18))], h⟩ = j v1 v2 v5 v16 v17 v18 h
section
variable (n : Nat) (al : cy) (k0 : Q0) (k : jh)
def PH (n : Nat) (al : cy) (k0 : Q0) : Q1 := (bH (gL al) fI Py (cO z_plan_colours k0))
def F2 (n : Nat) (al : cy) (k : jh) (v5 : AV) (h : Heap) : CRes :=
 iP v5 fun x8 =>
 k (ltF 0 x8) h
theorem abY (hk : iT k0 k) : Fi (PH n al k0 ) (F2 n al k ) := by
  obtain rfl := fx2 hk
  intro v5 h
  kernel_rfl
def E2 : Q1 := PH n al k0
def uL : zg := F2 n al k
theorem adG (hk : iT k0 k) : Fi (E2 n al k0 ) (uL n al k ) := abY n al k0 k hk
def P0 (n : Nat) (al : cy) (k0 : Q0) (J1 : Q1) : Q1 := (bH (gL al) fI O0 (fun s => cS FC s J1))
def FG (n : Nat) (al : cy) (k : jh) (j1 : gF) (v1 : Int) (v2 : AV) (v5 : AV) (v16 : AV) (v17 : Int) (v18 : Int) (h : Heap) : CRes :=
 mO .i64 v18 1 fun x20 =>
 j1 v1 v2 v5 v16 v17 x20 h
theorem acn (hk : iT k0 k) (J1 : Q1) (j1 : gF) (h1 : mY J1 j1) : FP (P0 n al k0 J1) (FG n al k j1) := by
  obtain rfl := fx2 hk
  obtain rfl := fx7 h1
  intro v1 v2 v5 v16 v17 v18 h
  kernel_rfl
def EZ (J1 : Q1) : Q1 := P0 n al k0 J1
def uU (j1 : gF) : y5 := FG n al k j1
theorem ab2 (hk : iT k0 k) (J1 : Q1) (j1 : gF) (h1 : mY J1 j1) : FP (EZ n al k0 J1) (uU n al k j1) := acn n al k0 k hk J1 j1 h1
def Po (n : Nat) (al : cy) (k0 : Q0) (J2 : Q1) (J3 : Q1) : Q1 := (bH (gL al) fI PT (fun s => eM (.t p50) s (bH (gL al) fI Qc (bH (gL al) fI QV (fun s => eM (.t p56) s (bH (gL al) fI Qw (cO z_plan_colours k0)) (bH (gL al) fI PD (fun s => cS FF s J3))))) (fun s => cS Qv s J2)))
def zD (n : Nat) (al : cy) (k : jh) (j2 : y5) (j3 : pe) (v1 : Int) (v2 : AV) (v5 : AV) (v7 : Int) (v16 : AV) (v17 : Int) (v18 : Int) (v47 : AV) (v48 : Int) (v49 : Int) (h : Heap) : CRes :=
 ifB (ltF v49 v48)
 (eld 8 h v47 v49 8 true fun x21 x22 =>
 DK h (.cells [.nilslice, (.int .i64 0), (.int .i64 0), (.int .i64 0), (.int .i64 0), (.int .i64 0), (.int .i64 0), (.int .i64 0)] true 0) fun x23 h24 =>
 pl h24 (.ptr x23 0) 8 x22 fun h25 =>
 fld 0 h25 (.ptr x23 0) 1 false fun x26 x27 =>
 al x27 v7 h25 fun x28 h29 =>
 ifB x28
 (k false h29)
 (mO .i64 v49 1 fun x30 =>
 j3 v1 v2 v5 v7 v16 v17 v18 v47 v48 x30 h29))
 (j2 v1 v2 v5 v16 v17 v18 h)
theorem acT (hk : iT k0 k) (J2 : Q1) (j2 : y5) (h2 : FP J2 j2) (J3 : Q1) (j3 : pe) (h3 : zt J3 j3) : zt (Po n al k0 J2 J3) (zD n al k j2 j3) := by
  obtain rfl := fx2 hk
  obtain rfl := fx7 h2
  obtain rfl := fx11 h3
  intro v1 v2 v5 v7 v16 v17 v18 v47 v48 v49 h
  kernel_rfl
def y7 (J1 : Q1) (m : Nat) : Q1 := Nat.rec (motive := fun _ => Q1) (fun _ => .err) (fun _ ih => Po n al k0 (EZ n al k0 J1) ih) m
def ph (j1 : gF) (m : Nat) : pe := Nat.rec (motive := fun _ => pe) (fun _ _ _ _ _ _ _ _ _ _ _ => .err) (fun _ ih => zD n al k (uU n al k j1) ih) m
theorem adu (hk : iT k0 k) (J1 : Q1) (j1 : gF) (h1 : mY J1 j1) (m : Nat) : zt (y7 n al k0 J1 m) (ph n al k j1 m) := by
  induction m with
  | zero => intro v1 v2 v5 v7 v16 v17 v18 v47 v48 v49 h; rfl
  | succ m ih => exact acT n al k0 k hk (EZ n al k0 J1) (uU n al k j1) (ab2 n al k0 k hk J1 j1 h1) (y7 n al k0 J1 m) (ph n al k j1 m) ih
def Qb (n : Nat) (al : cy) (k0 : Q0) (J3 : Q1) : Q1 := (fun s => eM (.t p43) s (bH (gL al) fI Rh (cO z_plan_colours k0)) (bH (gL al) fI Qg (fun s => cS FF s J3)))
def Fl (n : Nat) (al : cy) (k : jh) (j3 : pe) (v1 : Int) (v2 : AV) (v5 : AV) (v7 : Int) (v16 : AV) (v17 : Int) (v18 : Int) (v43 : Bool) (h : Heap) : CRes :=
 ifB v43
 (k false h)
 (fld 16 h v2 1 false fun x16 x17 =>
 slK (.sl 8) x17 none (some (.int .i64 v1)) none fun x18 =>
 iP x18 fun x19 =>
 j3 v1 v2 v5 v7 v16 v17 v18 x18 x19 0 h)
theorem acQ (hk : iT k0 k) (J3 : Q1) (j3 : pe) (h3 : zt J3 j3) : F3 (Qb n al k0 J3) (Fl n al k j3) := by
  obtain rfl := fx2 hk
  obtain rfl := fx11 h3
  intro v1 v2 v5 v7 v16 v17 v18 v43 h
  kernel_rfl
def Fd (J1 : Q1) : Q1 := Qb n al k0 (y7 n al k0 J1 n)
def zs (j1 : gF) : zd := Fl n al k (ph n al k j1 n)
theorem acK (hk : iT k0 k) (J1 : Q1) (j1 : gF) (h1 : mY J1 j1) : F3 (Fd n al k0 J1) (zs n al k j1) := acQ n al k0 k hk (y7 n al k0 J1 n) (ph n al k j1 n) (adu n al k0 k hk J1 j1 h1 n)
def PC (n : Nat) (al : cy) (k0 : Q0) (J5 : Q1) : Q1 := (bH (gL al) fI NG (fun s => cS Q9 s J5))
def Fx (n : Nat) (al : cy) (k : jh) (j5 : zd) (v1 : Int) (v2 : AV) (v5 : AV) (v6 : Int) (v7 : Int) (v16 : AV) (v17 : Int) (v18 : Int) (v30 : Bool) (h : Heap) : CRes :=
 ifB v30
 (j5 v1 v2 v5 v7 v16 v17 v18 true h)
 (ifB (ltF 0 v6)
 (W5 .i64 v6 1 fun x13 =>
 DW .i64 1 h v5 x13 fun x14 x15 =>
 j5 v1 v2 v5 v7 v16 v17 v18 (jK (ltF x15 v7)) h)
 (j5 v1 v2 v5 v7 v16 v17 v18 false h))
theorem adv (hk : iT k0 k) (J5 : Q1) (j5 : zd) (h5 : F3 J5 j5) : FZ (PC n al k0 J5) (Fx n al k j5) := by
  obtain rfl := fx2 hk
  obtain rfl := fx9 h5
  intro v1 v2 v5 v6 v7 v16 v17 v18 v30 h
  kernel_rfl
def Ft (J1 : Q1) : Q1 := PC n al k0 (Fd n al k0 J1)
def uN (j1 : gF) : zi := Fx n al k (zs n al k j1)
theorem acA (hk : iT k0 k) (J1 : Q1) (j1 : gF) (h1 : mY J1 j1) : FZ (Ft n al k0 J1) (uN n al k j1) := adv n al k0 k hk (Fd n al k0 J1) (zs n al k j1) (acK n al k0 k hk J1 j1 h1)
def PV (n : Nat) (al : cy) (k0 : Q0) (J0 : Q1) (J4 : Q1) : Q1 := (bH (gL al) fI Nm (fun s => eM (.t p19) s (bH (gL al) fI NI (bH (gL al) fI Ql (fun s => cS Qi s J4))) (fun s => cS Pl s J0)))
def zC (n : Nat) (al : cy) (k : jh) (j0 : zg) (j4 : zi) (v1 : Int) (v2 : AV) (v5 : AV) (v16 : AV) (v17 : Int) (v18 : Int) (h : Heap) : CRes :=
 ifB (ltF v18 v17)
 (DW .i64 1 h v16 v18 fun x9 x10 =>
 ifB (ltF x10 0)
 (j4 v1 v2 v5 v18 x10 v16 v17 v18 true h)
 (mV .i64 1 h v2 fun x11 x12 =>
 j4 v1 v2 v5 v18 x10 v16 v17 v18 (jK (ltF x10 x12)) h))
 (j0 v5 h)
theorem ad5 (hk : iT k0 k) (J0 : Q1) (j0 : zg) (h0 : Fi J0 j0) (J4 : Q1) (j4 : zi) (h4 : FZ J4 j4) : mY (PV n al k0 J0 J4) (zC n al k j0 j4) := by
  obtain rfl := fx2 hk
  obtain rfl := fx2 h0
  obtain rfl := fx10 h4
  intro v1 v2 v5 v16 v17 v18 h
  kernel_rfl
def uF (m : Nat) : Q1 := Nat.rec (motive := fun _ => Q1) (fun _ => .err) (fun _ ih => PV n al k0 (E2 n al k0 ) (Ft n al k0 ih)) m
def lX (m : Nat) : gF := Nat.rec (motive := fun _ => gF) (fun _ _ _ _ _ _ _ => .err) (fun _ ih => zC n al k (uL n al k ) (uN n al k ih)) m
theorem adl (hk : iT k0 k) (m : Nat) : mY (uF n al k0 m) (lX n al k m) := by
  induction m with
  | zero => intro v1 v2 v5 v16 v17 v18 h; rfl
  | succ m ih => exact ad5 n al k0 k hk (E2 n al k0 ) (uL n al k ) (adG n al k0 k hk ) (Ft n al k0 (uF n al k0 m)) (uN n al k (lX n al k m)) (acA n al k0 k hk (uF n al k0 m) (lX n al k m) ih)
def US (n : Nat) (al : cy) (k0 : Q0) (J1 : Q1) : Q1 := (bH (gL al) fI Ob (bH (gL al) fI Nv (bH (gL al) fI N5 (fun s => cS FC s J1))))
def Mz (n : Nat) (al : cy) (k : jh) (j1 : gF) (a0 : AV) (a1 : Int) (h : Heap) : CRes :=
 Co h a0 fun x0 h1 =>
 fld 16 h1 (.ptr x0 0) 1 false fun x2 x3 =>
 iaSK 8 x3 a1 fun x4 =>
 fld 0 h1 x4 1 false fun x5 x6 =>
 iP x6 fun x7 =>
 j1 a1 (.ptr x0 0) x6 x6 x7 0 h1
theorem aid (n : Nat) (al : cy) (k0 : Q0) (k : jh) (hk : iT k0 k) (J1 : Q1) (j1 : gF) (h1 : mY J1 j1) (a0 : AV) (a1 : Int) (h : Heap) : (US n al k0 J1) ⟨cP [(p0, a0), (p1, (.int .i64 a1))], h⟩ = (Mz n al k j1) a0 a1 h := by
  obtain rfl := fx2 hk
  obtain rfl := fx7 h1
  kernel_rfl
def agc : Q1 := US n al k0 (uF n al k0 n)
def LR (n : Nat) (al : cy) (a0 : AV) (a1 : Int) (h : Heap) (k : jh) : CRes := Mz n al k (lX n al k n) a0 a1 h
theorem ags (n : Nat) (al : cy) (k0 : Q0) (s : St) : D (ft [(eN, gp al)]) fI n CX (cO z_plan_colours k0) (fun _ _ => .err) (cO z_plan_colours k0) s = agc n al k0 s := by kernel_rfl
theorem agp (n : Nat) (al : cy) (a0 : AV) (a1 : Int) (h : Heap) (k0 : Q0) : W a_plan_colours z_plan_colours [(eN, gp al)] fI n CX [a0, (.int .i64 a1)] h k0 = LR n al a0 a1 h (fun u0 h => k0 (.bool u0) h) := by
  let k : jh := fun u0 h => k0 (.bool u0) h
  have hk : iT k0 k := fun _ _ => rfl
  have hb : ∀ F : Tr AV → CRes, iS a_plan_colours [a0, (.int .i64 a1)] .leaf F = F (cP [(p0, a0), (p1, (.int .i64 a1))]) := fun F => by kernel_rfl
  exact (nD hb).trans ((ags n al k0 _).trans (aid n al k0 k hk (uF n al k0 n) (lX n al k n) (adl n al k0 k hk n) a0 a1 h))
end
def pP (n : Nat) : mv := LR n (cI n)
theorem agQ {tbl : Tr AFn} (hp : cN tbl) (ht : tbl.get (key ob) = some Wj) (n : Nat) (GL : Sound tbl eN (gp (cI n))) : Sound tbl ob (pL (pP n)) := by
  refine Sound.of (dK hp (ps := a_plan_colours) (rs := z_plan_colours) (l := [(eN, gp (cI n))]) (ty := fI) (n := n) (c := CX) ht ⟨GL, trivial⟩) fun args H k r H' h => ?_
  unfold pL at h
  obtain ⟨a0, l0, e0, h0⟩ := cY h
  subst e0
  obtain ⟨a1, l1, e1, h1⟩ := dT h0
  subst e1
  obtain ⟨e9, h9⟩ := db h1
  subst e9
  exact (agp n (cI n) a0 a1 H k).trans h9
/-! cofferdam/plan.each -/
abbrev dl := AV → Heap → (Int → Heap → CRes) → CRes
abbrev Cc := Int → Heap → CRes
def m9 (g : dl) : Wr := fun l h k => mr l fun a0 l => nC l (g a0 h fun u0 h => k (.int .i64 u0) h)
def aan : eg := ft []
abbrev abJ (k0 : Q0) (k : Cc) : Prop := ∀ u0 h, k0 (.int .i64 u0) h = k u0 h
section
variable (n : Nat) (k0 : Q0) (k : Cc)
def aen (n : Nat) (k0 : Q0) : Q1 := (bH (aan ) GI Y0 (bH (aan ) GI X1 (cO z_plan_each k0)))
def WP (n : Nat) (k : Cc) (a0 : AV) (h : Heap) : CRes :=
 Co h a0 fun x0 h1 =>
 mV .i64 0 h1 (.ptr x0 0) fun x2 x3 =>
 mV .i64 1 h1 (.ptr x0 0) fun x4 x5 =>
 quoK .i64 x3 x5 fun x6 =>
 k x6 h1
theorem amP (n : Nat) (k0 : Q0) (k : Cc) (hk : abJ k0 k) (a0 : AV) (h : Heap) : (aen n k0 ) ⟨cP [(p0, a0)], h⟩ = (WP n k ) a0 h := by
  obtain rfl := fx2 hk
  kernel_rfl
def anF : Q1 := aen n k0
def WH (n : Nat) (a0 : AV) (h : Heap) (k : Cc) : CRes := WP n k a0 h
theorem amn (n : Nat) (k0 : Q0) (s : St) : D (ft []) GI n N3 (cO z_plan_each k0) (fun _ _ => .err) (cO z_plan_each k0) s = anF n k0 s := by kernel_rfl
theorem anM (n : Nat) (a0 : AV) (h : Heap) (k0 : Q0) : W a_plan_each z_plan_each [] GI n N3 [a0] h k0 = WH n a0 h (fun u0 h => k0 (.int .i64 u0) h) := by
  let k : Cc := fun u0 h => k0 (.int .i64 u0) h
  have hk : abJ k0 k := fun _ _ => rfl
  have hb : ∀ F : Tr AV → CRes, iS a_plan_each [a0] .leaf F = F (cP [(p0, a0)]) := fun F => by kernel_rfl
  exact (nD hb).trans ((amn n k0 _).trans (amP n k0 k hk a0 h))
end
def mX (n : Nat) : dl := WH n
theorem amO {tbl : Tr AFn} (hp : cN tbl) (ht : tbl.get (key mq) = some aeo) (n : Nat) : Sound tbl mq (m9 (mX n)) := by
  refine Sound.of (dK hp (ps := a_plan_each) (rs := z_plan_each) (l := []) (ty := GI) (n := n) (c := N3) ht trivial) fun args H k r H' h => ?_
  unfold m9 at h
  obtain ⟨a0, l0, e0, h0⟩ := cY h
  subst e0
  obtain ⟨e9, h9⟩ := db h0
  subst e9
  exact (anM n a0 H k).trans h9
/-! cofferdam/plan.total -/
abbrev c8 := AV → Int → Heap → (Int → Heap → CRes) → CRes
abbrev zh := Int → Heap → CRes
def lW (g : c8) : Wr := fun l h k => mr l fun a0 l => qA .i64 l fun a1 l => nC l (g a0 a1 h fun u0 h => k (.int .i64 u0) h)
def YY (aE : dl) : eg := ft [(mq, m9 aE)]
abbrev YN (k0 : Q0) (k : zh) : Prop := ∀ u0 h, k0 (.int .i64 u0) h = k u0 h
section
variable (n : Nat) (aE : dl) (k0 : Q0) (k : zh)
def aax (n : Nat) (aE : dl) (k0 : Q0) : Q1 := (bH (YY aE) C1 UL (bH (YY aE) C1 UN (cO z_plan_total k0)))
def RO (n : Nat) (aE : dl) (k : zh) (a0 : AV) (a1 : Int) (h : Heap) : CRes :=
 Co h a0 fun x0 h1 =>
 fld 16 h1 (.ptr x0 0) 1 false fun x2 x3 =>
 iaSK 8 x3 a1 fun x4 =>
 fld 0 h1 x4 1 false fun x5 x6 =>
 iP x6 fun x7 =>
 iZ h1 (.ptr x0 0) 17 true fun x8 =>
 aE x8 (h1.shut true) fun x9 h10 =>
 LV .i64 x7 x9 fun x11 =>
 k x11 (h10.back h1.ro)
theorem al2 (n : Nat) (aE : dl) (k0 : Q0) (k : zh) (hk : YN k0 k) (a0 : AV) (a1 : Int) (h : Heap) : (aax n aE k0 ) ⟨cP [(p0, a0), (p1, (.int .i64 a1))], h⟩ = (RO n aE k ) a0 a1 h := by
  obtain rfl := fx2 hk
  kernel_rfl
def ak1 : Q1 := aax n aE k0
def Ru (n : Nat) (aE : dl) (a0 : AV) (a1 : Int) (h : Heap) (k : zh) : CRes := RO n aE k a0 a1 h
theorem alT (n : Nat) (aE : dl) (k0 : Q0) (s : St) : D (ft [(mq, m9 aE)]) C1 n Kh (cO z_plan_total k0) (fun _ _ => .err) (cO z_plan_total k0) s = ak1 n aE k0 s := by kernel_rfl
theorem alW (n : Nat) (aE : dl) (a0 : AV) (a1 : Int) (h : Heap) (k0 : Q0) : W a_plan_total z_plan_total [(mq, m9 aE)] C1 n Kh [a0, (.int .i64 a1)] h k0 = Ru n aE a0 a1 h (fun u0 h => k0 (.int .i64 u0) h) := by
  let k : zh := fun u0 h => k0 (.int .i64 u0) h
  have hk : YN k0 k := fun _ _ => rfl
  have hb : ∀ F : Tr AV → CRes, iS a_plan_total [a0, (.int .i64 a1)] .leaf F = F (cP [(p0, a0), (p1, (.int .i64 a1))]) := fun F => by kernel_rfl
  exact (nD hb).trans ((alT n aE k0 _).trans (al2 n aE k0 k hk a0 a1 h))
end
def lZ (n : Nat) : c8 := Ru n (mX n)
theorem alF {tbl : Tr AFn} (hp : cN tbl) (ht : tbl.get (key lA) = some aal) (n : Nat) (Rn : Sound tbl mq (m9 (mX n))) : Sound tbl lA (lW (lZ n)) := by
  refine Sound.of (dK hp (ps := a_plan_total) (rs := z_plan_total) (l := [(mq, m9 (mX n))]) (ty := C1) (n := n) (c := Kh) ht ⟨Rn, trivial⟩) fun args H k r H' h => ?_
  unfold lW at h
  obtain ⟨a0, l0, e0, h0⟩ := cY h
  subst e0
  obtain ⟨a1, l1, e1, h1⟩ := dT h0
  subst e1
  obtain ⟨e9, h9⟩ := db h1
  subst e9
  exact (alW n (mX n) a0 a1 H k).trans h9
/-! cofferdam/plan.quotas -/
abbrev nI := AV → Int → Heap → (Bool → Heap → CRes) → CRes
abbrev i7 := Bool → Heap → CRes
def ru (g : nI) : Wr := fun l h k => mr l fun a0 l => qA .i64 l fun a1 l => nC l (g a0 a1 h fun u0 h => k (.bool u0) h)
def dI (aA : c8) (ad : bU) (aE : dl) (ae : bG) : eg := ft [(lA, lW aA), (f8, gy ad), (mq, m9 aE), (dm, dE ae)]
abbrev fb (k0 : Q0) (k : i7) : Prop := ∀ u0 h, k0 (.bool u0) h = k u0 h
abbrev Bm : Type := Bool → Heap → CRes
abbrev H6 (J : Q1) (j : Bm) : Prop := ∀ v104 h, J ⟨cP [(p104, (.bool v104))], h⟩ = j v104 h
abbrev BJ : Type := Int → AV → AV → Bool → Heap → CRes
abbrev IQ (J : Q1) (j : BJ) : Prop := ∀ v1 v2 v5 v72 h, J ⟨cP [(p1, (.int .i64 v1)), (p2, v2), (p5, v5), (p72, (.bool v72))], h⟩ = j v1 v2 v5 v72 h
abbrev BI : Type := Int → AV → AV → Int → Heap → CRes
abbrev IU (J : Q1) (j : BI) : Prop := ∀ v1 v2 v5 v8 h, J ⟨cP [(p1, (.int .i64 v1)), (p2, v2), (p5, v5), (p8, (.int .i64 v8))], h⟩ = j v1 v2 v5 v8 h
abbrev Bg : Type := Int → AV → AV → Int → AV → Int → Int → Heap → CRes
abbrev HH (J : Q1) (j : Bg) : Prop := ∀ v1 v2 v5 v8 v51 v52 v53 h, J ⟨cP [(p1, (.int .i64 v1)), (p2, v2), (p5, v5), (p8, (.int .i64 v8)), (p51, v51), (p52, (.int .i64 v52)), (p53, (.int .i64 v53))], h⟩ = j v1 v2 v5 v8 v51 v52 v53 h
abbrev mF : Type := Int → AV → AV → Int → AV → Int → Int → Heap → CRes
abbrev wk (J : Q1) (j : mF) : Prop := ∀ v1 v2 v5 v8 v51 v52 v53 h, J ⟨cP [(p1, (.int .i64 v1)), (p2, v2), (p5, v5), (p8, (.int .i64 v8)), (p51, v51), (p52, (.int .i64 v52)), (p53, (.int .i64 v53))], h⟩ = j v1 v2 v5 v8 v51 v52 v53 h
abbrev Bz : Type := Int → AV → AV → Heap → CRes
abbrev IO (J : Q1) (j : Bz) : Prop := ∀ v1 v2 v5 h, J ⟨cP [(p1, (.int .i64 v1)), (p2, v2), (p5, v5)], h⟩ = j v1 v2 v5 h
abbrev qj : Type := Int → AV → AV → AV → Int → Heap → CRes
abbrev Bw (J : Q1) (j : qj) : Prop := ∀ v1 v2 v5 v39 v40 h, J ⟨cP [(p1, (.int .i64 v1)), (p2, v2), (p5, v5), (p39, v39), (p40, (.int .i64 v40))], h⟩ = j v1 v2 v5 v39 v40 h
abbrev Bt : Type := Int → AV → AV → Bool → Heap → CRes
abbrev Ik (J : Q1) (j : Bt) : Prop := ∀ v1 v2 v5 v32 h, J ⟨cP [(p1, (.int .i64 v1)), (p2, v2), (p5, v5), (p32, (.bool v32))], h⟩ = j v1 v2 v5 v32 h
abbrev BO : Type := Int → AV → AV → Bool → Heap → CRes
abbrev H2 (J : Q1) (j : BO) : Prop := ∀ v1 v2 v5 v26 h, J ⟨cP [(p1, (.int .i64 v1)), (p2, v2), (p5, v5), (p26, (.bool v26))], h⟩ = j v1 v2 v5 v26 h
section
variable (n : Nat) (aA : c8) (ad : bU) (aE : dl) (ae : bG) (k0 : Q0) (k : i7)
def TF (n : Nat) (aA : c8) (ad : bU) (aE : dl) (ae : bG) (k0 : Q0) : Q1 := (bH (dI aA ad aE ae) dD Sy (cO z_plan_quotas k0))
def Ic (n : Nat) (aA : c8) (ad : bU) (aE : dl) (ae : bG) (k : i7) (v104 : Bool) (h : Heap) : CRes :=
 k v104 h
theorem afC (hk : fb k0 k) : H6 (TF n aA ad aE ae k0 ) (Ic n aA ad aE ae k ) := by
  obtain rfl := fx2 hk
  intro v104 h
  kernel_rfl
def IL : Q1 := TF n aA ad aE ae k0
def Bj : Bm := Ic n aA ad aE ae k
theorem aeP (hk : fb k0 k) : H6 (IL n aA ad aE ae k0 ) (Bj n aA ad aE ae k ) := afC n aA ad aE ae k0 k hk
def SU (n : Nat) (aA : c8) (ad : bU) (aE : dl) (ae : bG) (k0 : Q0) (J0 : Q1) : Q1 := (fun s => eM (.t p72) s (bH (dI aA ad aE ae) dD Tb (cO z_plan_quotas k0)) (bH (dI aA ad aE ae) dD TB (fun s => eM (.t p75) s (bH (dI aA ad aE ae) dD TN (cO z_plan_quotas k0)) (bH (dI aA ad aE ae) dD S4 (bH (dI aA ad aE ae) dD TE (fun s => cS Tx s J0))))))
def IG (n : Nat) (aA : c8) (ad : bU) (aE : dl) (ae : bG) (k : i7) (j0 : Bm) (v1 : Int) (v2 : AV) (v5 : AV) (v72 : Bool) (h : Heap) : CRes :=
 ifB v72
 (k false h)
 (iZ h v2 17 true fun x54 =>
 ad x54 h fun x55 h56 =>
 ifB (jK x55)
 (k true h56)
 (mV .i64 1 h56 v5 fun x57 x58 =>
 ae4 .i64 1 x58 fun x59 =>
 iZ h56 v2 17 true fun x60 =>
 aE x60 h56 fun x61 h62 =>
 ifB (jK (ltF x61 x59))
 (mV .i64 2 h62 v5 fun x63 x64 =>
 mO .i64 x59 x64 fun x65 =>
 mV .i64 3 h62 v5 fun x66 x67 =>
 mO .i64 x65 x67 fun x68 =>
 mV .i64 4 h62 v5 fun x69 x70 =>
 mO .i64 x68 x70 fun x71 =>
 mV .i64 5 h62 v5 fun x72 x73 =>
 mO .i64 x71 x73 fun x74 =>
 mV .i64 6 h62 v5 fun x75 x76 =>
 mO .i64 x74 x76 fun x77 =>
 iZ h62 v2 17 true fun x78 =>
 aA x78 v1 (h62.shut true) fun x79 h80 =>
 j0 (jK (ltF x79 x77)) (h80.back h62.ro))
 (j0 false h62)))
theorem aeR (hk : fb k0 k) (J0 : Q1) (j0 : Bm) (h0 : H6 J0 j0) : IQ (SU n aA ad aE ae k0 J0) (IG n aA ad aE ae k j0) := by
  obtain rfl := fx2 hk
  obtain rfl := fx2 h0
  intro v1 v2 v5 v72 h
  kernel_rfl
def HV : Q1 := SU n aA ad aE ae k0 (IL n aA ad aE ae k0 )
def Br : BJ := IG n aA ad aE ae k (Bj n aA ad aE ae k )
theorem afV (hk : fb k0 k) : IQ (HV n aA ad aE ae k0 ) (Br n aA ad aE ae k ) := aeR n aA ad aE ae k0 k hk (IL n aA ad aE ae k0 ) (Bj n aA ad aE ae k ) (aeP n aA ad aE ae k0 k hk )
def S7 (n : Nat) (aA : c8) (ad : bU) (aE : dl) (ae : bG) (k0 : Q0) (J1 : Q1) : Q1 := (bH (dI aA ad aE ae) dD Tv (fun s => cS Sr s J1))
def Ia (n : Nat) (aA : c8) (ad : bU) (aE : dl) (ae : bG) (k : i7) (j1 : BJ) (v1 : Int) (v2 : AV) (v5 : AV) (v8 : Int) (h : Heap) : CRes :=
 mV .i64 7 h v5 fun x38 x39 =>
 ae x39 1 1024 h fun x40 h41 =>
 ifB (jK x40)
 (j1 v1 v2 v5 true h41)
 (j1 v1 v2 v5 (ltF 1024 v8) h41)
theorem ae6 (hk : fb k0 k) (J1 : Q1) (j1 : BJ) (h1 : IQ J1 j1) : IU (S7 n aA ad aE ae k0 J1) (Ia n aA ad aE ae k j1) := by
  obtain rfl := fx2 hk
  obtain rfl := fx5 h1
  intro v1 v2 v5 v8 h
  kernel_rfl
def IH : Q1 := S7 n aA ad aE ae k0 (HV n aA ad aE ae k0 )
def sX : BI := Ia n aA ad aE ae k (Br n aA ad aE ae k )
theorem afE (hk : fb k0 k) : IU (IH n aA ad aE ae k0 ) (sX n aA ad aE ae k ) := ae6 n aA ad aE ae k0 k hk (HV n aA ad aE ae k0 ) (Br n aA ad aE ae k ) (afV n aA ad aE ae k0 k hk )
def TQ (n : Nat) (aA : c8) (ad : bU) (aE : dl) (ae : bG) (k0 : Q0) (J3 : Q1) : Q1 := (bH (dI aA ad aE ae) dD T2 (fun s => cS HF s J3))
def HO (n : Nat) (aA : c8) (ad : bU) (aE : dl) (ae : bG) (k : i7) (j3 : mF) (v1 : Int) (v2 : AV) (v5 : AV) (v8 : Int) (v51 : AV) (v52 : Int) (v53 : Int) (h : Heap) : CRes :=
 mO .i64 v53 1 fun x81 =>
 j3 v1 v2 v5 v8 v51 v52 x81 h
theorem aeO (hk : fb k0 k) (J3 : Q1) (j3 : mF) (h3 : wk J3 j3) : HH (TQ n aA ad aE ae k0 J3) (HO n aA ad aE ae k j3) := by
  obtain rfl := fx2 hk
  obtain rfl := fx8 h3
  intro v1 v2 v5 v8 v51 v52 v53 h
  kernel_rfl
def It (J3 : Q1) : Q1 := TQ n aA ad aE ae k0 J3
def vQ (j3 : mF) : Bg := HO n aA ad aE ae k j3
theorem afr (hk : fb k0 k) (J3 : Q1) (j3 : mF) (h3 : wk J3 j3) : HH (It n aA ad aE ae k0 J3) (vQ n aA ad aE ae k j3) := aeO n aA ad aE ae k0 k hk J3 j3 h3
def SI (n : Nat) (aA : c8) (ad : bU) (aE : dl) (ae : bG) (k0 : Q0) (J2 : Q1) (J4 : Q1) : Q1 := (bH (dI aA ad aE ae) dD Qt (fun s => eM (.t p54) s (bH (dI aA ad aE ae) dD QB (bH (dI aA ad aE ae) dD SN (fun s => eM (.t p59) s (bH (dI aA ad aE ae) dD SG (fun s => cS IP s J4)) (fun s => cS IP s J4)))) (fun s => cS Sd s J2)))
def Bi (n : Nat) (aA : c8) (ad : bU) (aE : dl) (ae : bG) (k : i7) (j2 : BI) (j4 : Bg) (v1 : Int) (v2 : AV) (v5 : AV) (v8 : Int) (v51 : AV) (v52 : Int) (v53 : Int) (h : Heap) : CRes :=
 ifB (ltF v53 v52)
 (eld 8 h v51 v53 8 true fun x42 x43 =>
 DK h (.cells [.nilslice, (.int .i64 0), (.int .i64 0), (.int .i64 0), (.int .i64 0), (.int .i64 0), (.int .i64 0), (.int .i64 0)] true 0) fun x44 h45 =>
 pl h45 (.ptr x44 0) 8 x43 fun h46 =>
 mV .i64 7 h46 (.ptr x44 0) fun x47 x48 =>
 ae x48 1 1024 h46 fun x49 h50 =>
 ifB x49
 (mV .i64 7 h50 (.ptr x44 0) fun x51 x52 =>
 mO .i64 v8 x52 fun x53 =>
 j4 v1 v2 v5 x53 v51 v52 v53 h50)
 (j4 v1 v2 v5 v8 v51 v52 v53 h50))
 (j2 v1 v2 v5 v8 h)
theorem afK (hk : fb k0 k) (J2 : Q1) (j2 : BI) (h2 : IU J2 j2) (J4 : Q1) (j4 : Bg) (h4 : HH J4 j4) : wk (SI n aA ad aE ae k0 J2 J4) (Bi n aA ad aE ae k j2 j4) := by
  obtain rfl := fx2 hk
  obtain rfl := fx5 h2
  obtain rfl := fx8 h4
  intro v1 v2 v5 v8 v51 v52 v53 h
  kernel_rfl
def vU (m : Nat) : Q1 := Nat.rec (motive := fun _ => Q1) (fun _ => .err) (fun _ ih => SI n aA ad aE ae k0 (IH n aA ad aE ae k0 ) (It n aA ad aE ae k0 ih)) m
def oz (m : Nat) : mF := Nat.rec (motive := fun _ => mF) (fun _ _ _ _ _ _ _ _ => .err) (fun _ ih => Bi n aA ad aE ae k (sX n aA ad aE ae k ) (vQ n aA ad aE ae k ih)) m
theorem afq (m : Nat) : oz n aA ad aE ae k (m + 1) = Bi n aA ad aE ae k (sX n aA ad aE ae k ) (vQ n aA ad aE ae k (oz n aA ad aE ae k m)) := rfl
theorem afT (hk : fb k0 k) (m : Nat) : wk (vU n aA ad aE ae k0 m) (oz n aA ad aE ae k m) := by
  induction m with
  | zero => intro v1 v2 v5 v8 v51 v52 v53 h; rfl
  | succ m ih => exact afK n aA ad aE ae k0 k hk (IH n aA ad aE ae k0 ) (sX n aA ad aE ae k ) (afE n aA ad aE ae k0 k hk ) (It n aA ad aE ae k0 (vU n aA ad aE ae k0 m)) (vQ n aA ad aE ae k (oz n aA ad aE ae k m)) (afr n aA ad aE ae k0 k hk (vU n aA ad aE ae k0 m) (oz n aA ad aE ae k m) ih)
def T4 (n : Nat) (aA : c8) (ad : bU) (aE : dl) (ae : bG) (k0 : Q0) (J3 : Q1) : Q1 := (bH (dI aA ad aE ae) dD Pr (bH (dI aA ad aE ae) dD P6 (fun s => cS HF s J3)))
def Il (n : Nat) (aA : c8) (ad : bU) (aE : dl) (ae : bG) (k : i7) (j3 : mF) (v1 : Int) (v2 : AV) (v5 : AV) (h : Heap) : CRes :=
 fld 16 h v2 1 false fun x28 x29 =>
 mO .i64 v1 1 fun x30 =>
 slK (.sl 8) x29 none (some (.int .i64 x30)) none fun x31 =>
 iP x31 fun x32 =>
 j3 v1 v2 v5 0 x31 x32 0 h
theorem afR (hk : fb k0 k) (J3 : Q1) (j3 : mF) (h3 : wk J3 j3) : IO (T4 n aA ad aE ae k0 J3) (Il n aA ad aE ae k j3) := by
  obtain rfl := fx2 hk
  obtain rfl := fx8 h3
  intro v1 v2 v5 h
  kernel_rfl
def H0 : Q1 := T4 n aA ad aE ae k0 (vU n aA ad aE ae k0 n)
def wn : Bz := Il n aA ad aE ae k (oz n aA ad aE ae k n)
theorem afs (hk : fb k0 k) : IO (H0 n aA ad aE ae k0 ) (wn n aA ad aE ae k ) := afR n aA ad aE ae k0 k hk (vU n aA ad aE ae k0 n) (oz n aA ad aE ae k n) (afT n aA ad aE ae k0 k hk n)
def Td (n : Nat) (aA : c8) (ad : bU) (aE : dl) (ae : bG) (k0 : Q0) (J5 : Q1) (J6 : Q1) : Q1 := (bH (dI aA ad aE ae) dD P3 (fun s => eM (.t p41) s (bH (dI aA ad aE ae) dD Ph (bH (dI aA ad aE ae) dD Pp (fun s => eM (.t p45) s (bH (dI aA ad aE ae) dD Rl (cO z_plan_quotas k0)) (bH (dI aA ad aE ae) dD Qx (fun s => cS HA s J6))))) (fun s => cS Th s J5)))
def Bx (n : Nat) (aA : c8) (ad : bU) (aE : dl) (ae : bG) (k : i7) (j5 : Bz) (j6 : qj) (v1 : Int) (v2 : AV) (v5 : AV) (v39 : AV) (v40 : Int) (h : Heap) : CRes :=
 ifB (ltF v40 3)
 (Yn 1 3 false v39 v40 fun x33 =>
 UK .i64 x33 fun x34 =>
 ae x34 1 4096 h fun x35 h36 =>
 ifB (jK x35)
 (k false h36)
 (mO .i64 v40 1 fun x37 =>
 j6 v1 v2 v5 v39 x37 h36))
 (j5 v1 v2 v5 h)
theorem afv (hk : fb k0 k) (J5 : Q1) (j5 : Bz) (h5 : IO J5 j5) (J6 : Q1) (j6 : qj) (h6 : Bw J6 j6) : Bw (Td n aA ad aE ae k0 J5 J6) (Bx n aA ad aE ae k j5 j6) := by
  obtain rfl := fx2 hk
  obtain rfl := fx4 h5
  obtain rfl := fx6 h6
  intro v1 v2 v5 v39 v40 h
  kernel_rfl
def Bn (m : Nat) : Q1 := Nat.rec (motive := fun _ => Q1) (fun _ => .err) (fun _ ih => Td n aA ad aE ae k0 (H0 n aA ad aE ae k0 ) ih) m
def sW (m : Nat) : qj := Nat.rec (motive := fun _ => qj) (fun _ _ _ _ _ _ => .err) (fun _ ih => Bx n aA ad aE ae k (wn n aA ad aE ae k ) ih) m
theorem aft (m : Nat) : sW n aA ad aE ae k (m + 1) = Bx n aA ad aE ae k (wn n aA ad aE ae k ) (sW n aA ad aE ae k m) := rfl
theorem aeQ (hk : fb k0 k) (m : Nat) : Bw (Bn n aA ad aE ae k0 m) (sW n aA ad aE ae k m) := by
  induction m with
  | zero => intro v1 v2 v5 v39 v40 h; rfl
  | succ m ih => exact afv n aA ad aE ae k0 k hk (H0 n aA ad aE ae k0 ) (wn n aA ad aE ae k ) (afs n aA ad aE ae k0 k hk ) (Bn n aA ad aE ae k0 m) (sW n aA ad aE ae k m) ih
def T3 (n : Nat) (aA : c8) (ad : bU) (aE : dl) (ae : bG) (k0 : Q0) (J6 : Q1) : Q1 := (fun s => eM (.t p32) s (bH (dI aA ad aE ae) dD Rj (cO z_plan_quotas k0)) (bH (dI aA ad aE ae) dD Qj (fun s => cS HA s J6)))
def Ir (n : Nat) (aA : c8) (ad : bU) (aE : dl) (ae : bG) (k : i7) (j6 : qj) (v1 : Int) (v2 : AV) (v5 : AV) (v32 : Bool) (h : Heap) : CRes :=
 ifB v32
 (k false h)
 (mV .i64 4 h v5 fun x21 x22 =>
 mV .i64 5 h v5 fun x23 x24 =>
 mV .i64 6 h v5 fun x25 x26 =>
 BZ [(.int .i64 0), (.int .i64 0), (.int .i64 0)] [(0, 1, (.int .i64 x22)), (1, 1, (.int .i64 x24)), (2, 1, (.int .i64 x26))] fun x27 =>
 j6 v1 v2 v5 x27 0 h)
theorem afP (hk : fb k0 k) (J6 : Q1) (j6 : qj) (h6 : Bw J6 j6) : Ik (T3 n aA ad aE ae k0 J6) (Ir n aA ad aE ae k j6) := by
  obtain rfl := fx2 hk
  obtain rfl := fx6 h6
  intro v1 v2 v5 v32 h
  kernel_rfl
def IV : Q1 := T3 n aA ad aE ae k0 (Bn n aA ad aE ae k0 n)
def BF : Bt := Ir n aA ad aE ae k (sW n aA ad aE ae k n)
theorem afg (hk : fb k0 k) : Ik (IV n aA ad aE ae k0 ) (BF n aA ad aE ae k ) := afP n aA ad aE ae k0 k hk (Bn n aA ad aE ae k0 n) (sW n aA ad aE ae k n) (aeQ n aA ad aE ae k0 k hk n)
def SF (n : Nat) (aA : c8) (ad : bU) (aE : dl) (ae : bG) (k0 : Q0) (J8 : Q1) : Q1 := (bH (dI aA ad aE ae) dD Qy (fun s => cS Tn s J8))
def IS (n : Nat) (aA : c8) (ad : bU) (aE : dl) (ae : bG) (k : i7) (j8 : Bt) (v1 : Int) (v2 : AV) (v5 : AV) (v26 : Bool) (h : Heap) : CRes :=
 ifB v26
 (j8 v1 v2 v5 true h)
 (faK 3 v5 fun x17 =>
 ldI .i64 h x17 fun x18 =>
 ae x18 4 4096 h fun x19 h20 =>
 j8 v1 v2 v5 (jK x19) h20)
theorem afH (hk : fb k0 k) (J8 : Q1) (j8 : Bt) (h8 : Ik J8 j8) : H2 (SF n aA ad aE ae k0 J8) (IS n aA ad aE ae k j8) := by
  obtain rfl := fx2 hk
  obtain rfl := fx5 h8
  intro v1 v2 v5 v26 h
  kernel_rfl
def HC : Q1 := SF n aA ad aE ae k0 (IV n aA ad aE ae k0 )
def BP : BO := IS n aA ad aE ae k (BF n aA ad aE ae k )
theorem ae7 (hk : fb k0 k) : H2 (HC n aA ad aE ae k0 ) (BP n aA ad aE ae k ) := afH n aA ad aE ae k0 k hk (IV n aA ad aE ae k0 ) (BF n aA ad aE ae k ) (afg n aA ad aE ae k0 k hk )
def YD (n : Nat) (aA : c8) (ad : bU) (aE : dl) (ae : bG) (k0 : Q0) (J7 : Q1) : Q1 := (bH (dI aA ad aE ae) dD Pw (bH (dI aA ad aE ae) dD OZ (bH (dI aA ad aE ae) dD O5 (fun s => cS Sp s J7))))
def OF (n : Nat) (aA : c8) (ad : bU) (aE : dl) (ae : bG) (k : i7) (j7 : BO) (a0 : AV) (a1 : Int) (h : Heap) : CRes :=
 Co h a0 fun x0 h1 =>
 fld 16 h1 (.ptr x0 0) 1 false fun x2 x3 =>
 eld 8 h1 x3 a1 8 true fun x4 x5 =>
 DK h1 (.cells [.nilslice, (.int .i64 0), (.int .i64 0), (.int .i64 0), (.int .i64 0), (.int .i64 0), (.int .i64 0), (.int .i64 0)] true 0) fun x6 h7 =>
 pl h7 (.ptr x6 0) 8 x5 fun h8 =>
 mV .i64 1 h8 (.ptr x6 0) fun x9 x10 =>
 ae x10 0 3 h8 fun x11 h12 =>
 ifB (jK x11)
 (j7 a1 (.ptr x0 0) (.ptr x6 0) true h12)
 (faK 2 (.ptr x6 0) fun x13 =>
 ldI .i64 h12 x13 fun x14 =>
 ae x14 2 4096 h12 fun x15 h16 =>
 j7 a1 (.ptr x0 0) (.ptr x6 0) (jK x15) h16)
theorem aiX (n : Nat) (aA : c8) (ad : bU) (aE : dl) (ae : bG) (k0 : Q0) (k : i7) (hk : fb k0 k) (J7 : Q1) (j7 : BO) (h7 : H2 J7 j7) (a0 : AV) (a1 : Int) (h : Heap) : (YD n aA ad aE ae k0 J7) ⟨cP [(p0, a0), (p1, (.int .i64 a1))], h⟩ = (OF n aA ad aE ae k j7) a0 a1 h := by
  obtain rfl := fx2 hk
  obtain rfl := fx5 h7
  kernel_rfl
def aja : Q1 := YD n aA ad aE ae k0 (HC n aA ad aE ae k0 )
def Ou (n : Nat) (aA : c8) (ad : bU) (aE : dl) (ae : bG) (a0 : AV) (a1 : Int) (h : Heap) (k : i7) : CRes := OF n aA ad aE ae k (BP n aA ad aE ae k ) a0 a1 h
theorem ai9 (n : Nat) (aA : c8) (ad : bU) (aE : dl) (ae : bG) (k0 : Q0) (s : St) : D (ft [(lA, lW aA), (f8, gy ad), (mq, m9 aE), (dm, dE ae)]) dD n GD (cO z_plan_quotas k0) (fun _ _ => .err) (cO z_plan_quotas k0) s = aja n aA ad aE ae k0 s := by kernel_rfl
theorem aje (n : Nat) (aA : c8) (ad : bU) (aE : dl) (ae : bG) (a0 : AV) (a1 : Int) (h : Heap) (k0 : Q0) : W a_plan_quotas z_plan_quotas [(lA, lW aA), (f8, gy ad), (mq, m9 aE), (dm, dE ae)] dD n GD [a0, (.int .i64 a1)] h k0 = Ou n aA ad aE ae a0 a1 h (fun u0 h => k0 (.bool u0) h) := by
  let k : i7 := fun u0 h => k0 (.bool u0) h
  have hk : fb k0 k := fun _ _ => rfl
  have hb : ∀ F : Tr AV → CRes, iS a_plan_quotas [a0, (.int .i64 a1)] .leaf F = F (cP [(p0, a0), (p1, (.int .i64 a1))]) := fun F => by kernel_rfl
  exact (nD hb).trans ((ai9 n aA ad aE ae k0 _).trans (aiX n aA ad aE ae k0 k hk (HC n aA ad aE ae k0 ) (BP n aA ad aE ae k ) (ae7 n aA ad aE ae k0 k hk ) a0 a1 h))
end
def rr (n : Nat) : nI := Ou n (lZ n) (eK n) (mX n) (dX n)
theorem ajt {tbl : Tr AFn} (hp : cN tbl) (ht : tbl.get (key pu) = some Yo) (n : Nat) (Ok : Sound tbl lA (lW (lZ n))) (vJ : Sound tbl f8 (gy (eK n))) (Rn : Sound tbl mq (m9 (mX n))) (oc : Sound tbl dm (dE (dX n))) : Sound tbl pu (ru (rr n)) := by
  refine Sound.of (dK hp (ps := a_plan_quotas) (rs := z_plan_quotas) (l := [(lA, lW (lZ n)), (f8, gy (eK n)), (mq, m9 (mX n)), (dm, dE (dX n))]) (ty := dD) (n := n) (c := GD) ht ⟨Ok, vJ, Rn, oc, trivial⟩) fun args H k r H' h => ?_
  unfold ru at h
  obtain ⟨a0, l0, e0, h0⟩ := cY h
  subst e0
  obtain ⟨a1, l1, e1, h1⟩ := dT h0
  subst e1
  obtain ⟨e9, h9⟩ := db h1
  subst e9
  exact (aje n (lZ n) (eK n) (mX n) (dX n) a0 a1 H k).trans h9
/-! cofferdam/plan.part -/
abbrev c9 := AV → Int → Heap → (Int → Heap → CRes) → CRes
abbrev Ce := Int → Heap → CRes
def nc (g : c9) : Wr := fun l h k => mr l fun a0 l => qA .i64 l fun a1 l => nC l (g a0 a1 h fun u0 h => k (.int .i64 u0) h)
def zE (dH : mv) (ef : nI) : eg := ft [(ob, pL dH), (pu, ru ef)]
abbrev abe (k0 : Q0) (k : Ce) : Prop := ∀ u0 h, k0 (.int .i64 u0) h = k u0 h
section
variable (n : Nat) (dH : mv) (ef : nI) (k0 : Q0) (k : Ce)
def aex (n : Nat) (dH : mv) (ef : nI) (k0 : Q0) : Q1 := (bH (zE dH ef) tv YU (bH (zE dH ef) tv YL (fun s => eM (.t p5) s (bH (zE dH ef) tv Ye (cO z_plan_part k0)) (bH (zE dH ef) tv Yp (fun s => eM (.t p10) s (bH (zE dH ef) tv Yv (cO z_plan_part k0)) (bH (zE dH ef) tv XZ (cO z_plan_part k0)))))))
def VH (n : Nat) (dH : mv) (ef : nI) (k : Ce) (a0 : AV) (a1 : Int) (h : Heap) : CRes :=
 Co h a0 fun x0 h1 =>
 iZ h1 (.ptr x0 0) 17 true fun x2 =>
 dH x2 a1 h1 fun x3 h4 =>
 ifB (jK x3)
 (k 110 h4)
 (iZ h4 (.ptr x0 0) 17 true fun x5 =>
 ef x5 a1 h4 fun x6 h7 =>
 ifB (jK x6)
 (k 111 h7)
 (k 0 h7))
theorem amX (n : Nat) (dH : mv) (ef : nI) (k0 : Q0) (k : Ce) (hk : abe k0 k) (a0 : AV) (a1 : Int) (h : Heap) : (aex n dH ef k0 ) ⟨cP [(p0, a0), (p1, (.int .i64 a1))], h⟩ = (VH n dH ef k ) a0 a1 h := by
  obtain rfl := fx2 hk
  kernel_rfl
def amG : Q1 := aex n dH ef k0
def Vv (n : Nat) (dH : mv) (ef : nI) (a0 : AV) (a1 : Int) (h : Heap) (k : Ce) : CRes := VH n dH ef k a0 a1 h
theorem amU (n : Nat) (dH : mv) (ef : nI) (k0 : Q0) (s : St) : D (ft [(ob, pL dH), (pu, ru ef)]) tv n Nk (cO z_plan_part k0) (fun _ _ => .err) (cO z_plan_part k0) s = amG n dH ef k0 s := by kernel_rfl
theorem ani (n : Nat) (dH : mv) (ef : nI) (a0 : AV) (a1 : Int) (h : Heap) (k0 : Q0) : W a_plan_part z_plan_part [(ob, pL dH), (pu, ru ef)] tv n Nk [a0, (.int .i64 a1)] h k0 = Vv n dH ef a0 a1 h (fun u0 h => k0 (.int .i64 u0) h) := by
  let k : Ce := fun u0 h => k0 (.int .i64 u0) h
  have hk : abe k0 k := fun _ _ => rfl
  have hb : ∀ F : Tr AV → CRes, iS a_plan_part [a0, (.int .i64 a1)] .leaf F = F (cP [(p0, a0), (p1, (.int .i64 a1))]) := fun F => by kernel_rfl
  exact (nD hb).trans ((amU n dH ef k0 _).trans (amX n dH ef k0 k hk a0 a1 h))
end
def kY (n : Nat) : c9 := Vv n (pP n) (rr n)
theorem amN {tbl : Tr AFn} (hp : cN tbl) (ht : tbl.get (key mj) = some aeB) (n : Nat) (afc : Sound tbl ob (pL (pP n))) (agm : Sound tbl pu (ru (rr n))) : Sound tbl mj (nc (kY n)) := by
  refine Sound.of (dK hp (ps := a_plan_part) (rs := z_plan_part) (l := [(ob, pL (pP n)), (pu, ru (rr n))]) (ty := tv) (n := n) (c := Nk) ht ⟨afc, agm, trivial⟩) fun args H k r H' h => ?_
  unfold nc at h
  obtain ⟨a0, l0, e0, h0⟩ := cY h
  subst e0
  obtain ⟨a1, l1, e1, h1⟩ := dT h0
  subst e1
  obtain ⟨e9, h9⟩ := db h1
  subst e9
  exact (ani n (pP n) (rr n) a0 a1 H k).trans h9
/-! cofferdam/cost.within -/
abbrev dc := Int → Int → Int → Heap → (Bool → Heap → CRes) → CRes
abbrev tX := Bool → Heap → CRes
def kR (g : dc) : Wr := fun l h k => qA .i64 l fun a0 l => qA .i64 l fun a1 l => qA .i64 l fun a2 l => nC l (g a0 a1 a2 h fun u0 h => k (.bool u0) h)
def LC : eg := ft []
abbrev Dc (k0 : Q0) (k : tX) : Prop := ∀ u0 h, k0 (.bool u0) h = k u0 h
abbrev A9 : Type := Bool → Heap → CRes
abbrev HJ (J : Q1) (j : A9) : Prop := ∀ v14 h, J ⟨cP [(p14, (.bool v14))], h⟩ = j v14 h
section
variable (n : Nat) (k0 : Q0) (k : tX)
def Sk (n : Nat) (k0 : Q0) : Q1 := (bH (LC ) wU SP (cO z_cost_within k0))
def Iv (n : Nat) (k : tX) (v14 : Bool) (h : Heap) : CRes :=
 k v14 h
theorem afb (hk : Dc k0 k) : HJ (Sk n k0 ) (Iv n k ) := by
  obtain rfl := fx2 hk
  intro v14 h
  kernel_rfl
def Iq : Q1 := Sk n k0
def Bc : A9 := Iv n k
theorem aeS (hk : Dc k0 k) : HJ (Iq n k0 ) (Bc n k ) := afb n k0 k hk
def Yj (n : Nat) (k0 : Q0) (J0 : Q1) : Q1 := (bH (LC ) wU TI (bH (LC ) wU Sl (fun s => cS T0 s J0)))
def Or (n : Nat) (k : tX) (j0 : A9) (a0 : Int) (a1 : Int) (a2 : Int) (h : Heap) : CRes :=
 ifB (jK (ltF a0 a1))
 (j0 (jK (ltF a2 a0)) h)
 (j0 false h)
theorem ajk (n : Nat) (k0 : Q0) (k : tX) (hk : Dc k0 k) (J0 : Q1) (j0 : A9) (h0 : HJ J0 j0) (a0 : Int) (a1 : Int) (a2 : Int) (h : Heap) : (Yj n k0 J0) ⟨cP [(p0, (.int .i64 a0)), (p1, (.int .i64 a1)), (p2, (.int .i64 a2))], h⟩ = (Or n k j0) a0 a1 a2 h := by
  obtain rfl := fx2 hk
  obtain rfl := fx2 h0
  kernel_rfl
def aiL : Q1 := Yj n k0 (Iq n k0 )
def OT (n : Nat) (a0 : Int) (a1 : Int) (a2 : Int) (h : Heap) (k : tX) : CRes := Or n k (Bc n k ) a0 a1 a2 h
theorem aiP (n : Nat) (k0 : Q0) (s : St) : D (ft []) wU n Gv (cO z_cost_within k0) (fun _ _ => .err) (cO z_cost_within k0) s = aiL n k0 s := by kernel_rfl
theorem ajE (n : Nat) (a0 : Int) (a1 : Int) (a2 : Int) (h : Heap) (k0 : Q0) : W a_cost_within z_cost_within [] wU n Gv [(.int .i64 a0), (.int .i64 a1), (.int .i64 a2)] h k0 = OT n a0 a1 a2 h (fun u0 h => k0 (.bool u0) h) := by
  let k : tX := fun u0 h => k0 (.bool u0) h
  have hk : Dc k0 k := fun _ _ => rfl
  have hb : ∀ F : Tr AV → CRes, iS a_cost_within [(.int .i64 a0), (.int .i64 a1), (.int .i64 a2)] .leaf F = F (cP [(p0, (.int .i64 a0)), (p1, (.int .i64 a1)), (p2, (.int .i64 a2))]) := fun F => by kernel_rfl
  exact (nD hb).trans ((aiP n k0 _).trans (ajk n k0 k hk (Iq n k0 ) (Bc n k ) (aeS n k0 k hk ) a0 a1 a2 h))
end
def kl (n : Nat) : dc := OT n
theorem ai4 {tbl : Tr AFn} (hp : cN tbl) (ht : tbl.get (key kd) = some Yc) (n : Nat) : Sound tbl kd (kR (kl n)) := by
  refine Sound.of (dK hp (ps := a_cost_within) (rs := z_cost_within) (l := []) (ty := wU) (n := n) (c := Gv) ht trivial) fun args H k r H' h => ?_
  unfold kR at h
  obtain ⟨a0, l0, e0, h0⟩ := dT h
  subst e0
  obtain ⟨a1, l1, e1, h1⟩ := dT h0
  subst e1
  obtain ⟨a2, l2, e2, h2⟩ := dT h1
  subst e2
  obtain ⟨e9, h9⟩ := db h2
  subst e9
  exact (ajE n a0 a1 a2 H k).trans h9
/-! cofferdam/cost.Switch -/
abbrev dF := AV → Int → Int → Heap → (Int → Int → Heap → CRes) → CRes
abbrev tR := Int → Int → Heap → CRes
def rm (g : dF) : Wr := fun l h k => mr l fun a0 l => qA .i64 l fun a1 l => qA .i64 l fun a2 l => nC l (g a0 a1 a2 h fun u0 u1 h => k (.tuple [(.int .u64 u0), (.int .i64 u1)]) h)
def r7 (aj : cn) (aD : dc) : eg := ft [(fh, fO aj), (kd, kR aD)]
abbrev Dd (k0 : Q0) (k : tR) : Prop := ∀ u0 u1 h, k0 (.tuple [(.int .u64 u0), (.int .i64 u1)]) h = k u0 u1 h
abbrev BB : Type := Int → Int → AV → Bool → Heap → CRes
abbrev H4 (J : Q1) (j : BB) : Prop := ∀ v1 v2 v3 v21 h, J ⟨cP [(p1, (.int .i64 v1)), (p2, (.int .i64 v2)), (p3, v3), (p21, (.bool v21))], h⟩ = j v1 v2 v3 v21 h
section
variable (n : Nat) (aj : cn) (aD : dc) (k0 : Q0) (k : tR)
def SY (n : Nat) (aj : cn) (aD : dc) (k0 : Q0) : Q1 := (fun s => eM (.t p21) s (bH (r7 aj aD) nE SR (cO z_cost_Switch k0)) (bH (r7 aj aD) nE TX (cO z_cost_Switch k0)))
def HE (n : Nat) (aj : cn) (aD : dc) (k : tR) (v1 : Int) (v2 : Int) (v3 : AV) (v21 : Bool) (h : Heap) : CRes :=
 ifB v21
 (k 0 2 h)
 (mO .i64 v1 v2 fun x9 =>
 A5 .u64 x9 fun x10 =>
 mV .u64 4 h v3 fun x11 x12 =>
 LV .u64 x10 x12 fun x13 =>
 k x13 0 h)
theorem ae8 (hk : Dd k0 k) : H4 (SY n aj aD k0 ) (HE n aj aD k ) := by
  obtain rfl := fx3 hk
  intro v1 v2 v3 v21 h
  kernel_rfl
def Ix : Q1 := SY n aj aD k0
def A7 : BB := HE n aj aD k
theorem afz (hk : Dd k0 k) : H4 (Ix n aj aD k0 ) (A7 n aj aD k ) := ae8 n aj aD k0 k hk
def Yl (n : Nat) (aj : cn) (aD : dc) (k0 : Q0) (J0 : Q1) : Q1 := (bH (r7 aj aD) nE TZ (bH (r7 aj aD) nE Te (bH (r7 aj aD) nE Sw (fun s => eM (.t p12) s (bH (r7 aj aD) nE TL (cO z_cost_Switch k0)) (bH (r7 aj aD) nE Sx (fun s => cS SX s J0))))))
def Ov (n : Nat) (aj : cn) (aD : dc) (k : tR) (j0 : BB) (a0 : AV) (a1 : Int) (a2 : Int) (h : Heap) : CRes :=
 Co h a0 fun x0 h1 =>
 iZ h1 (.ptr x0 0) 6 true fun x2 =>
 aj x2 h1 fun x3 h4 =>
 ifB (jK (eqF x3 0))
 (k 0 x3 h4)
 (aD a1 0 65536 h4 fun x5 h6 =>
 ifB (jK x5)
 (j0 a1 a2 (.ptr x0 0) true h6)
 (aD a2 0 64 h6 fun x7 h8 =>
 j0 a1 a2 (.ptr x0 0) (jK x7) h8))
theorem aiE (n : Nat) (aj : cn) (aD : dc) (k0 : Q0) (k : tR) (hk : Dd k0 k) (J0 : Q1) (j0 : BB) (h0 : H4 J0 j0) (a0 : AV) (a1 : Int) (a2 : Int) (h : Heap) : (Yl n aj aD k0 J0) ⟨cP [(p0, a0), (p1, (.int .i64 a1)), (p2, (.int .i64 a2))], h⟩ = (Ov n aj aD k j0) a0 a1 a2 h := by
  obtain rfl := fx3 hk
  obtain rfl := fx5 h0
  kernel_rfl
def ajC : Q1 := Yl n aj aD k0 (Ix n aj aD k0 )
def OR (n : Nat) (aj : cn) (aD : dc) (a0 : AV) (a1 : Int) (a2 : Int) (h : Heap) (k : tR) : CRes := Ov n aj aD k (A7 n aj aD k ) a0 a1 a2 h
theorem ajw (n : Nat) (aj : cn) (aD : dc) (k0 : Q0) (s : St) : D (ft [(fh, fO aj), (kd, kR aD)]) nE n Gz (cO z_cost_Switch k0) (fun _ _ => .err) (cO z_cost_Switch k0) s = ajC n aj aD k0 s := by kernel_rfl
theorem ajb (n : Nat) (aj : cn) (aD : dc) (a0 : AV) (a1 : Int) (a2 : Int) (h : Heap) (k0 : Q0) : W a_cost_Switch z_cost_Switch [(fh, fO aj), (kd, kR aD)] nE n Gz [a0, (.int .i64 a1), (.int .i64 a2)] h k0 = OR n aj aD a0 a1 a2 h (fun u0 u1 h => k0 (.tuple [(.int .u64 u0), (.int .i64 u1)]) h) := by
  let k : tR := fun u0 u1 h => k0 (.tuple [(.int .u64 u0), (.int .i64 u1)]) h
  have hk : Dd k0 k := fun _ _ _ => rfl
  have hb : ∀ F : Tr AV → CRes, iS a_cost_Switch [a0, (.int .i64 a1), (.int .i64 a2)] .leaf F = F (cP [(p0, a0), (p1, (.int .i64 a1)), (p2, (.int .i64 a2))]) := fun F => by kernel_rfl
  exact (nD hb).trans ((ajw n aj aD k0 _).trans (aiE n aj aD k0 k hk (Ix n aj aD k0 ) (A7 n aj aD k ) (afz n aj aD k0 k hk ) a0 a1 a2 h))
end
def nJ (n : Nat) : dF := OR n (eO n) (kl n)
theorem ajm {tbl : Tr AFn} (hp : cN tbl) (ht : tbl.get (key px) = some Y2) (n : Nat) (tT : Sound tbl fh (fO (eO n))) (LG : Sound tbl kd (kR (kl n))) : Sound tbl px (rm (nJ n)) := by
  refine Sound.of (dK hp (ps := a_cost_Switch) (rs := z_cost_Switch) (l := [(fh, fO (eO n)), (kd, kR (kl n))]) (ty := nE) (n := n) (c := Gz) ht ⟨tT, LG, trivial⟩) fun args H k r H' h => ?_
  unfold rm at h
  obtain ⟨a0, l0, e0, h0⟩ := cY h
  subst e0
  obtain ⟨a1, l1, e1, h1⟩ := dT h0
  subst e1
  obtain ⟨a2, l2, e2, h2⟩ := dT h1
  subst e2
  obtain ⟨e9, h9⟩ := db h2
  subst e9
  exact (ajb n (eO n) (kl n) a0 a1 a2 H k).trans h9
/-! cofferdam/cost.asked -/
abbrev lc := AV → AV → Heap → (Int → Heap → CRes) → CRes
abbrev mH := Int → Heap → CRes
def tt (g : lc) : Wr := fun l h k => mr l fun a0 l => mr l fun a1 l => nC l (g a0 a1 h fun u0 h => k (.int .i64 u0) h)
def i6 (aj : cn) (aD : dc) : eg := ft [(fh, fO aj), (kd, kR aD)]
abbrev kg (k0 : Q0) (k : mH) : Prop := ∀ u0 h, k0 (.int .i64 u0) h = k u0 h
abbrev CO : Type := Bool → Heap → CRes
abbrev Lj (J : Q1) (j : CO) : Prop := ∀ v44 h, J ⟨cP [(p44, (.bool v44))], h⟩ = j v44 h
abbrev Dy : Type := AV → Bool → Heap → CRes
abbrev Ld (J : Q1) (j : Dy) : Prop := ∀ v3 v38 h, J ⟨cP [(p3, v3), (p38, (.bool v38))], h⟩ = j v3 v38 h
abbrev C6 : Type := AV → Bool → Heap → CRes
abbrev Lx (J : Q1) (j : C6) : Prop := ∀ v3 v32 h, J ⟨cP [(p3, v3), (p32, (.bool v32))], h⟩ = j v3 v32 h
abbrev C3 : Type := AV → Bool → Heap → CRes
abbrev K8 (J : Q1) (j : C3) : Prop := ∀ v3 v6 h, J ⟨cP [(p3, v3), (p6, (.bool v6))], h⟩ = j v3 v6 h
abbrev CM : Type := AV → Int → Bool → Heap → CRes
abbrev LJ (J : Q1) (j : CM) : Prop := ∀ v3 v13 v23 h, J ⟨cP [(p3, v3), (p13, (.int .i64 v13)), (p23, (.bool v23))], h⟩ = j v3 v13 v23 h
abbrev nY : Type := AV → Bool → Int → Heap → CRes
abbrev yD (J : Q1) (j : nY) : Prop := ∀ v3 v6 v13 h, J ⟨cP [(p3, v3), (p6, (.bool v6)), (p13, (.int .i64 v13))], h⟩ = j v3 v6 v13 h
section
variable (n : Nat) (aj : cn) (aD : dc) (k0 : Q0) (k : mH)
def VX (n : Nat) (aj : cn) (aD : dc) (k0 : Q0) : Q1 := (fun s => eM (.t p44) s (bH (i6 aj aD) iz Vf (cO z_cost_asked k0)) (bH (i6 aj aD) iz Wb (cO z_cost_asked k0)))
def Lt (n : Nat) (aj : cn) (aD : dc) (k : mH) (v44 : Bool) (h : Heap) : CRes :=
 ifB v44
 (k 2 h)
 (k 0 h)
theorem ahe (hk : kg k0 k) : Lj (VX n aj aD k0 ) (Lt n aj aD k ) := by
  obtain rfl := fx2 hk
  intro v44 h
  kernel_rfl
def L7 : Q1 := VX n aj aD k0
def Dh : CO := Lt n aj aD k
theorem aim (hk : kg k0 k) : Lj (L7 n aj aD k0 ) (Dh n aj aD k ) := ahe n aj aD k0 k hk
def Vw (n : Nat) (aj : cn) (aD : dc) (k0 : Q0) (J2 : Q1) : Q1 := (bH (i6 aj aD) iz U5 (fun s => cS UZ s J2))
def Mj (n : Nat) (aj : cn) (aD : dc) (k : mH) (j2 : CO) (v3 : AV) (v38 : Bool) (h : Heap) : CRes :=
 ifB v38
 (j2 true h)
 (faK 3 v3 fun x19 =>
 ldI .i64 h x19 fun x20 =>
 aD x20 1 4096 h fun x21 h22 =>
 j2 (jK x21) h22)
theorem ah5 (hk : kg k0 k) (J2 : Q1) (j2 : CO) (h2 : Lj J2 j2) : Ld (Vw n aj aD k0 J2) (Mj n aj aD k j2) := by
  obtain rfl := fx2 hk
  obtain rfl := fx2 h2
  intro v3 v38 h
  kernel_rfl
def LX : Q1 := Vw n aj aD k0 (L7 n aj aD k0 )
def DA : Dy := Mj n aj aD k (Dh n aj aD k )
theorem ain (hk : kg k0 k) : Ld (LX n aj aD k0 ) (DA n aj aD k ) := ah5 n aj aD k0 k hk (L7 n aj aD k0 ) (Dh n aj aD k ) (aim n aj aD k0 k hk )
def V0 (n : Nat) (aj : cn) (aD : dc) (k0 : Q0) (J1 : Q1) : Q1 := (bH (i6 aj aD) iz Vn (fun s => cS WN s J1))
def LB (n : Nat) (aj : cn) (aD : dc) (k : mH) (j1 : Dy) (v3 : AV) (v32 : Bool) (h : Heap) : CRes :=
 ifB v32
 (j1 v3 true h)
 (faK 2 v3 fun x14 =>
 ldI .i64 h x14 fun x15 =>
 aD x15 1 5120 h fun x16 h17 =>
 j1 v3 (jK x16) h17)
theorem agd (hk : kg k0 k) (J1 : Q1) (j1 : Dy) (h1 : Ld J1 j1) : Lx (V0 n aj aD k0 J1) (LB n aj aD k j1) := by
  obtain rfl := fx2 hk
  obtain rfl := fx3 h1
  intro v3 v32 h
  kernel_rfl
def LD : Q1 := V0 n aj aD k0 (LX n aj aD k0 )
def Cq : C6 := LB n aj aD k (DA n aj aD k )
theorem ahk (hk : kg k0 k) : Lx (LD n aj aD k0 ) (Cq n aj aD k ) := agd n aj aD k0 k hk (LX n aj aD k0 ) (DA n aj aD k ) (ain n aj aD k0 k hk )
def Wg (n : Nat) (aj : cn) (aD : dc) (k0 : Q0) (J0 : Q1) : Q1 := (bH (i6 aj aD) iz Ut (fun s => cS Uz s J0))
def Lq (n : Nat) (aj : cn) (aD : dc) (k : mH) (j0 : C6) (v3 : AV) (v6 : Bool) (h : Heap) : CRes :=
 ifB (jK v6)
 (j0 v3 true h)
 (faK 1 v3 fun x7 =>
 ldI .i64 h x7 fun x8 =>
 aD x8 2 4096 h fun x9 h10 =>
 j0 v3 (jK x9) h10)
theorem aip (hk : kg k0 k) (J0 : Q1) (j0 : C6) (h0 : Lx J0 j0) : K8 (Wg n aj aD k0 J0) (Lq n aj aD k j0) := by
  obtain rfl := fx2 hk
  obtain rfl := fx3 h0
  intro v3 v6 h
  kernel_rfl
def L6 : Q1 := Wg n aj aD k0 (LD n aj aD k0 )
def uI : C3 := Lq n aj aD k (Cq n aj aD k )
theorem agx (hk : kg k0 k) : K8 (L6 n aj aD k0 ) (uI n aj aD k ) := aip n aj aD k0 k hk (LD n aj aD k0 ) (Cq n aj aD k ) (ahk n aj aD k0 k hk )
def U1 (n : Nat) (aj : cn) (aD : dc) (k0 : Q0) (J4 : Q1) : Q1 := (bH (i6 aj aD) iz WI (bH (i6 aj aD) iz V8 (fun s => cS Lo s J4)))
def LL (n : Nat) (aj : cn) (aD : dc) (k : mH) (j4 : nY) (v3 : AV) (v13 : Int) (v23 : Bool) (h : Heap) : CRes :=
 mO .i64 v13 1 fun x18 =>
 j4 v3 v23 x18 h
theorem agX (hk : kg k0 k) (J4 : Q1) (j4 : nY) (h4 : yD J4 j4) : LJ (U1 n aj aD k0 J4) (LL n aj aD k j4) := by
  obtain rfl := fx2 hk
  obtain rfl := fx4 h4
  intro v3 v13 v23 h
  kernel_rfl
def Mt (J4 : Q1) : Q1 := U1 n aj aD k0 J4
def yR (j4 : nY) : CM := LL n aj aD k j4
theorem agF (hk : kg k0 k) (J4 : Q1) (j4 : nY) (h4 : yD J4 j4) : LJ (Mt n aj aD k0 J4) (yR n aj aD k j4) := agX n aj aD k0 k hk J4 j4 h4
def Wx (n : Nat) (aj : cn) (aD : dc) (k0 : Q0) (J3 : Q1) (J5 : Q1) : Q1 := (bH (i6 aj aD) iz VY (fun s => eM (.t p14) s (bH (i6 aj aD) iz VV (bH (i6 aj aD) iz V2 (fun s => cS Wo s J5))) (fun s => cS Vx s J3)))
def DN (n : Nat) (aj : cn) (aD : dc) (k : mH) (j3 : C3) (j5 : CM) (v3 : AV) (v6 : Bool) (v13 : Int) (h : Heap) : CRes :=
 ifB (ltF v13 4)
 (ifB v6
 (j5 v3 v13 true h)
 (faK 0 v3 fun x11 =>
 ldI .i64 h x11 fun x12 =>
 ae4 .i64 1 v13 fun x13 =>
 j5 v3 v13 (eqF x12 x13) h))
 (j3 v3 v6 h)
theorem ahj (hk : kg k0 k) (J3 : Q1) (j3 : C3) (h3 : K8 J3 j3) (J5 : Q1) (j5 : CM) (h5 : LJ J5 j5) : yD (Wx n aj aD k0 J3 J5) (DN n aj aD k j3 j5) := by
  obtain rfl := fx2 hk
  obtain rfl := fx3 h3
  obtain rfl := fx4 h5
  intro v3 v6 v13 h
  kernel_rfl
def yO (m : Nat) : Q1 := Nat.rec (motive := fun _ => Q1) (fun _ => .err) (fun _ ih => Wx n aj aD k0 (L6 n aj aD k0 ) (Mt n aj aD k0 ih)) m
def pS (m : Nat) : nY := Nat.rec (motive := fun _ => nY) (fun _ _ _ _ => .err) (fun _ ih => DN n aj aD k (uI n aj aD k ) (yR n aj aD k ih)) m
theorem agn (m : Nat) : pS n aj aD k (m + 1) = DN n aj aD k (uI n aj aD k ) (yR n aj aD k (pS n aj aD k m)) := rfl
theorem agG (hk : kg k0 k) (m : Nat) : yD (yO n aj aD k0 m) (pS n aj aD k m) := by
  induction m with
  | zero => intro v3 v6 v13 h; rfl
  | succ m ih => exact ahj n aj aD k0 k hk (L6 n aj aD k0 ) (uI n aj aD k ) (agx n aj aD k0 k hk ) (Mt n aj aD k0 (yO n aj aD k0 m)) (yR n aj aD k (pS n aj aD k m)) (agF n aj aD k0 k hk (yO n aj aD k0 m) (pS n aj aD k m) ih)
def aaN (n : Nat) (aj : cn) (aD : dc) (k0 : Q0) (J4 : Q1) : Q1 := (bH (i6 aj aD) iz SW (bH (i6 aj aD) iz Tc (bH (i6 aj aD) iz TD (fun s => eM (.t p11) s (bH (i6 aj aD) iz TJ (cO z_cost_asked k0)) (bH (i6 aj aD) iz SM (bH (i6 aj aD) iz T1 (fun s => cS Lo s J4)))))))
def RF (n : Nat) (aj : cn) (aD : dc) (k : mH) (j4 : nY) (a0 : AV) (a1 : AV) (h : Heap) : CRes :=
 Co h a0 fun x0 h1 =>
 Co h1 a1 fun x2 h3 =>
 iZ h3 (.ptr x0 0) 6 true fun x4 =>
 aj x4 h3 fun x5 h6 =>
 ifB (jK (eqF x5 0))
 (k x5 h6)
 (j4 (.ptr x2 0) false 0 h6)
theorem akp (n : Nat) (aj : cn) (aD : dc) (k0 : Q0) (k : mH) (hk : kg k0 k) (J4 : Q1) (j4 : nY) (h4 : yD J4 j4) (a0 : AV) (a1 : AV) (h : Heap) : (aaN n aj aD k0 J4) ⟨cP [(p0, a0), (p1, a1)], h⟩ = (RF n aj aD k j4) a0 a1 h := by
  obtain rfl := fx2 hk
  obtain rfl := fx4 h4
  kernel_rfl
def akJ : Q1 := aaN n aj aD k0 (yO n aj aD k0 n)
def RM (n : Nat) (aj : cn) (aD : dc) (a0 : AV) (a1 : AV) (h : Heap) (k : mH) : CRes := RF n aj aD k (pS n aj aD k n) a0 a1 h
theorem akR (n : Nat) (aj : cn) (aD : dc) (k0 : Q0) (s : St) : D (ft [(fh, fO aj), (kd, kR aD)]) iz n KA (cO z_cost_asked k0) (fun _ _ => .err) (cO z_cost_asked k0) s = akJ n aj aD k0 s := by kernel_rfl
theorem akQ (n : Nat) (aj : cn) (aD : dc) (a0 : AV) (a1 : AV) (h : Heap) (k0 : Q0) : W a_cost_asked z_cost_asked [(fh, fO aj), (kd, kR aD)] iz n KA [a0, a1] h k0 = RM n aj aD a0 a1 h (fun u0 h => k0 (.int .i64 u0) h) := by
  let k : mH := fun u0 h => k0 (.int .i64 u0) h
  have hk : kg k0 k := fun _ _ => rfl
  have hb : ∀ F : Tr AV → CRes, iS a_cost_asked [a0, a1] .leaf F = F (cP [(p0, a0), (p1, a1)]) := fun F => by kernel_rfl
  exact (nD hb).trans ((akR n aj aD k0 _).trans (akp n aj aD k0 k hk (yO n aj aD k0 n) (pS n aj aD k n) (agG n aj aD k0 k hk n) a0 a1 h))
end
def pE (n : Nat) : lc := RM n (eO n) (kl n)
theorem akO {tbl : Tr AFn} (hp : cN tbl) (ht : tbl.get (key rk) = some aa6) (n : Nat) (tT : Sound tbl fh (fO (eO n))) (LG : Sound tbl kd (kR (kl n))) : Sound tbl rk (tt (pE n)) := by
  refine Sound.of (dK hp (ps := a_cost_asked) (rs := z_cost_asked) (l := [(fh, fO (eO n)), (kd, kR (kl n))]) (ty := iz) (n := n) (c := KA) ht ⟨tT, LG, trivial⟩) fun args H k r H' h => ?_
  unfold tt at h
  obtain ⟨a0, l0, e0, h0⟩ := cY h
  subst e0
  obtain ⟨a1, l1, e1, h1⟩ := cY h0
  subst e1
  obtain ⟨e9, h9⟩ := db h1
  subst e9
  exact (akQ n (eO n) (kl n) a0 a1 H k).trans h9
/-! cofferdam/cost.bounds -/
abbrev kc := AV → AV → Heap → (AV → Heap → CRes) → CRes
abbrev wR := AV → Heap → CRes
def rq (g : kc) : Wr := fun l h k => mr l fun a0 l => mr l fun a1 l => nC l (g a0 a1 h fun u0 h => k u0 h)
def og : eg := ft []
abbrev Vo (k0 : Q0) (k : wR) : Prop := ∀ u0 h, k0 u0 h = k u0 h
section
variable (n : Nat) (k0 : Q0) (k : wR)
def YP (n : Nat) (k0 : Q0) : Q1 := (bH (og ) lT TM (bH (og ) lT Sa (bH (og ) lT TS (bH (og ) lT Si (bH (og ) lT TP (bH (og ) lT TY (bH (og ) lT SQ (bH (og ) lT Ta (bH (og ) lT S8 (cO z_cost_bounds k0))))))))))
def OH (n : Nat) (k : wR) (a0 : AV) (a1 : AV) (h : Heap) : CRes :=
 Co h a0 fun x0 h1 =>
 Co h1 a1 fun x2 h3 =>
 DK h3 (.cells [.nilfunc, .nilfunc, .nilfunc, .nilfunc, .nilfunc, .nilfunc, .nilfunc, .nilfunc, .nilfunc, .nilfunc, .nilfunc] true 0) fun x4 h5 =>
 mV .u64 2 h5 (.ptr x0 0) fun x6 x7 =>
 DK h5 (.cells [(.int .u64 0)] true 0) fun x8 h9 =>
 pl h9 (.ptr x8 0) 1 (.int .u64 x7) fun h10 =>
 mV .u64 4 h10 (.ptr x0 0) fun x11 x12 =>
 ldI .u64 h10 (.ptr x8 0) fun x13 =>
 LV .u64 2 x13 fun x14 =>
 mO .u64 x12 x14 fun x15 =>
 DK h10 (.cells [(.int .u64 0)] true 0) fun x16 h17 =>
 pl h17 (.ptr x16 0) 1 (.int .u64 x15) fun h18 =>
 mV .i64 2 h18 (.ptr x2 0) fun x19 x20 =>
 A5 .u64 x20 fun x21 =>
 ldI .u64 h18 (.ptr x16 0) fun x22 =>
 LV .u64 x21 x22 fun x23 =>
 DK h18 (.cells [(.int .u64 0)] true 0) fun x24 h25 =>
 pl h25 (.ptr x24 0) 1 (.int .u64 x23) fun h26 =>
 mV .i64 1 h26 (.ptr x2 0) fun x27 x28 =>
 A5 .u64 x28 fun x29 =>
 LV .u64 2 x29 fun x30 =>
 mO .u64 x30 1 fun x31 =>
 mV .u64 4 h26 (.ptr x0 0) fun x32 x33 =>
 LV .u64 x31 x33 fun x34 =>
 mV .u64 5 h26 (.ptr x0 0) fun x35 x36 =>
 mO .u64 x34 x36 fun x37 =>
 DK h26 (.cells [(.int .u64 0)] true 0) fun x38 h39 =>
 pl h39 (.ptr x38 0) 1 (.int .u64 x37) fun h40 =>
 DK h40 (.cells [.nilfunc] true 0) fun x41 h42 =>
 pl h42 (.ptr x41 0) 1 (.func 86 [] [(.ptr x8 0)]) fun h43 =>
 DK h43 (.cells [.nilfunc] true 0) fun x44 h45 =>
 pl h45 (.ptr x44 0) 1 (.func 87 [] [(.ptr x16 0)]) fun h46 =>
 iZ h46 (.ptr x41 0) 1 false fun x47 =>
 iZ h46 (.ptr x44 0) 1 false fun x48 =>
 BZ [.nilfunc, .nilfunc, .nilfunc, .nilfunc, .nilfunc, .nilfunc, .nilfunc, .nilfunc, .nilfunc, .nilfunc, .nilfunc] [(0, 1, (.func 88 [] [])), (1, 1, (.func 89 [] [(.ptr x8 0)])), (2, 1, (.func 90 [] [(.ptr x24 0), (.ptr x8 0)])), (3, 1, (.func 91 [] [(.ptr x8 0), (.ptr x2 0), (.ptr x24 0)])), (4, 1, x47), (5, 1, x48), (6, 1, (.func 92 [] [(.ptr x0 0), (.ptr x8 0)])), (7, 1, (.func 93 [] [(.ptr x41 0), (.ptr x44 0)])), (8, 1, (.func 94 [] [(.ptr x8 0), (.ptr x0 0), (.ptr x38 0)])), (9, 1, (.func 95 [] [(.ptr x8 0), (.ptr x0 0), (.ptr x38 0)])), (10, 1, (.func 88 [] []))] fun x49 =>
 pl h46 (.ptr x4 0) 11 x49 fun h50 =>
 iZ h50 (.ptr x4 0) 11 true fun x51 =>
 k x51 h50
theorem ajG (n : Nat) (k0 : Q0) (k : wR) (hk : Vo k0 k) (a0 : AV) (a1 : AV) (h : Heap) : (YP n k0 ) ⟨cP [(p0, a0), (p1, a1)], h⟩ = (OH n k ) a0 a1 h := by
  obtain rfl := fx2 hk
  kernel_rfl
def aiQ : Q1 := YP n k0
def Oq (n : Nat) (a0 : AV) (a1 : AV) (h : Heap) (k : wR) : CRes := OH n k a0 a1 h
theorem aiB (n : Nat) (k0 : Q0) (s : St) : D (ft []) lT n Gw (cO z_cost_bounds k0) (fun _ _ => .err) (cO z_cost_bounds k0) s = aiQ n k0 s := by kernel_rfl
theorem ajr (n : Nat) (a0 : AV) (a1 : AV) (h : Heap) (k0 : Q0) : W a_cost_bounds z_cost_bounds [] lT n Gw [a0, a1] h k0 = Oq n a0 a1 h (fun u0 h => k0 u0 h) := by
  let k : wR := fun u0 h => k0 u0 h
  have hk : Vo k0 k := fun _ _ => rfl
  have hb : ∀ F : Tr AV → CRes, iS a_cost_bounds [a0, a1] .leaf F = F (cP [(p0, a0), (p1, a1)]) := fun F => by kernel_rfl
  exact (nD hb).trans ((aiB n k0 _).trans (ajG n k0 k hk a0 a1 h))
end
def nK (n : Nat) : kc := Oq n
theorem aiT {tbl : Tr AFn} (hp : cN tbl) (ht : tbl.get (key pA) = some XT) (n : Nat) : Sound tbl pA (rq (nK n)) := by
  refine Sound.of (dK hp (ps := a_cost_bounds) (rs := z_cost_bounds) (l := []) (ty := lT) (n := n) (c := Gw) ht trivial) fun args H k r H' h => ?_
  unfold rq at h
  obtain ⟨a0, l0, e0, h0⟩ := cY h
  subst e0
  obtain ⟨a1, l1, e1, h1⟩ := cY h0
  subst e1
  obtain ⟨e9, h9⟩ := db h1
  subst e9
  exact (ajr n a0 a1 H k).trans h9
/-! cofferdam/cost.bounds$1 -/
abbrev dx := AV → Heap → (Int → Heap → CRes) → CRes
abbrev rI := Int → Heap → CRes
def iL (g : dx) : Wr := fun l h k => mr l fun a0 l => nC l (g a0 h fun u0 h => k (.int .u64 u0) h)
def Oe : eg := ft []
abbrev NZ (k0 : Q0) (k : rI) : Prop := ∀ u0 h, k0 (.int .u64 u0) h = k u0 h
section
variable (n : Nat) (k0 : Q0) (k : rI)
def QR (n : Nat) (k0 : Q0) : Q1 := (bH (Oe ) uJ Ln (bH (Oe ) uJ Mi (cO z_cost_bounds_f1 k0)))
def Fp (n : Nat) (k : rI) (a0 : AV) (h : Heap) : CRes :=
 ldI .u64 h a0 fun x0 =>
 LV .u64 113 x0 fun x1 =>
 k x1 h
theorem acW (n : Nat) (k0 : Q0) (k : rI) (hk : NZ k0 k) (a0 : AV) (h : Heap) : (QR n k0 ) ⟨cP [(p0, a0)], h⟩ = (Fp n k ) a0 h := by
  obtain rfl := fx2 hk
  kernel_rfl
def ac1 : Q1 := QR n k0
def Fv (n : Nat) (a0 : AV) (h : Heap) (k : rI) : CRes := Fp n k a0 h
theorem ado (n : Nat) (k0 : Q0) (s : St) : D (ft []) uJ n zT (cO z_cost_bounds_f1 k0) (fun _ _ => .err) (cO z_cost_bounds_f1 k0) s = ac1 n k0 s := by kernel_rfl
theorem ac0 (n : Nat) (a0 : AV) (h : Heap) (k0 : Q0) : W a_cost_bounds_f1 z_cost_bounds_f1 [] uJ n zT [a0] h k0 = Fv n a0 h (fun u0 h => k0 (.int .u64 u0) h) := by
  let k : rI := fun u0 h => k0 (.int .u64 u0) h
  have hk : NZ k0 k := fun _ _ => rfl
  have hb : ∀ F : Tr AV → CRes, iS a_cost_bounds_f1 [a0] .leaf F = F (cP [(p0, a0)]) := fun F => by kernel_rfl
  exact (nD hb).trans ((ado n k0 _).trans (acW n k0 k hk a0 h))
end
def eY (n : Nat) : dx := Fv n
theorem acI {tbl : Tr AFn} (hp : cN tbl) (ht : tbl.get (key d6) = some Rc) (n : Nat) : Sound tbl d6 (iL (eY n)) := by
  refine Sound.of (dK hp (ps := a_cost_bounds_f1) (rs := z_cost_bounds_f1) (l := []) (ty := uJ) (n := n) (c := zT) ht trivial) fun args H k r H' h => ?_
  unfold iL at h
  obtain ⟨a0, l0, e0, h0⟩ := cY h
  subst e0
  obtain ⟨e9, h9⟩ := db h0
  subst e9
  exact (ac0 n a0 H k).trans h9
/-! cofferdam/cost.bounds$2 -/
abbrev du := AV → Heap → (Int → Heap → CRes) → CRes
abbrev rF := Int → Heap → CRes
def iI (g : du) : Wr := fun l h k => mr l fun a0 l => nC l (g a0 h fun u0 h => k (.int .u64 u0) h)
def Nn : eg := ft []
abbrev Ne (k0 : Q0) (k : rF) : Prop := ∀ u0 h, k0 (.int .u64 u0) h = k u0 h
section
variable (n : Nat) (k0 : Q0) (k : rF)
def Pz (n : Nat) (k0 : Q0) : Q1 := (bH (Nn ) uV KY (bH (Nn ) uV Mr (cO z_cost_bounds_f2 k0)))
def Fy (n : Nat) (k : rF) (a0 : AV) (h : Heap) : CRes :=
 ldI .u64 h a0 fun x0 =>
 LV .u64 64 x0 fun x1 =>
 k x1 h
theorem ac6 (n : Nat) (k0 : Q0) (k : rF) (hk : Ne k0 k) (a0 : AV) (h : Heap) : (Pz n k0 ) ⟨cP [(p0, a0)], h⟩ = (Fy n k ) a0 h := by
  obtain rfl := fx2 hk
  kernel_rfl
def ab0 : Q1 := Pz n k0
def FM (n : Nat) (a0 : AV) (h : Heap) (k : rF) : CRes := Fy n k a0 h
theorem ad9 (n : Nat) (k0 : Q0) (s : St) : D (ft []) uV n zb (cO z_cost_bounds_f2 k0) (fun _ _ => .err) (cO z_cost_bounds_f2 k0) s = ab0 n k0 s := by kernel_rfl
theorem adZ (n : Nat) (a0 : AV) (h : Heap) (k0 : Q0) : W a_cost_bounds_f2 z_cost_bounds_f2 [] uV n zb [a0] h k0 = FM n a0 h (fun u0 h => k0 (.int .u64 u0) h) := by
  let k : rF := fun u0 h => k0 (.int .u64 u0) h
  have hk : Ne k0 k := fun _ _ => rfl
  have hb : ∀ F : Tr AV → CRes, iS a_cost_bounds_f2 [a0] .leaf F = F (cP [(p0, a0)]) := fun F => by kernel_rfl
  exact (nD hb).trans ((ad9 n k0 _).trans (ac6 n k0 k hk a0 h))
end
def eZ (n : Nat) : du := FM n
theorem adm {tbl : Tr AFn} (hp : cN tbl) (ht : tbl.get (key dZ) = some P4) (n : Nat) : Sound tbl dZ (iI (eZ n)) := by
  refine Sound.of (dK hp (ps := a_cost_bounds_f2) (rs := z_cost_bounds_f2) (l := []) (ty := uV) (n := n) (c := zb) ht trivial) fun args H k r H' h => ?_
  unfold iI at h
  obtain ⟨a0, l0, e0, h0⟩ := cY h
  subst e0
  obtain ⟨e9, h9⟩ := db h0
  subst e9
  exact (adZ n a0 H k).trans h9
/-! cofferdam/cost.bounds$3 -/
abbrev dz := Heap → (Int → Heap → CRes) → CRes
abbrev rH := Int → Heap → CRes
def iH (g : dz) : Wr := fun l h k => nC l (g h fun u0 h => k (.int .u64 u0) h)
def Nu : eg := ft []
abbrev NP (k0 : Q0) (k : rH) : Prop := ∀ u0 h, k0 (.int .u64 u0) h = k u0 h
section
variable (n : Nat) (k0 : Q0) (k : rH)
def PB (n : Nat) (k0 : Q0) : Q1 := (bH (Nu ) uR MD (bH (Nu ) uR Ml (cO z_cost_bounds_f3 k0)))
def PK (n : Nat) (k : rH) (h : Heap) : CRes :=
 k 0 h
theorem ab4 (n : Nat) (k0 : Q0) (k : rH) (hk : NP k0 k) (h : Heap) : (PB n k0 ) ⟨cP [], h⟩ = (PK n k ) h := by
  obtain rfl := fx2 hk
  kernel_rfl
def adP : Q1 := PB n k0
def Pn (n : Nat) (h : Heap) (k : rH) : CRes := PK n k h
theorem acB (n : Nat) (k0 : Q0) (s : St) : D (ft []) uR n zj (cO z_cost_bounds_f3 k0) (fun _ _ => .err) (cO z_cost_bounds_f3 k0) s = adP n k0 s := by kernel_rfl
theorem adQ (n : Nat) (h : Heap) (k0 : Q0) : W a_cost_bounds_f3 z_cost_bounds_f3 [] uR n zj [] h k0 = Pn n h (fun u0 h => k0 (.int .u64 u0) h) := by
  let k : rH := fun u0 h => k0 (.int .u64 u0) h
  have hk : NP k0 k := fun _ _ => rfl
  have hb : ∀ F : Tr AV → CRes, iS a_cost_bounds_f3 [] .leaf F = F (cP []) := fun F => by kernel_rfl
  exact (nD hb).trans ((acB n k0 _).trans (ab4 n k0 k hk h))
end
def g0 (n : Nat) : dz := Pn n
theorem ack {tbl : Tr AFn} (hp : cN tbl) (ht : tbl.get (key gf) = some PZ) (n : Nat) : Sound tbl gf (iH (g0 n)) := by
  refine Sound.of (dK hp (ps := a_cost_bounds_f3) (rs := z_cost_bounds_f3) (l := []) (ty := uR) (n := n) (c := zj) ht trivial) fun args H k r H' h => ?_
  unfold iH at h
  obtain ⟨e9, h9⟩ := db h
  subst e9
  exact (adQ n H k).trans h9
/-! cofferdam/cost.bounds$4 -/
abbrev dy := AV → Heap → (Int → Heap → CRes) → CRes
abbrev rC := Int → Heap → CRes
def iO (g : dy) : Wr := fun l h k => mr l fun a0 l => nC l (g a0 h fun u0 h => k (.int .u64 u0) h)
def NF : eg := ft []
abbrev Ni (k0 : Q0) (k : rC) : Prop := ∀ u0 h, k0 (.int .u64 u0) h = k u0 h
section
variable (n : Nat) (k0 : Q0) (k : rC)
def QZ (n : Nat) (k0 : Q0) : Q1 := (bH (NF ) uC Ly (bH (NF ) uC K5 (cO z_cost_bounds_f4 k0)))
def E4 (n : Nat) (k : rC) (a0 : AV) (h : Heap) : CRes :=
 ldI .u64 h a0 fun x0 =>
 LV .u64 17 x0 fun x1 =>
 k x1 h
theorem acD (n : Nat) (k0 : Q0) (k : rC) (hk : Ni k0 k) (a0 : AV) (h : Heap) : (QZ n k0 ) ⟨cP [(p0, a0)], h⟩ = (E4 n k ) a0 h := by
  obtain rfl := fx2 hk
  kernel_rfl
def adz : Q1 := QZ n k0
def Fh (n : Nat) (a0 : AV) (h : Heap) (k : rC) : CRes := E4 n k a0 h
theorem acL (n : Nat) (k0 : Q0) (s : St) : D (ft []) uC n zG (cO z_cost_bounds_f4 k0) (fun _ _ => .err) (cO z_cost_bounds_f4 k0) s = adz n k0 s := by kernel_rfl
theorem adL (n : Nat) (a0 : AV) (h : Heap) (k0 : Q0) : W a_cost_bounds_f4 z_cost_bounds_f4 [] uC n zG [a0] h k0 = Fh n a0 h (fun u0 h => k0 (.int .u64 u0) h) := by
  let k : rC := fun u0 h => k0 (.int .u64 u0) h
  have hk : Ni k0 k := fun _ _ => rfl
  have hb : ∀ F : Tr AV → CRes, iS a_cost_bounds_f4 [a0] .leaf F = F (cP [(p0, a0)]) := fun F => by kernel_rfl
  exact (nD hb).trans ((acL n k0 _).trans (acD n k0 k hk a0 h))
end
def ge (n : Nat) : dy := Fh n
theorem aca {tbl : Tr AFn} (hp : cN tbl) (ht : tbl.get (key gG) = some O9) (n : Nat) : Sound tbl gG (iO (ge n)) := by
  refine Sound.of (dK hp (ps := a_cost_bounds_f4) (rs := z_cost_bounds_f4) (l := []) (ty := uC) (n := n) (c := zG) ht trivial) fun args H k r H' h => ?_
  unfold iO at h
  obtain ⟨a0, l0, e0, h0⟩ := cY h
  subst e0
  obtain ⟨e9, h9⟩ := db h0
  subst e9
  exact (adL n a0 H k).trans h9
/-! cofferdam/cost.bounds$5 -/
abbrev dr := AV → AV → Heap → (Int → Heap → CRes) → CRes
abbrev rA := Int → Heap → CRes
def iK (g : dr) : Wr := fun l h k => mr l fun a0 l => mr l fun a1 l => nC l (g a0 a1 h fun u0 h => k (.int .u64 u0) h)
def NB : eg := ft []
abbrev N9 (k0 : Q0) (k : rA) : Prop := ∀ u0 h, k0 (.int .u64 u0) h = k u0 h
section
variable (n : Nat) (k0 : Q0) (k : rA)
def Qd (n : Nat) (k0 : Q0) : Q1 := (bH (NB ) uX LT (bH (NB ) uX LA (cO z_cost_bounds_f5 k0)))
def F1 (n : Nat) (k : rA) (a0 : AV) (a1 : AV) (h : Heap) : CRes :=
 ldI .u64 h a0 fun x0 =>
 ldI .u64 h a1 fun x1 =>
 mO .u64 x0 x1 fun x2 =>
 k x2 h
theorem acM (n : Nat) (k0 : Q0) (k : rA) (hk : N9 k0 k) (a0 : AV) (a1 : AV) (h : Heap) : (Qd n k0 ) ⟨cP [(p0, a0), (p1, a1)], h⟩ = (F1 n k ) a0 a1 h := by
  obtain rfl := fx2 hk
  kernel_rfl
def adr : Q1 := Qd n k0
def FJ (n : Nat) (a0 : AV) (a1 : AV) (h : Heap) (k : rA) : CRes := F1 n k a0 a1 h
theorem acH (n : Nat) (k0 : Q0) (s : St) : D (ft []) uX n zy (cO z_cost_bounds_f5 k0) (fun _ _ => .err) (cO z_cost_bounds_f5 k0) s = adr n k0 s := by kernel_rfl
theorem adE (n : Nat) (a0 : AV) (a1 : AV) (h : Heap) (k0 : Q0) : W a_cost_bounds_f5 z_cost_bounds_f5 [] uX n zy [a0, a1] h k0 = FJ n a0 a1 h (fun u0 h => k0 (.int .u64 u0) h) := by
  let k : rA := fun u0 h => k0 (.int .u64 u0) h
  have hk : N9 k0 k := fun _ _ => rfl
  have hb : ∀ F : Tr AV → CRes, iS a_cost_bounds_f5 [a0, a1] .leaf F = F (cP [(p0, a0), (p1, a1)]) := fun F => by kernel_rfl
  exact (nD hb).trans ((acH n k0 _).trans (acM n k0 k hk a0 a1 h))
end
def gn (n : Nat) : dr := FJ n
theorem aci {tbl : Tr AFn} (hp : cN tbl) (ht : tbl.get (key gK) = some Pd) (n : Nat) : Sound tbl gK (iK (gn n)) := by
  refine Sound.of (dK hp (ps := a_cost_bounds_f5) (rs := z_cost_bounds_f5) (l := []) (ty := uX) (n := n) (c := zy) ht trivial) fun args H k r H' h => ?_
  unfold iK at h
  obtain ⟨a0, l0, e0, h0⟩ := cY h
  subst e0
  obtain ⟨a1, l1, e1, h1⟩ := cY h0
  subst e1
  obtain ⟨e9, h9⟩ := db h1
  subst e9
  exact (adE n a0 a1 H k).trans h9
/-! cofferdam/cost.bounds$6 -/
abbrev dt := AV → AV → AV → Heap → (Int → Heap → CRes) → CRes
abbrev rz := Int → Heap → CRes
def iJ (g : dt) : Wr := fun l h k => mr l fun a0 l => mr l fun a1 l => mr l fun a2 l => nC l (g a0 a1 a2 h fun u0 h => k (.int .u64 u0) h)
def NU : eg := ft []
abbrev Na (k0 : Q0) (k : rz) : Prop := ∀ u0 h, k0 (.int .u64 u0) h = k u0 h
section
variable (n : Nat) (k0 : Q0) (k : rz)
def QK (n : Nat) (k0 : Q0) : Q1 := (bH (NU ) uY LY (bH (NU ) uY Ma (cO z_cost_bounds_f6 k0)))
def F6 (n : Nat) (k : rz) (a0 : AV) (a1 : AV) (a2 : AV) (h : Heap) : CRes :=
 ldI .u64 h a0 fun x0 =>
 mV .i64 3 h a1 fun x1 x2 =>
 A5 .u64 x2 fun x3 =>
 LV .u64 16 x3 fun x4 =>
 ldI .u64 h a0 fun x5 =>
 LV .u64 x4 x5 fun x6 =>
 mO .u64 x0 x6 fun x7 =>
 ldI .u64 h a2 fun x8 =>
 mO .u64 x7 x8 fun x9 =>
 k x9 h
theorem ac5 (n : Nat) (k0 : Q0) (k : rz) (hk : Na k0 k) (a0 : AV) (a1 : AV) (a2 : AV) (h : Heap) : (QK n k0 ) ⟨cP [(p0, a0), (p1, a1), (p2, a2)], h⟩ = (F6 n k ) a0 a1 a2 h := by
  obtain rfl := fx2 hk
  kernel_rfl
def adp : Q1 := QK n k0
def Fb (n : Nat) (a0 : AV) (a1 : AV) (a2 : AV) (h : Heap) (k : rz) : CRes := F6 n k a0 a1 a2 h
theorem adB (n : Nat) (k0 : Q0) (s : St) : D (ft []) uY n yZ (cO z_cost_bounds_f6 k0) (fun _ _ => .err) (cO z_cost_bounds_f6 k0) s = adp n k0 s := by kernel_rfl
theorem adk (n : Nat) (a0 : AV) (a1 : AV) (a2 : AV) (h : Heap) (k0 : Q0) : W a_cost_bounds_f6 z_cost_bounds_f6 [] uY n yZ [a0, a1, a2] h k0 = Fb n a0 a1 a2 h (fun u0 h => k0 (.int .u64 u0) h) := by
  let k : rz := fun u0 h => k0 (.int .u64 u0) h
  have hk : Na k0 k := fun _ _ => rfl
  have hb : ∀ F : Tr AV → CRes, iS a_cost_bounds_f6 [a0, a1, a2] .leaf F = F (cP [(p0, a0), (p1, a1), (p2, a2)]) := fun F => by kernel_rfl
  exact (nD hb).trans ((adB n k0 _).trans (ac5 n k0 k hk a0 a1 a2 h))
end
def gl (n : Nat) : dt := Fb n
theorem ada {tbl : Tr AFn} (hp : cN tbl) (ht : tbl.get (key gI) = some Pf) (n : Nat) : Sound tbl gI (iJ (gl n)) := by
  refine Sound.of (dK hp (ps := a_cost_bounds_f6) (rs := z_cost_bounds_f6) (l := []) (ty := uY) (n := n) (c := yZ) ht trivial) fun args H k r H' h => ?_
  unfold iJ at h
  obtain ⟨a0, l0, e0, h0⟩ := cY h
  subst e0
  obtain ⟨a1, l1, e1, h1⟩ := cY h0
  subst e1
  obtain ⟨a2, l2, e2, h2⟩ := cY h1
  subst e2
  obtain ⟨e9, h9⟩ := db h2
  subst e9
  exact (adk n a0 a1 a2 H k).trans h9
/-! cofferdam/cost.bounds$7 -/
abbrev dv := AV → AV → Heap → (Int → Heap → CRes) → CRes
abbrev rD := Int → Heap → CRes
def iM (g : dv) : Wr := fun l h k => mr l fun a0 l => mr l fun a1 l => nC l (g a0 a1 h fun u0 h => k (.int .u64 u0) h)
def NV : eg := ft []
abbrev Nb (k0 : Q0) (k : rD) : Prop := ∀ u0 h, k0 (.int .u64 u0) h = k u0 h
section
variable (n : Nat) (k0 : Q0) (k : rD)
def O1 (n : Nat) (k0 : Q0) : Q1 := (bH (NV ) uH K0 (bH (NV ) uH Md (cO z_cost_bounds_f7 k0)))
def Fu (n : Nat) (k : rD) (a0 : AV) (a1 : AV) (h : Heap) : CRes :=
 mV .u64 4 h a0 fun x0 x1 =>
 ldI .u64 h a1 fun x2 =>
 mO .u64 x1 x2 fun x3 =>
 LV .u64 64 x3 fun x4 =>
 ldI .u64 h a1 fun x5 =>
 mO .u64 x4 x5 fun x6 =>
 k x6 h
theorem acz (n : Nat) (k0 : Q0) (k : rD) (hk : Nb k0 k) (a0 : AV) (a1 : AV) (h : Heap) : (O1 n k0 ) ⟨cP [(p0, a0), (p1, a1)], h⟩ = (Fu n k ) a0 a1 h := by
  obtain rfl := fx2 hk
  kernel_rfl
def adH : Q1 := O1 n k0
def FT (n : Nat) (a0 : AV) (a1 : AV) (h : Heap) (k : rD) : CRes := Fu n k a0 a1 h
theorem ad4 (n : Nat) (k0 : Q0) (s : St) : D (ft []) uH n zu (cO z_cost_bounds_f7 k0) (fun _ _ => .err) (cO z_cost_bounds_f7 k0) s = adH n k0 s := by kernel_rfl
theorem ad3 (n : Nat) (a0 : AV) (a1 : AV) (h : Heap) (k0 : Q0) : W a_cost_bounds_f7 z_cost_bounds_f7 [] uH n zu [a0, a1] h k0 = FT n a0 a1 h (fun u0 h => k0 (.int .u64 u0) h) := by
  let k : rD := fun u0 h => k0 (.int .u64 u0) h
  have hk : Nb k0 k := fun _ _ => rfl
  have hb : ∀ F : Tr AV → CRes, iS a_cost_bounds_f7 [a0, a1] .leaf F = F (cP [(p0, a0), (p1, a1)]) := fun F => by kernel_rfl
  exact (nD hb).trans ((ad4 n k0 _).trans (acz n k0 k hk a0 a1 h))
end
def gm (n : Nat) : dv := FT n
theorem adY {tbl : Tr AFn} (hp : cN tbl) (ht : tbl.get (key gE) = some QG) (n : Nat) : Sound tbl gE (iM (gm n)) := by
  refine Sound.of (dK hp (ps := a_cost_bounds_f7) (rs := z_cost_bounds_f7) (l := []) (ty := uH) (n := n) (c := zu) ht trivial) fun args H k r H' h => ?_
  unfold iM at h
  obtain ⟨a0, l0, e0, h0⟩ := cY h
  subst e0
  obtain ⟨a1, l1, e1, h1⟩ := cY h0
  subst e1
  obtain ⟨e9, h9⟩ := db h1
  subst e9
  exact (ad3 n a0 a1 H k).trans h9
/-! cofferdam/cost.bounds$9 -/
abbrev dw := AV → AV → AV → Heap → (Int → Heap → CRes) → CRes
abbrev ry := Int → Heap → CRes
def iQ (g : dw) : Wr := fun l h k => mr l fun a0 l => mr l fun a1 l => mr l fun a2 l => nC l (g a0 a1 a2 h fun u0 h => k (.int .u64 u0) h)
def NA : eg := ft []
abbrev N4 (k0 : Q0) (k : ry) : Prop := ∀ u0 h, k0 (.int .u64 u0) h = k u0 h
section
variable (n : Nat) (k0 : Q0) (k : ry)
def Pg (n : Nat) (k0 : Q0) : Q1 := (bH (NA ) uZ Lc (bH (NA ) uZ Mf (cO z_cost_bounds_f9 k0)))
def FD (n : Nat) (k : ry) (a0 : AV) (a1 : AV) (a2 : AV) (h : Heap) : CRes :=
 ldI .u64 h a0 fun x0 =>
 LV .u64 26 x0 fun x1 =>
 mV .u64 3 h a1 fun x2 x3 =>
 mO .u64 x1 x3 fun x4 =>
 ldI .u64 h a2 fun x5 =>
 mO .u64 x4 x5 fun x6 =>
 mV .u64 5 h a1 fun x7 x8 =>
 mO .u64 x6 x8 fun x9 =>
 k x9 h
theorem acC (n : Nat) (k0 : Q0) (k : ry) (hk : N4 k0 k) (a0 : AV) (a1 : AV) (a2 : AV) (h : Heap) : (Pg n k0 ) ⟨cP [(p0, a0), (p1, a1), (p2, a2)], h⟩ = (FD n k ) a0 a1 a2 h := by
  obtain rfl := fx2 hk
  kernel_rfl
def adn : Q1 := Pg n k0
def F0 (n : Nat) (a0 : AV) (a1 : AV) (a2 : AV) (h : Heap) (k : ry) : CRes := FD n k a0 a1 a2 h
theorem acb (n : Nat) (k0 : Q0) (s : St) : D (ft []) uZ n zK (cO z_cost_bounds_f9 k0) (fun _ _ => .err) (cO z_cost_bounds_f9 k0) s = adn n k0 s := by kernel_rfl
theorem acu (n : Nat) (a0 : AV) (a1 : AV) (a2 : AV) (h : Heap) (k0 : Q0) : W a_cost_bounds_f9 z_cost_bounds_f9 [] uZ n zK [a0, a1, a2] h k0 = F0 n a0 a1 a2 h (fun u0 h => k0 (.int .u64 u0) h) := by
  let k : ry := fun u0 h => k0 (.int .u64 u0) h
  have hk : N4 k0 k := fun _ _ => rfl
  have hb : ∀ F : Tr AV → CRes, iS a_cost_bounds_f9 [a0, a1, a2] .leaf F = F (cP [(p0, a0), (p1, a1), (p2, a2)]) := fun F => by kernel_rfl
  exact (nD hb).trans ((acb n k0 _).trans (acC n k0 k hk a0 a1 a2 h))
end
def gi (n : Nat) : dw := F0 n
theorem adw {tbl : Tr AFn} (hp : cN tbl) (ht : tbl.get (key gJ) = some Qm) (n : Nat) : Sound tbl gJ (iQ (gi n)) := by
  refine Sound.of (dK hp (ps := a_cost_bounds_f9) (rs := z_cost_bounds_f9) (l := []) (ty := uZ) (n := n) (c := zK) ht trivial) fun args H k r H' h => ?_
  unfold iQ at h
  obtain ⟨a0, l0, e0, h0⟩ := cY h
  subst e0
  obtain ⟨a1, l1, e1, h1⟩ := cY h0
  subst e1
  obtain ⟨a2, l2, e2, h2⟩ := cY h1
  subst e2
  obtain ⟨e9, h9⟩ := db h2
  subst e9
  exact (acu n a0 a1 a2 H k).trans h9
/-! cofferdam/cost.bounds$10 -/
abbrev di := AV → AV → AV → Heap → (Int → Heap → CRes) → CRes
abbrev pX := Int → Heap → CRes
def ig (g : di) : Wr := fun l h k => mr l fun a0 l => mr l fun a1 l => mr l fun a2 l => nC l (g a0 a1 a2 h fun u0 h => k (.int .u64 u0) h)
def KU : eg := ft []
abbrev Mb (k0 : Q0) (k : pX) : Prop := ∀ u0 h, k0 (.int .u64 u0) h = k u0 h
section
variable (n : Nat) (k0 : Q0) (k : pX)
def NQ (n : Nat) (k0 : Q0) : Q1 := (bH (KU ) tx Jv (bH (KU ) tx Jx (cO z_cost_bounds_f10 k0)))
def Dm (n : Nat) (k : pX) (a0 : AV) (a1 : AV) (a2 : AV) (h : Heap) : CRes :=
 ldI .u64 h a0 fun x0 =>
 LV .u64 64 x0 fun x1 =>
 mV .u64 3 h a1 fun x2 x3 =>
 LV .u64 2 x3 fun x4 =>
 mO .u64 x1 x4 fun x5 =>
 ldI .u64 h a2 fun x6 =>
 LV .u64 2 x6 fun x7 =>
 mO .u64 x5 x7 fun x8 =>
 mV .u64 5 h a1 fun x9 x10 =>
 mO .u64 x8 x10 fun x11 =>
 k x11 h
theorem aaS (n : Nat) (k0 : Q0) (k : pX) (hk : Mb k0 k) (a0 : AV) (a1 : AV) (a2 : AV) (h : Heap) : (NQ n k0 ) ⟨cP [(p0, a0), (p1, a1), (p2, a2)], h⟩ = (Dm n k ) a0 a1 a2 h := by
  obtain rfl := fx2 hk
  kernel_rfl
def abG : Q1 := NQ n k0
def DS (n : Nat) (a0 : AV) (a1 : AV) (a2 : AV) (h : Heap) (k : pX) : CRes := Dm n k a0 a1 a2 h
theorem abL (n : Nat) (k0 : Q0) (s : St) : D (ft []) tx n xH (cO z_cost_bounds_f10 k0) (fun _ _ => .err) (cO z_cost_bounds_f10 k0) s = abG n k0 s := by kernel_rfl
theorem aaA (n : Nat) (a0 : AV) (a1 : AV) (a2 : AV) (h : Heap) (k0 : Q0) : W a_cost_bounds_f10 z_cost_bounds_f10 [] tx n xH [a0, a1, a2] h k0 = DS n a0 a1 a2 h (fun u0 h => k0 (.int .u64 u0) h) := by
  let k : pX := fun u0 h => k0 (.int .u64 u0) h
  have hk : Mb k0 k := fun _ _ => rfl
  have hb : ∀ F : Tr AV → CRes, iS a_cost_bounds_f10 [a0, a1, a2] .leaf F = F (cP [(p0, a0), (p1, a1), (p2, a2)]) := fun F => by kernel_rfl
  exact (nD hb).trans ((abL n k0 _).trans (aaS n k0 k hk a0 a1 a2 h))
end
def eS (n : Nat) : di := DS n
theorem aas {tbl : Tr AFn} (hp : cN tbl) (ht : tbl.get (key fB) = some Nj) (n : Nat) : Sound tbl fB (ig (eS n)) := by
  refine Sound.of (dK hp (ps := a_cost_bounds_f10) (rs := z_cost_bounds_f10) (l := []) (ty := tx) (n := n) (c := xH) ht trivial) fun args H k r H' h => ?_
  unfold ig at h
  obtain ⟨a0, l0, e0, h0⟩ := cY h
  subst e0
  obtain ⟨a1, l1, e1, h1⟩ := cY h0
  subst e1
  obtain ⟨a2, l2, e2, h2⟩ := cY h1
  subst e2
  obtain ⟨e9, h9⟩ := db h2
  subst e9
  exact (aaA n a0 a1 a2 H k).trans h9
/-! cofferdam/cost.bounds$8 -/
abbrev ic := AV → AV → Heap → (Int → Heap → CRes) → CRes
abbrev rE := Int → Heap → CRes
def nb (g : ic) : Wr := fun l h k => mr l fun a0 l => mr l fun a1 l => nC l (g a0 a1 h fun u0 h => k (.int .u64 u0) h)
def pW (aU : dx) (aQ : du) (aS : dz) (aR : dy) (aX : dr) (aY : dt) (aV : dv) (aW : dw) (aM : di) : eg := ft [(d6, iL aU), (dZ, iI aQ), (gf, iH aS), (gG, iO aR), (gK, iK aX), (gI, iJ aY), (gE, iM aV), (gJ, iQ aW), (fB, ig aM)]
abbrev Nr (k0 : Q0) (k : rE) : Prop := ∀ u0 h, k0 (.int .u64 u0) h = k u0 h
section
variable (n : Nat) (aU : dx) (aQ : du) (aS : dz) (aR : dy) (aX : dr) (aY : dt) (aV : dv) (aW : dw) (aM : di) (k0 : Q0) (k : rE)
def PN (n : Nat) (aU : dx) (aQ : du) (aS : dz) (aR : dy) (aX : dr) (aY : dt) (aV : dv) (aW : dw) (aM : di) (k0 : Q0) : Q1 := (bH (pW aU aQ aS aR aX aY aV aW aM) uO Lr (bH (pW aU aQ aS aR aX aY aV aW aM) uO Lm (cO z_cost_bounds_f8 k0)))
def FE (n : Nat) (aU : dx) (aQ : du) (aS : dz) (aR : dy) (aX : dr) (aY : dt) (aV : dv) (aW : dw) (aM : di) (k : rE) (a0 : AV) (a1 : AV) (h : Heap) : CRes :=
 iZ h a0 1 false fun x0 =>
 pW aU aQ aS aR aX aY aV aW aM x0 [] (h.shut true) fun x1 h2 =>
 UK .u64 x1 fun x3 =>
 iZ (h2.back h.ro) a1 1 false fun x4 =>
 pW aU aQ aS aR aX aY aV aW aM x4 [] (h2.back h.ro) fun x5 h6 =>
 UK .u64 x5 fun x7 =>
 NH true [(.int .u64 x3), (.int .u64 x7)] fun x8 =>
 UK .u64 x8 fun x9 =>
 k x9 h6
theorem acE (n : Nat) (aU : dx) (aQ : du) (aS : dz) (aR : dy) (aX : dr) (aY : dt) (aV : dv) (aW : dw) (aM : di) (k0 : Q0) (k : rE) (hk : Nr k0 k) (a0 : AV) (a1 : AV) (h : Heap) : (PN n aU aQ aS aR aX aY aV aW aM k0 ) ⟨cP [(p0, a0), (p1, a1)], h⟩ = (FE n aU aQ aS aR aX aY aV aW aM k ) a0 a1 h := by
  obtain rfl := fx2 hk
  kernel_rfl
def ac9 : Q1 := PN n aU aQ aS aR aX aY aV aW aM k0
def FU (n : Nat) (aU : dx) (aQ : du) (aS : dz) (aR : dy) (aX : dr) (aY : dt) (aV : dv) (aW : dw) (aM : di) (a0 : AV) (a1 : AV) (h : Heap) (k : rE) : CRes := FE n aU aQ aS aR aX aY aV aW aM k a0 a1 h
theorem adf (n : Nat) (aU : dx) (aQ : du) (aS : dz) (aR : dy) (aX : dr) (aY : dt) (aV : dv) (aW : dw) (aM : di) (k0 : Q0) (s : St) : D (ft [(d6, iL aU), (dZ, iI aQ), (gf, iH aS), (gG, iO aR), (gK, iK aX), (gI, iJ aY), (gE, iM aV), (gJ, iQ aW), (fB, ig aM)]) uO n zO (cO z_cost_bounds_f8 k0) (fun _ _ => .err) (cO z_cost_bounds_f8 k0) s = ac9 n aU aQ aS aR aX aY aV aW aM k0 s := by kernel_rfl
theorem adS (n : Nat) (aU : dx) (aQ : du) (aS : dz) (aR : dy) (aX : dr) (aY : dt) (aV : dv) (aW : dw) (aM : di) (a0 : AV) (a1 : AV) (h : Heap) (k0 : Q0) : W a_cost_bounds_f8 z_cost_bounds_f8 [(d6, iL aU), (dZ, iI aQ), (gf, iH aS), (gG, iO aR), (gK, iK aX), (gI, iJ aY), (gE, iM aV), (gJ, iQ aW), (fB, ig aM)] uO n zO [a0, a1] h k0 = FU n aU aQ aS aR aX aY aV aW aM a0 a1 h (fun u0 h => k0 (.int .u64 u0) h) := by
  let k : rE := fun u0 h => k0 (.int .u64 u0) h
  have hk : Nr k0 k := fun _ _ => rfl
  have hb : ∀ F : Tr AV → CRes, iS a_cost_bounds_f8 [a0, a1] .leaf F = F (cP [(p0, a0), (p1, a1)]) := fun F => by kernel_rfl
  exact (nD hb).trans ((adf n aU aQ aS aR aX aY aV aW aM k0 _).trans (acE n aU aQ aS aR aX aY aV aW aM k0 k hk a0 a1 h))
end
def kS (n : Nat) : ic := FU n (eY n) (eZ n) (g0 n) (ge n) (gn n) (gl n) (gm n) (gi n) (eS n)
theorem ads {tbl : Tr AFn} (hp : cN tbl) (ht : tbl.get (key kP) = some Pc) (n : Nat) (CC : Sound tbl d6 (iL (eY n))) (Cp : Sound tbl dZ (iI (eZ n))) (C5 : Sound tbl gf (iH (g0 n))) (C4 : Sound tbl gG (iO (ge n))) (DE : Sound tbl gK (iK (gn n))) (Dq : Sound tbl gI (iJ (gl n))) (Df : Sound tbl gE (iM (gm n))) (Cx : Sound tbl gJ (iQ (gi n))) (BT : Sound tbl fB (ig (eS n))) : Sound tbl kP (nb (kS n)) := by
  refine Sound.of (dK hp (ps := a_cost_bounds_f8) (rs := z_cost_bounds_f8) (l := [(d6, iL (eY n)), (dZ, iI (eZ n)), (gf, iH (g0 n)), (gG, iO (ge n)), (gK, iK (gn n)), (gI, iJ (gl n)), (gE, iM (gm n)), (gJ, iQ (gi n)), (fB, ig (eS n))]) (ty := uO) (n := n) (c := zO) ht ⟨CC, Cp, C5, C4, DE, Dq, Df, Cx, BT, trivial⟩) fun args H k r H' h => ?_
  unfold nb at h
  obtain ⟨a0, l0, e0, h0⟩ := cY h
  subst e0
  obtain ⟨a1, l1, e1, h1⟩ := cY h0
  subst e1
  obtain ⟨e9, h9⟩ := db h1
  subst e9
  exact (adS n (eY n) (eZ n) (g0 n) (ge n) (gn n) (gl n) (gm n) (gi n) (eS n) a0 a1 H k).trans h9
/-! cofferdam/cost.Most -/
abbrev eL := AV → AV → Heap → (Int → Int → Heap → CRes) → CRes
abbrev vk := Int → Int → Heap → CRes
def vn (g : eL) : Wr := fun l h k => mr l fun a0 l => mr l fun a1 l => nC l (g a0 a1 h fun u0 u1 h => k (.tuple [(.int .u64 u0), (.int .i64 u1)]) h)
def l9 (cr : lc) (ca : kc) (aU : dx) (aQ : du) (aS : dz) (aR : dy) (aX : dr) (aY : dt) (aV : dv) (bB : ic) (aW : dw) (aM : di) : eg := ft [(rk, tt cr), (pA, rq ca), (d6, iL aU), (dZ, iI aQ), (gf, iH aS), (gG, iO aR), (gK, iK aX), (gI, iJ aY), (gE, iM aV), (kP, nb bB), (gJ, iQ aW), (fB, ig aM)]
abbrev zR (k0 : Q0) (k : vk) : Prop := ∀ u0 u1 h, k0 (.tuple [(.int .u64 u0), (.int .i64 u1)]) h = k u0 u1 h
abbrev Gk : Type := AV → AV → Int → Heap → CRes
abbrev OP (J : Q1) (j : Gk) : Prop := ∀ v2 v3 v7 h, J ⟨cP [(p2, v2), (p3, v3), (p7, (.int .u64 v7))], h⟩ = j v2 v3 v7 h
abbrev tZ : Type := AV → AV → Int → AV → Int → Heap → CRes
abbrev Gt (J : Q1) (j : tZ) : Prop := ∀ v2 v3 v7 v18 v19 h, J ⟨cP [(p2, v2), (p3, v3), (p7, (.int .u64 v7)), (p18, v18), (p19, (.int .i64 v19))], h⟩ = j v2 v3 v7 v18 v19 h
section
variable (n : Nat) (cr : lc) (ca : kc) (aU : dx) (aQ : du) (aS : dz) (aR : dy) (aX : dr) (aY : dt) (aV : dv) (bB : ic) (aW : dw) (aM : di) (k0 : Q0) (k : vk)
def YB (n : Nat) (cr : lc) (ca : kc) (aU : dx) (aQ : du) (aS : dz) (aR : dy) (aX : dr) (aY : dt) (aV : dv) (bB : ic) (aW : dw) (aM : di) (k0 : Q0) : Q1 := (bH (l9 cr ca aU aQ aS aR aX aY aV bB aW aM) mg X7 (cO z_cost_Most k0))
def OV (n : Nat) (cr : lc) (ca : kc) (aU : dx) (aQ : du) (aS : dz) (aR : dy) (aX : dr) (aY : dt) (aV : dv) (bB : ic) (aW : dw) (aM : di) (k : vk) (v2 : AV) (v3 : AV) (v7 : Int) (h : Heap) : CRes :=
 mV .i64 0 h v3 fun x12 x13 =>
 A5 .u64 x13 fun x14 =>
 mV .u64 2 h v2 fun x15 x16 =>
 LV .u64 x14 x16 fun x17 =>
 mO .u64 x17 v7 fun x18 =>
 k x18 0 h
theorem aiO (hk : zR k0 k) : OP (YB n cr ca aU aQ aS aR aX aY aV bB aW aM k0 ) (OV n cr ca aU aQ aS aR aX aY aV bB aW aM k ) := by
  obtain rfl := fx3 hk
  intro v2 v3 v7 h
  kernel_rfl
def OO : Q1 := YB n cr ca aU aQ aS aR aX aY aV bB aW aM k0
def AX : Gk := OV n cr ca aU aQ aS aR aX aY aV bB aW aM k
theorem aiN (hk : zR k0 k) : OP (OO n cr ca aU aQ aS aR aX aY aV bB aW aM k0 ) (AX n cr ca aU aQ aS aR aX aY aV bB aW aM k ) := aiO n cr ca aU aQ aS aR aX aY aV bB aW aM k0 k hk
def YV (n : Nat) (cr : lc) (ca : kc) (aU : dx) (aQ : du) (aS : dz) (aR : dy) (aX : dr) (aY : dt) (aV : dv) (bB : ic) (aW : dw) (aM : di) (k0 : Q0) (J0 : Q1) (J1 : Q1) : Q1 := (bH (l9 cr ca aU aQ aS aR aX aY aV bB aW aM) mg YK (fun s => eM (.t p20) s (bH (l9 cr ca aU aQ aS aR aX aY aV bB aW aM) mg YI (bH (l9 cr ca aU aQ aS aR aX aY aV bB aW aM) mg XV (bH (l9 cr ca aU aQ aS aR aX aY aV bB aW aM) mg X8 (fun s => cS OM s J1)))) (fun s => cS X4 s J0)))
def Gy (n : Nat) (cr : lc) (ca : kc) (aU : dx) (aQ : du) (aS : dz) (aR : dy) (aX : dr) (aY : dt) (aV : dv) (bB : ic) (aW : dw) (aM : di) (k : vk) (j0 : Gk) (j1 : tZ) (v2 : AV) (v3 : AV) (v7 : Int) (v18 : AV) (v19 : Int) (h : Heap) : CRes :=
 ifB (ltF v19 11)
 (Yn 1 11 false v18 v19 fun x19 =>
 l9 cr ca aU aQ aS aR aX aY aV bB aW aM x19 [] h fun x20 h21 =>
 UK .u64 x20 fun x22 =>
 NH true [(.int .u64 v7), (.int .u64 x22)] fun x23 =>
 UK .u64 x23 fun x24 =>
 mO .i64 v19 1 fun x25 =>
 j1 v2 v3 x24 v18 x25 h21)
 (j0 v2 v3 v7 h)
theorem ajA (hk : zR k0 k) (J0 : Q1) (j0 : Gk) (h0 : OP J0 j0) (J1 : Q1) (j1 : tZ) (h1 : Gt J1 j1) : Gt (YV n cr ca aU aQ aS aR aX aY aV bB aW aM k0 J0 J1) (Gy n cr ca aU aQ aS aR aX aY aV bB aW aM k j0 j1) := by
  obtain rfl := fx3 hk
  obtain rfl := fx4 h0
  obtain rfl := fx6 h1
  intro v2 v3 v7 v18 v19 h
  kernel_rfl
def Gn (m : Nat) : Q1 := Nat.rec (motive := fun _ => Q1) (fun _ => .err) (fun _ ih => YV n cr ca aU aQ aS aR aX aY aV bB aW aM k0 (OO n cr ca aU aQ aS aR aX aY aV bB aW aM k0 ) ih) m
def tS (m : Nat) : tZ := Nat.rec (motive := fun _ => tZ) (fun _ _ _ _ _ _ => .err) (fun _ ih => Gy n cr ca aU aQ aS aR aX aY aV bB aW aM k (AX n cr ca aU aQ aS aR aX aY aV bB aW aM k ) ih) m
theorem aiM (m : Nat) : tS n cr ca aU aQ aS aR aX aY aV bB aW aM k (m + 1) = Gy n cr ca aU aQ aS aR aX aY aV bB aW aM k (AX n cr ca aU aQ aS aR aX aY aV bB aW aM k ) (tS n cr ca aU aQ aS aR aX aY aV bB aW aM k m) := rfl
theorem ajy (hk : zR k0 k) (m : Nat) : Gt (Gn n cr ca aU aQ aS aR aX aY aV bB aW aM k0 m) (tS n cr ca aU aQ aS aR aX aY aV bB aW aM k m) := by
  induction m with
  | zero => intro v2 v3 v7 v18 v19 h; rfl
  | succ m ih => exact ajA n cr ca aU aQ aS aR aX aY aV bB aW aM k0 k hk (OO n cr ca aU aQ aS aR aX aY aV bB aW aM k0 ) (AX n cr ca aU aQ aS aR aX aY aV bB aW aM k ) (aiN n cr ca aU aQ aS aR aX aY aV bB aW aM k0 k hk ) (Gn n cr ca aU aQ aS aR aX aY aV bB aW aM k0 m) (tS n cr ca aU aQ aS aR aX aY aV bB aW aM k m) ih
def aee (n : Nat) (cr : lc) (ca : kc) (aU : dx) (aQ : du) (aS : dz) (aR : dy) (aX : dr) (aY : dt) (aV : dv) (bB : ic) (aW : dw) (aM : di) (k0 : Q0) (J1 : Q1) : Q1 := (bH (l9 cr ca aU aQ aS aR aX aY aV bB aW aM) mg VM (bH (l9 cr ca aU aQ aS aR aX aY aV bB aW aM) mg Yg (bH (l9 cr ca aU aQ aS aR aX aY aV bB aW aM) mg YJ (fun s => eM (.t p14) s (bH (l9 cr ca aU aQ aS aR aX aY aV bB aW aM) mg YT (cO z_cost_Most k0)) (bH (l9 cr ca aU aQ aS aR aX aY aV bB aW aM) mg YE (bH (l9 cr ca aU aQ aS aR aX aY aV bB aW aM) mg Yw (fun s => cS OM s J1)))))))
def VO (n : Nat) (cr : lc) (ca : kc) (aU : dx) (aQ : du) (aS : dz) (aR : dy) (aX : dr) (aY : dt) (aV : dv) (bB : ic) (aW : dw) (aM : di) (k : vk) (j1 : tZ) (a0 : AV) (a1 : AV) (h : Heap) : CRes :=
 Co h a0 fun x0 h1 =>
 Co h1 a1 fun x2 h3 =>
 iZ h3 (.ptr x0 0) 6 true fun x4 =>
 iZ h3 (.ptr x2 0) 4 true fun x5 =>
 cr x4 x5 h3 fun x6 h7 =>
 ifB (jK (eqF x6 0))
 (k 0 x6 h7)
 (iZ h7 (.ptr x0 0) 6 true fun x8 =>
 iZ h7 (.ptr x2 0) 4 true fun x9 =>
 ca x8 x9 h7 fun x10 h11 =>
 j1 (.ptr x0 0) (.ptr x2 0) 0 x10 0 h11)
theorem amo (n : Nat) (cr : lc) (ca : kc) (aU : dx) (aQ : du) (aS : dz) (aR : dy) (aX : dr) (aY : dt) (aV : dv) (bB : ic) (aW : dw) (aM : di) (k0 : Q0) (k : vk) (hk : zR k0 k) (J1 : Q1) (j1 : tZ) (h1 : Gt J1 j1) (a0 : AV) (a1 : AV) (h : Heap) : (aee n cr ca aU aQ aS aR aX aY aV bB aW aM k0 J1) ⟨cP [(p0, a0), (p1, a1)], h⟩ = (VO n cr ca aU aQ aS aR aX aY aV bB aW aM k j1) a0 a1 h := by
  obtain rfl := fx3 hk
  obtain rfl := fx6 h1
  kernel_rfl
def am4 : Q1 := aee n cr ca aU aQ aS aR aX aY aV bB aW aM k0 (Gn n cr ca aU aQ aS aR aX aY aV bB aW aM k0 n)
def Wm (n : Nat) (cr : lc) (ca : kc) (aU : dx) (aQ : du) (aS : dz) (aR : dy) (aX : dr) (aY : dt) (aV : dv) (bB : ic) (aW : dw) (aM : di) (a0 : AV) (a1 : AV) (h : Heap) (k : vk) : CRes := VO n cr ca aU aQ aS aR aX aY aV bB aW aM k (tS n cr ca aU aQ aS aR aX aY aV bB aW aM k n) a0 a1 h
theorem anA (n : Nat) (cr : lc) (ca : kc) (aU : dx) (aQ : du) (aS : dz) (aR : dy) (aX : dr) (aY : dt) (aV : dv) (bB : ic) (aW : dw) (aM : di) (k0 : Q0) (s : St) : D (ft [(rk, tt cr), (pA, rq ca), (d6, iL aU), (dZ, iI aQ), (gf, iH aS), (gG, iO aR), (gK, iK aX), (gI, iJ aY), (gE, iM aV), (kP, nb bB), (gJ, iQ aW), (fB, ig aM)]) mg n Np (cO z_cost_Most k0) (fun _ _ => .err) (cO z_cost_Most k0) s = am4 n cr ca aU aQ aS aR aX aY aV bB aW aM k0 s := by kernel_rfl
theorem amF (n : Nat) (cr : lc) (ca : kc) (aU : dx) (aQ : du) (aS : dz) (aR : dy) (aX : dr) (aY : dt) (aV : dv) (bB : ic) (aW : dw) (aM : di) (a0 : AV) (a1 : AV) (h : Heap) (k0 : Q0) : W a_cost_Most z_cost_Most [(rk, tt cr), (pA, rq ca), (d6, iL aU), (dZ, iI aQ), (gf, iH aS), (gG, iO aR), (gK, iK aX), (gI, iJ aY), (gE, iM aV), (kP, nb bB), (gJ, iQ aW), (fB, ig aM)] mg n Np [a0, a1] h k0 = Wm n cr ca aU aQ aS aR aX aY aV bB aW aM a0 a1 h (fun u0 u1 h => k0 (.tuple [(.int .u64 u0), (.int .i64 u1)]) h) := by
  let k : vk := fun u0 u1 h => k0 (.tuple [(.int .u64 u0), (.int .i64 u1)]) h
  have hk : zR k0 k := fun _ _ _ => rfl
  have hb : ∀ F : Tr AV → CRes, iS a_cost_Most [a0, a1] .leaf F = F (cP [(p0, a0), (p1, a1)]) := fun F => by kernel_rfl
  exact (nD hb).trans ((anA n cr ca aU aQ aS aR aX aY aV bB aW aM k0 _).trans (amo n cr ca aU aQ aS aR aX aY aV bB aW aM k0 k hk (Gn n cr ca aU aQ aS aR aX aY aV bB aW aM k0 n) (tS n cr ca aU aQ aS aR aX aY aV bB aW aM k n) (ajy n cr ca aU aQ aS aR aX aY aV bB aW aM k0 k hk n) a0 a1 h))
end
def rn (n : Nat) : eL := Wm n (pE n) (nK n) (eY n) (eZ n) (g0 n) (ge n) (gn n) (gl n) (gm n) (kS n) (gi n) (eS n)
theorem ano {tbl : Tr AFn} (hp : cN tbl) (ht : tbl.get (key tl) = some aev) (n : Nat) (ai1 : Sound tbl rk (tt (pE n))) (ahu : Sound tbl pA (rq (nK n))) (CC : Sound tbl d6 (iL (eY n))) (Cp : Sound tbl dZ (iI (eZ n))) (C5 : Sound tbl gf (iH (g0 n))) (C4 : Sound tbl gG (iO (ge n))) (DE : Sound tbl gK (iK (gn n))) (Dq : Sound tbl gI (iJ (gl n))) (Df : Sound tbl gE (iM (gm n))) (Z4 : Sound tbl kP (nb (kS n))) (Cx : Sound tbl gJ (iQ (gi n))) (BT : Sound tbl fB (ig (eS n))) : Sound tbl tl (vn (rn n)) := by
  refine Sound.of (dK hp (ps := a_cost_Most) (rs := z_cost_Most) (l := [(rk, tt (pE n)), (pA, rq (nK n)), (d6, iL (eY n)), (dZ, iI (eZ n)), (gf, iH (g0 n)), (gG, iO (ge n)), (gK, iK (gn n)), (gI, iJ (gl n)), (gE, iM (gm n)), (kP, nb (kS n)), (gJ, iQ (gi n)), (fB, ig (eS n))]) (ty := mg) (n := n) (c := Np) ht ⟨ai1, ahu, CC, Cp, C5, C4, DE, Dq, Df, Z4, Cx, BT, trivial⟩) fun args H k r H' h => ?_
  unfold vn at h
  obtain ⟨a0, l0, e0, h0⟩ := cY h
  subst e0
  obtain ⟨a1, l1, e1, h1⟩ := cY h0
  subst e1
  obtain ⟨e9, h9⟩ := db h1
  subst e9
  exact (amF n (pE n) (nK n) (eY n) (eZ n) (g0 n) (ge n) (gn n) (gl n) (gm n) (kS n) (gi n) (eS n) a0 a1 H k).trans h9
/-! cofferdam/plan.shape -/
abbrev d8 := AV → Int → Heap → (AV → Heap → CRes) → CRes
abbrev zF := AV → Heap → CRes
def tq (g : d8) : Wr := fun l h k => mr l fun a0 l => qA .i64 l fun a1 l => nC l (g a0 a1 h fun u0 h => k u0 h)
def GB : eg := ft []
abbrev XS (k0 : Q0) (k : zF) : Prop := ∀ u0 h, k0 u0 h = k u0 h
section
variable (n : Nat) (k0 : Q0) (k : zF)
def aa7 (n : Nat) (k0 : Q0) : Q1 := (bH (GB ) vH VK (bH (GB ) vH Uy (bH (GB ) vH Ux (bH (GB ) vH U7 (cO z_plan_shape k0)))))
def Rq (n : Nat) (k : zF) (a0 : AV) (a1 : Int) (h : Heap) : CRes :=
 Co h a0 fun x0 h1 =>
 DK h1 (.cells [(.int .i64 0), (.int .i64 0), (.int .i64 0), (.int .i64 0)] true 0) fun x2 h3 =>
 fld 16 h3 (.ptr x0 0) 1 false fun x4 x5 =>
 eld 8 h3 x5 a1 8 true fun x6 x7 =>
 DK h3 (.cells [.nilslice, (.int .i64 0), (.int .i64 0), (.int .i64 0), (.int .i64 0), (.int .i64 0), (.int .i64 0), (.int .i64 0)] true 0) fun x8 h9 =>
 pl h9 (.ptr x8 0) 8 x7 fun h10 =>
 mV .i64 1 h10 (.ptr x8 0) fun x11 x12 =>
 ae4 .i64 1 x12 fun x13 =>
 mV .i64 2 h10 (.ptr x8 0) fun x14 x15 =>
 mV .i64 2 h10 (.ptr x8 0) fun x16 x17 =>
 mV .i64 7 h10 (.ptr x8 0) fun x18 x19 =>
 mO .i64 x17 x19 fun x20 =>
 W5 .i64 x20 1 fun x21 =>
 mV .i64 6 h10 (.ptr x8 0) fun x22 x23 =>
 LV .i64 16 x23 fun x24 =>
 NH false [(.int .i64 x21), (.int .i64 x24)] fun x25 =>
 UK .i64 x25 fun x26 =>
 mV .i64 3 h10 (.ptr x8 0) fun x27 x28 =>
 BZ [(.int .i64 0), (.int .i64 0), (.int .i64 0), (.int .i64 0)] [(0, 1, (.int .i64 x13)), (1, 1, (.int .i64 x15)), (2, 1, (.int .i64 x26)), (3, 1, (.int .i64 x28))] fun x29 =>
 pl h10 (.ptr x2 0) 4 x29 fun h30 =>
 iZ h30 (.ptr x2 0) 4 true fun x31 =>
 k x31 h30
theorem alZ (n : Nat) (k0 : Q0) (k : zF) (hk : XS k0 k) (a0 : AV) (a1 : Int) (h : Heap) : (aa7 n k0 ) ⟨cP [(p0, a0), (p1, (.int .i64 a1))], h⟩ = (Rq n k ) a0 a1 h := by
  obtain rfl := fx2 hk
  kernel_rfl
def amf : Q1 := aa7 n k0
def RA (n : Nat) (a0 : AV) (a1 : Int) (h : Heap) (k : zF) : CRes := Rq n k a0 a1 h
theorem akP (n : Nat) (k0 : Q0) (s : St) : D (ft []) vH n KN (cO z_plan_shape k0) (fun _ _ => .err) (cO z_plan_shape k0) s = amf n k0 s := by kernel_rfl
theorem alx (n : Nat) (a0 : AV) (a1 : Int) (h : Heap) (k0 : Q0) : W a_plan_shape z_plan_shape [] vH n KN [a0, (.int .i64 a1)] h k0 = RA n a0 a1 h (fun u0 h => k0 u0 h) := by
  let k : zF := fun u0 h => k0 u0 h
  have hk : XS k0 k := fun _ _ => rfl
  have hb : ∀ F : Tr AV → CRes, iS a_plan_shape [a0, (.int .i64 a1)] .leaf F = F (cP [(p0, a0), (p1, (.int .i64 a1))]) := fun F => by kernel_rfl
  exact (nD hb).trans ((akP n k0 _).trans (alZ n k0 k hk a0 a1 h))
end
def pz (n : Nat) : d8 := RA n
theorem aky {tbl : Tr AFn} (hp : cN tbl) (ht : tbl.get (key re) = some abk) (n : Nat) : Sound tbl re (tq (pz n)) := by
  refine Sound.of (dK hp (ps := a_plan_shape) (rs := z_plan_shape) (l := []) (ty := vH) (n := n) (c := KN) ht trivial) fun args H k r H' h => ?_
  unfold tq at h
  obtain ⟨a0, l0, e0, h0⟩ := cY h
  subst e0
  obtain ⟨a1, l1, e1, h1⟩ := dT h0
  subst e1
  obtain ⟨e9, h9⟩ := db h1
  subst e9
  exact (alx n a0 a1 H k).trans h9
/-! cofferdam/plan.sliced -/
abbrev kj := AV → Heap → (Bool → Heap → CRes) → CRes
abbrev jC := Bool → Heap → CRes
def rl (g : kj) : Wr := fun l h k => mr l fun a0 l => nC l (g a0 h fun u0 h => k (.bool u0) h)
def fX (ad : bU) (aj : cn) (aw : c9) (aC : dF) (aI : eL) (aF : d8) : eg := ft [(f8, gy ad), (fh, fO aj), (mj, nc aw), (px, rm aC), (tl, vn aI), (re, tq aF)]
abbrev fd (k0 : Q0) (k : jC) : Prop := ∀ u0 h, k0 (.bool u0) h = k u0 h
abbrev Ba : Type := Heap → CRes
abbrev Ij (J : Q1) (j : Ba) : Prop := ∀ h, J ⟨cP [], h⟩ = j h
abbrev sU : Type := AV → Int → Int → Heap → CRes
abbrev Bl (J : Q1) (j : sU) : Prop := ∀ v1 v58 v59 h, J ⟨cP [(p1, v1), (p58, (.int .i64 v58)), (p59, (.int .i64 v59))], h⟩ = j v1 v58 v59 h
abbrev BQ : Type := AV → Int → Int → Bool → Heap → CRes
abbrev IR (J : Q1) (j : BQ) : Prop := ∀ v1 v58 v59 v82 h, J ⟨cP [(p1, v1), (p58, (.int .i64 v58)), (p59, (.int .i64 v59)), (p82, (.bool v82))], h⟩ = j v1 v58 v59 v82 h
abbrev kK : Type := AV → Int → Int → Heap → CRes
abbrev s7 (J : Q1) (j : kK) : Prop := ∀ v1 v58 v59 h, J ⟨cP [(p1, v1), (p58, (.int .i64 v58)), (p59, (.int .i64 v59))], h⟩ = j v1 v58 v59 h
abbrev Bd : Type := AV → Bool → Heap → CRes
abbrev Iw (J : Q1) (j : Bd) : Prop := ∀ v1 v55 h, J ⟨cP [(p1, v1), (p55, (.bool v55))], h⟩ = j v1 v55 h
abbrev BA : Type := AV → Bool → Heap → CRes
abbrev Ih (J : Q1) (j : BA) : Prop := ∀ v1 v34 h, J ⟨cP [(p1, v1), (p34, (.bool v34))], h⟩ = j v1 v34 h
abbrev BK : Type := AV → Bool → Heap → CRes
abbrev HZ (J : Q1) (j : BK) : Prop := ∀ v1 v25 h, J ⟨cP [(p1, v1), (p25, (.bool v25))], h⟩ = j v1 v25 h
abbrev BL : Type := AV → Bool → Heap → CRes
abbrev IJ (J : Q1) (j : BL) : Prop := ∀ v1 v20 h, J ⟨cP [(p1, v1), (p20, (.bool v20))], h⟩ = j v1 v20 h
abbrev Be : Type := AV → Bool → Heap → CRes
abbrev HW (J : Q1) (j : Be) : Prop := ∀ v1 v15 h, J ⟨cP [(p1, v1), (p15, (.bool v15))], h⟩ = j v1 v15 h
section
variable (n : Nat) (ad : bU) (aj : cn) (aw : c9) (aC : dF) (aI : eL) (aF : d8) (k0 : Q0) (k : jC)
def Sm (n : Nat) (ad : bU) (aj : cn) (aw : c9) (aC : dF) (aI : eL) (aF : d8) (k0 : Q0) : Q1 := (bH (fX ad aj aw aC aI aF) eX S6 (cO z_plan_sliced k0))
def Ii (n : Nat) (ad : bU) (aj : cn) (aw : c9) (aC : dF) (aI : eL) (aF : d8) (k : jC) (h : Heap) : CRes :=
 k true h
theorem afx (hk : fd k0 k) : Ij (Sm n ad aj aw aC aI aF k0 ) (Ii n ad aj aw aC aI aF k ) := by
  obtain rfl := fx2 hk
  intro h
  kernel_rfl
def HS : Q1 := Sm n ad aj aw aC aI aF k0
def wL : Ba := Ii n ad aj aw aC aI aF k
theorem afh (hk : fd k0 k) : Ij (HS n ad aj aw aC aI aF k0 ) (wL n ad aj aw aC aI aF k ) := afx n ad aj aw aC aI aF k0 k hk
def SS (n : Nat) (ad : bU) (aj : cn) (aw : c9) (aC : dF) (aI : eL) (aF : d8) (k0 : Q0) (J1 : Q1) : Q1 := (bH (fX ad aj aw aC aI aF) eX S1 (fun s => cS IM s J1))
def Bs (n : Nat) (ad : bU) (aj : cn) (aw : c9) (aC : dF) (aI : eL) (aF : d8) (k : jC) (j1 : kK) (v1 : AV) (v58 : Int) (v59 : Int) (h : Heap) : CRes :=
 mO .i64 v59 1 fun x47 =>
 j1 v1 v58 x47 h
theorem afJ (hk : fd k0 k) (J1 : Q1) (j1 : kK) (h1 : s7 J1 j1) : Bl (SS n ad aj aw aC aI aF k0 J1) (Bs n ad aj aw aC aI aF k j1) := by
  obtain rfl := fx2 hk
  obtain rfl := fx4 h1
  intro v1 v58 v59 h
  kernel_rfl
def vY (J1 : Q1) : Q1 := SS n ad aj aw aC aI aF k0 J1
def ov (j1 : kK) : sU := Bs n ad aj aw aC aI aF k j1
theorem TG (hk : fd k0 k) (J1 : Q1) (j1 : kK) (h1 : s7 J1 j1) : Bl (vY n ad aj aw aC aI aF k0 J1) (ov n ad aj aw aC aI aF k j1) := afJ n ad aj aw aC aI aF k0 k hk J1 j1 h1
def ST (n : Nat) (ad : bU) (aj : cn) (aw : c9) (aC : dF) (aI : eL) (aF : d8) (k0 : Q0) (J2 : Q1) : Q1 := (fun s => eM (.t p82) s (bH (fX ad aj aw aC aI aF) eX Tt (cO z_plan_sliced k0)) (fun s => cS II s J2))
def H9 (n : Nat) (ad : bU) (aj : cn) (aw : c9) (aC : dF) (aI : eL) (aF : d8) (k : jC) (j2 : sU) (v1 : AV) (v58 : Int) (v59 : Int) (v82 : Bool) (h : Heap) : CRes :=
 ifB v82
 (k false h)
 (j2 v1 v58 v59 h)
theorem ae3 (hk : fd k0 k) (J2 : Q1) (j2 : sU) (h2 : Bl J2 j2) : IR (ST n ad aj aw aC aI aF k0 J2) (H9 n ad aj aw aC aI aF k j2) := by
  obtain rfl := fx2 hk
  obtain rfl := fx4 h2
  intro v1 v58 v59 v82 h
  kernel_rfl
def HT (J1 : Q1) : Q1 := ST n ad aj aw aC aI aF k0 (vY n ad aj aw aC aI aF k0 J1)
def vK (j1 : kK) : BQ := H9 n ad aj aw aC aI aF k (ov n ad aj aw aC aI aF k j1)
theorem aeX (hk : fd k0 k) (J1 : Q1) (j1 : kK) (h1 : s7 J1 j1) : IR (HT n ad aj aw aC aI aF k0 J1) (vK n ad aj aw aC aI aF k j1) := ae3 n ad aj aw aC aI aF k0 k hk (vY n ad aj aw aC aI aF k0 J1) (ov n ad aj aw aC aI aF k j1) (TG n ad aj aw aC aI aF k0 k hk J1 j1 h1)
def Ts (n : Nat) (ad : bU) (aj : cn) (aw : c9) (aC : dF) (aI : eL) (aF : d8) (k0 : Q0) (J0 : Q1) (J2 : Q1) (J3 : Q1) : Q1 := (bH (fX ad aj aw aC aI aF) eX Sn (fun s => eM (.t p60) s (bH (fX ad aj aw aC aI aF) eX Tl (bH (fX ad aj aw aC aI aF) eX Sc (fun s => eM (.t p65) s (fun s => cS II s J2) (bH (fX ad aj aw aC aI aF) eX Ss (bH (fX ad aj aw aC aI aF) eX TT (fun s => cS Tu s J3)))))) (fun s => cS Sj s J0)))
def Bk (n : Nat) (ad : bU) (aj : cn) (aw : c9) (aC : dF) (aI : eL) (aF : d8) (k : jC) (j0 : Ba) (j2 : sU) (j3 : BQ) (v1 : AV) (v58 : Int) (v59 : Int) (h : Heap) : CRes :=
 ifB (ltF v59 v58)
 (iZ h v1 17 true fun x34 =>
 aw x34 v59 h fun x35 h36 =>
 ifB (jK (eqF x35 0))
 (j2 v1 v58 v59 h36)
 (fld 6 h36 v1 6 true fun x37 x38 =>
 iZ h36 v1 17 true fun x39 =>
 aF x39 v59 (h36.shut true) fun x40 h41 =>
 aI x38 x40 (h41.back h36.ro) fun x42 x43 h44 =>
 ifB (jK (eqF x43 0))
 (j3 v1 v58 v59 true h44)
 (faK 12 v1 fun x45 =>
 ldI .u64 h44 x45 fun x46 =>
 j3 v1 v58 v59 (ltF x46 x42) h44)))
 (j0 h)
theorem afU (hk : fd k0 k) (J0 : Q1) (j0 : Ba) (h0 : Ij J0 j0) (J2 : Q1) (j2 : sU) (h2 : Bl J2 j2) (J3 : Q1) (j3 : BQ) (h3 : IR J3 j3) : s7 (Ts n ad aj aw aC aI aF k0 J0 J2 J3) (Bk n ad aj aw aC aI aF k j0 j2 j3) := by
  obtain rfl := fx2 hk
  obtain rfl := fx1 h0
  obtain rfl := fx4 h2
  obtain rfl := fx5 h3
  intro v1 v58 v59 h
  kernel_rfl
def qr (m : Nat) : Q1 := Nat.rec (motive := fun _ => Q1) (fun _ => .err) (fun _ ih => Ts n ad aj aw aC aI aF k0 (HS n ad aj aw aC aI aF k0 ) (vY n ad aj aw aC aI aF k0 ih) (HT n ad aj aw aC aI aF k0 ih)) m
def jR (m : Nat) : kK := Nat.rec (motive := fun _ => kK) (fun _ _ _ _ => .err) (fun _ ih => Bk n ad aj aw aC aI aF k (wL n ad aj aw aC aI aF k ) (ov n ad aj aw aC aI aF k ih) (vK n ad aj aw aC aI aF k ih)) m
theorem ae9 (m : Nat) : jR n ad aj aw aC aI aF k (m + 1) = Bk n ad aj aw aC aI aF k (wL n ad aj aw aC aI aF k ) (ov n ad aj aw aC aI aF k (jR n ad aj aw aC aI aF k m)) (vK n ad aj aw aC aI aF k (jR n ad aj aw aC aI aF k m)) := rfl
theorem afo (hk : fd k0 k) (m : Nat) : s7 (qr n ad aj aw aC aI aF k0 m) (jR n ad aj aw aC aI aF k m) := by
  induction m with
  | zero => intro v1 v58 v59 h; rfl
  | succ m ih => exact afU n ad aj aw aC aI aF k0 k hk (HS n ad aj aw aC aI aF k0 ) (wL n ad aj aw aC aI aF k ) (afh n ad aj aw aC aI aF k0 k hk ) (vY n ad aj aw aC aI aF k0 (qr n ad aj aw aC aI aF k0 m)) (ov n ad aj aw aC aI aF k (jR n ad aj aw aC aI aF k m)) (TG n ad aj aw aC aI aF k0 k hk (qr n ad aj aw aC aI aF k0 m) (jR n ad aj aw aC aI aF k m) ih) (HT n ad aj aw aC aI aF k0 (qr n ad aj aw aC aI aF k0 m)) (vK n ad aj aw aC aI aF k (jR n ad aj aw aC aI aF k m)) (aeX n ad aj aw aC aI aF k0 k hk (qr n ad aj aw aC aI aF k0 m) (jR n ad aj aw aC aI aF k m) ih)
def SA (n : Nat) (ad : bU) (aj : cn) (aw : c9) (aC : dF) (aI : eL) (aF : d8) (k0 : Q0) (J1 : Q1) : Q1 := (fun s => eM (.t p55) s (bH (fX ad aj aw aC aI aF) eX Sb (cO z_plan_sliced k0)) (bH (fX ad aj aw aC aI aF) eX SJ (fun s => cS IM s J1)))
def IY (n : Nat) (ad : bU) (aj : cn) (aw : c9) (aC : dF) (aI : eL) (aF : d8) (k : jC) (j1 : kK) (v1 : AV) (v55 : Bool) (h : Heap) : CRes :=
 ifB v55
 (k false h)
 (fld 16 h v1 1 false fun x31 x32 =>
 iP x32 fun x33 =>
 j1 v1 x33 0 h)
theorem afp (hk : fd k0 k) (J1 : Q1) (j1 : kK) (h1 : s7 J1 j1) : Iw (SA n ad aj aw aC aI aF k0 J1) (IY n ad aj aw aC aI aF k j1) := by
  obtain rfl := fx2 hk
  obtain rfl := fx4 h1
  intro v1 v55 h
  kernel_rfl
def Ie : Q1 := SA n ad aj aw aC aI aF k0 (qr n ad aj aw aC aI aF k0 n)
def BE : Bd := IY n ad aj aw aC aI aF k (jR n ad aj aw aC aI aF k n)
theorem aeV (hk : fd k0 k) : Iw (Ie n ad aj aw aC aI aF k0 ) (BE n ad aj aw aC aI aF k ) := afp n ad aj aw aC aI aF k0 k hk (qr n ad aj aw aC aI aF k0 n) (jR n ad aj aw aC aI aF k n) (afo n ad aj aw aC aI aF k0 k hk n)
def So (n : Nat) (ad : bU) (aj : cn) (aw : c9) (aC : dF) (aI : eL) (aF : d8) (k0 : Q0) (J4 : Q1) : Q1 := (fun s => eM (.t p34) s (bH (fX ad aj aw aC aI aF) eX O2 (cO z_plan_sliced k0)) (bH (fX ad aj aw aC aI aF) eX Pk (bH (fX ad aj aw aC aI aF) eX QO (fun s => cS Sq s J4))))
def IB (n : Nat) (ad : bU) (aj : cn) (aw : c9) (aC : dF) (aI : eL) (aF : d8) (k : jC) (j4 : Bd) (v1 : AV) (v34 : Bool) (h : Heap) : CRes :=
 ifB v34
 (k true h)
 (fld 6 h v1 6 true fun x17 x18 =>
 mV .i64 3 h v1 fun x19 x20 =>
 mV .i64 4 h v1 fun x21 x22 =>
 LV .i64 x20 x22 fun x23 =>
 mV .i64 5 h v1 fun x24 x25 =>
 aC x18 x23 x25 h fun x26 x27 h28 =>
 ifB (jK (eqF x27 0))
 (j4 v1 true h28)
 (faK 13 v1 fun x29 =>
 ldI .u64 h28 x29 fun x30 =>
 j4 v1 (ltF x30 x26) h28))
theorem ae5 (hk : fd k0 k) (J4 : Q1) (j4 : Bd) (h4 : Iw J4 j4) : Ih (So n ad aj aw aC aI aF k0 J4) (IB n ad aj aw aC aI aF k j4) := by
  obtain rfl := fx2 hk
  obtain rfl := fx3 h4
  intro v1 v34 h
  kernel_rfl
def Io : Q1 := So n ad aj aw aC aI aF k0 (Ie n ad aj aw aC aI aF k0 )
def BD : BA := IB n ad aj aw aC aI aF k (BE n ad aj aw aC aI aF k )
theorem aeU (hk : fd k0 k) : Ih (Io n ad aj aw aC aI aF k0 ) (BD n ad aj aw aC aI aF k ) := ae5 n ad aj aw aC aI aF k0 k hk (Ie n ad aj aw aC aI aF k0 ) (BE n ad aj aw aC aI aF k ) (aeV n ad aj aw aC aI aF k0 k hk )
def S2 (n : Nat) (ad : bU) (aj : cn) (aw : c9) (aC : dF) (aI : eL) (aF : d8) (k0 : Q0) (J5 : Q1) : Q1 := (fun s => eM (.t p25) s (bH (fX ad aj aw aC aI aF) eX PX (cO z_plan_sliced k0)) (bH (fX ad aj aw aC aI aF) eX Rk (fun s => cS Sz s J5)))
def HL (n : Nat) (ad : bU) (aj : cn) (aw : c9) (aC : dF) (aI : eL) (aF : d8) (k : jC) (j5 : BA) (v1 : AV) (v25 : Bool) (h : Heap) : CRes :=
 ifB v25
 (k false h)
 (iZ h v1 17 true fun x10 =>
 ad x10 h fun x11 h12 =>
 ifB (jK x11)
 (j5 v1 true h12)
 (faK 6 v1 fun x13 =>
 iZ h12 x13 6 true fun x14 =>
 aj x14 h12 fun x15 h16 =>
 j5 v1 (jK (eqF x15 0)) h16))
theorem afk (hk : fd k0 k) (J5 : Q1) (j5 : BA) (h5 : Ih J5 j5) : HZ (S2 n ad aj aw aC aI aF k0 J5) (HL n ad aj aw aC aI aF k j5) := by
  obtain rfl := fx2 hk
  obtain rfl := fx3 h5
  intro v1 v25 h
  kernel_rfl
def IW : Q1 := S2 n ad aj aw aC aI aF k0 (Io n ad aj aw aC aI aF k0 )
def Bp : BK := HL n ad aj aw aC aI aF k (BD n ad aj aw aC aI aF k )
theorem afu (hk : fd k0 k) : HZ (IW n ad aj aw aC aI aF k0 ) (Bp n ad aj aw aC aI aF k ) := afk n ad aj aw aC aI aF k0 k hk (Io n ad aj aw aC aI aF k0 ) (BD n ad aj aw aC aI aF k ) (aeU n ad aj aw aC aI aF k0 k hk )
def TU (n : Nat) (ad : bU) (aj : cn) (aw : c9) (aC : dF) (aI : eL) (aF : d8) (k0 : Q0) (J8 : Q1) : Q1 := (bH (fX ad aj aw aC aI aF) eX P8 (fun s => cS S5 s J8))
def H5 (n : Nat) (ad : bU) (aj : cn) (aw : c9) (aC : dF) (aI : eL) (aF : d8) (k : jC) (j8 : BK) (v1 : AV) (v20 : Bool) (h : Heap) : CRes :=
 ifB v20
 (j8 v1 true h)
 (faK 14 v1 fun x8 =>
 ldI .u64 h x8 fun x9 =>
 j8 v1 (jK (ltF x9 1099511627776)) h)
theorem afA (hk : fd k0 k) (J8 : Q1) (j8 : BK) (h8 : HZ J8 j8) : IJ (TU n ad aj aw aC aI aF k0 J8) (H5 n ad aj aw aC aI aF k j8) := by
  obtain rfl := fx2 hk
  obtain rfl := fx3 h8
  intro v1 v20 h
  kernel_rfl
def Hy : Q1 := TU n ad aj aw aC aI aF k0 (IW n ad aj aw aC aI aF k0 )
def BG : BL := H5 n ad aj aw aC aI aF k (Bp n ad aj aw aC aI aF k )
theorem afj (hk : fd k0 k) : IJ (Hy n ad aj aw aC aI aF k0 ) (BG n ad aj aw aC aI aF k ) := afA n ad aj aw aC aI aF k0 k hk (IW n ad aj aw aC aI aF k0 ) (Bp n ad aj aw aC aI aF k ) (afu n ad aj aw aC aI aF k0 k hk )
def Tj (n : Nat) (ad : bU) (aj : cn) (aw : c9) (aC : dF) (aI : eL) (aF : d8) (k0 : Q0) (J7 : Q1) : Q1 := (bH (fX ad aj aw aC aI aF) eX QC (fun s => cS Tz s J7))
def HB (n : Nat) (ad : bU) (aj : cn) (aw : c9) (aC : dF) (aI : eL) (aF : d8) (k : jC) (j7 : BL) (v1 : AV) (v15 : Bool) (h : Heap) : CRes :=
 ifB v15
 (j7 v1 true h)
 (faK 13 v1 fun x6 =>
 ldI .u64 h x6 fun x7 =>
 j7 v1 (ltF 4194304 x7) h)
theorem afY (hk : fd k0 k) (J7 : Q1) (j7 : BL) (h7 : IJ J7 j7) : HW (Tj n ad aj aw aC aI aF k0 J7) (HB n ad aj aw aC aI aF k j7) := by
  obtain rfl := fx2 hk
  obtain rfl := fx3 h7
  intro v1 v15 h
  kernel_rfl
def Hz : Q1 := Tj n ad aj aw aC aI aF k0 (Hy n ad aj aw aC aI aF k0 )
def Bb : Be := HB n ad aj aw aC aI aF k (BG n ad aj aw aC aI aF k )
theorem afe (hk : fd k0 k) : HW (Hz n ad aj aw aC aI aF k0 ) (Bb n ad aj aw aC aI aF k ) := afY n ad aj aw aC aI aF k0 k hk (Hy n ad aj aw aC aI aF k0 ) (BG n ad aj aw aC aI aF k ) (afj n ad aj aw aC aI aF k0 k hk )
def X6 (n : Nat) (ad : bU) (aj : cn) (aw : c9) (aC : dF) (aI : eL) (aF : d8) (k0 : Q0) (J6 : Q1) : Q1 := (bH (fX ad aj aw aC aI aF) eX PW (bH (fX ad aj aw aC aI aF) eX Pe (fun s => cS Sg s J6)))
def Oj (n : Nat) (ad : bU) (aj : cn) (aw : c9) (aC : dF) (aI : eL) (aF : d8) (k : jC) (j6 : Be) (a0 : AV) (h : Heap) : CRes :=
 Co h a0 fun x0 h1 =>
 mV .u64 12 h1 (.ptr x0 0) fun x2 x3 =>
 ifB (ltF x3 1)
 (j6 (.ptr x0 0) true h1)
 (faK 12 (.ptr x0 0) fun x4 =>
 ldI .u64 h1 x4 fun x5 =>
 j6 (.ptr x0 0) (ltF 4194304 x5) h1)
theorem aiV (n : Nat) (ad : bU) (aj : cn) (aw : c9) (aC : dF) (aI : eL) (aF : d8) (k0 : Q0) (k : jC) (hk : fd k0 k) (J6 : Q1) (j6 : Be) (h6 : HW J6 j6) (a0 : AV) (h : Heap) : (X6 n ad aj aw aC aI aF k0 J6) ⟨cP [(p0, a0)], h⟩ = (Oj n ad aj aw aC aI aF k j6) a0 h := by
  obtain rfl := fx2 hk
  obtain rfl := fx3 h6
  kernel_rfl
def aiw : Q1 := X6 n ad aj aw aC aI aF k0 (Hz n ad aj aw aC aI aF k0 )
def OA (n : Nat) (ad : bU) (aj : cn) (aw : c9) (aC : dF) (aI : eL) (aF : d8) (a0 : AV) (h : Heap) (k : jC) : CRes := Oj n ad aj aw aC aI aF k (Bb n ad aj aw aC aI aF k ) a0 h
theorem aiY (n : Nat) (ad : bU) (aj : cn) (aw : c9) (aC : dF) (aI : eL) (aF : d8) (k0 : Q0) (s : St) : D (ft [(f8, gy ad), (fh, fO aj), (mj, nc aw), (px, rm aC), (tl, vn aI), (re, tq aF)]) eX n GA (cO z_plan_sliced k0) (fun _ _ => .err) (cO z_plan_sliced k0) s = aiw n ad aj aw aC aI aF k0 s := by kernel_rfl
theorem ajj (n : Nat) (ad : bU) (aj : cn) (aw : c9) (aC : dF) (aI : eL) (aF : d8) (a0 : AV) (h : Heap) (k0 : Q0) : W a_plan_sliced z_plan_sliced [(f8, gy ad), (fh, fO aj), (mj, nc aw), (px, rm aC), (tl, vn aI), (re, tq aF)] eX n GA [a0] h k0 = OA n ad aj aw aC aI aF a0 h (fun u0 h => k0 (.bool u0) h) := by
  let k : jC := fun u0 h => k0 (.bool u0) h
  have hk : fd k0 k := fun _ _ => rfl
  have hb : ∀ F : Tr AV → CRes, iS a_plan_sliced [a0] .leaf F = F (cP [(p0, a0)]) := fun F => by kernel_rfl
  exact (nD hb).trans ((aiY n ad aj aw aC aI aF k0 _).trans (aiV n ad aj aw aC aI aF k0 k hk (Hz n ad aj aw aC aI aF k0 ) (Bb n ad aj aw aC aI aF k ) (afe n ad aj aw aC aI aF k0 k hk ) a0 h))
end
def nG (n : Nat) : kj := OA n (eK n) (eO n) (kY n) (nJ n) (rn n) (pz n)
theorem aiu {tbl : Tr AFn} (hp : cN tbl) (ht : tbl.get (key pF) = some YC) (n : Nat) (vJ : Sound tbl f8 (gy (eK n))) (tT : Sound tbl fh (fO (eO n))) (R6 : Sound tbl mj (nc (kY n))) (ahW : Sound tbl px (rm (nJ n))) (amg : Sound tbl tl (vn (rn n))) (ajo : Sound tbl re (tq (pz n))) : Sound tbl pF (rl (nG n)) := by
  refine Sound.of (dK hp (ps := a_plan_sliced) (rs := z_plan_sliced) (l := [(f8, gy (eK n)), (fh, fO (eO n)), (mj, nc (kY n)), (px, rm (nJ n)), (tl, vn (rn n)), (re, tq (pz n))]) (ty := eX) (n := n) (c := GA) ht ⟨vJ, tT, R6, ahW, amg, ajo, trivial⟩) fun args H k r H' h => ?_
  unfold rl at h
  obtain ⟨a0, l0, e0, h0⟩ := cY h
  subst e0
  obtain ⟨e9, h9⟩ := db h0
  subst e9
  exact (ajj n (eK n) (eO n) (kY n) (nJ n) (rn n) (pz n) a0 H k).trans h9
/-! cofferdam/plan.turned$1 -/
abbrev gY := Int → AV → Heap → (Bool → Heap → CRes) → CRes
abbrev rx := Bool → Heap → CRes
def nd (g : gY) : Wr := fun l h k => qA .i64 l fun a0 l => mr l fun a1 l => nC l (g a0 a1 h fun u0 h => k (.bool u0) h)
def Nx (ae : bG) : eg := ft [(dm, dE ae)]
abbrev N7 (k0 : Q0) (k : rx) : Prop := ∀ u0 h, k0 (.bool u0) h = k u0 h
section
variable (n : Nat) (ae : bG) (k0 : Q0) (k : rx)
def Qo (n : Nat) (ae : bG) (k0 : Q0) : Q1 := (bH (Nx ae) vc L9 (bH (Nx ae) vc MG (cO z_plan_turned_f1 k0)))
def Fo (n : Nat) (ae : bG) (k : rx) (a0 : Int) (a1 : AV) (h : Heap) : CRes :=
 fld 16 h a1 1 false fun x0 x1 =>
 iP x1 fun x2 =>
 W5 .i64 x2 1 fun x3 =>
 ae a0 0 x3 h fun x4 h5 =>
 k (jK x4) h5
theorem adq (n : Nat) (ae : bG) (k0 : Q0) (k : rx) (hk : N7 k0 k) (a0 : Int) (a1 : AV) (h : Heap) : (Qo n ae k0 ) ⟨cP [(p0, (.int .i64 a0)), (p1, a1)], h⟩ = (Fo n ae k ) a0 a1 h := by
  obtain rfl := fx2 hk
  kernel_rfl
def adU : Q1 := Qo n ae k0
def Fz (n : Nat) (ae : bG) (a0 : Int) (a1 : AV) (h : Heap) (k : rx) : CRes := Fo n ae k a0 a1 h
theorem ac2 (n : Nat) (ae : bG) (k0 : Q0) (s : St) : D (ft [(dm, dE ae)]) vc n y8 (cO z_plan_turned_f1 k0) (fun _ _ => .err) (cO z_plan_turned_f1 k0) s = adU n ae k0 s := by kernel_rfl
theorem ace (n : Nat) (ae : bG) (a0 : Int) (a1 : AV) (h : Heap) (k0 : Q0) : W a_plan_turned_f1 z_plan_turned_f1 [(dm, dE ae)] vc n y8 [(.int .i64 a0), a1] h k0 = Fz n ae a0 a1 h (fun u0 h => k0 (.bool u0) h) := by
  let k : rx := fun u0 h => k0 (.bool u0) h
  have hk : N7 k0 k := fun _ _ => rfl
  have hb : ∀ F : Tr AV → CRes, iS a_plan_turned_f1 [(.int .i64 a0), a1] .leaf F = F (cP [(p0, (.int .i64 a0)), (p1, a1)]) := fun F => by kernel_rfl
  exact (nD hb).trans ((ac2 n ae k0 _).trans (adq n ae k0 k hk a0 a1 h))
end
def jS (n : Nat) : gY := Fz n (dX n)
theorem acp {tbl : Tr AFn} (hp : cN tbl) (ht : tbl.get (key jX) = some Pu) (n : Nat) (oc : Sound tbl dm (dE (dX n))) : Sound tbl jX (nd (jS n)) := by
  refine Sound.of (dK hp (ps := a_plan_turned_f1) (rs := z_plan_turned_f1) (l := [(dm, dE (dX n))]) (ty := vc) (n := n) (c := y8) ht ⟨oc, trivial⟩) fun args H k r H' h => ?_
  unfold nd at h
  obtain ⟨a0, l0, e0, h0⟩ := dT h
  subst e0
  obtain ⟨a1, l1, e1, h1⟩ := cY h0
  subst e1
  obtain ⟨e9, h9⟩ := db h1
  subst e9
  exact (ace n (dX n) a0 a1 H k).trans h9
abbrev dY := AV → AV → Heap → (Int → Heap → CRes) → CRes
abbrev fy := Int → Heap → CRes
def fA (g : dY) : Wr := fun l h k => mr l fun a0 l => mr l fun a1 l => nC l (g a0 a1 h fun u0 h => k (.int .i64 u0) h)
def dJ (bI : gY) : eg := ft [(jX, nd bI)]
abbrev iG (k0 : Q0) (k : fy) : Prop := ∀ u0 h, k0 (.int .i64 u0) h = k u0 h
abbrev lK : Type := Heap → CRes
abbrev oG (J : Q1) (j : lK) : Prop := ∀ h, J ⟨cP [], h⟩ = j h
abbrev gt : Type := AV → AV → Int → Int → Heap → CRes
abbrev lJ (J : Q1) (j : gt) : Prop := ∀ v0 v1 v7 v8 h, J ⟨cP [(p0, v0), (p1, v1), (p7, (.int .i64 v7)), (p8, (.int .i64 v8))], h⟩ = j v0 v1 v7 v8 h
section
variable (n : Nat) (bI : gY) (k0 : Q0) (k : fy)
def uh (n : Nat) (bI : gY) (k0 : Q0) : Q1 := (bH (dJ bI) dq ua (cO z_slices_IndexFunc___int_int_ k0))
def oH (n : Nat) (bI : gY) (k : fy) (h : Heap) : CRes :=
 k (-1) h
theorem D4 (hk : iG k0 k) : oG (uh n bI k0 ) (oH n bI k ) := by
  obtain rfl := fx2 hk
  intro h
  kernel_rfl
def oB : Q1 := uh n bI k0
def jJ : lK := oH n bI k
theorem DV (hk : iG k0 k) : oG (oB n bI k0 ) (jJ n bI k ) := D4 n bI k0 k hk
def ub (n : Nat) (bI : gY) (k0 : Q0) (J0 : Q1) (J1 : Q1) : Q1 := (bH (dJ bI) dq ui (fun s => eM (.t p9) s (bH (dJ bI) dq uj (bH (dJ bI) dq ue (fun s => eM (.t p16) s (bH (dJ bI) dq uc (cO z_slices_IndexFunc___int_int_ k0)) (bH (dJ bI) dq uk (fun s => cS oE s J1))))) (fun s => cS ul s J0)))
def lH (n : Nat) (bI : gY) (k : fy) (j0 : lK) (j1 : gt) (v0 : AV) (v1 : AV) (v7 : Int) (v8 : Int) (h : Heap) : CRes :=
 ifB (ltF v8 v7)
 (DW .i64 1 h v0 v8 fun x1 x2 =>
 dJ bI v1 [(.int .i64 x2)] h fun x3 h4 =>
 I6 x3 fun x5 =>
 ifB x5
 (k v8 h4)
 (mO .i64 v8 1 fun x6 =>
 j1 v0 v1 v7 x6 h4))
 (j0 h)
theorem DU (hk : iG k0 k) (J0 : Q1) (j0 : lK) (h0 : oG J0 j0) (J1 : Q1) (j1 : gt) (h1 : lJ J1 j1) : lJ (ub n bI k0 J0 J1) (lH n bI k j0 j1) := by
  obtain rfl := fx2 hk
  obtain rfl := fx1 h0
  obtain rfl := fx5 h1
  intro v0 v1 v7 v8 h
  kernel_rfl
def lI (m : Nat) : Q1 := Nat.rec (motive := fun _ => Q1) (fun _ => .err) (fun _ ih => ub n bI k0 (oB n bI k0 ) ih) m
def gr (m : Nat) : gt := Nat.rec (motive := fun _ => gt) (fun _ _ _ _ _ => .err) (fun _ ih => lH n bI k (jJ n bI k ) ih) m
theorem DX (m : Nat) : gr n bI k (m + 1) = lH n bI k (jJ n bI k ) (gr n bI k m) := rfl
theorem DY (hk : iG k0 k) (m : Nat) : lJ (lI n bI k0 m) (gr n bI k m) := by
  induction m with
  | zero => intro v0 v1 v7 v8 h; rfl
  | succ m ih => exact DU n bI k0 k hk (oB n bI k0 ) (jJ n bI k ) (DV n bI k0 k hk ) (lI n bI k0 m) (gr n bI k m) ih
def vf (n : Nat) (bI : gY) (k0 : Q0) (J1 : Q1) : Q1 := (bH (dJ bI) dq ud (bH (dJ bI) dq uf (fun s => cS oE s J1)))
def pI (n : Nat) (bI : gY) (k : fy) (j1 : gt) (a0 : AV) (a1 : AV) (h : Heap) : CRes :=
 iP a0 fun x0 =>
 j1 a0 a1 x0 0 h
theorem GR (n : Nat) (bI : gY) (k0 : Q0) (k : fy) (hk : iG k0 k) (J1 : Q1) (j1 : gt) (h1 : lJ J1 j1) (a0 : AV) (a1 : AV) (h : Heap) : (vf n bI k0 J1) ⟨cP [(p0, a0), (p1, a1)], h⟩ = (pI n bI k j1) a0 a1 h := by
  obtain rfl := fx2 hk
  obtain rfl := fx5 h1
  kernel_rfl
def He : Q1 := vf n bI k0 (lI n bI k0 n)
def pN (n : Nat) (bI : gY) (a0 : AV) (a1 : AV) (h : Heap) (k : fy) : CRes := pI n bI k (gr n bI k n) a0 a1 h
theorem GH (n : Nat) (bI : gY) (k0 : Q0) (s : St) : D (ft [(jX, nd bI)]) dq n mh (cO z_slices_IndexFunc___int_int_ k0) (fun _ _ => .err) (cO z_slices_IndexFunc___int_int_ k0) s = He n bI k0 s := by kernel_rfl
theorem Hg (n : Nat) (bI : gY) (a0 : AV) (a1 : AV) (h : Heap) (k0 : Q0) : W a_slices_IndexFunc___int_int_ z_slices_IndexFunc___int_int_ [(jX, nd bI)] dq n mh [a0, a1] h k0 = pN n bI a0 a1 h (fun u0 h => k0 (.int .i64 u0) h) := by
  let k : fy := fun u0 h => k0 (.int .i64 u0) h
  have hk : iG k0 k := fun _ _ => rfl
  have hb : ∀ F : Tr AV → CRes, iS a_slices_IndexFunc___int_int_ [a0, a1] .leaf F = F (cP [(p0, a0), (p1, a1)]) := fun F => by kernel_rfl
  exact (nD hb).trans ((GH n bI k0 _).trans (GR n bI k0 k hk (lI n bI k0 n) (gr n bI k n) (DY n bI k0 k hk n) a0 a1 h))
end
def gV (n : Nat) : dY := pN n (jS n)
theorem Ho {tbl : Tr AFn} (hp : cN tbl) (ht : tbl.get (key eH) = some vp) (n : Nat) (abB : Sound tbl jX (nd (jS n))) : Sound tbl eH (fA (gV n)) := by
  refine Sound.of (dK hp (ps := a_slices_IndexFunc___int_int_) (rs := z_slices_IndexFunc___int_int_) (l := [(jX, nd (jS n))]) (ty := dq) (n := n) (c := mh) ht ⟨abB, trivial⟩) fun args H k r H' h => ?_
  unfold fA at h
  obtain ⟨a0, l0, e0, h0⟩ := cY h
  subst e0
  obtain ⟨a1, l1, e1, h1⟩ := cY h0
  subst e1
  obtain ⟨e9, h9⟩ := db h1
  subst e9
  exact (Hg n (jS n) a0 a1 H k).trans h9
abbrev cZ := AV → AV → Heap → (Bool → Heap → CRes) → CRes
abbrev hO := Bool → Heap → CRes
def eC (g : cZ) : Wr := fun l h k => mr l fun a0 l => mr l fun a1 l => nC l (g a0 a1 h fun u0 h => k (.bool u0) h)
def sG (cB : dY) : eg := ft [(eH, fA cB)]
abbrev sH (k0 : Q0) (k : hO) : Prop := ∀ u0 h, k0 (.bool u0) h = k u0 h
section
variable (n : Nat) (cB : dY) (k0 : Q0) (k : hO)
def tG (n : Nat) (cB : dY) (k0 : Q0) : Q1 := (bH (sG cB) jj rT (bH (sG cB) jj rM (cO z_slices_ContainsFunc___int_int_ k0)))
def nP (n : Nat) (cB : dY) (k : hO) (a0 : AV) (a1 : AV) (h : Heap) : CRes :=
 cB a0 a1 h fun x0 h1 =>
 k (jK (ltF x0 0)) h1
theorem Dk (n : Nat) (cB : dY) (k0 : Q0) (k : hO) (hk : sH k0 k) (a0 : AV) (a1 : AV) (h : Heap) : (tG n cB k0 ) ⟨cP [(p0, a0), (p1, a1)], h⟩ = (nP n cB k ) a0 a1 h := by
  obtain rfl := fx2 hk
  kernel_rfl
def Db : Q1 := tG n cB k0
def nZ (n : Nat) (cB : dY) (a0 : AV) (a1 : AV) (h : Heap) (k : hO) : CRes := nP n cB k a0 a1 h
theorem Cr (n : Nat) (cB : dY) (k0 : Q0) (s : St) : D (ft [(eH, fA cB)]) jj n lr (cO z_slices_ContainsFunc___int_int_ k0) (fun _ _ => .err) (cO z_slices_ContainsFunc___int_int_ k0) s = Db n cB k0 s := by kernel_rfl
theorem Du (n : Nat) (cB : dY) (a0 : AV) (a1 : AV) (h : Heap) (k0 : Q0) : W a_slices_ContainsFunc___int_int_ z_slices_ContainsFunc___int_int_ [(eH, fA cB)] jj n lr [a0, a1] h k0 = nZ n cB a0 a1 h (fun u0 h => k0 (.bool u0) h) := by
  let k : hO := fun u0 h => k0 (.bool u0) h
  have hk : sH k0 k := fun _ _ => rfl
  have hb : ∀ F : Tr AV → CRes, iS a_slices_ContainsFunc___int_int_ [a0, a1] .leaf F = F (cP [(p0, a0), (p1, a1)]) := fun F => by kernel_rfl
  exact (nD hb).trans ((Cr n cB k0 _).trans (Dk n cB k0 k hk a0 a1 h))
end
def fM (n : Nat) : cZ := nZ n (gV n)
theorem CD {tbl : Tr AFn} (hp : cN tbl) (ht : tbl.get (key dM) = some tK) (n : Nat) (Gb : Sound tbl eH (fA (gV n))) : Sound tbl dM (eC (fM n)) := by
  refine Sound.of (dK hp (ps := a_slices_ContainsFunc___int_int_) (rs := z_slices_ContainsFunc___int_int_) (l := [(eH, fA (gV n))]) (ty := jj) (n := n) (c := lr) ht ⟨Gb, trivial⟩) fun args H k r H' h => ?_
  unfold eC at h
  obtain ⟨a0, l0, e0, h0⟩ := cY h
  subst e0
  obtain ⟨a1, l1, e1, h1⟩ := cY h0
  subst e1
  obtain ⟨e9, h9⟩ := db h1
  subst e9
  exact (Du n (gV n) a0 a1 H k).trans h9
/-! cofferdam/plan.turned -/
abbrev ki := AV → Heap → (Bool → Heap → CRes) → CRes
abbrev tU := Bool → Heap → CRes
def rv (g : ki) : Wr := fun l h k => mr l fun a0 l => nC l (g a0 h fun u0 h => k (.bool u0) h)
def LN (ae : bG) (bf : cZ) : eg := ft [(dm, dE ae), (dM, eC bf)]
abbrev CT (k0 : Q0) (k : tU) : Prop := ∀ u0 h, k0 (.bool u0) h = k u0 h
abbrev Bh : Type := Bool → Heap → CRes
abbrev Iy (J : Q1) (j : Bh) : Prop := ∀ v13 h, J ⟨cP [(p13, (.bool v13))], h⟩ = j v13 h
section
variable (n : Nat) (ae : bG) (bf : cZ) (k0 : Q0) (k : tU)
def SH (n : Nat) (ae : bG) (bf : cZ) (k0 : Q0) : Q1 := (bH (LN ae bf) wP TW (cO z_plan_turned k0))
def IC (n : Nat) (ae : bG) (bf : cZ) (k : tU) (v13 : Bool) (h : Heap) : CRes :=
 k v13 h
theorem ae2 (hk : CT k0 k) : Iy (SH n ae bf k0 ) (IC n ae bf k ) := by
  obtain rfl := fx2 hk
  intro v13 h
  kernel_rfl
def HP : Q1 := SH n ae bf k0
def BM : Bh := IC n ae bf k
theorem afX (hk : CT k0 k) : Iy (HP n ae bf k0 ) (BM n ae bf k ) := ae2 n ae bf k0 k hk
def Yr (n : Nat) (ae : bG) (bf : cZ) (k0 : Q0) (J0 : Q1) : Q1 := (bH (LN ae bf) wP SO (bH (LN ae bf) wP Tw (fun s => cS TR s J0)))
def Oo (n : Nat) (ae : bG) (bf : cZ) (k : tU) (j0 : Bh) (a0 : AV) (h : Heap) : CRes :=
 Co h a0 fun x0 h1 =>
 fld 15 h1 (.ptr x0 0) 1 false fun x2 x3 =>
 iP x3 fun x4 =>
 ae x4 1 64 h1 fun x5 h6 =>
 ifB x5
 (faK 15 (.ptr x0 0) fun x7 =>
 iZ h6 x7 1 false fun x8 =>
 bf x8 (.func 59 [] [(.ptr x0 0)]) h6 fun x9 h10 =>
 j0 (jK x9) h10)
 (j0 false h6)
theorem aiH (n : Nat) (ae : bG) (bf : cZ) (k0 : Q0) (k : tU) (hk : CT k0 k) (J0 : Q1) (j0 : Bh) (h0 : Iy J0 j0) (a0 : AV) (h : Heap) : (Yr n ae bf k0 J0) ⟨cP [(p0, a0)], h⟩ = (Oo n ae bf k j0) a0 h := by
  obtain rfl := fx2 hk
  obtain rfl := fx2 h0
  kernel_rfl
def ai2 : Q1 := Yr n ae bf k0 (HP n ae bf k0 )
def OQ (n : Nat) (ae : bG) (bf : cZ) (a0 : AV) (h : Heap) (k : tU) : CRes := Oo n ae bf k (BM n ae bf k ) a0 h
theorem ajv (n : Nat) (ae : bG) (bf : cZ) (k0 : Q0) (s : St) : D (ft [(dm, dE ae), (dM, eC bf)]) wP n Gp (cO z_plan_turned k0) (fun _ _ => .err) (cO z_plan_turned k0) s = ai2 n ae bf k0 s := by kernel_rfl
theorem ait (n : Nat) (ae : bG) (bf : cZ) (a0 : AV) (h : Heap) (k0 : Q0) : W a_plan_turned z_plan_turned [(dm, dE ae), (dM, eC bf)] wP n Gp [a0] h k0 = OQ n ae bf a0 h (fun u0 h => k0 (.bool u0) h) := by
  let k : tU := fun u0 h => k0 (.bool u0) h
  have hk : CT k0 k := fun _ _ => rfl
  have hb : ∀ F : Tr AV → CRes, iS a_plan_turned [a0] .leaf F = F (cP [(p0, a0)]) := fun F => by kernel_rfl
  exact (nD hb).trans ((ajv n ae bf k0 _).trans (aiH n ae bf k0 k hk (HP n ae bf k0 ) (BM n ae bf k ) (afX n ae bf k0 k hk ) a0 h))
end
def nH (n : Nat) : ki := OQ n (dX n) (fM n)
theorem ajB {tbl : Tr AFn} (hp : cN tbl) (ht : tbl.get (key pt) = some YG) (n : Nat) (oc : Sound tbl dm (dE (dX n))) (Cm : Sound tbl dM (eC (fM n))) : Sound tbl pt (rv (nH n)) := by
  refine Sound.of (dK hp (ps := a_plan_turned) (rs := z_plan_turned) (l := [(dm, dE (dX n)), (dM, eC (fM n))]) (ty := wP) (n := n) (c := Gp) ht ⟨oc, Cm, trivial⟩) fun args H k r H' h => ?_
  unfold rv at h
  obtain ⟨a0, l0, e0, h0⟩ := cY h
  subst e0
  obtain ⟨e9, h9⟩ := db h0
  subst e9
  exact (ait n (dX n) (fM n) a0 H k).trans h9
end
end Go.Proofs.Ytnlbfbiogfilfaa.Sh
