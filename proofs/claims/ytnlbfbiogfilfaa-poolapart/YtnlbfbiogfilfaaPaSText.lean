/- The program's functions in continuation style: printed by a program, held against their code by the kernel. -/
import Derived.Test.YtnlbfbiogfilfaaPaSCode
import Derived.Test.YtnlbfbiogfilfaaAiXPaSPrims
import Derived.KernelRfl
set_option linter.all false
namespace Go.Proofs.Ytnlbfbiogfilfaa.Sh
open Go.Ai
set_option maxRecDepth 100000
noncomputable section
/-! cofferdam/plan.Check$1 -/
abbrev iv := Bool → Int → Int → AV → Heap → (Heap → CRes) → CRes
abbrev rG := Heap → CRes
def nF (g : iv) : Wr := fun l h k => aBool l fun a0 l => pZ .i64 l fun a1 l => pZ .i64 l fun a2 l => mm l fun a3 l => mP l (g a0 a1 a2 a3 h fun h => k (.tuple []) h)
def M0 : d7 := fq []
abbrev MC (k0 : Q0) (k : rG) : Prop := ∀ h, k0 (.tuple []) h = k h
section
variable (n : Nat) (k0 : Q0) (k : rG)
def Pz (n : Nat) (k0 : Q0) : Q1 := (bH (M0 ) ux LB (fun s => fg (.t p8) s (bH (M0 ) ux K9 (cH z_plan_Check_f1 k0)) (cH z_plan_Check_f1 k0)))
def G5 (n : Nat) (k : rG) (a0 : Bool) (a1 : Int) (a2 : Int) (a3 : AV) (h : Heap) : CRes :=
 ifB (jR a0)
 (iI h a3 1 false fun x0 =>
 z8 [(.int .i64 0), (.int .i64 0)] [(0, 1, (.int .i64 a1)), (1, 1, (.int .i64 a2))] fun x1 =>
 qQ h 1 [(.int .i64 0), (.int .i64 0)] [(0, 2, x1)] fun x2 h3 =>
 re h3 2 x0 x2 fun x4 h5 =>
 mT h5 a3 1 x4 fun h6 =>
 k h6)
 (k h)
theorem aca (n : Nat) (k0 : Q0) (k : rG) (hk : MC k0 k) (a0 : Bool) (a1 : Int) (a2 : Int) (a3 : AV) (h : Heap) : (Pz n k0 ) ⟨cJ [(p0, (.bool a0)), (p1, (.int .i64 a1)), (p2, (.int .i64 a2)), (p3, a3)], h⟩ = (G5 n k ) a0 a1 a2 a3 h := by
  obtain rfl := fx1 hk
  kernel_rfl
def acZ : Q1 := Pz n k0
def Gz (n : Nat) (a0 : Bool) (a1 : Int) (a2 : Int) (a3 : AV) (h : Heap) (k : rG) : CRes := G5 n k a0 a1 a2 a3 h
theorem ada (n : Nat) (k0 : Q0) (s : St) : D (fq []) ux n zL (cH z_plan_Check_f1 k0) (fun _ _ => .err) (cH z_plan_Check_f1 k0) s = acZ n k0 s := by kernel_rfl
theorem acK (n : Nat) (a0 : Bool) (a1 : Int) (a2 : Int) (a3 : AV) (h : Heap) (k0 : Q0) : W a_plan_Check_f1 z_plan_Check_f1 [] ux n zL [(.bool a0), (.int .i64 a1), (.int .i64 a2), a3] h k0 = Gz n a0 a1 a2 a3 h (fun h => k0 (.tuple []) h) := by
  let k : rG := fun h => k0 (.tuple []) h
  have hk : MC k0 k := fun _ => rfl
  have hb : ∀ F : Tr AV → CRes, iz a_plan_Check_f1 [(.bool a0), (.int .i64 a1), (.int .i64 a2), a3] .leaf F = F (cJ [(p0, (.bool a0)), (p1, (.int .i64 a1)), (p2, (.int .i64 a2)), (p3, a3)]) := fun F => by kernel_rfl
  exact (ny hb).trans ((ada n k0 _).trans (aca n k0 k hk a0 a1 a2 a3 h))
end
def jW (n : Nat) : iv := Gz n
theorem ac8 {tbl : Tr AFn} (hp : cF tbl) (ht : tbl.get (key kd) = some PM) (n : Nat) : Sound tbl kd (nF (jW n)) := by
  refine Sound.of (dN hp (ps := a_plan_Check_f1) (rs := z_plan_Check_f1) (l := []) (ty := ux) (n := n) (c := zL) ht trivial) fun args H k r H' h => ?_
  unfold nF at h
  obtain ⟨a0, l0, e0, h0⟩ := amz h
  subst e0
  obtain ⟨a1, l1, e1, h1⟩ := dQ h0
  subst e1
  obtain ⟨a2, l2, e2, h2⟩ := dQ h1
  subst e2
  obtain ⟨a3, l3, e3, h3⟩ := cT h2
  subst e3
  obtain ⟨e9, h9⟩ := cY h3
  subst e9
  exact (acK n a0 a1 a2 a3 H k).trans h9
/-! cofferdam/plan.within -/
abbrev bD := Int → Int → Int → Heap → (Bool → Heap → CRes) → CRes
abbrev sA := Bool → Heap → CRes
def dw (g : bD) : Wr := fun l h k => pZ .i64 l fun a0 l => pZ .i64 l fun a1 l => pZ .i64 l fun a2 l => mP l (g a0 a1 a2 h fun u0 h => k (.bool u0) h)
def Iu : d7 := fq []
abbrev AI (k0 : Q0) (k : sA) : Prop := ∀ u0 h, k0 (.bool u0) h = k u0 h
abbrev zx : Type := Bool → Heap → CRes
abbrev FA (J : Q1) (j : zx) : Prop := ∀ v14 h, J ⟨cJ [(p14, (.bool v14))], h⟩ = j v14 h
section
variable (n : Nat) (k0 : Q0) (k : sA)
def Rd (n : Nat) (k0 : Q0) : Q1 := (bH (Iu ) vv Q5 (cH z_plan_within k0))
def GW (n : Nat) (k : sA) (v14 : Bool) (h : Heap) : CRes :=
 k v14 h
theorem acy (hk : AI k0 k) : FA (Rd n k0 ) (GW n k ) := by
  obtain rfl := fx2 hk
  intro v14 h
  kernel_rfl
def Gs : Q1 := Rd n k0
def zb : zx := GW n k
theorem acn (hk : AI k0 k) : FA (Gs n k0 ) (zb n k ) := acy n k0 k hk
def VD (n : Nat) (k0 : Q0) (J0 : Q1) : Q1 := (bH (Iu ) vv QK (bH (Iu ) vv Rj (fun s => cQ Ra s J0)))
def L9 (n : Nat) (k : sA) (j0 : zx) (a0 : Int) (a1 : Int) (a2 : Int) (h : Heap) : CRes :=
 ifB (jR (ltF a0 a1))
 (j0 (jR (ltF a2 a0)) h)
 (j0 false h)
theorem agB (n : Nat) (k0 : Q0) (k : sA) (hk : AI k0 k) (J0 : Q1) (j0 : zx) (h0 : FA J0 j0) (a0 : Int) (a1 : Int) (a2 : Int) (h : Heap) : (VD n k0 J0) ⟨cJ [(p0, (.int .i64 a0)), (p1, (.int .i64 a1)), (p2, (.int .i64 a2))], h⟩ = (L9 n k j0) a0 a1 a2 h := by
  obtain rfl := fx2 hk
  obtain rfl := fx2 h0
  kernel_rfl
def af5 : Q1 := VD n k0 (Gs n k0 )
def Mf (n : Nat) (a0 : Int) (a1 : Int) (a2 : Int) (h : Heap) (k : sA) : CRes := L9 n k (zb n k ) a0 a1 a2 h
theorem ago (n : Nat) (k0 : Q0) (s : St) : D (fq []) vv n EB (cH z_plan_within k0) (fun _ _ => .err) (cH z_plan_within k0) s = af5 n k0 s := by kernel_rfl
theorem agE (n : Nat) (a0 : Int) (a1 : Int) (a2 : Int) (h : Heap) (k0 : Q0) : W a_plan_within z_plan_within [] vv n EB [(.int .i64 a0), (.int .i64 a1), (.int .i64 a2)] h k0 = Mf n a0 a1 a2 h (fun u0 h => k0 (.bool u0) h) := by
  let k : sA := fun u0 h => k0 (.bool u0) h
  have hk : AI k0 k := fun _ _ => rfl
  have hb : ∀ F : Tr AV → CRes, iz a_plan_within [(.int .i64 a0), (.int .i64 a1), (.int .i64 a2)] .leaf F = F (cJ [(p0, (.int .i64 a0)), (p1, (.int .i64 a1)), (p2, (.int .i64 a2))]) := fun F => by kernel_rfl
  exact (ny hb).trans ((ago n k0 _).trans (agB n k0 k hk (Gs n k0 ) (zb n k ) (acn n k0 k hk ) a0 a1 a2 h))
end
def dI (n : Nat) : bD := Mf n
theorem agS {tbl : Tr AFn} (hp : cF tbl) (ht : tbl.get (key dg) = some VQ) (n : Nat) : Sound tbl dg (dw (dI n)) := by
  refine Sound.of (dN hp (ps := a_plan_within) (rs := z_plan_within) (l := []) (ty := vv) (n := n) (c := EB) ht trivial) fun args H k r H' h => ?_
  unfold dw at h
  obtain ⟨a0, l0, e0, h0⟩ := dQ h
  subst e0
  obtain ⟨a1, l1, e1, h1⟩ := dQ h0
  subst e1
  obtain ⟨a2, l2, e2, h2⟩ := dQ h1
  subst e2
  obtain ⟨e9, h9⟩ := cY h2
  subst e9
  exact (agE n a0 a1 a2 H k).trans h9
/-! cofferdam/plan.power -/
abbrev eO := Int → Int → Heap → (Bool → Heap → CRes) → CRes
abbrev ue := Bool → Heap → CRes
def rU (g : eO) : Wr := fun l h k => pZ .i64 l fun a0 l => pZ .i64 l fun a1 l => mP l (g a0 a1 h fun u0 h => k (.bool u0) h)
def L5 (ab : bD) : d7 := fq [(dg, dw ab)]
abbrev Ez (k0 : Q0) (k : ue) : Prop := ∀ u0 h, k0 (.bool u0) h = k u0 h
abbrev A7 : Type := Bool → Heap → CRes
abbrev Jb (J : Q1) (j : A7) : Prop := ∀ v14 h, J ⟨cJ [(p14, (.bool v14))], h⟩ = j v14 h
section
variable (n : Nat) (ab : bD) (k0 : Q0) (k : ue)
def Tl (n : Nat) (ab : bD) (k0 : Q0) : Q1 := (bH (L5 ab) xL T3 (cH z_plan_power k0))
def Jf (n : Nat) (ab : bD) (k : ue) (v14 : Bool) (h : Heap) : CRes :=
 k v14 h
theorem ad6 (hk : Ez k0 k) : Jb (Tl n ab k0 ) (Jf n ab k ) := by
  obtain rfl := fx2 hk
  intro v14 h
  kernel_rfl
def Iw : Q1 := Tl n ab k0
def Ar : A7 := Jf n ab k
theorem adK (hk : Ez k0 k) : Jb (Iw n ab k0 ) (Ar n ab k ) := ad6 n ab k0 k hk
def Yt (n : Nat) (ab : bD) (k0 : Q0) (J0 : Q1) : Q1 := (bH (L5 ab) xL R9 (bH (L5 ab) xL Tz (fun s => cQ Tu s J0)))
def OZ (n : Nat) (ab : bD) (k : ue) (j0 : A7) (a0 : Int) (a1 : Int) (h : Heap) : CRes :=
 ab a0 1 a1 h fun x0 h1 =>
 ifB x0
 (W3 .i64 a0 1 fun x2 =>
 bitK .and .i64 a0 x2 fun x3 =>
 j0 (eqF x3 0) h1)
 (j0 false h1)
theorem ai9 (n : Nat) (ab : bD) (k0 : Q0) (k : ue) (hk : Ez k0 k) (J0 : Q1) (j0 : A7) (h0 : Jb J0 j0) (a0 : Int) (a1 : Int) (h : Heap) : (Yt n ab k0 J0) ⟨cJ [(p0, (.int .i64 a0)), (p1, (.int .i64 a1))], h⟩ = (OZ n ab k j0) a0 a1 h := by
  obtain rfl := fx2 hk
  obtain rfl := fx2 h0
  kernel_rfl
def aiT : Q1 := Yt n ab k0 (Iw n ab k0 )
def Pf (n : Nat) (ab : bD) (a0 : Int) (a1 : Int) (h : Heap) (k : ue) : CRes := OZ n ab k (Ar n ab k ) a0 a1 h
theorem ah7 (n : Nat) (ab : bD) (k0 : Q0) (s : St) : D (fq [(dg, dw ab)]) xL n H2 (cH z_plan_power k0) (fun _ _ => .err) (cH z_plan_power k0) s = aiT n ab k0 s := by kernel_rfl
theorem aiF (n : Nat) (ab : bD) (a0 : Int) (a1 : Int) (h : Heap) (k0 : Q0) : W a_plan_power z_plan_power [(dg, dw ab)] xL n H2 [(.int .i64 a0), (.int .i64 a1)] h k0 = Pf n ab a0 a1 h (fun u0 h => k0 (.bool u0) h) := by
  let k : ue := fun u0 h => k0 (.bool u0) h
  have hk : Ez k0 k := fun _ _ => rfl
  have hb : ∀ F : Tr AV → CRes, iz a_plan_power [(.int .i64 a0), (.int .i64 a1)] .leaf F = F (cJ [(p0, (.int .i64 a0)), (p1, (.int .i64 a1))]) := fun F => by kernel_rfl
  exact (ny hb).trans ((ah7 n ab k0 _).trans (ai9 n ab k0 k hk (Iw n ab k0 ) (Ar n ab k ) (adK n ab k0 k hk ) a0 a1 h))
end
def rK (n : Nat) : eO := Pf n (dI n)
theorem ajr {tbl : Tr AFn} (hp : cF tbl) (ht : tbl.get (key pV) = some XL) (n : Nat) (nd : Sound tbl dg (dw (dI n))) : Sound tbl pV (rU (rK n)) := by
  refine Sound.of (dN hp (ps := a_plan_power) (rs := z_plan_power) (l := [(dg, dw (dI n))]) (ty := xL) (n := n) (c := H2) ht ⟨nd, trivial⟩) fun args H k r H' h => ?_
  unfold rU at h
  obtain ⟨a0, l0, e0, h0⟩ := dQ h
  subst e0
  obtain ⟨a1, l1, e1, h1⟩ := dQ h0
  subst e1
  obtain ⟨e9, h9⟩ := cY h1
  subst e9
  exact (aiF n (dI n) a0 a1 H k).trans h9
/-! cofferdam/plan.machine -/
abbrev bP := AV → Heap → (Bool → Heap → CRes) → CRes
abbrev jq := Bool → Heap → CRes
def ge (g : bP) : Wr := fun l h k => mm l fun a0 l => mP l (g a0 h fun u0 h => k (.bool u0) h)
def lJ (aL : eO) (ab : bD) : d7 := fq [(pV, rU aL), (dg, dw ab)]
abbrev gy (k0 : Q0) (k : jq) : Prop := ∀ u0 h, k0 (.bool u0) h = k u0 h
abbrev xu : Type := Bool → Heap → CRes
abbrev DG (J : Q1) (j : xu) : Prop := ∀ v44 h, J ⟨cJ [(p44, (.bool v44))], h⟩ = j v44 h
abbrev xx : Type := AV → Bool → Heap → CRes
abbrev DR (J : Q1) (j : xx) : Prop := ∀ v1 v38 h, J ⟨cJ [(p1, v1), (p38, (.bool v38))], h⟩ = j v1 v38 h
abbrev xU : Type := AV → Bool → Heap → CRes
abbrev C2 (J : Q1) (j : xU) : Prop := ∀ v1 v33 h, J ⟨cJ [(p1, v1), (p33, (.bool v33))], h⟩ = j v1 v33 h
abbrev xq : Type := AV → Bool → Heap → CRes
abbrev Dn (J : Q1) (j : xq) : Prop := ∀ v1 v28 h, J ⟨cJ [(p1, v1), (p28, (.bool v28))], h⟩ = j v1 v28 h
abbrev xX : Type := AV → Bool → Heap → CRes
abbrev DW (J : Q1) (j : xX) : Prop := ∀ v1 v23 h, J ⟨cJ [(p1, v1), (p23, (.bool v23))], h⟩ = j v1 v23 h
abbrev xT : Type := AV → Bool → Heap → CRes
abbrev Dz (J : Q1) (j : xT) : Prop := ∀ v1 v18 h, J ⟨cJ [(p1, v1), (p18, (.bool v18))], h⟩ = j v1 v18 h
abbrev yl : Type := AV → Bool → Heap → CRes
abbrev DK (J : Q1) (j : yl) : Prop := ∀ v1 v10 h, J ⟨cJ [(p1, v1), (p10, (.bool v10))], h⟩ = j v1 v10 h
section
variable (n : Nat) (aL : eO) (ab : bD) (k0 : Q0) (k : jq)
def M4 (n : Nat) (aL : eO) (ab : bD) (k0 : Q0) : Q1 := (bH (lJ aL ab) jY Nq (cH z_plan_machine k0))
def DN (n : Nat) (aL : eO) (ab : bD) (k : jq) (v44 : Bool) (h : Heap) : CRes :=
 k v44 h
theorem Zn (hk : gy k0 k) : DG (M4 n aL ab k0 ) (DN n aL ab k ) := by
  obtain rfl := fx2 hk
  intro v44 h
  kernel_rfl
def DC : Q1 := M4 n aL ab k0
def xp : xu := DN n aL ab k
theorem abe (hk : gy k0 k) : DG (DC n aL ab k0 ) (xp n aL ab k ) := Zn n aL ab k0 k hk
def Nx (n : Nat) (aL : eO) (ab : bD) (k0 : Q0) (J6 : Q1) : Q1 := (bH (lJ aL ab) jY Ny (fun s => cQ NQ s J6))
def DJ (n : Nat) (aL : eO) (ab : bD) (k : jq) (j6 : xu) (v1 : AV) (v38 : Bool) (h : Heap) : CRes :=
 ifB v38
 (faK 16 v1 fun x31 =>
 iI h x31 1 false fun x32 =>
 ju x32 fun x33 =>
 ab x33 1 8 h fun x34 h35 =>
 j6 x34 h35)
 (j6 false h)
theorem Zq (hk : gy k0 k) (J6 : Q1) (j6 : xu) (h6 : DG J6 j6) : DR (Nx n aL ab k0 J6) (DJ n aL ab k j6) := by
  obtain rfl := fx2 hk
  obtain rfl := fx2 h6
  intro v1 v38 h
  kernel_rfl
def Dv : Q1 := Nx n aL ab k0 (DC n aL ab k0 )
def xl : xx := DJ n aL ab k (xp n aL ab k )
theorem ZY (hk : gy k0 k) : DR (Dv n aL ab k0 ) (xl n aL ab k ) := Zq n aL ab k0 k hk (DC n aL ab k0 ) (xp n aL ab k ) (abe n aL ab k0 k hk )
def NA (n : Nat) (aL : eO) (ab : bD) (k0 : Q0) (J5 : Q1) : Q1 := (bH (lJ aL ab) jY M3 (fun s => cQ Mu s J5))
def Dg (n : Nat) (aL : eO) (ab : bD) (k : jq) (j5 : xx) (v1 : AV) (v33 : Bool) (h : Heap) : CRes :=
 ifB v33
 (faK 5 v1 fun x27 =>
 ldI .i64 h x27 fun x28 =>
 ab x28 1 64 h fun x29 h30 =>
 j5 v1 x29 h30)
 (j5 v1 false h)
theorem ZL (hk : gy k0 k) (J5 : Q1) (j5 : xx) (h5 : DR J5 j5) : C2 (NA n aL ab k0 J5) (Dg n aL ab k j5) := by
  obtain rfl := fx2 hk
  obtain rfl := fx3 h5
  intro v1 v33 h
  kernel_rfl
def CU : Q1 := NA n aL ab k0 (Dv n aL ab k0 )
def xO : xU := Dg n aL ab k (xl n aL ab k )
theorem aau (hk : gy k0 k) : C2 (CU n aL ab k0 ) (xO n aL ab k ) := ZL n aL ab k0 k hk (Dv n aL ab k0 ) (xl n aL ab k ) (ZY n aL ab k0 k hk )
def MY (n : Nat) (aL : eO) (ab : bD) (k0 : Q0) (J4 : Q1) : Q1 := (bH (lJ aL ab) jY MH (fun s => cQ Or s J4))
def DF (n : Nat) (aL : eO) (ab : bD) (k : jq) (j4 : xU) (v1 : AV) (v28 : Bool) (h : Heap) : CRes :=
 ifB v28
 (faK 4 v1 fun x23 =>
 ldI .i64 h x23 fun x24 =>
 ab x24 1 16 h fun x25 h26 =>
 j4 v1 x25 h26)
 (j4 v1 false h)
theorem Z0 (hk : gy k0 k) (J4 : Q1) (j4 : xU) (h4 : C2 J4 j4) : Dn (MY n aL ab k0 J4) (DF n aL ab k j4) := by
  obtain rfl := fx2 hk
  obtain rfl := fx3 h4
  intro v1 v28 h
  kernel_rfl
def C7 : Q1 := MY n aL ab k0 (CU n aL ab k0 )
def xA : xq := DF n aL ab k (xO n aL ab k )
theorem ZD (hk : gy k0 k) : Dn (C7 n aL ab k0 ) (xA n aL ab k ) := Z0 n aL ab k0 k hk (CU n aL ab k0 ) (xO n aL ab k ) (aau n aL ab k0 k hk )
def Mt (n : Nat) (aL : eO) (ab : bD) (k0 : Q0) (J3 : Q1) : Q1 := (bH (lJ aL ab) jY Nz (fun s => cQ MZ s J3))
def C6 (n : Nat) (aL : eO) (ab : bD) (k : jq) (j3 : xq) (v1 : AV) (v23 : Bool) (h : Heap) : CRes :=
 ifB v23
 (faK 2 v1 fun x19 =>
 ldI .i64 h x19 fun x20 =>
 ab x20 1 16 h fun x21 h22 =>
 j3 v1 x21 h22)
 (j3 v1 false h)
theorem ZG (hk : gy k0 k) (J3 : Q1) (j3 : xq) (h3 : Dn J3 j3) : DW (Mt n aL ab k0 J3) (C6 n aL ab k j3) := by
  obtain rfl := fx2 hk
  obtain rfl := fx3 h3
  intro v1 v23 h
  kernel_rfl
def Ea : Q1 := Mt n aL ab k0 (C7 n aL ab k0 )
def xz : xX := C6 n aL ab k (xA n aL ab k )
theorem aa1 (hk : gy k0 k) : DW (Ea n aL ab k0 ) (xz n aL ab k ) := ZG n aL ab k0 k hk (C7 n aL ab k0 ) (xA n aL ab k ) (ZD n aL ab k0 k hk )
def M8 (n : Nat) (aL : eO) (ab : bD) (k0 : Q0) (J2 : Q1) : Q1 := (bH (lJ aL ab) jY NT (fun s => cQ Ni s J2))
def Dp (n : Nat) (aL : eO) (ab : bD) (k : jq) (j2 : xX) (v1 : AV) (v18 : Bool) (h : Heap) : CRes :=
 ifB v18
 (faK 3 v1 fun x15 =>
 ldI .i64 h x15 fun x16 =>
 aL x16 4096 h fun x17 h18 =>
 j2 v1 x17 h18)
 (j2 v1 false h)
theorem aaI (hk : gy k0 k) (J2 : Q1) (j2 : xX) (h2 : DW J2 j2) : Dz (M8 n aL ab k0 J2) (Dp n aL ab k j2) := by
  obtain rfl := fx2 hk
  obtain rfl := fx3 h2
  intro v1 v18 h
  kernel_rfl
def Dc : Q1 := M8 n aL ab k0 (Ea n aL ab k0 )
def xM : xT := Dp n aL ab k (xz n aL ab k )
theorem aa2 (hk : gy k0 k) : Dz (Dc n aL ab k0 ) (xM n aL ab k ) := aaI n aL ab k0 k hk (Ea n aL ab k0 ) (xz n aL ab k ) (aa1 n aL ab k0 k hk )
def Ns (n : Nat) (aL : eO) (ab : bD) (k0 : Q0) (J1 : Q1) : Q1 := (bH (lJ aL ab) jY M7 (fun s => cQ MO s J1))
def CW (n : Nat) (aL : eO) (ab : bD) (k : jq) (j1 : xT) (v1 : AV) (v10 : Bool) (h : Heap) : CRes :=
 ifB v10
 (faK 0 v1 fun x10 =>
 ldI .i64 h x10 fun x11 =>
 mg .i64 1 h v1 fun x12 x13 =>
 remK .i64 x11 x13 fun x14 =>
 j1 v1 (eqF x14 0) h)
 (j1 v1 false h)
theorem Zo (hk : gy k0 k) (J1 : Q1) (j1 : xT) (h1 : Dz J1 j1) : DK (Ns n aL ab k0 J1) (CW n aL ab k j1) := by
  obtain rfl := fx2 hk
  obtain rfl := fx3 h1
  intro v1 v10 h
  kernel_rfl
def CX : Q1 := Ns n aL ab k0 (Dc n aL ab k0 )
def ya : yl := CW n aL ab k (xM n aL ab k )
theorem Zw (hk : gy k0 k) : DK (CX n aL ab k0 ) (ya n aL ab k ) := Zo n aL ab k0 k hk (Dc n aL ab k0 ) (xM n aL ab k ) (aa2 n aL ab k0 k hk )
def RU (n : Nat) (aL : eO) (ab : bD) (k0 : Q0) (J0 : Q1) : Q1 := (bH (lJ aL ab) jY Ne (bH (lJ aL ab) jY Nk (fun s => cQ NM s J0)))
def Io (n : Nat) (aL : eO) (ab : bD) (k : jq) (j0 : yl) (a0 : AV) (h : Heap) : CRes :=
 Al h a0 fun x0 h1 =>
 mg .i64 1 h1 (.ptr x0 0) fun x2 x3 =>
 aL x3 16 h1 fun x4 h5 =>
 ifB x4
 (faK 0 (.ptr x0 0) fun x6 =>
 ldI .i64 h5 x6 fun x7 =>
 ab x7 1 4096 h5 fun x8 h9 =>
 j0 (.ptr x0 0) x8 h9)
 (j0 (.ptr x0 0) false h5)
theorem adv (n : Nat) (aL : eO) (ab : bD) (k0 : Q0) (k : jq) (hk : gy k0 k) (J0 : Q1) (j0 : yl) (h0 : DK J0 j0) (a0 : AV) (h : Heap) : (RU n aL ab k0 J0) ⟨cJ [(p0, a0)], h⟩ = (Io n aL ab k j0) a0 h := by
  obtain rfl := fx2 hk
  obtain rfl := fx3 h0
  kernel_rfl
def afm : Q1 := RU n aL ab k0 (CX n aL ab k0 )
def IK (n : Nat) (aL : eO) (ab : bD) (a0 : AV) (h : Heap) (k : jq) : CRes := Io n aL ab k (ya n aL ab k ) a0 h
theorem aeK (n : Nat) (aL : eO) (ab : bD) (k0 : Q0) (s : St) : D (fq [(pV, rU aL), (dg, dw ab)]) jY n Bk (cH z_plan_machine k0) (fun _ _ => .err) (cH z_plan_machine k0) s = afm n aL ab k0 s := by kernel_rfl
theorem afi (n : Nat) (aL : eO) (ab : bD) (a0 : AV) (h : Heap) (k0 : Q0) : W a_plan_machine z_plan_machine [(pV, rU aL), (dg, dw ab)] jY n Bk [a0] h k0 = IK n aL ab a0 h (fun u0 h => k0 (.bool u0) h) := by
  let k : jq := fun u0 h => k0 (.bool u0) h
  have hk : gy k0 k := fun _ _ => rfl
  have hb : ∀ F : Tr AV → CRes, iz a_plan_machine [a0] .leaf F = F (cJ [(p0, a0)]) := fun F => by kernel_rfl
  exact (ny hb).trans ((aeK n aL ab k0 _).trans (adv n aL ab k0 k hk (CX n aL ab k0 ) (ya n aL ab k ) (Zw n aL ab k0 k hk ) a0 h))
end
def eo (n : Nat) : bP := IK n (rK n) (dI n)
theorem adU {tbl : Tr AFn} (hp : cF tbl) (ht : tbl.get (key fb) = some TO) (n : Nat) (agA : Sound tbl pV (rU (rK n))) (nd : Sound tbl dg (dw (dI n))) : Sound tbl fb (ge (eo n)) := by
  refine Sound.of (dN hp (ps := a_plan_machine) (rs := z_plan_machine) (l := [(pV, rU (rK n)), (dg, dw (dI n))]) (ty := jY) (n := n) (c := Bk) ht ⟨agA, nd, trivial⟩) fun args H k r H' h => ?_
  unfold ge at h
  obtain ⟨a0, l0, e0, h0⟩ := cT h
  subst e0
  obtain ⟨e9, h9⟩ := cY h0
  subst e9
  exact (afi n (rK n) (dI n) a0 H k).trans h9
/-! cofferdam/cost.Check -/
abbrev bX := AV → Heap → (Int → Heap → CRes) → CRes
abbrev lO := Int → Heap → CRes
def fe (g : bX) : Wr := fun l h k => mm l fun a0 l => mP l (g a0 h fun u0 h => k (.int .i64 u0) h)
def iE : d7 := fq []
abbrev jD (k0 : Q0) (k : lO) : Prop := ∀ u0 h, k0 (.int .i64 u0) h = k u0 h
abbrev BK : Type := Heap → CRes
abbrev IS (J : Q1) (j : BK) : Prop := ∀ h, J ⟨cJ [], h⟩ = j h
abbrev Ap : Type := AV → Int → Int → Bool → Heap → CRes
abbrev IH (J : Q1) (j : Ap) : Prop := ∀ v35 v36 v37 v46 h, J ⟨cJ [(p35, v35), (p36, (.int .i64 v36)), (p37, (.int .i64 v37)), (p46, (.bool v46))], h⟩ = j v35 v36 v37 v46 h
abbrev nl : Type := AV → Int → Int → Heap → CRes
abbrev w0 (J : Q1) (j : nl) : Prop := ∀ v35 v36 v37 h, J ⟨cJ [(p35, v35), (p36, (.int .i64 v36)), (p37, (.int .i64 v37))], h⟩ = j v35 v36 v37 h
abbrev Bc : Type := AV → Heap → CRes
abbrev Jp (J : Q1) (j : Bc) : Prop := ∀ v1 h, J ⟨cJ [(p1, v1)], h⟩ = j v1 h
abbrev Bf : Type := AV → Int → AV → Int → Int → Bool → Heap → CRes
abbrev Ja (J : Q1) (j : Bf) : Prop := ∀ v1 v5 v14 v15 v16 v26 h, J ⟨cJ [(p1, v1), (p5, (.int .u64 v5)), (p14, v14), (p15, (.int .i64 v15)), (p16, (.int .i64 v16)), (p26, (.bool v26))], h⟩ = j v1 v5 v14 v15 v16 v26 h
abbrev m9 : Type := AV → Int → AV → Int → Int → Heap → CRes
abbrev wR (J : Q1) (j : m9) : Prop := ∀ v1 v3 v14 v15 v16 h, J ⟨cJ [(p1, v1), (p3, (.int .u64 v3)), (p14, v14), (p15, (.int .i64 v15)), (p16, (.int .i64 v16))], h⟩ = j v1 v3 v14 v15 v16 h
section
variable (n : Nat) (k0 : Q0) (k : lO)
def Tm (n : Nat) (k0 : Q0) : Q1 := (bH (iE ) g0 R3 (cH z_cost_Check k0))
def Im (n : Nat) (k : lO) (h : Heap) : CRes :=
 k 0 h
theorem aeX (hk : jD k0 k) : IS (Tm n k0 ) (Im n k ) := by
  obtain rfl := fx2 hk
  intro h
  kernel_rfl
def I6 : Q1 := Tm n k0
def xc : BK := Im n k
theorem afb (hk : jD k0 k) : IS (I6 n k0 ) (xc n k ) := aeX n k0 k hk
def SU (n : Nat) (k0 : Q0) (J1 : Q1) : Q1 := (fun s => fg (.t p46) s (bH (iE ) g0 S2 (cH z_cost_Check k0)) (bH (iE ) g0 Sz (fun s => cQ Ir s J1)))
def JC (n : Nat) (k : lO) (j1 : nl) (v35 : AV) (v36 : Int) (v37 : Int) (v46 : Bool) (h : Heap) : CRes :=
 ifB v46
 (k 100 h)
 (mG .i64 v37 1 fun x25 =>
 j1 v35 v36 x25 h)
theorem afn (hk : jD k0 k) (J1 : Q1) (j1 : nl) (h1 : w0 J1 j1) : IH (SU n k0 J1) (JC n k j1) := by
  obtain rfl := fx2 hk
  obtain rfl := fx4 h1
  intro v35 v36 v37 v46 h
  kernel_rfl
def Jx (J1 : Q1) : Q1 := SU n k0 J1
def w5 (j1 : nl) : Ap := JC n k j1
theorem aez (hk : jD k0 k) (J1 : Q1) (j1 : nl) (h1 : w0 J1 j1) : IH (Jx n k0 J1) (w5 n k j1) := afn n k0 k hk J1 j1 h1
def SY (n : Nat) (k0 : Q0) (J0 : Q1) (J2 : Q1) : Q1 := (bH (iE ) g0 S3 (fun s => fg (.t p38) s (bH (iE ) g0 TN (bH (iE ) g0 T5 (fun s => cQ SX s J2))) (fun s => cQ R5 s J0)))
def Aq (n : Nat) (k : lO) (j0 : BK) (j2 : Ap) (v35 : AV) (v36 : Int) (v37 : Int) (h : Heap) : CRes :=
 ifB (ltF v37 v36)
 (LS .u64 1 h v35 v37 fun x22 x23 =>
 ifB (ltF x23 1)
 (j2 v35 v36 v37 true h)
 (j2 v35 v36 v37 (ltF 65536 x23) h))
 (j0 h)
theorem aes (hk : jD k0 k) (J0 : Q1) (j0 : BK) (h0 : IS J0 j0) (J2 : Q1) (j2 : Ap) (h2 : IH J2 j2) : w0 (SY n k0 J0 J2) (Aq n k j0 j2) := by
  obtain rfl := fx2 hk
  obtain rfl := fx1 h0
  obtain rfl := fx5 h2
  intro v35 v36 v37 h
  kernel_rfl
def wS (m : Nat) : Q1 := Nat.rec (motive := fun _ => Q1) (fun _ => .err) (fun _ ih => SY n k0 (I6 n k0 ) (Jx n k0 ih)) m
def qD (m : Nat) : nl := Nat.rec (motive := fun _ => nl) (fun _ _ _ _ => .err) (fun _ ih => Aq n k (xc n k ) (w5 n k ih)) m
theorem aeA (hk : jD k0 k) (m : Nat) : w0 (wS n k0 m) (qD n k m) := by
  induction m with
  | zero => intro v35 v36 v37 h; rfl
  | succ m ih => exact aes n k0 k hk (I6 n k0 ) (xc n k ) (afb n k0 k hk ) (Jx n k0 (wS n k0 m)) (w5 n k (qD n k m)) (aez n k0 k hk (wS n k0 m) (qD n k m) ih)
def Tp (n : Nat) (k0 : Q0) (J1 : Q1) : Q1 := (bH (iE ) g0 SZ (fun s => cQ Ir s J1))
def IJ (n : Nat) (k : lO) (j1 : nl) (v1 : AV) (h : Heap) : CRes :=
 mg .u64 3 h v1 fun x11 x12 =>
 mg .u64 4 h v1 fun x13 x14 =>
 mg .u64 5 h v1 fun x15 x16 =>
 qQ h 3 [(.int .u64 0), (.int .u64 0), (.int .u64 0)] [(0, 1, (.int .u64 x12)), (1, 1, (.int .u64 x14)), (2, 1, (.int .u64 x16))] fun x17 h18 =>
 ju x17 fun x19 =>
 j1 x17 x19 0 h18
theorem adD (hk : jD k0 k) (J1 : Q1) (j1 : nl) (h1 : w0 J1 j1) : Jp (Tp n k0 J1) (IJ n k j1) := by
  obtain rfl := fx2 hk
  obtain rfl := fx4 h1
  intro v1 h
  kernel_rfl
def IT : Q1 := Tp n k0 (wS n k0 n)
def te : Bc := IJ n k (qD n k n)
theorem afp (hk : jD k0 k) : Jp (IT n k0 ) (te n k ) := adD n k0 k hk (wS n k0 n) (qD n k n) (aeA n k0 k hk n)
def Su (n : Nat) (k0 : Q0) (J4 : Q1) : Q1 := (fun s => fg (.t p26) s (bH (iE ) g0 T0 (cH z_cost_Check k0)) (bH (iE ) g0 Sa (bH (iE ) g0 TQ (fun s => cQ Iv s J4))))
def Kg (n : Nat) (k : lO) (j4 : m9) (v1 : AV) (v5 : Int) (v14 : AV) (v15 : Int) (v16 : Int) (v26 : Bool) (h : Heap) : CRes :=
 ifB v26
 (k 100 h)
 (mG .i64 v16 1 fun x24 =>
 j4 v1 v5 v14 v15 x24 h)
theorem adM (hk : jD k0 k) (J4 : Q1) (j4 : m9) (h4 : wR J4 j4) : Ja (Su n k0 J4) (Kg n k j4) := by
  obtain rfl := fx2 hk
  obtain rfl := fx6 h4
  intro v1 v5 v14 v15 v16 v26 h
  kernel_rfl
def Iq (J4 : Q1) : Q1 := Su n k0 J4
def w4 (j4 : m9) : Bf := Kg n k j4
theorem aeb (hk : jD k0 k) (J4 : Q1) (j4 : m9) (h4 : wR J4 j4) : Ja (Iq n k0 J4) (w4 n k j4) := adM n k0 k hk J4 j4 h4
def Uc (n : Nat) (k0 : Q0) (J3 : Q1) (J5 : Q1) : Q1 := (bH (iE ) g0 Qa (fun s => fg (.t p17) s (bH (iE ) g0 Qi (bH (iE ) g0 Rh (fun s => cQ SO s J5))) (fun s => cQ Sr s J3)))
def BJ (n : Nat) (k : lO) (j3 : Bc) (j5 : Bf) (v1 : AV) (v3 : Int) (v14 : AV) (v15 : Int) (v16 : Int) (h : Heap) : CRes :=
 ifB (ltF v16 v15)
 (LS .u64 1 h v14 v16 fun x20 x21 =>
 ifB (ltF x21 v3)
 (j5 v1 x21 v14 v15 v16 true h)
 (j5 v1 x21 v14 v15 v16 (ltF 65536 x21) h))
 (j3 v1 h)
theorem aff (hk : jD k0 k) (J3 : Q1) (j3 : Bc) (h3 : Jp J3 j3) (J5 : Q1) (j5 : Bf) (h5 : Ja J5 j5) : wR (Uc n k0 J3 J5) (BJ n k j3 j5) := by
  obtain rfl := fx2 hk
  obtain rfl := fx2 h3
  obtain rfl := fx7 h5
  intro v1 v3 v14 v15 v16 h
  kernel_rfl
def xg (m : Nat) : Q1 := Nat.rec (motive := fun _ => Q1) (fun _ => .err) (fun _ ih => Uc n k0 (IT n k0 ) (Iq n k0 ih)) m
def qB (m : Nat) : m9 := Nat.rec (motive := fun _ => m9) (fun _ _ _ _ _ _ => .err) (fun _ ih => BJ n k (te n k ) (w4 n k ih)) m
theorem adw (hk : jD k0 k) (m : Nat) : wR (xg n k0 m) (qB n k m) := by
  induction m with
  | zero => intro v1 v3 v14 v15 v16 h; rfl
  | succ m ih => exact aff n k0 k hk (IT n k0 ) (te n k ) (afp n k0 k hk ) (Iq n k0 (xg n k0 m)) (w4 n k (qB n k m)) (aeb n k0 k hk (xg n k0 m) (qB n k m) ih)
def YJ (n : Nat) (k0 : Q0) (J4 : Q1) : Q1 := (bH (iE ) g0 Rc (bH (iE ) g0 Qb (bH (iE ) g0 PZ (fun s => cQ Iv s J4))))
def OP (n : Nat) (k : lO) (j4 : m9) (a0 : AV) (h : Heap) : CRes :=
 Al h a0 fun x0 h1 =>
 mg .u64 0 h1 (.ptr x0 0) fun x2 x3 =>
 mg .u64 1 h1 (.ptr x0 0) fun x4 x5 =>
 mg .u64 2 h1 (.ptr x0 0) fun x6 x7 =>
 qQ h1 3 [(.int .u64 0), (.int .u64 0), (.int .u64 0)] [(0, 1, (.int .u64 x3)), (1, 1, (.int .u64 x5)), (2, 1, (.int .u64 x7))] fun x8 h9 =>
 ju x8 fun x10 =>
 j4 (.ptr x0 0) 1 x8 x10 0 h9
theorem aih (n : Nat) (k0 : Q0) (k : lO) (hk : jD k0 k) (J4 : Q1) (j4 : m9) (h4 : wR J4 j4) (a0 : AV) (h : Heap) : (YJ n k0 J4) ⟨cJ [(p0, a0)], h⟩ = (OP n k j4) a0 h := by
  obtain rfl := fx2 hk
  obtain rfl := fx6 h4
  kernel_rfl
def aiI : Q1 := YJ n k0 (xg n k0 n)
def O0 (n : Nat) (a0 : AV) (h : Heap) (k : lO) : CRes := OP n k (qB n k n) a0 h
theorem aiJ (n : Nat) (k0 : Q0) (s : St) : D (fq []) g0 n HQ (cH z_cost_Check k0) (fun _ _ => .err) (cH z_cost_Check k0) s = aiI n k0 s := by kernel_rfl
theorem ahF (n : Nat) (a0 : AV) (h : Heap) (k0 : Q0) : W a_cost_Check z_cost_Check [] g0 n HQ [a0] h k0 = O0 n a0 h (fun u0 h => k0 (.int .i64 u0) h) := by
  let k : lO := fun u0 h => k0 (.int .i64 u0) h
  have hk : jD k0 k := fun _ _ => rfl
  have hb : ∀ F : Tr AV → CRes, iz a_cost_Check [a0] .leaf F = F (cJ [(p0, a0)]) := fun F => by kernel_rfl
  exact (ny hb).trans ((aiJ n k0 _).trans (aih n k0 k hk (xg n k0 n) (qB n k n) (adw n k0 k hk n) a0 h))
end
def ez (n : Nat) : bX := O0 n
theorem aji {tbl : Tr AFn} (hp : cF tbl) (ht : tbl.get (key eP) = some YB) (n : Nat) : Sound tbl eP (fe (ez n)) := by
  refine Sound.of (dN hp (ps := a_cost_Check) (rs := z_cost_Check) (l := []) (ty := g0) (n := n) (c := HQ) ht trivial) fun args H k r H' h => ?_
  unfold fe at h
  obtain ⟨a0, l0, e0, h0⟩ := cT h
  subst e0
  obtain ⟨e9, h9⟩ := cY h0
  subst e9
  exact (ahF n a0 H k).trans h9
abbrev eI := AV → Int → Heap → (Int → Heap → CRes) → CRes
abbrev gX := Int → Heap → CRes
def gT (g : eI) : Wr := fun l h k => mm l fun a0 l => pZ .i64 l fun a1 l => mP l (g a0 a1 h fun u0 h => k (.int .i64 u0) h)
def gG : d7 := fq []
abbrev jt (k0 : Q0) (k : gX) : Prop := ∀ u0 h, k0 (.int .i64 u0) h = k u0 h
abbrev mD : Type := Heap → CRes
abbrev pY (J : Q1) (j : mD) : Prop := ∀ h, J ⟨cJ [], h⟩ = j h
abbrev gZ : Type := AV → Int → Int → Int → Heap → CRes
abbrev mA (J : Q1) (j : gZ) : Prop := ∀ v0 v1 v7 v8 h, J ⟨cJ [(p0, v0), (p1, (.int .i64 v1)), (p7, (.int .i64 v7)), (p8, (.int .i64 v8))], h⟩ = j v0 v1 v7 v8 h
section
variable (n : Nat) (k0 : Q0) (k : gX)
def wl (n : Nat) (k0 : Q0) : Q1 := (bH (gG ) d6 wy (cH z_slices_Index___int_int_ k0))
def pS (n : Nat) (k : gX) (h : Heap) : CRes :=
 k (-1) h
theorem HW (hk : jt k0 k) : pY (wl n k0 ) (pS n k ) := by
  obtain rfl := fx2 hk
  intro h
  kernel_rfl
def pQ : Q1 := wl n k0
def kM : mD := pS n k
theorem HN (hk : jt k0 k) : pY (pQ n k0 ) (kM n k ) := HW n k0 k hk
def wC (n : Nat) (k0 : Q0) (J0 : Q1) (J1 : Q1) : Q1 := (bH (gG ) d6 wx (fun s => fg (.t p9) s (bH (gG ) d6 ww (bH (gG ) d6 wu (fun s => fg (.t p16) s (bH (gG ) d6 wn (cH z_slices_Index___int_int_ k0)) (bH (gG ) d6 wo (fun s => cQ pT s J1))))) (fun s => cQ wi s J0)))
def mC (n : Nat) (k : gX) (j0 : mD) (j1 : gZ) (v0 : AV) (v1 : Int) (v7 : Int) (v8 : Int) (h : Heap) : CRes :=
 ifB (ltF v8 v7)
 (LS .i64 1 h v0 v8 fun x1 x2 =>
 ifB (eqF v1 x2)
 (k v8 h)
 (mG .i64 v8 1 fun x3 =>
 j1 v0 v1 v7 x3 h))
 (j0 h)
theorem Ib (hk : jt k0 k) (J0 : Q1) (j0 : mD) (h0 : pY J0 j0) (J1 : Q1) (j1 : gZ) (h1 : mA J1 j1) : mA (wC n k0 J0 J1) (mC n k j0 j1) := by
  obtain rfl := fx2 hk
  obtain rfl := fx1 h0
  obtain rfl := fx5 h1
  intro v0 v1 v7 v8 h
  kernel_rfl
def mF (m : Nat) : Q1 := Nat.rec (motive := fun _ => Q1) (fun _ => .err) (fun _ ih => wC n k0 (pQ n k0 ) ih) m
def jf (m : Nat) : gZ := Nat.rec (motive := fun _ => gZ) (fun _ _ _ _ _ => .err) (fun _ ih => mC n k (kM n k ) ih) m
theorem HO (hk : jt k0 k) (m : Nat) : mA (mF n k0 m) (jf n k m) := by
  induction m with
  | zero => intro v0 v1 v7 v8 h; rfl
  | succ m ih => exact Ib n k0 k hk (pQ n k0 ) (kM n k ) (HN n k0 k hk ) (mF n k0 m) (jf n k m) ih
def yp (n : Nat) (k0 : Q0) (J1 : Q1) : Q1 := (bH (gG ) d6 wt (bH (gG ) d6 wk (fun s => cQ pT s J1)))
def ry (n : Nat) (k : gX) (j1 : gZ) (a0 : AV) (a1 : Int) (h : Heap) : CRes :=
 ju a0 fun x0 =>
 j1 a0 a1 x0 0 h
theorem Kv (n : Nat) (k0 : Q0) (k : gX) (hk : jt k0 k) (J1 : Q1) (j1 : gZ) (h1 : mA J1 j1) (a0 : AV) (a1 : Int) (h : Heap) : (yp n k0 J1) ⟨cJ [(p0, a0), (p1, (.int .i64 a1))], h⟩ = (ry n k j1) a0 a1 h := by
  obtain rfl := fx2 hk
  obtain rfl := fx5 h1
  kernel_rfl
def Ks : Q1 := yp n k0 (mF n k0 n)
def rz (n : Nat) (a0 : AV) (a1 : Int) (h : Heap) (k : gX) : CRes := ry n k (jf n k n) a0 a1 h
theorem KA (n : Nat) (k0 : Q0) (s : St) : D (fq []) d6 n nL (cH z_slices_Index___int_int_ k0) (fun _ _ => .err) (cH z_slices_Index___int_int_ k0) s = Ks n k0 s := by kernel_rfl
theorem Ko (n : Nat) (a0 : AV) (a1 : Int) (h : Heap) (k0 : Q0) : W a_slices_Index___int_int_ z_slices_Index___int_int_ [] d6 n nL [a0, (.int .i64 a1)] h k0 = rz n a0 a1 h (fun u0 h => k0 (.int .i64 u0) h) := by
  let k : gX := fun u0 h => k0 (.int .i64 u0) h
  have hk : jt k0 k := fun _ _ => rfl
  have hb : ∀ F : Tr AV → CRes, iz a_slices_Index___int_int_ [a0, (.int .i64 a1)] .leaf F = F (cJ [(p0, a0), (p1, (.int .i64 a1))]) := fun F => by kernel_rfl
  exact (ny hb).trans ((KA n k0 _).trans (Kv n k0 k hk (mF n k0 n) (jf n k n) (HO n k0 k hk n) a0 a1 h))
end
def gW (n : Nat) : eI := rz n
theorem Kw {tbl : Tr AFn} (hp : cF tbl) (ht : tbl.get (key gd) = some yo) (n : Nat) : Sound tbl gd (gT (gW n)) := by
  refine Sound.of (dN hp (ps := a_slices_Index___int_int_) (rs := z_slices_Index___int_int_) (l := []) (ty := d6) (n := n) (c := nL) ht trivial) fun args H k r H' h => ?_
  unfold gT at h
  obtain ⟨a0, l0, e0, h0⟩ := cT h
  subst e0
  obtain ⟨a1, l1, e1, h1⟩ := dQ h0
  subst e1
  obtain ⟨e9, h9⟩ := cY h1
  subst e9
  exact (Ko n a0 a1 H k).trans h9
abbrev cp := AV → Int → Heap → (Bool → Heap → CRes) → CRes
abbrev iL := Bool → Heap → CRes
def f0 (g : cp) : Wr := fun l h k => mm l fun a0 l => pZ .i64 l fun a1 l => mP l (g a0 a1 h fun u0 h => k (.bool u0) h)
def tw (cC : eI) : d7 := fq [(gd, gT cC)]
abbrev tR (k0 : Q0) (k : iL) : Prop := ∀ u0 h, k0 (.bool u0) h = k u0 h
section
variable (n : Nat) (cC : eI) (k0 : Q0) (k : iL)
def uE (n : Nat) (cC : eI) (k0 : Q0) : Q1 := (bH (tw cC) kc tc (bH (tw cC) kc sY (cH z_slices_Contains___int_int_ k0)))
def pC (n : Nat) (cC : eI) (k : iL) (a0 : AV) (a1 : Int) (h : Heap) : CRes :=
 cC a0 a1 h fun x0 h1 =>
 k (jR (ltF x0 0)) h1
theorem F7 (n : Nat) (cC : eI) (k0 : Q0) (k : iL) (hk : tR k0 k) (a0 : AV) (a1 : Int) (h : Heap) : (uE n cC k0 ) ⟨cJ [(p0, a0), (p1, (.int .i64 a1))], h⟩ = (pC n cC k ) a0 a1 h := by
  obtain rfl := fx2 hk
  kernel_rfl
def FU : Q1 := uE n cC k0
def pi (n : Nat) (cC : eI) (a0 : AV) (a1 : Int) (h : Heap) (k : iL) : CRes := pC n cC k a0 a1 h
theorem FE (n : Nat) (cC : eI) (k0 : Q0) (s : St) : D (fq [(gd, gT cC)]) kc n l8 (cH z_slices_Contains___int_int_ k0) (fun _ _ => .err) (cH z_slices_Contains___int_int_ k0) s = FU n cC k0 s := by kernel_rfl
theorem G0 (n : Nat) (cC : eI) (a0 : AV) (a1 : Int) (h : Heap) (k0 : Q0) : W a_slices_Contains___int_int_ z_slices_Contains___int_int_ [(gd, gT cC)] kc n l8 [a0, (.int .i64 a1)] h k0 = pi n cC a0 a1 h (fun u0 h => k0 (.bool u0) h) := by
  let k : iL := fun u0 h => k0 (.bool u0) h
  have hk : tR k0 k := fun _ _ => rfl
  have hb : ∀ F : Tr AV → CRes, iz a_slices_Contains___int_int_ [a0, (.int .i64 a1)] .leaf F = F (cJ [(p0, a0), (p1, (.int .i64 a1))]) := fun F => by kernel_rfl
  exact (ny hb).trans ((FE n cC k0 _).trans (F7 n cC k0 k hk a0 a1 h))
end
def cz (n : Nat) : cp := pi n (gW n)
theorem GJ {tbl : Tr AFn} (hp : cF tbl) (ht : tbl.get (key eu) = some uP) (n : Nat) (Ix : Sound tbl gd (gT (gW n))) : Sound tbl eu (f0 (cz n)) := by
  refine Sound.of (dN hp (ps := a_slices_Contains___int_int_) (rs := z_slices_Contains___int_int_) (l := [(gd, gT (gW n))]) (ty := kc) (n := n) (c := l8) ht ⟨Ix, trivial⟩) fun args H k r H' h => ?_
  unfold f0 at h
  obtain ⟨a0, l0, e0, h0⟩ := cT h
  subst e0
  obtain ⟨a1, l1, e1, h1⟩ := dQ h0
  subst e1
  obtain ⟨e9, h9⟩ := cY h1
  subst e9
  exact (G0 n (gW n) a0 a1 H k).trans h9
/-! cofferdam/plan.colours -/
abbrev lH := AV → Int → Heap → (Bool → Heap → CRes) → CRes
abbrev iQ := Bool → Heap → CRes
def oL (g : lH) : Wr := fun l h k => mm l fun a0 l => pZ .i64 l fun a1 l => mP l (g a0 a1 h fun u0 h => k (.bool u0) h)
def gz (ai : cp) : d7 := fq [(eu, f0 ai)]
abbrev iu (k0 : Q0) (k : iQ) : Prop := ∀ u0 h, k0 (.bool u0) h = k u0 h
abbrev xB : Type := AV → Heap → CRes
abbrev Dy (J : Q1) (j : xB) : Prop := ∀ v5 h, J ⟨cJ [(p5, v5)], h⟩ = j v5 h
abbrev xH : Type := Int → AV → AV → AV → Int → Int → Heap → CRes
abbrev Ds (J : Q1) (j : xH) : Prop := ∀ v1 v2 v5 v16 v17 v18 h, J ⟨cJ [(p1, (.int .i64 v1)), (p2, v2), (p5, v5), (p16, v16), (p17, (.int .i64 v17)), (p18, (.int .i64 v18))], h⟩ = j v1 v2 v5 v16 v17 v18 h
abbrev nW : Type := Int → AV → AV → Int → AV → Int → Int → AV → Int → Int → Heap → CRes
abbrev xD (J : Q1) (j : nW) : Prop := ∀ v1 v2 v5 v7 v16 v17 v18 v47 v48 v49 h, J ⟨cJ [(p1, (.int .i64 v1)), (p2, v2), (p5, v5), (p7, (.int .i64 v7)), (p16, v16), (p17, (.int .i64 v17)), (p18, (.int .i64 v18)), (p47, v47), (p48, (.int .i64 v48)), (p49, (.int .i64 v49))], h⟩ = j v1 v2 v5 v7 v16 v17 v18 v47 v48 v49 h
abbrev yi : Type := Int → AV → AV → Int → AV → Int → Int → Bool → Heap → CRes
abbrev C9 (J : Q1) (j : yi) : Prop := ∀ v1 v2 v5 v7 v16 v17 v18 v43 h, J ⟨cJ [(p1, (.int .i64 v1)), (p2, v2), (p5, v5), (p7, (.int .i64 v7)), (p16, v16), (p17, (.int .i64 v17)), (p18, (.int .i64 v18)), (p43, (.bool v43))], h⟩ = j v1 v2 v5 v7 v16 v17 v18 v43 h
abbrev xI : Type := Int → AV → AV → Int → Int → AV → Int → Int → Bool → Heap → CRes
abbrev DI (J : Q1) (j : xI) : Prop := ∀ v1 v2 v5 v6 v7 v16 v17 v18 v30 h, J ⟨cJ [(p1, (.int .i64 v1)), (p2, v2), (p5, v5), (p6, (.int .i64 v6)), (p7, (.int .i64 v7)), (p16, v16), (p17, (.int .i64 v17)), (p18, (.int .i64 v18)), (p30, (.bool v30))], h⟩ = j v1 v2 v5 v6 v7 v16 v17 v18 v30 h
abbrev gm : Type := Int → AV → AV → AV → Int → Int → Heap → CRes
abbrev mw (J : Q1) (j : gm) : Prop := ∀ v1 v2 v5 v16 v17 v18 h, J ⟨cJ [(p1, (.int .i64 v1)), (p2, v2), (p5, v5), (p16, v16), (p17, (.int .i64 v17)), (p18, (.int .i64 v18))], h⟩ = j v1 v2 v5 v16 v17 v18 h
section
variable (n : Nat) (ai : cp) (k0 : Q0) (k : iQ)
def NI (n : Nat) (ai : cp) (k0 : Q0) : Q1 := (bH (gz ai) eV NJ (cH z_plan_colours k0))
def DH (n : Nat) (ai : cp) (k : iQ) (v5 : AV) (h : Heap) : CRes :=
 ju v5 fun x8 =>
 k (ltF 0 x8) h
theorem Zv (hk : iu k0 k) : Dy (NI n ai k0 ) (DH n ai k ) := by
  obtain rfl := fx2 hk
  intro v5 h
  kernel_rfl
def DP : Q1 := NI n ai k0
def ta : xB := DH n ai k
theorem ZU (hk : iu k0 k) : Dy (DP n ai k0 ) (ta n ai k ) := Zv n ai k0 k hk
def NB (n : Nat) (ai : cp) (k0 : Q0) (J1 : Q1) : Q1 := (bH (gz ai) eV NU (fun s => cQ CP s J1))
def DU (n : Nat) (ai : cp) (k : iQ) (j1 : gm) (v1 : Int) (v2 : AV) (v5 : AV) (v16 : AV) (v17 : Int) (v18 : Int) (h : Heap) : CRes :=
 mG .i64 v18 1 fun x20 =>
 j1 v1 v2 v5 v16 v17 x20 h
theorem aa4 (hk : iu k0 k) (J1 : Q1) (j1 : gm) (h1 : mw J1 j1) : Ds (NB n ai k0 J1) (DU n ai k j1) := by
  obtain rfl := fx2 hk
  obtain rfl := fx7 h1
  intro v1 v2 v5 v16 v17 v18 h
  kernel_rfl
def C3 (J1 : Q1) : Q1 := NB n ai k0 J1
def tg (j1 : gm) : xH := DU n ai k j1
theorem abd (hk : iu k0 k) (J1 : Q1) (j1 : gm) (h1 : mw J1 j1) : Ds (C3 n ai k0 J1) (tg n ai k j1) := aa4 n ai k0 k hk J1 j1 h1
def N8 (n : Nat) (ai : cp) (k0 : Q0) (J2 : Q1) (J3 : Q1) : Q1 := (bH (gz ai) eV ND (fun s => fg (.t p50) s (bH (gz ai) eV Nl (bH (gz ai) eV MB (fun s => fg (.t p56) s (bH (gz ai) eV Of (cH z_plan_colours k0)) (bH (gz ai) eV Mz (fun s => cQ Dj s J3))))) (fun s => cQ Ok s J2)))
def ye (n : Nat) (ai : cp) (k : iQ) (j2 : xH) (j3 : nW) (v1 : Int) (v2 : AV) (v5 : AV) (v7 : Int) (v16 : AV) (v17 : Int) (v18 : Int) (v47 : AV) (v48 : Int) (v49 : Int) (h : Heap) : CRes :=
 ifB (ltF v49 v48)
 (eld 8 h v47 v49 8 true fun x21 x22 =>
 A2 h (.cells [.nilslice, (.int .i64 0), (.int .i64 0), (.int .i64 0), (.int .i64 0), (.int .i64 0), (.int .i64 0), (.int .i64 0)] true 0) fun x23 h24 =>
 mT h24 (.ptr x23 0) 8 x22 fun h25 =>
 fld 0 h25 (.ptr x23 0) 1 false fun x26 x27 =>
 ai x27 v7 h25 fun x28 h29 =>
 ifB x28
 (k false h29)
 (mG .i64 v49 1 fun x30 =>
 j3 v1 v2 v5 v7 v16 v17 v18 v47 v48 x30 h29))
 (j2 v1 v2 v5 v16 v17 v18 h)
theorem ZZ (hk : iu k0 k) (J2 : Q1) (j2 : xH) (h2 : Ds J2 j2) (J3 : Q1) (j3 : nW) (h3 : xD J3 j3) : xD (N8 n ai k0 J2 J3) (ye n ai k j2 j3) := by
  obtain rfl := fx2 hk
  obtain rfl := fx7 h2
  obtain rfl := fx11 h3
  intro v1 v2 v5 v7 v16 v17 v18 v47 v48 v49 h
  kernel_rfl
def xP (J1 : Q1) (m : Nat) : Q1 := Nat.rec (motive := fun _ => Q1) (fun _ => .err) (fun _ ih => N8 n ai k0 (C3 n ai k0 J1) ih) m
def nY (j1 : gm) (m : Nat) : nW := Nat.rec (motive := fun _ => nW) (fun _ _ _ _ _ _ _ _ _ _ _ => .err) (fun _ ih => ye n ai k (tg n ai k j1) ih) m
theorem aaa (hk : iu k0 k) (J1 : Q1) (j1 : gm) (h1 : mw J1 j1) (m : Nat) : xD (xP n ai k0 J1 m) (nY n ai k j1 m) := by
  induction m with
  | zero => intro v1 v2 v5 v7 v16 v17 v18 v47 v48 v49 h; rfl
  | succ m ih => exact ZZ n ai k0 k hk (C3 n ai k0 J1) (tg n ai k j1) (abd n ai k0 k hk J1 j1 h1) (xP n ai k0 J1 m) (nY n ai k j1 m) ih
def NP (n : Nat) (ai : cp) (k0 : Q0) (J3 : Q1) : Q1 := (fun s => fg (.t p43) s (bH (gz ai) eV Ol (cH z_plan_colours k0)) (bH (gz ai) eV Nb (fun s => cQ Dj s J3)))
def DV (n : Nat) (ai : cp) (k : iQ) (j3 : nW) (v1 : Int) (v2 : AV) (v5 : AV) (v7 : Int) (v16 : AV) (v17 : Int) (v18 : Int) (v43 : Bool) (h : Heap) : CRes :=
 ifB v43
 (k false h)
 (fld 16 h v2 1 false fun x16 x17 =>
 slK (.sl 8) x17 none (some (.int .i64 v1)) none fun x18 =>
 ju x18 fun x19 =>
 j3 v1 v2 v5 v7 v16 v17 v18 x18 x19 0 h)
theorem aaf (hk : iu k0 k) (J3 : Q1) (j3 : nW) (h3 : xD J3 j3) : C9 (NP n ai k0 J3) (DV n ai k j3) := by
  obtain rfl := fx2 hk
  obtain rfl := fx11 h3
  intro v1 v2 v5 v7 v16 v17 v18 v43 h
  kernel_rfl
def DD (J1 : Q1) : Q1 := NP n ai k0 (xP n ai k0 J1 n)
def xy (j1 : gm) : yi := DV n ai k (nY n ai k j1 n)
theorem Z7 (hk : iu k0 k) (J1 : Q1) (j1 : gm) (h1 : mw J1 j1) : C9 (DD n ai k0 J1) (xy n ai k j1) := aaf n ai k0 k hk (xP n ai k0 J1 n) (nY n ai k j1 n) (aaa n ai k0 k hk J1 j1 h1 n)
def NR (n : Nat) (ai : cp) (k0 : Q0) (J5 : Q1) : Q1 := (bH (gz ai) eV LF (fun s => cQ My s J5))
def Du (n : Nat) (ai : cp) (k : iQ) (j5 : yi) (v1 : Int) (v2 : AV) (v5 : AV) (v6 : Int) (v7 : Int) (v16 : AV) (v17 : Int) (v18 : Int) (v30 : Bool) (h : Heap) : CRes :=
 ifB v30
 (j5 v1 v2 v5 v7 v16 v17 v18 true h)
 (ifB (ltF 0 v6)
 (W3 .i64 v6 1 fun x13 =>
 LS .i64 1 h v5 x13 fun x14 x15 =>
 j5 v1 v2 v5 v7 v16 v17 v18 (jR (ltF x15 v7)) h)
 (j5 v1 v2 v5 v7 v16 v17 v18 false h))
theorem aaG (hk : iu k0 k) (J5 : Q1) (j5 : yi) (h5 : C9 J5 j5) : DI (NR n ai k0 J5) (Du n ai k j5) := by
  obtain rfl := fx2 hk
  obtain rfl := fx9 h5
  intro v1 v2 v5 v6 v7 v16 v17 v18 v30 h
  kernel_rfl
def C0 (J1 : Q1) : Q1 := NR n ai k0 (DD n ai k0 J1)
def tj (j1 : gm) : xI := Du n ai k (xy n ai k j1)
theorem Zp (hk : iu k0 k) (J1 : Q1) (j1 : gm) (h1 : mw J1 j1) : DI (C0 n ai k0 J1) (tj n ai k j1) := aaG n ai k0 k hk (DD n ai k0 J1) (xy n ai k j1) (Z7 n ai k0 k hk J1 j1 h1)
def N3 (n : Nat) (ai : cp) (k0 : Q0) (J0 : Q1) (J4 : Q1) : Q1 := (bH (gz ai) eV KM (fun s => fg (.t p19) s (bH (gz ai) eV K2 (bH (gz ai) eV M5 (fun s => cQ MJ s J4))) (fun s => cQ N2 s J0)))
def yj (n : Nat) (ai : cp) (k : iQ) (j0 : xB) (j4 : xI) (v1 : Int) (v2 : AV) (v5 : AV) (v16 : AV) (v17 : Int) (v18 : Int) (h : Heap) : CRes :=
 ifB (ltF v18 v17)
 (LS .i64 1 h v16 v18 fun x9 x10 =>
 ifB (ltF x10 0)
 (j4 v1 v2 v5 v18 x10 v16 v17 v18 true h)
 (mg .i64 1 h v2 fun x11 x12 =>
 j4 v1 v2 v5 v18 x10 v16 v17 v18 (jR (ltF x10 x12)) h))
 (j0 v5 h)
theorem aaj (hk : iu k0 k) (J0 : Q1) (j0 : xB) (h0 : Dy J0 j0) (J4 : Q1) (j4 : xI) (h4 : DI J4 j4) : mw (N3 n ai k0 J0 J4) (yj n ai k j0 j4) := by
  obtain rfl := fx2 hk
  obtain rfl := fx2 h0
  obtain rfl := fx10 h4
  intro v1 v2 v5 v16 v17 v18 h
  kernel_rfl
def ti (m : Nat) : Q1 := Nat.rec (motive := fun _ => Q1) (fun _ => .err) (fun _ ih => N3 n ai k0 (DP n ai k0 ) (C0 n ai k0 ih)) m
def lg (m : Nat) : gm := Nat.rec (motive := fun _ => gm) (fun _ _ _ _ _ _ _ => .err) (fun _ ih => yj n ai k (ta n ai k ) (tj n ai k ih)) m
theorem aav (hk : iu k0 k) (m : Nat) : mw (ti n ai k0 m) (lg n ai k m) := by
  induction m with
  | zero => intro v1 v2 v5 v16 v17 v18 h; rfl
  | succ m ih => exact aaj n ai k0 k hk (DP n ai k0 ) (ta n ai k ) (ZU n ai k0 k hk ) (C0 n ai k0 (ti n ai k0 m)) (tj n ai k (lg n ai k m)) (Zp n ai k0 k hk (ti n ai k0 m) (lg n ai k m) ih)
def R6 (n : Nat) (ai : cp) (k0 : Q0) (J1 : Q1) : Q1 := (bH (gz ai) eV Lr (bH (gz ai) eV LH (bH (gz ai) eV KE (fun s => cQ CP s J1))))
def Kb (n : Nat) (ai : cp) (k : iQ) (j1 : gm) (a0 : AV) (a1 : Int) (h : Heap) : CRes :=
 Al h a0 fun x0 h1 =>
 fld 16 h1 (.ptr x0 0) 1 false fun x2 x3 =>
 adq 8 x3 a1 fun x4 =>
 fld 0 h1 x4 1 false fun x5 x6 =>
 ju x6 fun x7 =>
 j1 a1 (.ptr x0 0) x6 x6 x7 0 h1
theorem adT (n : Nat) (ai : cp) (k0 : Q0) (k : iQ) (hk : iu k0 k) (J1 : Q1) (j1 : gm) (h1 : mw J1 j1) (a0 : AV) (a1 : Int) (h : Heap) : (R6 n ai k0 J1) ⟨cJ [(p0, a0), (p1, (.int .i64 a1))], h⟩ = (Kb n ai k j1) a0 a1 h := by
  obtain rfl := fx2 hk
  obtain rfl := fx7 h1
  kernel_rfl
def aew : Q1 := R6 n ai k0 (ti n ai k0 n)
def Js (n : Nat) (ai : cp) (a0 : AV) (a1 : Int) (h : Heap) (k : iQ) : CRes := Kb n ai k (lg n ai k n) a0 a1 h
theorem aeJ (n : Nat) (ai : cp) (k0 : Q0) (s : St) : D (fq [(eu, f0 ai)]) eV n BM (cH z_plan_colours k0) (fun _ _ => .err) (cH z_plan_colours k0) s = aew n ai k0 s := by kernel_rfl
theorem afu (n : Nat) (ai : cp) (a0 : AV) (a1 : Int) (h : Heap) (k0 : Q0) : W a_plan_colours z_plan_colours [(eu, f0 ai)] eV n BM [a0, (.int .i64 a1)] h k0 = Js n ai a0 a1 h (fun u0 h => k0 (.bool u0) h) := by
  let k : iQ := fun u0 h => k0 (.bool u0) h
  have hk : iu k0 k := fun _ _ => rfl
  have hb : ∀ F : Tr AV → CRes, iz a_plan_colours [a0, (.int .i64 a1)] .leaf F = F (cJ [(p0, a0), (p1, (.int .i64 a1))]) := fun F => by kernel_rfl
  exact (ny hb).trans ((aeJ n ai k0 _).trans (adT n ai k0 k hk (ti n ai k0 n) (lg n ai k n) (aav n ai k0 k hk n) a0 a1 h))
end
def ov (n : Nat) : lH := Js n (cz n)
theorem ad7 {tbl : Tr AFn} (hp : cF tbl) (ht : tbl.get (key mV) = some Sc) (n : Nat) (Ff : Sound tbl eu (f0 (cz n))) : Sound tbl mV (oL (ov n)) := by
  refine Sound.of (dN hp (ps := a_plan_colours) (rs := z_plan_colours) (l := [(eu, f0 (cz n))]) (ty := eV) (n := n) (c := BM) ht ⟨Ff, trivial⟩) fun args H k r H' h => ?_
  unfold oL at h
  obtain ⟨a0, l0, e0, h0⟩ := cT h
  subst e0
  obtain ⟨a1, l1, e1, h1⟩ := dQ h0
  subst e1
  obtain ⟨e9, h9⟩ := cY h1
  subst e9
  exact (afu n (cz n) a0 a1 H k).trans h9
/-! cofferdam/plan.each -/
abbrev dc := AV → Heap → (Int → Heap → CRes) → CRes
abbrev Aj := Int → Heap → CRes
def mt (g : dc) : Wr := fun l h k => mm l fun a0 l => mP l (g a0 h fun u0 h => k (.int .i64 u0) h)
def Ya : d7 := fq []
abbrev YH (k0 : Q0) (k : Aj) : Prop := ∀ u0 h, k0 (.int .i64 u0) h = k u0 h
section
variable (n : Nat) (k0 : Q0) (k : Aj)
def abp (n : Nat) (k0 : Q0) : Q1 := (bH (Ya ) E9 V9 (bH (Ya ) E9 VF (cH z_plan_each k0)))
def SV (n : Nat) (k : Aj) (a0 : AV) (h : Heap) : CRes :=
 Al h a0 fun x0 h1 =>
 mg .i64 0 h1 (.ptr x0 0) fun x2 x3 =>
 mg .i64 1 h1 (.ptr x0 0) fun x4 x5 =>
 quoK .i64 x3 x5 fun x6 =>
 k x6 h1
theorem akK (n : Nat) (k0 : Q0) (k : Aj) (hk : YH k0 k) (a0 : AV) (h : Heap) : (abp n k0 ) ⟨cJ [(p0, a0)], h⟩ = (SV n k ) a0 h := by
  obtain rfl := fx2 hk
  kernel_rfl
def akx : Q1 := abp n k0
def Sm (n : Nat) (a0 : AV) (h : Heap) (k : Aj) : CRes := SV n k a0 h
theorem aj2 (n : Nat) (k0 : Q0) (s : St) : D (fq []) E9 n Ld (cH z_plan_each k0) (fun _ _ => .err) (cH z_plan_each k0) s = akx n k0 s := by kernel_rfl
theorem aka (n : Nat) (a0 : AV) (h : Heap) (k0 : Q0) : W a_plan_each z_plan_each [] E9 n Ld [a0] h k0 = Sm n a0 h (fun u0 h => k0 (.int .i64 u0) h) := by
  let k : Aj := fun u0 h => k0 (.int .i64 u0) h
  have hk : YH k0 k := fun _ _ => rfl
  have hb : ∀ F : Tr AV → CRes, iz a_plan_each [a0] .leaf F = F (cJ [(p0, a0)]) := fun F => by kernel_rfl
  exact (ny hb).trans ((aj2 n k0 _).trans (akK n k0 k hk a0 h))
end
def mz (n : Nat) : dc := Sm n
theorem ajP {tbl : Tr AFn} (hp : cF tbl) (ht : tbl.get (key lD) = some abD) (n : Nat) : Sound tbl lD (mt (mz n)) := by
  refine Sound.of (dN hp (ps := a_plan_each) (rs := z_plan_each) (l := []) (ty := E9) (n := n) (c := Ld) ht trivial) fun args H k r H' h => ?_
  unfold mt at h
  obtain ⟨a0, l0, e0, h0⟩ := cT h
  subst e0
  obtain ⟨e9, h9⟩ := cY h0
  subst e9
  exact (aka n a0 H k).trans h9
/-! cofferdam/plan.total -/
abbrev cU := AV → Int → Heap → (Int → Heap → CRes) → CRes
abbrev xt := Int → Heap → CRes
def ll (g : cU) : Wr := fun l h k => mm l fun a0 l => pZ .i64 l fun a1 l => mP l (g a0 a1 h fun u0 h => k (.int .i64 u0) h)
def Wb (aA : dc) : d7 := fq [(lD, mt aA)]
abbrev V8 (k0 : Q0) (k : xt) : Prop := ∀ u0 h, k0 (.int .i64 u0) h = k u0 h
section
variable (n : Nat) (aA : dc) (k0 : Q0) (k : xt)
def Yg (n : Nat) (aA : dc) (k0 : Q0) : Q1 := (bH (Wb aA) Bn RT (bH (Wb aA) Bn Sj (cH z_plan_total k0)))
def Pu (n : Nat) (aA : dc) (k : xt) (a0 : AV) (a1 : Int) (h : Heap) : CRes :=
 Al h a0 fun x0 h1 =>
 fld 16 h1 (.ptr x0 0) 1 false fun x2 x3 =>
 adq 8 x3 a1 fun x4 =>
 fld 0 h1 x4 1 false fun x5 x6 =>
 ju x6 fun x7 =>
 iI h1 (.ptr x0 0) 17 true fun x8 =>
 aA x8 (h1.shut true) fun x9 h10 =>
 Kn .i64 x7 x9 fun x11 =>
 k x11 (h10.back h1.ro)
theorem ain (n : Nat) (aA : dc) (k0 : Q0) (k : xt) (hk : V8 k0 k) (a0 : AV) (a1 : Int) (h : Heap) : (Yg n aA k0 ) ⟨cJ [(p0, a0), (p1, (.int .i64 a1))], h⟩ = (Pu n aA k ) a0 a1 h := by
  obtain rfl := fx2 hk
  kernel_rfl
def aib : Q1 := Yg n aA k0
def O1 (n : Nat) (aA : dc) (a0 : AV) (a1 : Int) (h : Heap) (k : xt) : CRes := Pu n aA k a0 a1 h
theorem aic (n : Nat) (aA : dc) (k0 : Q0) (s : St) : D (fq [(lD, mt aA)]) Bn n H7 (cH z_plan_total k0) (fun _ _ => .err) (cH z_plan_total k0) s = aib n aA k0 s := by kernel_rfl
theorem ajf (n : Nat) (aA : dc) (a0 : AV) (a1 : Int) (h : Heap) (k0 : Q0) : W a_plan_total z_plan_total [(lD, mt aA)] Bn n H7 [a0, (.int .i64 a1)] h k0 = O1 n aA a0 a1 h (fun u0 h => k0 (.int .i64 u0) h) := by
  let k : xt := fun u0 h => k0 (.int .i64 u0) h
  have hk : V8 k0 k := fun _ _ => rfl
  have hb : ∀ F : Tr AV → CRes, iz a_plan_total [a0, (.int .i64 a1)] .leaf F = F (cJ [(p0, a0), (p1, (.int .i64 a1))]) := fun F => by kernel_rfl
  exact (ny hb).trans ((aic n aA k0 _).trans (ain n aA k0 k hk a0 a1 h))
end
def lm (n : Nat) : cU := O1 n (mz n)
theorem aiQ {tbl : Tr AFn} (hp : cF tbl) (ht : tbl.get (key kL) = some YM) (n : Nat) (OO : Sound tbl lD (mt (mz n))) : Sound tbl kL (ll (lm n)) := by
  refine Sound.of (dN hp (ps := a_plan_total) (rs := z_plan_total) (l := [(lD, mt (mz n))]) (ty := Bn) (n := n) (c := H7) ht ⟨OO, trivial⟩) fun args H k r H' h => ?_
  unfold ll at h
  obtain ⟨a0, l0, e0, h0⟩ := cT h
  subst e0
  obtain ⟨a1, l1, e1, h1⟩ := dQ h0
  subst e1
  obtain ⟨e9, h9⟩ := cY h1
  subst e9
  exact (ajf n (mz n) a0 a1 H k).trans h9
/-! cofferdam/plan.quotas -/
abbrev mK := AV → Int → Heap → (Bool → Heap → CRes) → CRes
abbrev iH := Bool → Heap → CRes
def qe (g : mK) : Wr := fun l h k => mm l fun a0 l => pZ .i64 l fun a1 l => mP l (g a0 a1 h fun u0 h => k (.bool u0) h)
def dA (aq : cU) (aa : bP) (aA : dc) (ab : bD) : d7 := fq [(kL, ll aq), (fb, ge aa), (lD, mt aA), (dg, dw ab)]
abbrev eM (k0 : Q0) (k : iH) : Prop := ∀ u0 h, k0 (.bool u0) h = k u0 h
abbrev zt : Type := Bool → Heap → CRes
abbrev GD (J : Q1) (j : zt) : Prop := ∀ v104 h, J ⟨cJ [(p104, (.bool v104))], h⟩ = j v104 h
abbrev zf : Type := Int → AV → AV → Bool → Heap → CRes
abbrev FP (J : Q1) (j : zf) : Prop := ∀ v1 v2 v5 v72 h, J ⟨cJ [(p1, (.int .i64 v1)), (p2, v2), (p5, v5), (p72, (.bool v72))], h⟩ = j v1 v2 v5 v72 h
abbrev zr : Type := Int → AV → AV → Int → Heap → CRes
abbrev GV (J : Q1) (j : zr) : Prop := ∀ v1 v2 v5 v8 h, J ⟨cJ [(p1, (.int .i64 v1)), (p2, v2), (p5, v5), (p8, (.int .i64 v8))], h⟩ = j v1 v2 v5 v8 h
abbrev zK : Type := Int → AV → AV → Int → AV → Int → Int → Heap → CRes
abbrev FR (J : Q1) (j : zK) : Prop := ∀ v1 v2 v5 v8 v51 v52 v53 h, J ⟨cJ [(p1, (.int .i64 v1)), (p2, v2), (p5, v5), (p8, (.int .i64 v8)), (p51, v51), (p52, (.int .i64 v52)), (p53, (.int .i64 v53))], h⟩ = j v1 v2 v5 v8 v51 v52 v53 h
abbrev lN : Type := Int → AV → AV → Int → AV → Int → Int → Heap → CRes
abbrev uz (J : Q1) (j : lN) : Prop := ∀ v1 v2 v5 v8 v51 v52 v53 h, J ⟨cJ [(p1, (.int .i64 v1)), (p2, v2), (p5, v5), (p8, (.int .i64 v8)), (p51, v51), (p52, (.int .i64 v52)), (p53, (.int .i64 v53))], h⟩ = j v1 v2 v5 v8 v51 v52 v53 h
abbrev zB : Type := Int → AV → AV → Heap → CRes
abbrev F8 (J : Q1) (j : zB) : Prop := ∀ v1 v2 v5 h, J ⟨cJ [(p1, (.int .i64 v1)), (p2, v2), (p5, v5)], h⟩ = j v1 v2 v5 h
abbrev oY : Type := Int → AV → AV → AV → Int → Heap → CRes
abbrev zp (J : Q1) (j : oY) : Prop := ∀ v1 v2 v5 v39 v40 h, J ⟨cJ [(p1, (.int .i64 v1)), (p2, v2), (p5, v5), (p39, v39), (p40, (.int .i64 v40))], h⟩ = j v1 v2 v5 v39 v40 h
abbrev y8 : Type := Int → AV → AV → Bool → Heap → CRes
abbrev Fw (J : Q1) (j : y8) : Prop := ∀ v1 v2 v5 v32 h, J ⟨cJ [(p1, (.int .i64 v1)), (p2, v2), (p5, v5), (p32, (.bool v32))], h⟩ = j v1 v2 v5 v32 h
abbrev zF : Type := Int → AV → AV → Bool → Heap → CRes
abbrev GS (J : Q1) (j : zF) : Prop := ∀ v1 v2 v5 v26 h, J ⟨cJ [(p1, (.int .i64 v1)), (p2, v2), (p5, v5), (p26, (.bool v26))], h⟩ = j v1 v2 v5 v26 h
section
variable (n : Nat) (aq : cU) (aa : bP) (aA : dc) (ab : bD) (k0 : Q0) (k : iH)
def Qg (n : Nat) (aq : cU) (aa : bP) (aA : dc) (ab : bD) (k0 : Q0) : Q1 := (bH (dA aq aa aA ab) dy Q9 (cH z_plan_quotas k0))
def GC (n : Nat) (aq : cU) (aa : bP) (aA : dc) (ab : bD) (k : iH) (v104 : Bool) (h : Heap) : CRes :=
 k v104 h
theorem ab1 (hk : eM k0 k) : GD (Qg n aq aa aA ab k0 ) (GC n aq aa aA ab k ) := by
  obtain rfl := fx2 hk
  intro v104 h
  kernel_rfl
def FI : Q1 := Qg n aq aa aA ab k0
def zy : zt := GC n aq aa aA ab k
theorem acf (hk : eM k0 k) : GD (FI n aq aa aA ab k0 ) (zy n aq aa aA ab k ) := ab1 n aq aa aA ab k0 k hk
def P2 (n : Nat) (aq : cU) (aa : bP) (aA : dc) (ab : bD) (k0 : Q0) (J0 : Q1) : Q1 := (fun s => fg (.t p72) s (bH (dA aq aa aA ab) dy QF (cH z_plan_quotas k0)) (bH (dA aq aa aA ab) dy P9 (fun s => fg (.t p75) s (bH (dA aq aa aA ab) dy P0 (cH z_plan_quotas k0)) (bH (dA aq aa aA ab) dy QA (bH (dA aq aa aA ab) dy QN (fun s => cQ Rg s J0))))))
def Fx (n : Nat) (aq : cU) (aa : bP) (aA : dc) (ab : bD) (k : iH) (j0 : zt) (v1 : Int) (v2 : AV) (v5 : AV) (v72 : Bool) (h : Heap) : CRes :=
 ifB v72
 (k false h)
 (iI h v2 17 true fun x54 =>
 aa x54 h fun x55 h56 =>
 ifB (jR x55)
 (k true h56)
 (mg .i64 1 h56 v5 fun x57 x58 =>
 aci .i64 1 x58 fun x59 =>
 iI h56 v2 17 true fun x60 =>
 aA x60 h56 fun x61 h62 =>
 ifB (jR (ltF x61 x59))
 (mg .i64 2 h62 v5 fun x63 x64 =>
 mG .i64 x59 x64 fun x65 =>
 mg .i64 3 h62 v5 fun x66 x67 =>
 mG .i64 x65 x67 fun x68 =>
 mg .i64 4 h62 v5 fun x69 x70 =>
 mG .i64 x68 x70 fun x71 =>
 mg .i64 5 h62 v5 fun x72 x73 =>
 mG .i64 x71 x73 fun x74 =>
 mg .i64 6 h62 v5 fun x75 x76 =>
 mG .i64 x74 x76 fun x77 =>
 iI h62 v2 17 true fun x78 =>
 aq x78 v1 (h62.shut true) fun x79 h80 =>
 j0 (jR (ltF x79 x77)) (h80.back h62.ro))
 (j0 false h62)))
theorem acm (hk : eM k0 k) (J0 : Q1) (j0 : zt) (h0 : GD J0 j0) : FP (P2 n aq aa aA ab k0 J0) (Fx n aq aa aA ab k j0) := by
  obtain rfl := fx2 hk
  obtain rfl := fx2 h0
  intro v1 v2 v5 v72 h
  kernel_rfl
def GN : Q1 := P2 n aq aa aA ab k0 (FI n aq aa aA ab k0 )
def zd : zf := Fx n aq aa aA ab k (zy n aq aa aA ab k )
theorem adb (hk : eM k0 k) : FP (GN n aq aa aA ab k0 ) (zd n aq aa aA ab k ) := acm n aq aa aA ab k0 k hk (FI n aq aa aA ab k0 ) (zy n aq aa aA ab k ) (acf n aq aa aA ab k0 k hk )
def Qv (n : Nat) (aq : cU) (aa : bP) (aA : dc) (ab : bD) (k0 : Q0) (J1 : Q1) : Q1 := (bH (dA aq aa aA ab) dy Qc (fun s => cQ Qt s J1))
def G6 (n : Nat) (aq : cU) (aa : bP) (aA : dc) (ab : bD) (k : iH) (j1 : zf) (v1 : Int) (v2 : AV) (v5 : AV) (v8 : Int) (h : Heap) : CRes :=
 mg .i64 7 h v5 fun x38 x39 =>
 ab x39 1 1024 h fun x40 h41 =>
 ifB (jR x40)
 (j1 v1 v2 v5 true h41)
 (j1 v1 v2 v5 (ltF 1024 v8) h41)
theorem acl (hk : eM k0 k) (J1 : Q1) (j1 : zf) (h1 : FP J1 j1) : GV (Qv n aq aa aA ab k0 J1) (G6 n aq aa aA ab k j1) := by
  obtain rfl := fx2 hk
  obtain rfl := fx5 h1
  intro v1 v2 v5 v8 h
  kernel_rfl
def FW : Q1 := Qv n aq aa aA ab k0 (GN n aq aa aA ab k0 )
def rH : zr := G6 n aq aa aA ab k (zd n aq aa aA ab k )
theorem ace (hk : eM k0 k) : GV (FW n aq aa aA ab k0 ) (rH n aq aa aA ab k ) := acl n aq aa aA ab k0 k hk (GN n aq aa aA ab k0 ) (zd n aq aa aA ab k ) (adb n aq aa aA ab k0 k hk )
def PA (n : Nat) (aq : cU) (aa : bP) (aA : dc) (ab : bD) (k0 : Q0) (J3 : Q1) : Q1 := (bH (dA aq aa aA ab) dy Q4 (fun s => cQ Ge s J3))
def Gv (n : Nat) (aq : cU) (aa : bP) (aA : dc) (ab : bD) (k : iH) (j3 : lN) (v1 : Int) (v2 : AV) (v5 : AV) (v8 : Int) (v51 : AV) (v52 : Int) (v53 : Int) (h : Heap) : CRes :=
 mG .i64 v53 1 fun x81 =>
 j3 v1 v2 v5 v8 v51 v52 x81 h
theorem ab5 (hk : eM k0 k) (J3 : Q1) (j3 : lN) (h3 : uz J3 j3) : FR (PA n aq aa aA ab k0 J3) (Gv n aq aa aA ab k j3) := by
  obtain rfl := fx2 hk
  obtain rfl := fx8 h3
  intro v1 v2 v5 v8 v51 v52 v53 h
  kernel_rfl
def FC (J3 : Q1) : Q1 := PA n aq aa aA ab k0 J3
def uR (j3 : lN) : zK := Gv n aq aa aA ab k j3
theorem ab4 (hk : eM k0 k) (J3 : Q1) (j3 : lN) (h3 : uz J3 j3) : FR (FC n aq aa aA ab k0 J3) (uR n aq aa aA ab k j3) := ab5 n aq aa aA ab k0 k hk J3 j3 h3
def Py (n : Nat) (aq : cU) (aa : bP) (aA : dc) (ab : bD) (k0 : Q0) (J2 : Q1) (J4 : Q1) : Q1 := (bH (dA aq aa aA ab) dy OK (fun s => fg (.t p54) s (bH (dA aq aa aA ab) dy MG (bH (dA aq aa aA ab) dy Qp (fun s => fg (.t p59) s (bH (dA aq aa aA ab) dy PJ (fun s => cQ GG s J4)) (fun s => cQ GG s J4)))) (fun s => cQ QI s J2)))
def zJ (n : Nat) (aq : cU) (aa : bP) (aA : dc) (ab : bD) (k : iH) (j2 : zr) (j4 : zK) (v1 : Int) (v2 : AV) (v5 : AV) (v8 : Int) (v51 : AV) (v52 : Int) (v53 : Int) (h : Heap) : CRes :=
 ifB (ltF v53 v52)
 (eld 8 h v51 v53 8 true fun x42 x43 =>
 A2 h (.cells [.nilslice, (.int .i64 0), (.int .i64 0), (.int .i64 0), (.int .i64 0), (.int .i64 0), (.int .i64 0), (.int .i64 0)] true 0) fun x44 h45 =>
 mT h45 (.ptr x44 0) 8 x43 fun h46 =>
 mg .i64 7 h46 (.ptr x44 0) fun x47 x48 =>
 ab x48 1 1024 h46 fun x49 h50 =>
 ifB x49
 (mg .i64 7 h50 (.ptr x44 0) fun x51 x52 =>
 mG .i64 v8 x52 fun x53 =>
 j4 v1 v2 v5 x53 v51 v52 v53 h50)
 (j4 v1 v2 v5 v8 v51 v52 v53 h50))
 (j2 v1 v2 v5 v8 h)
theorem ac7 (hk : eM k0 k) (J2 : Q1) (j2 : zr) (h2 : GV J2 j2) (J4 : Q1) (j4 : zK) (h4 : FR J4 j4) : uz (Py n aq aa aA ab k0 J2 J4) (zJ n aq aa aA ab k j2 j4) := by
  obtain rfl := fx2 hk
  obtain rfl := fx5 h2
  obtain rfl := fx8 h4
  intro v1 v2 v5 v8 v51 v52 v53 h
  kernel_rfl
def vj (m : Nat) : Q1 := Nat.rec (motive := fun _ => Q1) (fun _ => .err) (fun _ ih => Py n aq aa aA ab k0 (FW n aq aa aA ab k0 ) (FC n aq aa aA ab k0 ih)) m
def nC (m : Nat) : lN := Nat.rec (motive := fun _ => lN) (fun _ _ _ _ _ _ _ _ => .err) (fun _ ih => zJ n aq aa aA ab k (rH n aq aa aA ab k ) (uR n aq aa aA ab k ih)) m
theorem act (m : Nat) : nC n aq aa aA ab k (m + 1) = zJ n aq aa aA ab k (rH n aq aa aA ab k ) (uR n aq aa aA ab k (nC n aq aa aA ab k m)) := rfl
theorem ab6 (hk : eM k0 k) (m : Nat) : uz (vj n aq aa aA ab k0 m) (nC n aq aa aA ab k m) := by
  induction m with
  | zero => intro v1 v2 v5 v8 v51 v52 v53 h; rfl
  | succ m ih => exact ac7 n aq aa aA ab k0 k hk (FW n aq aa aA ab k0 ) (rH n aq aa aA ab k ) (ace n aq aa aA ab k0 k hk ) (FC n aq aa aA ab k0 (vj n aq aa aA ab k0 m)) (uR n aq aa aA ab k (nC n aq aa aA ab k m)) (ab4 n aq aa aA ab k0 k hk (vj n aq aa aA ab k0 m) (nC n aq aa aA ab k m) ih)
def PF (n : Nat) (aq : cU) (aa : bP) (aA : dc) (ab : bD) (k0 : Q0) (J3 : Q1) : Q1 := (bH (dA aq aa aA ab) dy NH (bH (dA aq aa aA ab) dy MD (fun s => cQ Ge s J3)))
def Gq (n : Nat) (aq : cU) (aa : bP) (aA : dc) (ab : bD) (k : iH) (j3 : lN) (v1 : Int) (v2 : AV) (v5 : AV) (h : Heap) : CRes :=
 fld 16 h v2 1 false fun x28 x29 =>
 mG .i64 v1 1 fun x30 =>
 slK (.sl 8) x29 none (some (.int .i64 x30)) none fun x31 =>
 ju x31 fun x32 =>
 j3 v1 v2 v5 0 x31 x32 0 h
theorem acW (hk : eM k0 k) (J3 : Q1) (j3 : lN) (h3 : uz J3 j3) : F8 (PF n aq aa aA ab k0 J3) (Gq n aq aa aA ab k j3) := by
  obtain rfl := fx2 hk
  obtain rfl := fx8 h3
  intro v1 v2 v5 h
  kernel_rfl
def FD : Q1 := PF n aq aa aA ab k0 (vj n aq aa aA ab k0 n)
def uM : zB := Gq n aq aa aA ab k (nC n aq aa aA ab k n)
theorem ac2 (hk : eM k0 k) : F8 (FD n aq aa aA ab k0 ) (uM n aq aa aA ab k ) := acW n aq aa aA ab k0 k hk (vj n aq aa aA ab k0 n) (nC n aq aa aA ab k n) (ab6 n aq aa aA ab k0 k hk n)
def PR (n : Nat) (aq : cU) (aa : bP) (aA : dc) (ab : bD) (k0 : Q0) (J5 : Q1) (J6 : Q1) : Q1 := (bH (dA aq aa aA ab) dy OD (fun s => fg (.t p41) s (bH (dA aq aa aA ab) dy ML (bH (dA aq aa aA ab) dy NC (fun s => fg (.t p45) s (bH (dA aq aa aA ab) dy Oj (cH z_plan_quotas k0)) (bH (dA aq aa aA ab) dy Nw (fun s => cQ GB s J6))))) (fun s => cQ Re s J5)))
def zm (n : Nat) (aq : cU) (aa : bP) (aA : dc) (ab : bD) (k : iH) (j5 : zB) (j6 : oY) (v1 : Int) (v2 : AV) (v5 : AV) (v39 : AV) (v40 : Int) (h : Heap) : CRes :=
 ifB (ltF v40 3)
 (Vr 1 3 false v39 v40 fun x33 =>
 TV .i64 x33 fun x34 =>
 ab x34 1 4096 h fun x35 h36 =>
 ifB (jR x35)
 (k false h36)
 (mG .i64 v40 1 fun x37 =>
 j6 v1 v2 v5 v39 x37 h36))
 (j5 v1 v2 v5 h)
theorem acj (hk : eM k0 k) (J5 : Q1) (j5 : zB) (h5 : F8 J5 j5) (J6 : Q1) (j6 : oY) (h6 : zp J6 j6) : zp (PR n aq aa aA ab k0 J5 J6) (zm n aq aa aA ab k j5 j6) := by
  obtain rfl := fx2 hk
  obtain rfl := fx4 h5
  obtain rfl := fx6 h6
  intro v1 v2 v5 v39 v40 h
  kernel_rfl
def y7 (m : Nat) : Q1 := Nat.rec (motive := fun _ => Q1) (fun _ => .err) (fun _ ih => PR n aq aa aA ab k0 (FD n aq aa aA ab k0 ) ih) m
def rI (m : Nat) : oY := Nat.rec (motive := fun _ => oY) (fun _ _ _ _ _ _ => .err) (fun _ ih => zm n aq aa aA ab k (uM n aq aa aA ab k ) ih) m
theorem acC (m : Nat) : rI n aq aa aA ab k (m + 1) = zm n aq aa aA ab k (uM n aq aa aA ab k ) (rI n aq aa aA ab k m) := rfl
theorem acP (hk : eM k0 k) (m : Nat) : zp (y7 n aq aa aA ab k0 m) (rI n aq aa aA ab k m) := by
  induction m with
  | zero => intro v1 v2 v5 v39 v40 h; rfl
  | succ m ih => exact acj n aq aa aA ab k0 k hk (FD n aq aa aA ab k0 ) (uM n aq aa aA ab k ) (ac2 n aq aa aA ab k0 k hk ) (y7 n aq aa aA ab k0 m) (rI n aq aa aA ab k m) ih
def Ql (n : Nat) (aq : cU) (aa : bP) (aA : dc) (ab : bD) (k0 : Q0) (J6 : Q1) : Q1 := (fun s => fg (.t p32) s (bH (dA aq aa aA ab) dy M9 (cH z_plan_quotas k0)) (bH (dA aq aa aA ab) dy Oc (fun s => cQ GB s J6)))
def GF (n : Nat) (aq : cU) (aa : bP) (aA : dc) (ab : bD) (k : iH) (j6 : oY) (v1 : Int) (v2 : AV) (v5 : AV) (v32 : Bool) (h : Heap) : CRes :=
 ifB v32
 (k false h)
 (mg .i64 4 h v5 fun x21 x22 =>
 mg .i64 5 h v5 fun x23 x24 =>
 mg .i64 6 h v5 fun x25 x26 =>
 z8 [(.int .i64 0), (.int .i64 0), (.int .i64 0)] [(0, 1, (.int .i64 x22)), (1, 1, (.int .i64 x24)), (2, 1, (.int .i64 x26))] fun x27 =>
 j6 v1 v2 v5 x27 0 h)
theorem acL (hk : eM k0 k) (J6 : Q1) (j6 : oY) (h6 : zp J6 j6) : Fw (Ql n aq aa aA ab k0 J6) (GF n aq aa aA ab k j6) := by
  obtain rfl := fx2 hk
  obtain rfl := fx6 h6
  intro v1 v2 v5 v32 h
  kernel_rfl
def F5 : Q1 := Ql n aq aa aA ab k0 (y7 n aq aa aA ab k0 n)
def y5 : y8 := GF n aq aa aA ab k (rI n aq aa aA ab k n)
theorem acV (hk : eM k0 k) : Fw (F5 n aq aa aA ab k0 ) (y5 n aq aa aA ab k ) := acL n aq aa aA ab k0 k hk (y7 n aq aa aA ab k0 n) (rI n aq aa aA ab k n) (acP n aq aa aA ab k0 k hk n)
def PB (n : Nat) (aq : cU) (aa : bP) (aA : dc) (ab : bD) (k0 : Q0) (J8 : Q1) : Q1 := (bH (dA aq aa aA ab) dy MK (fun s => cQ PV s J8))
def Gn (n : Nat) (aq : cU) (aa : bP) (aA : dc) (ab : bD) (k : iH) (j8 : y8) (v1 : Int) (v2 : AV) (v5 : AV) (v26 : Bool) (h : Heap) : CRes :=
 ifB v26
 (j8 v1 v2 v5 true h)
 (faK 3 v5 fun x17 =>
 ldI .i64 h x17 fun x18 =>
 ab x18 4 4096 h fun x19 h20 =>
 j8 v1 v2 v5 (jR x19) h20)
theorem ab8 (hk : eM k0 k) (J8 : Q1) (j8 : y8) (h8 : Fw J8 j8) : GS (PB n aq aa aA ab k0 J8) (Gn n aq aa aA ab k j8) := by
  obtain rfl := fx2 hk
  obtain rfl := fx5 h8
  intro v1 v2 v5 v26 h
  kernel_rfl
def F1 : Q1 := PB n aq aa aA ab k0 (F5 n aq aa aA ab k0 )
def zs : zF := Gn n aq aa aA ab k (y5 n aq aa aA ab k )
theorem acB (hk : eM k0 k) : GS (F1 n aq aa aA ab k0 ) (zs n aq aa aA ab k ) := ab8 n aq aa aA ab k0 k hk (F5 n aq aa aA ab k0 ) (y5 n aq aa aA ab k ) (acV n aq aa aA ab k0 k hk )
def U8 (n : Nat) (aq : cU) (aa : bP) (aA : dc) (ab : bD) (k0 : Q0) (J7 : Q1) : Q1 := (bH (dA aq aa aA ab) dy Nj (bH (dA aq aa aA ab) dy MS (bH (dA aq aa aA ab) dy OH (fun s => cQ PN s J7))))
def Ml (n : Nat) (aq : cU) (aa : bP) (aA : dc) (ab : bD) (k : iH) (j7 : zF) (a0 : AV) (a1 : Int) (h : Heap) : CRes :=
 Al h a0 fun x0 h1 =>
 fld 16 h1 (.ptr x0 0) 1 false fun x2 x3 =>
 eld 8 h1 x3 a1 8 true fun x4 x5 =>
 A2 h1 (.cells [.nilslice, (.int .i64 0), (.int .i64 0), (.int .i64 0), (.int .i64 0), (.int .i64 0), (.int .i64 0), (.int .i64 0)] true 0) fun x6 h7 =>
 mT h7 (.ptr x6 0) 8 x5 fun h8 =>
 mg .i64 1 h8 (.ptr x6 0) fun x9 x10 =>
 ab x10 0 3 h8 fun x11 h12 =>
 ifB (jR x11)
 (j7 a1 (.ptr x0 0) (.ptr x6 0) true h12)
 (faK 2 (.ptr x6 0) fun x13 =>
 ldI .i64 h12 x13 fun x14 =>
 ab x14 2 4096 h12 fun x15 h16 =>
 j7 a1 (.ptr x0 0) (.ptr x6 0) (jR x15) h16)
theorem agr (n : Nat) (aq : cU) (aa : bP) (aA : dc) (ab : bD) (k0 : Q0) (k : iH) (hk : eM k0 k) (J7 : Q1) (j7 : zF) (h7 : GS J7 j7) (a0 : AV) (a1 : Int) (h : Heap) : (U8 n aq aa aA ab k0 J7) ⟨cJ [(p0, a0), (p1, (.int .i64 a1))], h⟩ = (Ml n aq aa aA ab k j7) a0 a1 h := by
  obtain rfl := fx2 hk
  obtain rfl := fx5 h7
  kernel_rfl
def agD : Q1 := U8 n aq aa aA ab k0 (F1 n aq aa aA ab k0 )
def Mc (n : Nat) (aq : cU) (aa : bP) (aA : dc) (ab : bD) (a0 : AV) (a1 : Int) (h : Heap) (k : iH) : CRes := Ml n aq aa aA ab k (zs n aq aa aA ab k ) a0 a1 h
theorem aga (n : Nat) (aq : cU) (aa : bP) (aA : dc) (ab : bD) (k0 : Q0) (s : St) : D (fq [(kL, ll aq), (fb, ge aa), (lD, mt aA), (dg, dw ab)]) dy n EE (cH z_plan_quotas k0) (fun _ _ => .err) (cH z_plan_quotas k0) s = agD n aq aa aA ab k0 s := by kernel_rfl
theorem af0 (n : Nat) (aq : cU) (aa : bP) (aA : dc) (ab : bD) (a0 : AV) (a1 : Int) (h : Heap) (k0 : Q0) : W a_plan_quotas z_plan_quotas [(kL, ll aq), (fb, ge aa), (lD, mt aA), (dg, dw ab)] dy n EE [a0, (.int .i64 a1)] h k0 = Mc n aq aa aA ab a0 a1 h (fun u0 h => k0 (.bool u0) h) := by
  let k : iH := fun u0 h => k0 (.bool u0) h
  have hk : eM k0 k := fun _ _ => rfl
  have hb : ∀ F : Tr AV → CRes, iz a_plan_quotas [a0, (.int .i64 a1)] .leaf F = F (cJ [(p0, a0), (p1, (.int .i64 a1))]) := fun F => by kernel_rfl
  exact (ny hb).trans ((aga n aq aa aA ab k0 _).trans (agr n aq aa aA ab k0 k hk (F1 n aq aa aA ab k0 ) (zs n aq aa aA ab k ) (acB n aq aa aA ab k0 k hk ) a0 a1 h))
end
def qi (n : Nat) : mK := Mc n (lm n) (eo n) (mz n) (dI n)
theorem agG {tbl : Tr AFn} (hp : cF tbl) (ht : tbl.get (key oj) = some Vj) (n : Nat) (LQ : Sound tbl kL (ll (lm n))) (uu : Sound tbl fb (ge (eo n))) (OO : Sound tbl lD (mt (mz n))) (nd : Sound tbl dg (dw (dI n))) : Sound tbl oj (qe (qi n)) := by
  refine Sound.of (dN hp (ps := a_plan_quotas) (rs := z_plan_quotas) (l := [(kL, ll (lm n)), (fb, ge (eo n)), (lD, mt (mz n)), (dg, dw (dI n))]) (ty := dy) (n := n) (c := EE) ht ⟨LQ, uu, OO, nd, trivial⟩) fun args H k r H' h => ?_
  unfold qe at h
  obtain ⟨a0, l0, e0, h0⟩ := cT h
  subst e0
  obtain ⟨a1, l1, e1, h1⟩ := dQ h0
  subst e1
  obtain ⟨e9, h9⟩ := cY h1
  subst e9
  exact (af0 n (lm n) (eo n) (mz n) (dI n) a0 a1 H k).trans h9
/-! cofferdam/plan.part -/
abbrev cV := AV → Int → Heap → (Int → Heap → CRes) → CRes
abbrev Ae := Int → Heap → CRes
def mv (g : cV) : Wr := fun l h k => mm l fun a0 l => pZ .i64 l fun a1 l => mP l (g a0 a1 h fun u0 h => k (.int .i64 u0) h)
def ym (dz : lH) (dY : mK) : d7 := fq [(mV, oL dz), (oj, qe dY)]
abbrev YG (k0 : Q0) (k : Ae) : Prop := ∀ u0 h, k0 (.int .i64 u0) h = k u0 h
section
variable (n : Nat) (dz : lH) (dY : mK) (k0 : Q0) (k : Ae)
def abO (n : Nat) (dz : lH) (dY : mK) (k0 : Q0) : Q1 := (bH (ym dz dY) sm VL (bH (ym dz dY) sm V1 (fun s => fg (.t p5) s (bH (ym dz dY) sm VX (cH z_plan_part k0)) (bH (ym dz dY) sm VC (fun s => fg (.t p10) s (bH (ym dz dY) sm Wm (cH z_plan_part k0)) (bH (ym dz dY) sm Vy (cH z_plan_part k0)))))))
def To (n : Nat) (dz : lH) (dY : mK) (k : Ae) (a0 : AV) (a1 : Int) (h : Heap) : CRes :=
 Al h a0 fun x0 h1 =>
 iI h1 (.ptr x0 0) 17 true fun x2 =>
 dz x2 a1 h1 fun x3 h4 =>
 ifB (jR x3)
 (k 110 h4)
 (iI h4 (.ptr x0 0) 17 true fun x5 =>
 dY x5 a1 h4 fun x6 h7 =>
 ifB (jR x6)
 (k 111 h7)
 (k 0 h7))
theorem akv (n : Nat) (dz : lH) (dY : mK) (k0 : Q0) (k : Ae) (hk : YG k0 k) (a0 : AV) (a1 : Int) (h : Heap) : (abO n dz dY k0 ) ⟨cJ [(p0, a0), (p1, (.int .i64 a1))], h⟩ = (To n dz dY k ) a0 a1 h := by
  obtain rfl := fx2 hk
  kernel_rfl
def ajZ : Q1 := abO n dz dY k0
def Ss (n : Nat) (dz : lH) (dY : mK) (a0 : AV) (a1 : Int) (h : Heap) (k : Ae) : CRes := To n dz dY k a0 a1 h
theorem ak1 (n : Nat) (dz : lH) (dY : mK) (k0 : Q0) (s : St) : D (fq [(mV, oL dz), (oj, qe dY)]) sm n KS (cH z_plan_part k0) (fun _ _ => .err) (cH z_plan_part k0) s = ajZ n dz dY k0 s := by kernel_rfl
theorem akM (n : Nat) (dz : lH) (dY : mK) (a0 : AV) (a1 : Int) (h : Heap) (k0 : Q0) : W a_plan_part z_plan_part [(mV, oL dz), (oj, qe dY)] sm n KS [a0, (.int .i64 a1)] h k0 = Ss n dz dY a0 a1 h (fun u0 h => k0 (.int .i64 u0) h) := by
  let k : Ae := fun u0 h => k0 (.int .i64 u0) h
  have hk : YG k0 k := fun _ _ => rfl
  have hb : ∀ F : Tr AV → CRes, iz a_plan_part [a0, (.int .i64 a1)] .leaf F = F (cJ [(p0, a0), (p1, (.int .i64 a1))]) := fun F => by kernel_rfl
  exact (ny hb).trans ((ak1 n dz dY k0 _).trans (akv n dz dY k0 k hk a0 a1 h))
end
def kC (n : Nat) : cV := Ss n (ov n) (qi n)
theorem akr {tbl : Tr AFn} (hp : cF tbl) (ht : tbl.get (key lE) = some abC) (n : Nat) (acD : Sound tbl mV (oL (ov n))) (aeE : Sound tbl oj (qe (qi n))) : Sound tbl lE (mv (kC n)) := by
  refine Sound.of (dN hp (ps := a_plan_part) (rs := z_plan_part) (l := [(mV, oL (ov n)), (oj, qe (qi n))]) (ty := sm) (n := n) (c := KS) ht ⟨acD, aeE, trivial⟩) fun args H k r H' h => ?_
  unfold mv at h
  obtain ⟨a0, l0, e0, h0⟩ := cT h
  subst e0
  obtain ⟨a1, l1, e1, h1⟩ := dQ h0
  subst e1
  obtain ⟨e9, h9⟩ := cY h1
  subst e9
  exact (akM n (ov n) (qi n) a0 a1 H k).trans h9
/-! cofferdam/cost.within -/
abbrev cX := Int → Int → Int → Heap → (Bool → Heap → CRes) → CRes
abbrev ss := Bool → Heap → CRes
def km (g : cX) : Wr := fun l h k => pZ .i64 l fun a0 l => pZ .i64 l fun a1 l => pZ .i64 l fun a2 l => mP l (g a0 a1 a2 h fun u0 h => k (.bool u0) h)
def JX : d7 := fq []
abbrev AW (k0 : Q0) (k : ss) : Prop := ∀ u0 h, k0 (.bool u0) h = k u0 h
abbrev y9 : Type := Bool → Heap → CRes
abbrev FM (J : Q1) (j : y9) : Prop := ∀ v14 h, J ⟨cJ [(p14, (.bool v14))], h⟩ = j v14 h
section
variable (n : Nat) (k0 : Q0) (k : ss)
def Qs (n : Nat) (k0 : Q0) : Q1 := (bH (JX ) vx P8 (cH z_cost_within k0))
def GT (n : Nat) (k : ss) (v14 : Bool) (h : Heap) : CRes :=
 k v14 h
theorem ac3 (hk : AW k0 k) : FM (Qs n k0 ) (GT n k ) := by
  obtain rfl := fx2 hk
  intro v14 h
  kernel_rfl
def F0 : Q1 := Qs n k0
def zn : y9 := GT n k
theorem ack (hk : AW k0 k) : FM (F0 n k0 ) (zn n k ) := ac3 n k0 k hk
def VV (n : Nat) (k0 : Q0) (J0 : Q1) : Q1 := (bH (JX ) vx QG (bH (JX ) vx QO (fun s => cQ Q7 s J0)))
def L7 (n : Nat) (k : ss) (j0 : y9) (a0 : Int) (a1 : Int) (a2 : Int) (h : Heap) : CRes :=
 ifB (jR (ltF a0 a1))
 (j0 (jR (ltF a2 a0)) h)
 (j0 false h)
theorem agF (n : Nat) (k0 : Q0) (k : ss) (hk : AW k0 k) (J0 : Q1) (j0 : y9) (h0 : FM J0 j0) (a0 : Int) (a1 : Int) (a2 : Int) (h : Heap) : (VV n k0 J0) ⟨cJ [(p0, (.int .i64 a0)), (p1, (.int .i64 a1)), (p2, (.int .i64 a2))], h⟩ = (L7 n k j0) a0 a1 a2 h := by
  obtain rfl := fx2 hk
  obtain rfl := fx2 h0
  kernel_rfl
def afQ : Q1 := VV n k0 (F0 n k0 )
def Mh (n : Nat) (a0 : Int) (a1 : Int) (a2 : Int) (h : Heap) (k : ss) : CRes := L7 n k (zn n k ) a0 a1 a2 h
theorem afK (n : Nat) (k0 : Q0) (s : St) : D (fq []) vx n Eo (cH z_cost_within k0) (fun _ _ => .err) (cH z_cost_within k0) s = afQ n k0 s := by kernel_rfl
theorem agz (n : Nat) (a0 : Int) (a1 : Int) (a2 : Int) (h : Heap) (k0 : Q0) : W a_cost_within z_cost_within [] vx n Eo [(.int .i64 a0), (.int .i64 a1), (.int .i64 a2)] h k0 = Mh n a0 a1 a2 h (fun u0 h => k0 (.bool u0) h) := by
  let k : ss := fun u0 h => k0 (.bool u0) h
  have hk : AW k0 k := fun _ _ => rfl
  have hb : ∀ F : Tr AV → CRes, iz a_cost_within [(.int .i64 a0), (.int .i64 a1), (.int .i64 a2)] .leaf F = F (cJ [(p0, (.int .i64 a0)), (p1, (.int .i64 a1)), (p2, (.int .i64 a2))]) := fun F => by kernel_rfl
  exact (ny hb).trans ((afK n k0 _).trans (agF n k0 k hk (F0 n k0 ) (zn n k ) (ack n k0 k hk ) a0 a1 a2 h))
end
def jF (n : Nat) : cX := Mh n
theorem agC {tbl : Tr AFn} (hp : cF tbl) (ht : tbl.get (key jE) = some Vk) (n : Nat) : Sound tbl jE (km (jF n)) := by
  refine Sound.of (dN hp (ps := a_cost_within) (rs := z_cost_within) (l := []) (ty := vx) (n := n) (c := Eo) ht trivial) fun args H k r H' h => ?_
  unfold km at h
  obtain ⟨a0, l0, e0, h0⟩ := dQ h
  subst e0
  obtain ⟨a1, l1, e1, h1⟩ := dQ h0
  subst e1
  obtain ⟨a2, l2, e2, h2⟩ := dQ h1
  subst e2
  obtain ⟨e9, h9⟩ := cY h2
  subst e9
  exact (agz n a0 a1 a2 H k).trans h9
/-! cofferdam/cost.Switch -/
abbrev dx := AV → Int → Int → Heap → (Int → Int → Heap → CRes) → CRes
abbrev su := Int → Int → Heap → CRes
def ql (g : dx) : Wr := fun l h k => mm l fun a0 l => pZ .i64 l fun a1 l => pZ .i64 l fun a2 l => mP l (g a0 a1 a2 h fun u0 u1 h => k (.tuple [(.int .u64 u0), (.int .i64 u1)]) h)
def qU (ad : bX) (az : cX) : d7 := fq [(eP, fe ad), (jE, km az)]
abbrev Bu (k0 : Q0) (k : su) : Prop := ∀ u0 u1 h, k0 (.tuple [(.int .u64 u0), (.int .i64 u1)]) h = k u0 u1 h
abbrev y2 : Type := Int → Int → AV → Bool → Heap → CRes
abbrev Fz (J : Q1) (j : y2) : Prop := ∀ v1 v2 v3 v21 h, J ⟨cJ [(p1, (.int .i64 v1)), (p2, (.int .i64 v2)), (p3, v3), (p21, (.bool v21))], h⟩ = j v1 v2 v3 v21 h
section
variable (n : Nat) (ad : bX) (az : cX) (k0 : Q0) (k : su)
def Rk (n : Nat) (ad : bX) (az : cX) (k0 : Q0) : Q1 := (fun s => fg (.t p21) s (bH (qU ad az) mI QU (cH z_cost_Switch k0)) (bH (qU ad az) mI Q8 (cH z_cost_Switch k0)))
def GP (n : Nat) (ad : bX) (az : cX) (k : su) (v1 : Int) (v2 : Int) (v3 : AV) (v21 : Bool) (h : Heap) : CRes :=
 ifB v21
 (k 0 2 h)
 (mG .i64 v1 v2 fun x9 =>
 yV .u64 x9 fun x10 =>
 mg .u64 4 h v3 fun x11 x12 =>
 Kn .u64 x10 x12 fun x13 =>
 k x13 0 h)
theorem acp (hk : Bu k0 k) : Fz (Rk n ad az k0 ) (GP n ad az k ) := by
  obtain rfl := fx3 hk
  intro v1 v2 v3 v21 h
  kernel_rfl
def FH : Q1 := Rk n ad az k0
def zu : y2 := GP n ad az k
theorem ach (hk : Bu k0 k) : Fz (FH n ad az k0 ) (zu n ad az k ) := acp n ad az k0 k hk
def Vm (n : Nat) (ad : bX) (az : cX) (k0 : Q0) (J0 : Q1) : Q1 := (bH (qU ad az) mI QX (bH (qU ad az) mI Q6 (bH (qU ad az) mI Qq (fun s => fg (.t p12) s (bH (qU ad az) mI QR (cH z_cost_Switch k0)) (bH (qU ad az) mI QV (fun s => cQ P7 s J0))))))
def Mj (n : Nat) (ad : bX) (az : cX) (k : su) (j0 : y2) (a0 : AV) (a1 : Int) (a2 : Int) (h : Heap) : CRes :=
 Al h a0 fun x0 h1 =>
 iI h1 (.ptr x0 0) 6 true fun x2 =>
 ad x2 h1 fun x3 h4 =>
 ifB (jR (eqF x3 0))
 (k 0 x3 h4)
 (az a1 0 65536 h4 fun x5 h6 =>
 ifB (jR x5)
 (j0 a1 a2 (.ptr x0 0) true h6)
 (az a2 0 64 h6 fun x7 h8 =>
 j0 a1 a2 (.ptr x0 0) (jR x7) h8))
theorem agJ (n : Nat) (ad : bX) (az : cX) (k0 : Q0) (k : su) (hk : Bu k0 k) (J0 : Q1) (j0 : y2) (h0 : Fz J0 j0) (a0 : AV) (a1 : Int) (a2 : Int) (h : Heap) : (Vm n ad az k0 J0) ⟨cJ [(p0, a0), (p1, (.int .i64 a1)), (p2, (.int .i64 a2))], h⟩ = (Mj n ad az k j0) a0 a1 a2 h := by
  obtain rfl := fx3 hk
  obtain rfl := fx5 h0
  kernel_rfl
def afR : Q1 := Vm n ad az k0 (FH n ad az k0 )
def L4 (n : Nat) (ad : bX) (az : cX) (a0 : AV) (a1 : Int) (a2 : Int) (h : Heap) (k : su) : CRes := Mj n ad az k (zu n ad az k ) a0 a1 a2 h
theorem agp (n : Nat) (ad : bX) (az : cX) (k0 : Q0) (s : St) : D (fq [(eP, fe ad), (jE, km az)]) mI n Ef (cH z_cost_Switch k0) (fun _ _ => .err) (cH z_cost_Switch k0) s = afR n ad az k0 s := by kernel_rfl
theorem ags (n : Nat) (ad : bX) (az : cX) (a0 : AV) (a1 : Int) (a2 : Int) (h : Heap) (k0 : Q0) : W a_cost_Switch z_cost_Switch [(eP, fe ad), (jE, km az)] mI n Ef [a0, (.int .i64 a1), (.int .i64 a2)] h k0 = L4 n ad az a0 a1 a2 h (fun u0 u1 h => k0 (.tuple [(.int .u64 u0), (.int .i64 u1)]) h) := by
  let k : su := fun u0 u1 h => k0 (.tuple [(.int .u64 u0), (.int .i64 u1)]) h
  have hk : Bu k0 k := fun _ _ _ => rfl
  have hb : ∀ F : Tr AV → CRes, iz a_cost_Switch [a0, (.int .i64 a1), (.int .i64 a2)] .leaf F = F (cJ [(p0, a0), (p1, (.int .i64 a1)), (p2, (.int .i64 a2))]) := fun F => by kernel_rfl
  exact (ny hb).trans ((agp n ad az k0 _).trans (agJ n ad az k0 k hk (FH n ad az k0 ) (zu n ad az k ) (ach n ad az k0 k hk ) a0 a1 a2 h))
end
def mM (n : Nat) : dx := L4 n (ez n) (jF n)
theorem afP {tbl : Tr AFn} (hp : cF tbl) (ht : tbl.get (key oq) = some VT) (n : Nat) (st : Sound tbl eP (fe (ez n))) (JZ : Sound tbl jE (km (jF n))) : Sound tbl oq (ql (mM n)) := by
  refine Sound.of (dN hp (ps := a_cost_Switch) (rs := z_cost_Switch) (l := [(eP, fe (ez n)), (jE, km (jF n))]) (ty := mI) (n := n) (c := Ef) ht ⟨st, JZ, trivial⟩) fun args H k r H' h => ?_
  unfold ql at h
  obtain ⟨a0, l0, e0, h0⟩ := cT h
  subst e0
  obtain ⟨a1, l1, e1, h1⟩ := dQ h0
  subst e1
  obtain ⟨a2, l2, e2, h2⟩ := dQ h1
  subst e2
  obtain ⟨e9, h9⟩ := cY h2
  subst e9
  exact (ags n (ez n) (jF n) a0 a1 a2 H k).trans h9
/-! cofferdam/cost.asked -/
abbrev kP := AV → AV → Heap → (Int → Heap → CRes) → CRes
abbrev lY := Int → Heap → CRes
def rO (g : kP) : Wr := fun l h k => mm l fun a0 l => mm l fun a1 l => mP l (g a0 a1 h fun u0 h => k (.int .i64 u0) h)
def iB (ad : bX) (az : cX) : d7 := fq [(eP, fe ad), (jE, km az)]
abbrev jA (k0 : Q0) (k : lY) : Prop := ∀ u0 h, k0 (.int .i64 u0) h = k u0 h
abbrev BI : Type := Bool → Heap → CRes
abbrev IY (J : Q1) (j : BI) : Prop := ∀ v44 h, J ⟨cJ [(p44, (.bool v44))], h⟩ = j v44 h
abbrev Bl : Type := AV → Bool → Heap → CRes
abbrev Ik (J : Q1) (j : Bl) : Prop := ∀ v3 v38 h, J ⟨cJ [(p3, v3), (p38, (.bool v38))], h⟩ = j v3 v38 h
abbrev A5 : Type := AV → Bool → Heap → CRes
abbrev JT (J : Q1) (j : A5) : Prop := ∀ v3 v32 h, J ⟨cJ [(p3, v3), (p32, (.bool v32))], h⟩ = j v3 v32 h
abbrev As : Type := AV → Bool → Heap → CRes
abbrev Ke (J : Q1) (j : As) : Prop := ∀ v3 v6 h, J ⟨cJ [(p3, v3), (p6, (.bool v6))], h⟩ = j v3 v6 h
abbrev Bp : Type := AV → Int → Bool → Heap → CRes
abbrev JI (J : Q1) (j : Bp) : Prop := ∀ v3 v13 v23 h, J ⟨cJ [(p3, v3), (p13, (.int .i64 v13)), (p23, (.bool v23))], h⟩ = j v3 v13 v23 h
abbrev mZ : Type := AV → Bool → Int → Heap → CRes
abbrev xd (J : Q1) (j : mZ) : Prop := ∀ v3 v6 v13 h, J ⟨cJ [(p3, v3), (p6, (.bool v6)), (p13, (.int .i64 v13))], h⟩ = j v3 v6 v13 h
section
variable (n : Nat) (ad : bX) (az : cX) (k0 : Q0) (k : lY)
def TC (n : Nat) (ad : bX) (az : cX) (k0 : Q0) : Q1 := (fun s => fg (.t p44) s (bH (iB ad az) ib TF (cH z_cost_asked k0)) (bH (iB ad az) ib T9 (cH z_cost_asked k0)))
def Kc (n : Nat) (ad : bX) (az : cX) (k : lY) (v44 : Bool) (h : Heap) : CRes :=
 ifB v44
 (k 2 h)
 (k 0 h)
theorem aeZ (hk : jA k0 k) : IY (TC n ad az k0 ) (Kc n ad az k ) := by
  obtain rfl := fx2 hk
  intro v44 h
  kernel_rfl
def Iz : Q1 := TC n ad az k0
def AO : BI := Kc n ad az k
theorem adu (hk : jA k0 k) : IY (Iz n ad az k0 ) (AO n ad az k ) := aeZ n ad az k0 k hk
def SL (n : Nat) (ad : bX) (az : cX) (k0 : Q0) (J2 : Q1) : Q1 := (bH (iB ad az) ib Th (fun s => cQ T4 s J2))
def I8 (n : Nat) (ad : bX) (az : cX) (k : lY) (j2 : BI) (v3 : AV) (v38 : Bool) (h : Heap) : CRes :=
 ifB v38
 (j2 true h)
 (faK 3 v3 fun x19 =>
 ldI .i64 h x19 fun x20 =>
 az x20 1 4096 h fun x21 h22 =>
 j2 (jR x21) h22)
theorem ae6 (hk : jA k0 k) (J2 : Q1) (j2 : BI) (h2 : IY J2 j2) : Ik (SL n ad az k0 J2) (I8 n ad az k j2) := by
  obtain rfl := fx2 hk
  obtain rfl := fx2 h2
  intro v3 v38 h
  kernel_rfl
def JG : Q1 := SL n ad az k0 (Iz n ad az k0 )
def Bh : Bl := I8 n ad az k (AO n ad az k )
theorem adS (hk : jA k0 k) : Ik (JG n ad az k0 ) (Bh n ad az k ) := ae6 n ad az k0 k hk (Iz n ad az k0 ) (AO n ad az k ) (adu n ad az k0 k hk )
def T1 (n : Nat) (ad : bX) (az : cX) (k0 : Q0) (J1 : Q1) : Q1 := (bH (iB ad az) ib T6 (fun s => cQ Sw s J1))
def IA (n : Nat) (ad : bX) (az : cX) (k : lY) (j1 : Bl) (v3 : AV) (v32 : Bool) (h : Heap) : CRes :=
 ifB v32
 (j1 v3 true h)
 (faK 2 v3 fun x14 =>
 ldI .i64 h x14 fun x15 =>
 az x15 1 5120 h fun x16 h17 =>
 j1 v3 (jR x16) h17)
theorem aea (hk : jA k0 k) (J1 : Q1) (j1 : Bl) (h1 : Ik J1 j1) : JT (T1 n ad az k0 J1) (IA n ad az k j1) := by
  obtain rfl := fx2 hk
  obtain rfl := fx3 h1
  intro v3 v32 h
  kernel_rfl
def I3 : Q1 := T1 n ad az k0 (JG n ad az k0 )
def BD : A5 := IA n ad az k (Bh n ad az k )
theorem afe (hk : jA k0 k) : JT (I3 n ad az k0 ) (BD n ad az k ) := aea n ad az k0 k hk (JG n ad az k0 ) (Bh n ad az k ) (adS n ad az k0 k hk )
def TL (n : Nat) (ad : bX) (az : cX) (k0 : Q0) (J0 : Q1) : Q1 := (bH (iB ad az) ib Se (fun s => cQ TG s J0))
def Jh (n : Nat) (ad : bX) (az : cX) (k : lY) (j0 : A5) (v3 : AV) (v6 : Bool) (h : Heap) : CRes :=
 ifB (jR v6)
 (j0 v3 true h)
 (faK 1 v3 fun x7 =>
 ldI .i64 h x7 fun x8 =>
 az x8 2 4096 h fun x9 h10 =>
 j0 v3 (jR x9) h10)
theorem aec (hk : jA k0 k) (J0 : Q1) (j0 : A5) (h0 : JT J0 j0) : Ke (TL n ad az k0 J0) (Jh n ad az k j0) := by
  obtain rfl := fx2 hk
  obtain rfl := fx3 h0
  intro v3 v6 h
  kernel_rfl
def Kj : Q1 := TL n ad az k0 (I3 n ad az k0 )
def s9 : As := Jh n ad az k (BD n ad az k )
theorem ae5 (hk : jA k0 k) : Ke (Kj n ad az k0 ) (s9 n ad az k ) := aec n ad az k0 k hk (I3 n ad az k0 ) (BD n ad az k ) (afe n ad az k0 k hk )
def RQ (n : Nat) (ad : bX) (az : cX) (k0 : Q0) (J4 : Q1) : Q1 := (bH (iB ad az) ib Tj (bH (iB ad az) ib S1 (fun s => cQ Kk s J4)))
def Jv (n : Nat) (ad : bX) (az : cX) (k : lY) (j4 : mZ) (v3 : AV) (v13 : Int) (v23 : Bool) (h : Heap) : CRes :=
 mG .i64 v13 1 fun x18 =>
 j4 v3 v23 x18 h
theorem adO (hk : jA k0 k) (J4 : Q1) (j4 : mZ) (h4 : xd J4 j4) : JI (RQ n ad az k0 J4) (Jv n ad az k j4) := by
  obtain rfl := fx2 hk
  obtain rfl := fx4 h4
  intro v3 v13 v23 h
  kernel_rfl
def Jl (J4 : Q1) : Q1 := RQ n ad az k0 J4
def wG (j4 : mZ) : Bp := Jv n ad az k j4
theorem afg (hk : jA k0 k) (J4 : Q1) (j4 : mZ) (h4 : xd J4 j4) : JI (Jl n ad az k0 J4) (wG n ad az k j4) := adO n ad az k0 k hk J4 j4 h4
def TK (n : Nat) (ad : bX) (az : cX) (k0 : Q0) (J3 : Q1) (J5 : Q1) : Q1 := (bH (iB ad az) ib TP (fun s => fg (.t p14) s (bH (iB ad az) ib S0 (bH (iB ad az) ib SN (fun s => cQ So s J5))) (fun s => cQ Tf s J3)))
def AL (n : Nat) (ad : bX) (az : cX) (k : lY) (j3 : As) (j5 : Bp) (v3 : AV) (v6 : Bool) (v13 : Int) (h : Heap) : CRes :=
 ifB (ltF v13 4)
 (ifB v6
 (j5 v3 v13 true h)
 (faK 0 v3 fun x11 =>
 ldI .i64 h x11 fun x12 =>
 aci .i64 1 v13 fun x13 =>
 j5 v3 v13 (eqF x12 x13) h))
 (j3 v3 v6 h)
theorem ad5 (hk : jA k0 k) (J3 : Q1) (j3 : As) (h3 : Ke J3 j3) (J5 : Q1) (j5 : Bp) (h5 : JI J5 j5) : xd (TK n ad az k0 J3 J5) (AL n ad az k j3 j5) := by
  obtain rfl := fx2 hk
  obtain rfl := fx3 h3
  obtain rfl := fx4 h5
  intro v3 v6 v13 h
  kernel_rfl
def wT (m : Nat) : Q1 := Nat.rec (motive := fun _ => Q1) (fun _ => .err) (fun _ ih => TK n ad az k0 (Kj n ad az k0 ) (Jl n ad az k0 ih)) m
def oF (m : Nat) : mZ := Nat.rec (motive := fun _ => mZ) (fun _ _ _ _ => .err) (fun _ ih => AL n ad az k (s9 n ad az k ) (wG n ad az k ih)) m
theorem aeI (m : Nat) : oF n ad az k (m + 1) = AL n ad az k (s9 n ad az k ) (wG n ad az k (oF n ad az k m)) := rfl
theorem ad0 (hk : jA k0 k) (m : Nat) : xd (wT n ad az k0 m) (oF n ad az k m) := by
  induction m with
  | zero => intro v3 v6 v13 h; rfl
  | succ m ih => exact ad5 n ad az k0 k hk (Kj n ad az k0 ) (s9 n ad az k ) (ae5 n ad az k0 k hk ) (Jl n ad az k0 (wT n ad az k0 m)) (wG n ad az k (oF n ad az k m)) (afg n ad az k0 k hk (wT n ad az k0 m) (oF n ad az k m) ih)
def Y3 (n : Nat) (ad : bX) (az : cX) (k0 : Q0) (J4 : Q1) : Q1 := (bH (iB ad az) ib P3 (bH (iB ad az) ib Qj (bH (iB ad az) ib PG (fun s => fg (.t p11) s (bH (iB ad az) ib Rf (cH z_cost_asked k0)) (bH (iB ad az) ib QJ (bH (iB ad az) ib Qm (fun s => cQ Kk s J4)))))))
def Pw (n : Nat) (ad : bX) (az : cX) (k : lY) (j4 : mZ) (a0 : AV) (a1 : AV) (h : Heap) : CRes :=
 Al h a0 fun x0 h1 =>
 Al h1 a1 fun x2 h3 =>
 iI h3 (.ptr x0 0) 6 true fun x4 =>
 ad x4 h3 fun x5 h6 =>
 ifB (jR (eqF x5 0))
 (k x5 h6)
 (j4 (.ptr x2 0) false 0 h6)
theorem ahK (n : Nat) (ad : bX) (az : cX) (k0 : Q0) (k : lY) (hk : jA k0 k) (J4 : Q1) (j4 : mZ) (h4 : xd J4 j4) (a0 : AV) (a1 : AV) (h : Heap) : (Y3 n ad az k0 J4) ⟨cJ [(p0, a0), (p1, a1)], h⟩ = (Pw n ad az k j4) a0 a1 h := by
  obtain rfl := fx2 hk
  obtain rfl := fx4 h4
  kernel_rfl
def ahI : Q1 := Y3 n ad az k0 (wT n ad az k0 n)
def OQ (n : Nat) (ad : bX) (az : cX) (a0 : AV) (a1 : AV) (h : Heap) (k : lY) : CRes := Pw n ad az k (oF n ad az k n) a0 a1 h
theorem ajc (n : Nat) (ad : bX) (az : cX) (k0 : Q0) (s : St) : D (fq [(eP, fe ad), (jE, km az)]) ib n HU (cH z_cost_asked k0) (fun _ _ => .err) (cH z_cost_asked k0) s = ahI n ad az k0 s := by kernel_rfl
theorem ah3 (n : Nat) (ad : bX) (az : cX) (a0 : AV) (a1 : AV) (h : Heap) (k0 : Q0) : W a_cost_asked z_cost_asked [(eP, fe ad), (jE, km az)] ib n HU [a0, a1] h k0 = OQ n ad az a0 a1 h (fun u0 h => k0 (.int .i64 u0) h) := by
  let k : lY := fun u0 h => k0 (.int .i64 u0) h
  have hk : jA k0 k := fun _ _ => rfl
  have hb : ∀ F : Tr AV → CRes, iz a_cost_asked [a0, a1] .leaf F = F (cJ [(p0, a0), (p1, a1)]) := fun F => by kernel_rfl
  exact (ny hb).trans ((ajc n ad az k0 _).trans (ahK n ad az k0 k hk (wT n ad az k0 n) (oF n ad az k n) (ad0 n ad az k0 k hk n) a0 a1 h))
end
def oe (n : Nat) : kP := OQ n (ez n) (jF n)
theorem ajn {tbl : Tr AFn} (hp : cF tbl) (ht : tbl.get (key pX) = some Xp) (n : Nat) (st : Sound tbl eP (fe (ez n))) (JZ : Sound tbl jE (km (jF n))) : Sound tbl pX (rO (oe n)) := by
  refine Sound.of (dN hp (ps := a_cost_asked) (rs := z_cost_asked) (l := [(eP, fe (ez n)), (jE, km (jF n))]) (ty := ib) (n := n) (c := HU) ht ⟨st, JZ, trivial⟩) fun args H k r H' h => ?_
  unfold rO at h
  obtain ⟨a0, l0, e0, h0⟩ := cT h
  subst e0
  obtain ⟨a1, l1, e1, h1⟩ := cT h0
  subst e1
  obtain ⟨e9, h9⟩ := cY h1
  subst e9
  exact (ah3 n (ez n) (jF n) a0 a1 H k).trans h9
/-! cofferdam/cost.bounds -/
abbrev jC := AV → AV → Heap → (AV → Heap → CRes) → CRes
abbrev vC := AV → Heap → CRes
def qg (g : jC) : Wr := fun l h k => mm l fun a0 l => mm l fun a1 l => mP l (g a0 a1 h fun u0 h => k u0 h)
def mX : d7 := fq []
abbrev TS (k0 : Q0) (k : vC) : Prop := ∀ u0 h, k0 u0 h = k u0 h
section
variable (n : Nat) (k0 : Q0) (k : vC)
def VK (n : Nat) (k0 : Q0) : Q1 := (bH (mX ) lc Qz (bH (mX ) lc P6 (bH (mX ) lc QY (bH (mX ) lc Ri (bH (mX ) lc PX (bH (mX ) lc QZ (bH (mX ) lc P4 (bH (mX ) lc PP (bH (mX ) lc QW (cH z_cost_bounds k0))))))))))
def L8 (n : Nat) (k : vC) (a0 : AV) (a1 : AV) (h : Heap) : CRes :=
 Al h a0 fun x0 h1 =>
 Al h1 a1 fun x2 h3 =>
 A2 h3 (.cells [.nilfunc, .nilfunc, .nilfunc, .nilfunc, .nilfunc, .nilfunc, .nilfunc, .nilfunc, .nilfunc, .nilfunc, .nilfunc] true 0) fun x4 h5 =>
 mg .u64 2 h5 (.ptr x0 0) fun x6 x7 =>
 A2 h5 (.cells [(.int .u64 0)] true 0) fun x8 h9 =>
 mT h9 (.ptr x8 0) 1 (.int .u64 x7) fun h10 =>
 mg .u64 4 h10 (.ptr x0 0) fun x11 x12 =>
 ldI .u64 h10 (.ptr x8 0) fun x13 =>
 Kn .u64 2 x13 fun x14 =>
 mG .u64 x12 x14 fun x15 =>
 A2 h10 (.cells [(.int .u64 0)] true 0) fun x16 h17 =>
 mT h17 (.ptr x16 0) 1 (.int .u64 x15) fun h18 =>
 mg .i64 2 h18 (.ptr x2 0) fun x19 x20 =>
 yV .u64 x20 fun x21 =>
 ldI .u64 h18 (.ptr x16 0) fun x22 =>
 Kn .u64 x21 x22 fun x23 =>
 A2 h18 (.cells [(.int .u64 0)] true 0) fun x24 h25 =>
 mT h25 (.ptr x24 0) 1 (.int .u64 x23) fun h26 =>
 mg .i64 1 h26 (.ptr x2 0) fun x27 x28 =>
 yV .u64 x28 fun x29 =>
 Kn .u64 2 x29 fun x30 =>
 mG .u64 x30 1 fun x31 =>
 mg .u64 4 h26 (.ptr x0 0) fun x32 x33 =>
 Kn .u64 x31 x33 fun x34 =>
 mg .u64 5 h26 (.ptr x0 0) fun x35 x36 =>
 mG .u64 x34 x36 fun x37 =>
 A2 h26 (.cells [(.int .u64 0)] true 0) fun x38 h39 =>
 mT h39 (.ptr x38 0) 1 (.int .u64 x37) fun h40 =>
 A2 h40 (.cells [.nilfunc] true 0) fun x41 h42 =>
 mT h42 (.ptr x41 0) 1 (.func 86 [] [(.ptr x8 0)]) fun h43 =>
 A2 h43 (.cells [.nilfunc] true 0) fun x44 h45 =>
 mT h45 (.ptr x44 0) 1 (.func 87 [] [(.ptr x16 0)]) fun h46 =>
 iI h46 (.ptr x41 0) 1 false fun x47 =>
 iI h46 (.ptr x44 0) 1 false fun x48 =>
 z8 [.nilfunc, .nilfunc, .nilfunc, .nilfunc, .nilfunc, .nilfunc, .nilfunc, .nilfunc, .nilfunc, .nilfunc, .nilfunc] [(0, 1, (.func 88 [] [])), (1, 1, (.func 89 [] [(.ptr x8 0)])), (2, 1, (.func 90 [] [(.ptr x24 0), (.ptr x8 0)])), (3, 1, (.func 91 [] [(.ptr x8 0), (.ptr x2 0), (.ptr x24 0)])), (4, 1, x47), (5, 1, x48), (6, 1, (.func 92 [] [(.ptr x0 0), (.ptr x8 0)])), (7, 1, (.func 93 [] [(.ptr x41 0), (.ptr x44 0)])), (8, 1, (.func 94 [] [(.ptr x8 0), (.ptr x0 0), (.ptr x38 0)])), (9, 1, (.func 95 [] [(.ptr x8 0), (.ptr x0 0), (.ptr x38 0)])), (10, 1, (.func 88 [] []))] fun x49 =>
 mT h46 (.ptr x4 0) 11 x49 fun h50 =>
 iI h50 (.ptr x4 0) 11 true fun x51 =>
 k x51 h50
theorem af3 (n : Nat) (k0 : Q0) (k : vC) (hk : TS k0 k) (a0 : AV) (a1 : AV) (h : Heap) : (VK n k0 ) ⟨cJ [(p0, a0), (p1, a1)], h⟩ = (L8 n k ) a0 a1 h := by
  obtain rfl := fx2 hk
  kernel_rfl
def af4 : Q1 := VK n k0
def L2 (n : Nat) (a0 : AV) (a1 : AV) (h : Heap) (k : vC) : CRes := L8 n k a0 a1 h
theorem agH (n : Nat) (k0 : Q0) (s : St) : D (fq []) lc n Ep (cH z_cost_bounds k0) (fun _ _ => .err) (cH z_cost_bounds k0) s = af4 n k0 s := by kernel_rfl
theorem agM (n : Nat) (a0 : AV) (a1 : AV) (h : Heap) (k0 : Q0) : W a_cost_bounds z_cost_bounds [] lc n Ep [a0, a1] h k0 = L2 n a0 a1 h (fun u0 h => k0 u0 h) := by
  let k : vC := fun u0 h => k0 u0 h
  have hk : TS k0 k := fun _ _ => rfl
  have hb : ∀ F : Tr AV → CRes, iz a_cost_bounds [a0, a1] .leaf F = F (cJ [(p0, a0), (p1, a1)]) := fun F => by kernel_rfl
  exact (ny hb).trans ((agH n k0 _).trans (af3 n k0 k hk a0 a1 h))
end
def mL (n : Nat) : jC := L2 n
theorem agL {tbl : Tr AFn} (hp : cF tbl) (ht : tbl.get (key oo) = some Vn) (n : Nat) : Sound tbl oo (qg (mL n)) := by
  refine Sound.of (dN hp (ps := a_cost_bounds) (rs := z_cost_bounds) (l := []) (ty := lc) (n := n) (c := Ep) ht trivial) fun args H k r H' h => ?_
  unfold qg at h
  obtain ⟨a0, l0, e0, h0⟩ := cT h
  subst e0
  obtain ⟨a1, l1, e1, h1⟩ := cT h0
  subst e1
  obtain ⟨e9, h9⟩ := cY h1
  subst e9
  exact (agM n a0 a1 H k).trans h9
/-! cofferdam/cost.bounds$1 -/
abbrev dr := AV → Heap → (Int → Heap → CRes) → CRes
abbrev qw := Int → Heap → CRes
def ij (g : dr) : Wr := fun l h k => mm l fun a0 l => mP l (g a0 h fun u0 h => k (.int .u64 u0) h)
def La : d7 := fq []
abbrev Lh (k0 : Q0) (k : qw) : Prop := ∀ u0 h, k0 (.int .u64 u0) h = k u0 h
section
variable (n : Nat) (k0 : Q0) (k : qw)
def Nr (n : Nat) (k0 : Q0) : Q1 := (bH (La ) tl It (bH (La ) tl Iy (cH z_cost_bounds_f1 k0)))
def Ec (n : Nat) (k : qw) (a0 : AV) (h : Heap) : CRes :=
 ldI .u64 h a0 fun x0 =>
 Kn .u64 113 x0 fun x1 =>
 k x1 h
theorem ZF (n : Nat) (k0 : Q0) (k : qw) (hk : Lh k0 k) (a0 : AV) (h : Heap) : (Nr n k0 ) ⟨cJ [(p0, a0)], h⟩ = (Ec n k ) a0 h := by
  obtain rfl := fx2 hk
  kernel_rfl
def aaH : Q1 := Nr n k0
def D5 (n : Nat) (a0 : AV) (h : Heap) (k : qw) : CRes := Ec n k a0 h
theorem aaZ (n : Nat) (k0 : Q0) (s : St) : D (fq []) tl n xZ (cH z_cost_bounds_f1 k0) (fun _ _ => .err) (cH z_cost_bounds_f1 k0) s = aaH n k0 s := by kernel_rfl
theorem aaS (n : Nat) (a0 : AV) (h : Heap) (k0 : Q0) : W a_cost_bounds_f1 z_cost_bounds_f1 [] tl n xZ [a0] h k0 = D5 n a0 h (fun u0 h => k0 (.int .u64 u0) h) := by
  let k : qw := fun u0 h => k0 (.int .u64 u0) h
  have hk : Lh k0 k := fun _ _ => rfl
  have hb : ∀ F : Tr AV → CRes, iz a_cost_bounds_f1 [a0] .leaf F = F (cJ [(p0, a0)]) := fun F => by kernel_rfl
  exact (ny hb).trans ((aaZ n k0 _).trans (ZF n k0 k hk a0 h))
end
def eL (n : Nat) : dr := D5 n
theorem aaR {tbl : Tr AFn} (hp : cF tbl) (ht : tbl.get (key dR) = some MM) (n : Nat) : Sound tbl dR (ij (eL n)) := by
  refine Sound.of (dN hp (ps := a_cost_bounds_f1) (rs := z_cost_bounds_f1) (l := []) (ty := tl) (n := n) (c := xZ) ht trivial) fun args H k r H' h => ?_
  unfold ij at h
  obtain ⟨a0, l0, e0, h0⟩ := cT h
  subst e0
  obtain ⟨e9, h9⟩ := cY h0
  subst e9
  exact (aaS n a0 H k).trans h9
/-! cofferdam/cost.bounds$2 -/
abbrev dq := AV → Heap → (Int → Heap → CRes) → CRes
abbrev qx := Int → Heap → CRes
def ir (g : dq) : Wr := fun l h k => mm l fun a0 l => mP l (g a0 h fun u0 h => k (.int .u64 u0) h)
def KT : d7 := fq []
abbrev KZ (k0 : Q0) (k : qx) : Prop := ∀ u0 h, k0 (.int .u64 u0) h = k u0 h
section
variable (n : Nat) (k0 : Q0) (k : qx)
def Ox (n : Nat) (k0 : Q0) : Q1 := (bH (KT ) tp IR (bH (KT ) tp Il (cH z_cost_bounds_f2 k0)))
def Dw (n : Nat) (k : qx) (a0 : AV) (h : Heap) : CRes :=
 ldI .u64 h a0 fun x0 =>
 Kn .u64 64 x0 fun x1 =>
 k x1 h
theorem Z8 (n : Nat) (k0 : Q0) (k : qx) (hk : KZ k0 k) (a0 : AV) (h : Heap) : (Ox n k0 ) ⟨cJ [(p0, a0)], h⟩ = (Dw n k ) a0 h := by
  obtain rfl := fx2 hk
  kernel_rfl
def abk : Q1 := Ox n k0
def DL (n : Nat) (a0 : AV) (h : Heap) (k : qx) : CRes := Dw n k a0 h
theorem aad (n : Nat) (k0 : Q0) (s : St) : D (fq []) tp n xY (cH z_cost_bounds_f2 k0) (fun _ _ => .err) (cH z_cost_bounds_f2 k0) s = abk n k0 s := by kernel_rfl
theorem aaP (n : Nat) (a0 : AV) (h : Heap) (k0 : Q0) : W a_cost_bounds_f2 z_cost_bounds_f2 [] tp n xY [a0] h k0 = DL n a0 h (fun u0 h => k0 (.int .u64 u0) h) := by
  let k : qx := fun u0 h => k0 (.int .u64 u0) h
  have hk : KZ k0 k := fun _ _ => rfl
  have hb : ∀ F : Tr AV → CRes, iz a_cost_bounds_f2 [a0] .leaf F = F (cJ [(p0, a0)]) := fun F => by kernel_rfl
  exact (ny hb).trans ((aad n k0 _).trans (Z8 n k0 k hk a0 h))
end
def eK (n : Nat) : dq := DL n
theorem aaB {tbl : Tr AFn} (hp : cF tbl) (ht : tbl.get (key dS) = some Nf) (n : Nat) : Sound tbl dS (ir (eK n)) := by
  refine Sound.of (dN hp (ps := a_cost_bounds_f2) (rs := z_cost_bounds_f2) (l := []) (ty := tp) (n := n) (c := xY) ht trivial) fun args H k r H' h => ?_
  unfold ir at h
  obtain ⟨a0, l0, e0, h0⟩ := cT h
  subst e0
  obtain ⟨e9, h9⟩ := cY h0
  subst e9
  exact (aaP n a0 H k).trans h9
/-! cofferdam/cost.bounds$3 -/
abbrev dm := Heap → (Int → Heap → CRes) → CRes
abbrev qm := Int → Heap → CRes
def ik (g : dm) : Wr := fun l h k => mP l (g h fun u0 h => k (.int .u64 u0) h)
def Ln : d7 := fq []
abbrev KJ (k0 : Q0) (k : qm) : Prop := ∀ u0 h, k0 (.int .u64 u0) h = k u0 h
section
variable (n : Nat) (k0 : Q0) (k : qm)
def M1 (n : Nat) (k0 : Q0) : Q1 := (bH (Ln ) s7 Jn (bH (Ln ) s7 IL (cH z_cost_bounds_f3 k0)))
def Oo (n : Nat) (k : qm) (h : Heap) : CRes :=
 k 0 h
theorem aak (n : Nat) (k0 : Q0) (k : qm) (hk : KJ k0 k) (h : Heap) : (M1 n k0 ) ⟨cJ [], h⟩ = (Oo n k ) h := by
  obtain rfl := fx2 hk
  kernel_rfl
def ZR : Q1 := M1 n k0
def Od (n : Nat) (h : Heap) (k : qm) : CRes := Oo n k h
theorem Zi (n : Nat) (k0 : Q0) (s : St) : D (fq []) s7 n yf (cH z_cost_bounds_f3 k0) (fun _ _ => .err) (cH z_cost_bounds_f3 k0) s = ZR n k0 s := by kernel_rfl
theorem ZJ (n : Nat) (h : Heap) (k0 : Q0) : W a_cost_bounds_f3 z_cost_bounds_f3 [] s7 n yf [] h k0 = Od n h (fun u0 h => k0 (.int .u64 u0) h) := by
  let k : qm := fun u0 h => k0 (.int .u64 u0) h
  have hk : KJ k0 k := fun _ _ => rfl
  have hb : ∀ F : Tr AV → CRes, iz a_cost_bounds_f3 [] .leaf F = F (cJ []) := fun F => by kernel_rfl
  exact (ny hb).trans ((Zi n k0 _).trans (aak n k0 k hk h))
end
def gO (n : Nat) : dm := Od n
theorem Z2 {tbl : Tr AFn} (hp : cF tbl) (ht : tbl.get (key fC) = some Nc) (n : Nat) : Sound tbl fC (ik (gO n)) := by
  refine Sound.of (dN hp (ps := a_cost_bounds_f3) (rs := z_cost_bounds_f3) (l := []) (ty := s7) (n := n) (c := yf) ht trivial) fun args H k r H' h => ?_
  unfold ik at h
  obtain ⟨e9, h9⟩ := cY h
  subst e9
  exact (ZJ n H k).trans h9
/-! cofferdam/cost.bounds$4 -/
abbrev dl := AV → Heap → (Int → Heap → CRes) → CRes
abbrev qt := Int → Heap → CRes
def ii (g : dl) : Wr := fun l h k => mm l fun a0 l => mP l (g a0 h fun u0 h => k (.int .u64 u0) h)
def KF : d7 := fq []
abbrev LI (k0 : Q0) (k : qt) : Prop := ∀ u0 h, k0 (.int .u64 u0) h = k u0 h
section
variable (n : Nat) (k0 : Q0) (k : qt)
def N5 (n : Nat) (k0 : Q0) : Q1 := (bH (KF ) tr Is (bH (KF ) tr Ip (cH z_cost_bounds_f4 k0)))
def CR (n : Nat) (k : qt) (a0 : AV) (h : Heap) : CRes :=
 ldI .u64 h a0 fun x0 =>
 Kn .u64 17 x0 fun x1 =>
 k x1 h
theorem aas (n : Nat) (k0 : Q0) (k : qt) (hk : LI k0 k) (a0 : AV) (h : Heap) : (N5 n k0 ) ⟨cJ [(p0, a0)], h⟩ = (CR n k ) a0 h := by
  obtain rfl := fx2 hk
  kernel_rfl
def aaw : Q1 := N5 n k0
def DM (n : Nat) (a0 : AV) (h : Heap) (k : qt) : CRes := CR n k a0 h
theorem ZP (n : Nat) (k0 : Q0) (s : St) : D (fq []) tr n xN (cH z_cost_bounds_f4 k0) (fun _ _ => .err) (cH z_cost_bounds_f4 k0) s = aaw n k0 s := by kernel_rfl
theorem Zs (n : Nat) (a0 : AV) (h : Heap) (k0 : Q0) : W a_cost_bounds_f4 z_cost_bounds_f4 [] tr n xN [a0] h k0 = DM n a0 h (fun u0 h => k0 (.int .u64 u0) h) := by
  let k : qt := fun u0 h => k0 (.int .u64 u0) h
  have hk : LI k0 k := fun _ _ => rfl
  have hb : ∀ F : Tr AV → CRes, iz a_cost_bounds_f4 [a0] .leaf F = F (cJ [(p0, a0)]) := fun F => by kernel_rfl
  exact (ny hb).trans ((ZP n k0 _).trans (aas n k0 k hk a0 h))
end
def fD (n : Nat) : dl := DM n
theorem aaF {tbl : Tr AFn} (hp : cF tbl) (ht : tbl.get (key gn) = some ME) (n : Nat) : Sound tbl gn (ii (fD n)) := by
  refine Sound.of (dN hp (ps := a_cost_bounds_f4) (rs := z_cost_bounds_f4) (l := []) (ty := tr) (n := n) (c := xN) ht trivial) fun args H k r H' h => ?_
  unfold ii at h
  obtain ⟨a0, l0, e0, h0⟩ := cT h
  subst e0
  obtain ⟨e9, h9⟩ := cY h0
  subst e9
  exact (Zs n a0 H k).trans h9
/-! cofferdam/cost.bounds$5 -/
abbrev dt := AV → AV → Heap → (Int → Heap → CRes) → CRes
abbrev qv := Int → Heap → CRes
def iq (g : dt) : Wr := fun l h k => mm l fun a0 l => mm l fun a1 l => mP l (g a0 a1 h fun u0 h => k (.int .u64 u0) h)
def K1 : d7 := fq []
abbrev KO (k0 : Q0) (k : qv) : Prop := ∀ u0 h, k0 (.int .u64 u0) h = k u0 h
section
variable (n : Nat) (k0 : Q0) (k : qv)
def Na (n : Nat) (k0 : Q0) : Q1 := (bH (K1 ) tf Jo (bH (K1 ) tf JW (cH z_cost_bounds_f5 k0)))
def DY (n : Nat) (k : qv) (a0 : AV) (a1 : AV) (h : Heap) : CRes :=
 ldI .u64 h a0 fun x0 =>
 ldI .u64 h a1 fun x1 =>
 mG .u64 x0 x1 fun x2 =>
 k x2 h
theorem Z5 (n : Nat) (k0 : Q0) (k : qv) (hk : KO k0 k) (a0 : AV) (a1 : AV) (h : Heap) : (Na n k0 ) ⟨cJ [(p0, a0), (p1, a1)], h⟩ = (DY n k ) a0 a1 h := by
  obtain rfl := fx2 hk
  kernel_rfl
def aaU : Q1 := Na n k0
def D0 (n : Nat) (a0 : AV) (a1 : AV) (h : Heap) (k : qv) : CRes := DY n k a0 a1 h
theorem ZO (n : Nat) (k0 : Q0) (s : St) : D (fq []) tf n xw (cH z_cost_bounds_f5 k0) (fun _ _ => .err) (cH z_cost_bounds_f5 k0) s = aaU n k0 s := by kernel_rfl
theorem Zr (n : Nat) (a0 : AV) (a1 : AV) (h : Heap) (k0 : Q0) : W a_cost_bounds_f5 z_cost_bounds_f5 [] tf n xw [a0, a1] h k0 = D0 n a0 a1 h (fun u0 h => k0 (.int .u64 u0) h) := by
  let k : qv := fun u0 h => k0 (.int .u64 u0) h
  have hk : KO k0 k := fun _ _ => rfl
  have hb : ∀ F : Tr AV → CRes, iz a_cost_bounds_f5 [a0, a1] .leaf F = F (cJ [(p0, a0), (p1, a1)]) := fun F => by kernel_rfl
  exact (ny hb).trans ((ZO n k0 _).trans (Z5 n k0 k hk a0 a1 h))
end
def fA (n : Nat) : dt := D0 n
theorem aaA {tbl : Tr AFn} (hp : cF tbl) (ht : tbl.get (key gt) = some N6) (n : Nat) : Sound tbl gt (iq (fA n)) := by
  refine Sound.of (dN hp (ps := a_cost_bounds_f5) (rs := z_cost_bounds_f5) (l := []) (ty := tf) (n := n) (c := xw) ht trivial) fun args H k r H' h => ?_
  unfold iq at h
  obtain ⟨a0, l0, e0, h0⟩ := cT h
  subst e0
  obtain ⟨a1, l1, e1, h1⟩ := cT h0
  subst e1
  obtain ⟨e9, h9⟩ := cY h1
  subst e9
  exact (Zr n a0 a1 H k).trans h9
/-! cofferdam/cost.bounds$6 -/
abbrev dk := AV → AV → AV → Heap → (Int → Heap → CRes) → CRes
abbrev qq := Int → Heap → CRes
def ip (g : dk) : Wr := fun l h k => mm l fun a0 l => mm l fun a1 l => mm l fun a2 l => mP l (g a0 a1 a2 h fun u0 h => k (.int .u64 u0) h)
def Lv : d7 := fq []
abbrev LC (k0 : Q0) (k : qq) : Prop := ∀ u0 h, k0 (.int .u64 u0) h = k u0 h
section
variable (n : Nat) (k0 : Q0) (k : qq)
def OB (n : Nat) (k0 : Q0) : Q1 := (bH (Lv ) tk IC (bH (Lv ) tk IO (cH z_cost_bounds_f6 k0)))
def Dm (n : Nat) (k : qq) (a0 : AV) (a1 : AV) (a2 : AV) (h : Heap) : CRes :=
 ldI .u64 h a0 fun x0 =>
 mg .i64 3 h a1 fun x1 x2 =>
 yV .u64 x2 fun x3 =>
 Kn .u64 16 x3 fun x4 =>
 ldI .u64 h a0 fun x5 =>
 Kn .u64 x4 x5 fun x6 =>
 mG .u64 x0 x6 fun x7 =>
 ldI .u64 h a2 fun x8 =>
 mG .u64 x7 x8 fun x9 =>
 k x9 h
theorem aaL (n : Nat) (k0 : Q0) (k : qq) (hk : LC k0 k) (a0 : AV) (a1 : AV) (a2 : AV) (h : Heap) : (OB n k0 ) ⟨cJ [(p0, a0), (p1, a1), (p2, a2)], h⟩ = (Dm n k ) a0 a1 a2 h := by
  obtain rfl := fx2 hk
  kernel_rfl
def aaX : Q1 := OB n k0
def DX (n : Nat) (a0 : AV) (a1 : AV) (a2 : AV) (h : Heap) (k : qq) : CRes := Dm n k a0 a1 a2 h
theorem aa0 (n : Nat) (k0 : Q0) (s : St) : D (fq []) tk n xo (cH z_cost_bounds_f6 k0) (fun _ _ => .err) (cH z_cost_bounds_f6 k0) s = aaX n k0 s := by kernel_rfl
theorem aam (n : Nat) (a0 : AV) (a1 : AV) (a2 : AV) (h : Heap) (k0 : Q0) : W a_cost_bounds_f6 z_cost_bounds_f6 [] tk n xo [a0, a1, a2] h k0 = DX n a0 a1 a2 h (fun u0 h => k0 (.int .u64 u0) h) := by
  let k : qq := fun u0 h => k0 (.int .u64 u0) h
  have hk : LC k0 k := fun _ _ => rfl
  have hb : ∀ F : Tr AV → CRes, iz a_cost_bounds_f6 [a0, a1, a2] .leaf F = F (cJ [(p0, a0), (p1, a1), (p2, a2)]) := fun F => by kernel_rfl
  exact (ny hb).trans ((aa0 n k0 _).trans (aaL n k0 k hk a0 a1 a2 h))
end
def fB (n : Nat) : dk := DX n
theorem aaY {tbl : Tr AFn} (hp : cF tbl) (ht : tbl.get (key gp) = some MP) (n : Nat) : Sound tbl gp (ip (fB n)) := by
  refine Sound.of (dN hp (ps := a_cost_bounds_f6) (rs := z_cost_bounds_f6) (l := []) (ty := tk) (n := n) (c := xo) ht trivial) fun args H k r H' h => ?_
  unfold ip at h
  obtain ⟨a0, l0, e0, h0⟩ := cT h
  subst e0
  obtain ⟨a1, l1, e1, h1⟩ := cT h0
  subst e1
  obtain ⟨a2, l2, e2, h2⟩ := cT h1
  subst e2
  obtain ⟨e9, h9⟩ := cY h2
  subst e9
  exact (aam n a0 a1 a2 H k).trans h9
/-! cofferdam/cost.bounds$7 -/
abbrev dp := AV → AV → Heap → (Int → Heap → CRes) → CRes
abbrev qy := Int → Heap → CRes
def il (g : dp) : Wr := fun l h k => mm l fun a0 l => mm l fun a1 l => mP l (g a0 a1 h fun u0 h => k (.int .u64 u0) h)
def Lu : d7 := fq []
abbrev Lq (k0 : Q0) (k : qy) : Prop := ∀ u0 h, k0 (.int .u64 u0) h = k u0 h
section
variable (n : Nat) (k0 : Q0) (k : qy)
def MT (n : Nat) (k0 : Q0) : Q1 := (bH (Lu ) tt Kl (bH (Lu ) tt II (cH z_cost_bounds_f7 k0)))
def D7 (n : Nat) (k : qy) (a0 : AV) (a1 : AV) (h : Heap) : CRes :=
 mg .u64 4 h a0 fun x0 x1 =>
 ldI .u64 h a1 fun x2 =>
 mG .u64 x1 x2 fun x3 =>
 Kn .u64 64 x3 fun x4 =>
 ldI .u64 h a1 fun x5 =>
 mG .u64 x4 x5 fun x6 =>
 k x6 h
theorem aa8 (n : Nat) (k0 : Q0) (k : qy) (hk : Lq k0 k) (a0 : AV) (a1 : AV) (h : Heap) : (MT n k0 ) ⟨cJ [(p0, a0), (p1, a1)], h⟩ = (D7 n k ) a0 a1 h := by
  obtain rfl := fx2 hk
  kernel_rfl
def abi : Q1 := MT n k0
def Dt (n : Nat) (a0 : AV) (a1 : AV) (h : Heap) (k : qy) : CRes := D7 n k a0 a1 h
theorem aal (n : Nat) (k0 : Q0) (s : St) : D (fq []) tt n xV (cH z_cost_bounds_f7 k0) (fun _ _ => .err) (cH z_cost_bounds_f7 k0) s = abi n k0 s := by kernel_rfl
theorem Zc (n : Nat) (a0 : AV) (a1 : AV) (h : Heap) (k0 : Q0) : W a_cost_bounds_f7 z_cost_bounds_f7 [] tt n xV [a0, a1] h k0 = Dt n a0 a1 h (fun u0 h => k0 (.int .u64 u0) h) := by
  let k : qy := fun u0 h => k0 (.int .u64 u0) h
  have hk : Lq k0 k := fun _ _ => rfl
  have hb : ∀ F : Tr AV → CRes, iz a_cost_bounds_f7 [a0, a1] .leaf F = F (cJ [(p0, a0), (p1, a1)]) := fun F => by kernel_rfl
  exact (ny hb).trans ((aal n k0 _).trans (aa8 n k0 k hk a0 a1 h))
end
def fx (n : Nat) : dp := Dt n
theorem ZW {tbl : Tr AFn} (hp : cF tbl) (ht : tbl.get (key gr) = some MQ) (n : Nat) : Sound tbl gr (il (fx n)) := by
  refine Sound.of (dN hp (ps := a_cost_bounds_f7) (rs := z_cost_bounds_f7) (l := []) (ty := tt) (n := n) (c := xV) ht trivial) fun args H k r H' h => ?_
  unfold il at h
  obtain ⟨a0, l0, e0, h0⟩ := cT h
  subst e0
  obtain ⟨a1, l1, e1, h1⟩ := cT h0
  subst e1
  obtain ⟨e9, h9⟩ := cY h1
  subst e9
  exact (Zc n a0 a1 H k).trans h9
/-! cofferdam/cost.bounds$9 -/
abbrev dn := AV → AV → AV → Heap → (Int → Heap → CRes) → CRes
abbrev qo := Int → Heap → CRes
def im (g : dn) : Wr := fun l h k => mm l fun a0 l => mm l fun a1 l => mm l fun a2 l => mP l (g a0 a1 a2 h fun u0 h => k (.int .u64 u0) h)
def Ly : d7 := fq []
abbrev LA (k0 : Q0) (k : qo) : Prop := ∀ u0 h, k0 (.int .u64 u0) h = k u0 h
section
variable (n : Nat) (k0 : Q0) (k : qo)
def MR (n : Nat) (k0 : Q0) : Q1 := (bH (Ly ) s8 JV (bH (Ly ) s8 IV (cH z_cost_bounds_f9 k0)))
def D4 (n : Nat) (k : qo) (a0 : AV) (a1 : AV) (a2 : AV) (h : Heap) : CRes :=
 ldI .u64 h a0 fun x0 =>
 Kn .u64 26 x0 fun x1 =>
 mg .u64 3 h a1 fun x2 x3 =>
 mG .u64 x1 x3 fun x4 =>
 ldI .u64 h a2 fun x5 =>
 mG .u64 x4 x5 fun x6 =>
 mg .u64 5 h a1 fun x7 x8 =>
 mG .u64 x6 x8 fun x9 =>
 k x9 h
theorem aap (n : Nat) (k0 : Q0) (k : qo) (hk : LA k0 k) (a0 : AV) (a1 : AV) (a2 : AV) (h : Heap) : (MR n k0 ) ⟨cJ [(p0, a0), (p1, a1), (p2, a2)], h⟩ = (D4 n k ) a0 a1 a2 h := by
  obtain rfl := fx2 hk
  kernel_rfl
def Zz : Q1 := MR n k0
def Ed (n : Nat) (a0 : AV) (a1 : AV) (a2 : AV) (h : Heap) (k : qo) : CRes := D4 n k a0 a1 a2 h
theorem ZE (n : Nat) (k0 : Q0) (s : St) : D (fq []) s8 n xE (cH z_cost_bounds_f9 k0) (fun _ _ => .err) (cH z_cost_bounds_f9 k0) s = Zz n k0 s := by kernel_rfl
theorem Zl (n : Nat) (a0 : AV) (a1 : AV) (a2 : AV) (h : Heap) (k0 : Q0) : W a_cost_bounds_f9 z_cost_bounds_f9 [] s8 n xE [a0, a1, a2] h k0 = Ed n a0 a1 a2 h (fun u0 h => k0 (.int .u64 u0) h) := by
  let k : qo := fun u0 h => k0 (.int .u64 u0) h
  have hk : LA k0 k := fun _ _ => rfl
  have hb : ∀ F : Tr AV → CRes, iz a_cost_bounds_f9 [a0, a1, a2] .leaf F = F (cJ [(p0, a0), (p1, a1), (p2, a2)]) := fun F => by kernel_rfl
  exact (ny hb).trans ((ZE n k0 _).trans (aap n k0 k hk a0 a1 a2 h))
end
def ft (n : Nat) : dn := Ed n
theorem aax {tbl : Tr AFn} (hp : cF tbl) (ht : tbl.get (key gi) = some NV) (n : Nat) : Sound tbl gi (im (ft n)) := by
  refine Sound.of (dN hp (ps := a_cost_bounds_f9) (rs := z_cost_bounds_f9) (l := []) (ty := s8) (n := n) (c := xE) ht trivial) fun args H k r H' h => ?_
  unfold im at h
  obtain ⟨a0, l0, e0, h0⟩ := cT h
  subst e0
  obtain ⟨a1, l1, e1, h1⟩ := cT h0
  subst e1
  obtain ⟨a2, l2, e2, h2⟩ := cT h1
  subst e2
  obtain ⟨e9, h9⟩ := cY h2
  subst e9
  exact (Zl n a0 a1 a2 H k).trans h9
/-! cofferdam/cost.bounds$10 -/
abbrev c9 := AV → AV → AV → Heap → (Int → Heap → CRes) → CRes
abbrev oQ := Int → Heap → CRes
def gN (g : c9) : Wr := fun l h k => mm l fun a0 l => mm l fun a1 l => mm l fun a2 l => mP l (g a0 a1 a2 h fun u0 h => k (.int .u64 u0) h)
def JU : d7 := fq []
abbrev JO (k0 : Q0) (k : oQ) : Prop := ∀ u0 h, k0 (.int .u64 u0) h = k u0 h
section
variable (n : Nat) (k0 : Q0) (k : oQ)
def Lx (n : Nat) (k0 : Q0) : Q1 := (bH (JU ) rS HA (bH (JU ) rS Hp (cH z_cost_bounds_f10 k0)))
def BE (n : Nat) (k : oQ) (a0 : AV) (a1 : AV) (a2 : AV) (h : Heap) : CRes :=
 ldI .u64 h a0 fun x0 =>
 Kn .u64 64 x0 fun x1 =>
 mg .u64 3 h a1 fun x2 x3 =>
 Kn .u64 2 x3 fun x4 =>
 mG .u64 x1 x4 fun x5 =>
 ldI .u64 h a2 fun x6 =>
 Kn .u64 2 x6 fun x7 =>
 mG .u64 x5 x7 fun x8 =>
 mg .u64 5 h a1 fun x9 x10 =>
 mG .u64 x8 x10 fun x11 =>
 k x11 h
theorem X0 (n : Nat) (k0 : Q0) (k : oQ) (hk : JO k0 k) (a0 : AV) (a1 : AV) (a2 : AV) (h : Heap) : (Lx n k0 ) ⟨cJ [(p0, a0), (p1, a1), (p2, a2)], h⟩ = (BE n k ) a0 a1 a2 h := by
  obtain rfl := fx2 hk
  kernel_rfl
def Xn : Q1 := Lx n k0
def Be (n : Nat) (a0 : AV) (a1 : AV) (a2 : AV) (h : Heap) (k : oQ) : CRes := BE n k a0 a1 a2 h
theorem Ys (n : Nat) (k0 : Q0) (s : St) : D (fq []) rS n wv (cH z_cost_bounds_f10 k0) (fun _ _ => .err) (cH z_cost_bounds_f10 k0) s = Xn n k0 s := by kernel_rfl
theorem Yp (n : Nat) (a0 : AV) (a1 : AV) (a2 : AV) (h : Heap) (k0 : Q0) : W a_cost_bounds_f10 z_cost_bounds_f10 [] rS n wv [a0, a1, a2] h k0 = Be n a0 a1 a2 h (fun u0 h => k0 (.int .u64 u0) h) := by
  let k : oQ := fun u0 h => k0 (.int .u64 u0) h
  have hk : JO k0 k := fun _ _ => rfl
  have hb : ∀ F : Tr AV → CRes, iz a_cost_bounds_f10 [a0, a1, a2] .leaf F = F (cJ [(p0, a0), (p1, a1), (p2, a2)]) := fun F => by kernel_rfl
  exact (ny hb).trans ((Ys n k0 _).trans (X0 n k0 k hk a0 a1 a2 h))
end
def eD (n : Nat) : c9 := Be n
theorem X4 {tbl : Tr AFn} (hp : cF tbl) (ht : tbl.get (key eW) = some Ll) (n : Nat) : Sound tbl eW (gN (eD n)) := by
  refine Sound.of (dN hp (ps := a_cost_bounds_f10) (rs := z_cost_bounds_f10) (l := []) (ty := rS) (n := n) (c := wv) ht trivial) fun args H k r H' h => ?_
  unfold gN at h
  obtain ⟨a0, l0, e0, h0⟩ := cT h
  subst e0
  obtain ⟨a1, l1, e1, h1⟩ := cT h0
  subst e1
  obtain ⟨a2, l2, e2, h2⟩ := cT h1
  subst e2
  obtain ⟨e9, h9⟩ := cY h2
  subst e9
  exact (Yp n a0 a1 a2 H k).trans h9
/-! cofferdam/cost.bounds$8 -/
abbrev gJ := AV → AV → Heap → (Int → Heap → CRes) → CRes
abbrev qr := Int → Heap → CRes
def mo (g : gJ) : Wr := fun l h k => mm l fun a0 l => mm l fun a1 l => mP l (g a0 a1 h fun u0 h => k (.int .u64 u0) h)
def oO (aQ : dr) (aO : dq) (aN : dm) (aR : dl) (aU : dt) (aP : dk) (aV : dp) (aS : dn) (aJ : c9) : d7 := fq [(dR, ij aQ), (dS, ir aO), (fC, ik aN), (gn, ii aR), (gt, iq aU), (gp, ip aP), (gr, il aV), (gi, im aS), (eW, gN aJ)]
abbrev Lk (k0 : Q0) (k : qr) : Prop := ∀ u0 h, k0 (.int .u64 u0) h = k u0 h
section
variable (n : Nat) (aQ : dr) (aO : dq) (aN : dm) (aR : dl) (aU : dt) (aP : dk) (aV : dp) (aS : dn) (aJ : c9) (k0 : Q0) (k : qr)
def Mx (n : Nat) (aQ : dr) (aO : dq) (aN : dm) (aR : dl) (aU : dt) (aP : dk) (aV : dp) (aS : dn) (aJ : c9) (k0 : Q0) : Q1 := (bH (oO aQ aO aN aR aU aP aV aS aJ) s0 Km (bH (oO aQ aO aN aR aU aP aV aS aJ) s0 IW (cH z_cost_bounds_f8 k0)))
def C1 (n : Nat) (aQ : dr) (aO : dq) (aN : dm) (aR : dl) (aU : dt) (aP : dk) (aV : dp) (aS : dn) (aJ : c9) (k : qr) (a0 : AV) (a1 : AV) (h : Heap) : CRes :=
 iI h a0 1 false fun x0 =>
 oO aQ aO aN aR aU aP aV aS aJ x0 [] (h.shut true) fun x1 h2 =>
 TV .u64 x1 fun x3 =>
 iI (h2.back h.ro) a1 1 false fun x4 =>
 oO aQ aO aN aR aU aP aV aS aJ x4 [] (h2.back h.ro) fun x5 h6 =>
 TV .u64 x5 fun x7 =>
 LE true [(.int .u64 x3), (.int .u64 x7)] fun x8 =>
 TV .u64 x8 fun x9 =>
 k x9 h6
theorem Zb (n : Nat) (aQ : dr) (aO : dq) (aN : dm) (aR : dl) (aU : dt) (aP : dk) (aV : dp) (aS : dn) (aJ : c9) (k0 : Q0) (k : qr) (hk : Lk k0 k) (a0 : AV) (a1 : AV) (h : Heap) : (Mx n aQ aO aN aR aU aP aV aS aJ k0 ) ⟨cJ [(p0, a0), (p1, a1)], h⟩ = (C1 n aQ aO aN aR aU aP aV aS aJ k ) a0 a1 h := by
  obtain rfl := fx2 hk
  kernel_rfl
def ZV : Q1 := Mx n aQ aO aN aR aU aP aV aS aJ k0
def DQ (n : Nat) (aQ : dr) (aO : dq) (aN : dm) (aR : dl) (aU : dt) (aP : dk) (aV : dp) (aS : dn) (aJ : c9) (a0 : AV) (a1 : AV) (h : Heap) (k : qr) : CRes := C1 n aQ aO aN aR aU aP aV aS aJ k a0 a1 h
theorem abc (n : Nat) (aQ : dr) (aO : dq) (aN : dm) (aR : dl) (aU : dt) (aP : dk) (aV : dp) (aS : dn) (aJ : c9) (k0 : Q0) (s : St) : D (fq [(dR, ij aQ), (dS, ir aO), (fC, ik aN), (gn, ii aR), (gt, iq aU), (gp, ip aP), (gr, il aV), (gi, im aS), (eW, gN aJ)]) s0 n yg (cH z_cost_bounds_f8 k0) (fun _ _ => .err) (cH z_cost_bounds_f8 k0) s = ZV n aQ aO aN aR aU aP aV aS aJ k0 s := by kernel_rfl
theorem Zf (n : Nat) (aQ : dr) (aO : dq) (aN : dm) (aR : dl) (aU : dt) (aP : dk) (aV : dp) (aS : dn) (aJ : c9) (a0 : AV) (a1 : AV) (h : Heap) (k0 : Q0) : W a_cost_bounds_f8 z_cost_bounds_f8 [(dR, ij aQ), (dS, ir aO), (fC, ik aN), (gn, ii aR), (gt, iq aU), (gp, ip aP), (gr, il aV), (gi, im aS), (eW, gN aJ)] s0 n yg [a0, a1] h k0 = DQ n aQ aO aN aR aU aP aV aS aJ a0 a1 h (fun u0 h => k0 (.int .u64 u0) h) := by
  let k : qr := fun u0 h => k0 (.int .u64 u0) h
  have hk : Lk k0 k := fun _ _ => rfl
  have hb : ∀ F : Tr AV → CRes, iz a_cost_bounds_f8 [a0, a1] .leaf F = F (cJ [(p0, a0), (p1, a1)]) := fun F => by kernel_rfl
  exact (ny hb).trans ((abc n aQ aO aN aR aU aP aV aS aJ k0 _).trans (Zb n aQ aO aN aR aU aP aV aS aJ k0 k hk a0 a1 h))
end
def kj (n : Nat) : gJ := DQ n (eL n) (eK n) (gO n) (fD n) (fA n) (fB n) (fx n) (ft n) (eD n)
theorem aa5 {tbl : Tr AFn} (hp : cF tbl) (ht : tbl.get (key kl) = some MW) (n : Nat) (Bq : Sound tbl dR (ij (eL n))) (AY : Sound tbl dS (ir (eK n))) (BP : Sound tbl fC (ik (gO n))) (AE : Sound tbl gn (ii (fD n))) (AS : Sound tbl gt (iq (fA n))) (Bj : Sound tbl gp (ip (fB n))) (Av : Sound tbl gr (il (fx n))) (BR : Sound tbl gi (im (ft n))) (Ab : Sound tbl eW (gN (eD n))) : Sound tbl kl (mo (kj n)) := by
  refine Sound.of (dN hp (ps := a_cost_bounds_f8) (rs := z_cost_bounds_f8) (l := [(dR, ij (eL n)), (dS, ir (eK n)), (fC, ik (gO n)), (gn, ii (fD n)), (gt, iq (fA n)), (gp, ip (fB n)), (gr, il (fx n)), (gi, im (ft n)), (eW, gN (eD n))]) (ty := s0) (n := n) (c := yg) ht ⟨Bq, AY, BP, AE, AS, Bj, Av, BR, Ab, trivial⟩) fun args H k r H' h => ?_
  unfold mo at h
  obtain ⟨a0, l0, e0, h0⟩ := cT h
  subst e0
  obtain ⟨a1, l1, e1, h1⟩ := cT h0
  subst e1
  obtain ⟨e9, h9⟩ := cY h1
  subst e9
  exact (Zf n (eL n) (eK n) (gO n) (fD n) (fA n) (fB n) (fx n) (ft n) (eD n) a0 a1 H k).trans h9
/-! cofferdam/cost.Most -/
abbrev et := AV → AV → Heap → (Int → Int → Heap → CRes) → CRes
abbrev tD := Int → Int → Heap → CRes
def tE (g : et) : Wr := fun l h k => mm l fun a0 l => mm l fun a1 l => mP l (g a0 a1 h fun u0 u1 h => k (.tuple [(.int .u64 u0), (.int .i64 u1)]) h)
def lp (ck : kP) (bU : jC) (aQ : dr) (aO : dq) (aN : dm) (aR : dl) (aU : dt) (aP : dk) (aV : dp) (bz : gJ) (aS : dn) (aJ : c9) : d7 := fq [(pX, rO ck), (oo, qg bU), (dR, ij aQ), (dS, ir aO), (fC, ik aN), (gn, ii aR), (gt, iq aU), (gp, ip aP), (gr, il aV), (kl, mo bz), (gi, im aS), (eW, gN aJ)]
abbrev xn (k0 : Q0) (k : tD) : Prop := ∀ u0 u1 h, k0 (.tuple [(.int .u64 u0), (.int .i64 u1)]) h = k u0 u1 h
abbrev Ej : Type := AV → AV → Int → Heap → CRes
abbrev LV (J : Q1) (j : Ej) : Prop := ∀ v2 v3 v7 h, J ⟨cJ [(p2, v2), (p3, v3), (p7, (.int .u64 v7))], h⟩ = j v2 v3 v7 h
abbrev sq : Type := AV → AV → Int → AV → Int → Heap → CRes
abbrev Em (J : Q1) (j : sq) : Prop := ∀ v2 v3 v7 v18 v19 h, J ⟨cJ [(p2, v2), (p3, v3), (p7, (.int .u64 v7)), (p18, v18), (p19, (.int .i64 v19))], h⟩ = j v2 v3 v7 v18 v19 h
section
variable (n : Nat) (ck : kP) (bU : jC) (aQ : dr) (aO : dq) (aN : dm) (aR : dl) (aU : dt) (aP : dk) (aV : dp) (bz : gJ) (aS : dn) (aJ : c9) (k0 : Q0) (k : tD)
def VB (n : Nat) (ck : kP) (bU : jC) (aQ : dr) (aO : dq) (aN : dm) (aR : dl) (aU : dt) (aP : dk) (aV : dp) (bz : gJ) (aS : dn) (aJ : c9) (k0 : Q0) : Q1 := (bH (lp ck bU aQ aO aN aR aU aP aV bz aS aJ) lF VJ (cH z_cost_Most k0))
def Mo (n : Nat) (ck : kP) (bU : jC) (aQ : dr) (aO : dq) (aN : dm) (aR : dl) (aU : dt) (aP : dk) (aV : dp) (bz : gJ) (aS : dn) (aJ : c9) (k : tD) (v2 : AV) (v3 : AV) (v7 : Int) (h : Heap) : CRes :=
 mg .i64 0 h v3 fun x12 x13 =>
 yV .u64 x13 fun x14 =>
 mg .u64 2 h v2 fun x15 x16 =>
 Kn .u64 x14 x16 fun x17 =>
 mG .u64 x17 v7 fun x18 =>
 k x18 0 h
theorem af8 (hk : xn k0 k) : LV (VB n ck bU aQ aO aN aR aU aP aV bz aS aJ k0 ) (Mo n ck bU aQ aO aN aR aU aP aV bz aS aJ k ) := by
  obtain rfl := fx3 hk
  intro v2 v3 v7 h
  kernel_rfl
def L1 : Q1 := VB n ck bU aQ aO aN aR aU aP aV bz aS aJ k0
def yR : Ej := Mo n ck bU aQ aO aN aR aU aP aV bz aS aJ k
theorem afH (hk : xn k0 k) : LV (L1 n ck bU aQ aO aN aR aU aP aV bz aS aJ k0 ) (yR n ck bU aQ aO aN aR aU aP aV bz aS aJ k ) := af8 n ck bU aQ aO aN aR aU aP aV bz aS aJ k0 k hk
def Vc (n : Nat) (ck : kP) (bU : jC) (aQ : dr) (aO : dq) (aN : dm) (aR : dl) (aU : dt) (aP : dk) (aV : dp) (bz : gJ) (aS : dn) (aJ : c9) (k0 : Q0) (J0 : Q1) (J1 : Q1) : Q1 := (bH (lp ck bU aQ aO aN aR aU aP aV bz aS aJ) lF Wc (fun s => fg (.t p20) s (bH (lp ck bU aQ aO aN aR aU aP aV bz aS aJ) lF Vu (bH (lp ck bU aQ aO aN aR aU aP aV bz aS aJ) lF Vz (bH (lp ck bU aQ aO aN aR aU aP aV bz aS aJ) lF Wf (fun s => cQ Me s J1)))) (fun s => cQ Vt s J0)))
def En (n : Nat) (ck : kP) (bU : jC) (aQ : dr) (aO : dq) (aN : dm) (aR : dl) (aU : dt) (aP : dk) (aV : dp) (bz : gJ) (aS : dn) (aJ : c9) (k : tD) (j0 : Ej) (j1 : sq) (v2 : AV) (v3 : AV) (v7 : Int) (v18 : AV) (v19 : Int) (h : Heap) : CRes :=
 ifB (ltF v19 11)
 (Vr 1 11 false v18 v19 fun x19 =>
 lp ck bU aQ aO aN aR aU aP aV bz aS aJ x19 [] h fun x20 h21 =>
 TV .u64 x20 fun x22 =>
 LE true [(.int .u64 v7), (.int .u64 x22)] fun x23 =>
 TV .u64 x23 fun x24 =>
 mG .i64 v19 1 fun x25 =>
 j1 v2 v3 x24 v18 x25 h21)
 (j0 v2 v3 v7 h)
theorem afL (hk : xn k0 k) (J0 : Q1) (j0 : Ej) (h0 : LV J0 j0) (J1 : Q1) (j1 : sq) (h1 : Em J1 j1) : Em (Vc n ck bU aQ aO aN aR aU aP aV bz aS aJ k0 J0 J1) (En n ck bU aQ aO aN aR aU aP aV bz aS aJ k j0 j1) := by
  obtain rfl := fx3 hk
  obtain rfl := fx4 h0
  obtain rfl := fx6 h1
  intro v2 v3 v7 v18 v19 h
  kernel_rfl
def ED (m : Nat) : Q1 := Nat.rec (motive := fun _ => Q1) (fun _ => .err) (fun _ ih => Vc n ck bU aQ aO aN aR aU aP aV bz aS aJ k0 (L1 n ck bU aQ aO aN aR aU aP aV bz aS aJ k0 ) ih) m
def sy (m : Nat) : sq := Nat.rec (motive := fun _ => sq) (fun _ _ _ _ _ _ => .err) (fun _ ih => En n ck bU aQ aO aN aR aU aP aV bz aS aJ k (yR n ck bU aQ aO aN aR aU aP aV bz aS aJ k ) ih) m
theorem agm (m : Nat) : sy n ck bU aQ aO aN aR aU aP aV bz aS aJ k (m + 1) = En n ck bU aQ aO aN aR aU aP aV bz aS aJ k (yR n ck bU aQ aO aN aR aU aP aV bz aS aJ k ) (sy n ck bU aQ aO aN aR aU aP aV bz aS aJ k m) := rfl
theorem afN (hk : xn k0 k) (m : Nat) : Em (ED n ck bU aQ aO aN aR aU aP aV bz aS aJ k0 m) (sy n ck bU aQ aO aN aR aU aP aV bz aS aJ k m) := by
  induction m with
  | zero => intro v2 v3 v7 v18 v19 h; rfl
  | succ m ih => exact afL n ck bU aQ aO aN aR aU aP aV bz aS aJ k0 k hk (L1 n ck bU aQ aO aN aR aU aP aV bz aS aJ k0 ) (yR n ck bU aQ aO aN aR aU aP aV bz aS aJ k ) (afH n ck bU aQ aO aN aR aU aP aV bz aS aJ k0 k hk ) (ED n ck bU aQ aO aN aR aU aP aV bz aS aJ k0 m) (sy n ck bU aQ aO aN aR aU aP aV bz aS aJ k m) ih
def abv (n : Nat) (ck : kP) (bU : jC) (aQ : dr) (aO : dq) (aN : dm) (aR : dl) (aU : dt) (aP : dk) (aV : dp) (bz : gJ) (aS : dn) (aJ : c9) (k0 : Q0) (J1 : Q1) : Q1 := (bH (lp ck bU aQ aO aN aR aU aP aV bz aS aJ) lF Sk (bH (lp ck bU aQ aO aN aR aU aP aV bz aS aJ) lF Ve (bH (lp ck bU aQ aO aN aR aU aP aV bz aS aJ) lF Wk (fun s => fg (.t p14) s (bH (lp ck bU aQ aO aN aR aU aP aV bz aS aJ) lF VA (cH z_cost_Most k0)) (bH (lp ck bU aQ aO aN aR aU aP aV bz aS aJ) lF V2 (bH (lp ck bU aQ aO aN aR aU aP aV bz aS aJ) lF Vi (fun s => cQ Me s J1)))))))
def Sg (n : Nat) (ck : kP) (bU : jC) (aQ : dr) (aO : dq) (aN : dm) (aR : dl) (aU : dt) (aP : dk) (aV : dp) (bz : gJ) (aS : dn) (aJ : c9) (k : tD) (j1 : sq) (a0 : AV) (a1 : AV) (h : Heap) : CRes :=
 Al h a0 fun x0 h1 =>
 Al h1 a1 fun x2 h3 =>
 iI h3 (.ptr x0 0) 6 true fun x4 =>
 iI h3 (.ptr x2 0) 4 true fun x5 =>
 ck x4 x5 h3 fun x6 h7 =>
 ifB (jR (eqF x6 0))
 (k 0 x6 h7)
 (iI h7 (.ptr x0 0) 6 true fun x8 =>
 iI h7 (.ptr x2 0) 4 true fun x9 =>
 bU x8 x9 h7 fun x10 h11 =>
 j1 (.ptr x0 0) (.ptr x2 0) 0 x10 0 h11)
theorem ajE (n : Nat) (ck : kP) (bU : jC) (aQ : dr) (aO : dq) (aN : dm) (aR : dl) (aU : dt) (aP : dk) (aV : dp) (bz : gJ) (aS : dn) (aJ : c9) (k0 : Q0) (k : tD) (hk : xn k0 k) (J1 : Q1) (j1 : sq) (h1 : Em J1 j1) (a0 : AV) (a1 : AV) (h : Heap) : (abv n ck bU aQ aO aN aR aU aP aV bz aS aJ k0 J1) ⟨cJ [(p0, a0), (p1, a1)], h⟩ = (Sg n ck bU aQ aO aN aR aU aP aV bz aS aJ k j1) a0 a1 h := by
  obtain rfl := fx3 hk
  obtain rfl := fx6 h1
  kernel_rfl
def aju : Q1 := abv n ck bU aQ aO aN aR aU aP aV bz aS aJ k0 (ED n ck bU aQ aO aN aR aU aP aV bz aS aJ k0 n)
def Tq (n : Nat) (ck : kP) (bU : jC) (aQ : dr) (aO : dq) (aN : dm) (aR : dl) (aU : dt) (aP : dk) (aV : dp) (bz : gJ) (aS : dn) (aJ : c9) (a0 : AV) (a1 : AV) (h : Heap) (k : tD) : CRes := Sg n ck bU aQ aO aN aR aU aP aV bz aS aJ k (sy n ck bU aQ aO aN aR aU aP aV bz aS aJ k n) a0 a1 h
theorem ajO (n : Nat) (ck : kP) (bU : jC) (aQ : dr) (aO : dq) (aN : dm) (aR : dl) (aU : dt) (aP : dk) (aV : dp) (bz : gJ) (aS : dn) (aJ : c9) (k0 : Q0) (s : St) : D (fq [(pX, rO ck), (oo, qg bU), (dR, ij aQ), (dS, ir aO), (fC, ik aN), (gn, ii aR), (gt, iq aU), (gp, ip aP), (gr, il aV), (kl, mo bz), (gi, im aS), (eW, gN aJ)]) lF n LJ (cH z_cost_Most k0) (fun _ _ => .err) (cH z_cost_Most k0) s = aju n ck bU aQ aO aN aR aU aP aV bz aS aJ k0 s := by kernel_rfl
theorem aks (n : Nat) (ck : kP) (bU : jC) (aQ : dr) (aO : dq) (aN : dm) (aR : dl) (aU : dt) (aP : dk) (aV : dp) (bz : gJ) (aS : dn) (aJ : c9) (a0 : AV) (a1 : AV) (h : Heap) (k0 : Q0) : W a_cost_Most z_cost_Most [(pX, rO ck), (oo, qg bU), (dR, ij aQ), (dS, ir aO), (fC, ik aN), (gn, ii aR), (gt, iq aU), (gp, ip aP), (gr, il aV), (kl, mo bz), (gi, im aS), (eW, gN aJ)] lF n LJ [a0, a1] h k0 = Tq n ck bU aQ aO aN aR aU aP aV bz aS aJ a0 a1 h (fun u0 u1 h => k0 (.tuple [(.int .u64 u0), (.int .i64 u1)]) h) := by
  let k : tD := fun u0 u1 h => k0 (.tuple [(.int .u64 u0), (.int .i64 u1)]) h
  have hk : xn k0 k := fun _ _ _ => rfl
  have hb : ∀ F : Tr AV → CRes, iz a_cost_Most [a0, a1] .leaf F = F (cJ [(p0, a0), (p1, a1)]) := fun F => by kernel_rfl
  exact (ny hb).trans ((ajO n ck bU aQ aO aN aR aU aP aV bz aS aJ k0 _).trans (ajE n ck bU aQ aO aN aR aU aP aV bz aS aJ k0 k hk (ED n ck bU aQ aO aN aR aU aP aV bz aS aJ k0 n) (sy n ck bU aQ aO aN aR aU aP aV bz aS aJ k n) (afN n ck bU aQ aO aN aR aU aP aV bz aS aJ k0 k hk n) a0 a1 h))
end
def qd (n : Nat) : et := Tq n (oe n) (mL n) (eL n) (eK n) (gO n) (fD n) (fA n) (fB n) (fx n) (kj n) (ft n) (eD n)
theorem ak0 {tbl : Tr AFn} (hp : cF tbl) (ht : tbl.get (key rX) = some abm) (n : Nat) (afY : Sound tbl pX (rO (oe n))) (aeW : Sound tbl oo (qg (mL n))) (Bq : Sound tbl dR (ij (eL n))) (AY : Sound tbl dS (ir (eK n))) (BP : Sound tbl fC (ik (gO n))) (AE : Sound tbl gn (ii (fD n))) (AS : Sound tbl gt (iq (fA n))) (Bj : Sound tbl gp (ip (fB n))) (Av : Sound tbl gr (il (fx n))) (Y7 : Sound tbl kl (mo (kj n))) (BR : Sound tbl gi (im (ft n))) (Ab : Sound tbl eW (gN (eD n))) : Sound tbl rX (tE (qd n)) := by
  refine Sound.of (dN hp (ps := a_cost_Most) (rs := z_cost_Most) (l := [(pX, rO (oe n)), (oo, qg (mL n)), (dR, ij (eL n)), (dS, ir (eK n)), (fC, ik (gO n)), (gn, ii (fD n)), (gt, iq (fA n)), (gp, ip (fB n)), (gr, il (fx n)), (kl, mo (kj n)), (gi, im (ft n)), (eW, gN (eD n))]) (ty := lF) (n := n) (c := LJ) ht ⟨afY, aeW, Bq, AY, BP, AE, AS, Bj, Av, Y7, BR, Ab, trivial⟩) fun args H k r H' h => ?_
  unfold tE at h
  obtain ⟨a0, l0, e0, h0⟩ := cT h
  subst e0
  obtain ⟨a1, l1, e1, h1⟩ := cT h0
  subst e1
  obtain ⟨e9, h9⟩ := cY h1
  subst e9
  exact (aks n (oe n) (mL n) (eL n) (eK n) (gO n) (fD n) (fA n) (fB n) (fx n) (kj n) (ft n) (eD n) a0 a1 H k).trans h9
/-! cofferdam/plan.shape -/
abbrev dT := AV → Int → Heap → (AV → Heap → CRes) → CRes
abbrev yb := AV → Heap → CRes
def rQ (g : dT) : Wr := fun l h k => mm l fun a0 l => pZ .i64 l fun a1 l => mP l (g a0 a1 h fun u0 h => k u0 h)
def EC : d7 := fq []
abbrev Wa (k0 : Q0) (k : yb) : Prop := ∀ u0 h, k0 u0 h = k u0 h
section
variable (n : Nat) (k0 : Q0) (k : yb)
def XN (n : Nat) (k0 : Q0) : Q1 := (bH (EC ) uh S4 (bH (EC ) uh Sn (bH (EC ) uh Tw (bH (EC ) uh TJ (cH z_plan_shape k0)))))
def OY (n : Nat) (k : yb) (a0 : AV) (a1 : Int) (h : Heap) : CRes :=
 Al h a0 fun x0 h1 =>
 A2 h1 (.cells [(.int .i64 0), (.int .i64 0), (.int .i64 0), (.int .i64 0)] true 0) fun x2 h3 =>
 fld 16 h3 (.ptr x0 0) 1 false fun x4 x5 =>
 eld 8 h3 x5 a1 8 true fun x6 x7 =>
 A2 h3 (.cells [.nilslice, (.int .i64 0), (.int .i64 0), (.int .i64 0), (.int .i64 0), (.int .i64 0), (.int .i64 0), (.int .i64 0)] true 0) fun x8 h9 =>
 mT h9 (.ptr x8 0) 8 x7 fun h10 =>
 mg .i64 1 h10 (.ptr x8 0) fun x11 x12 =>
 aci .i64 1 x12 fun x13 =>
 mg .i64 2 h10 (.ptr x8 0) fun x14 x15 =>
 mg .i64 2 h10 (.ptr x8 0) fun x16 x17 =>
 mg .i64 7 h10 (.ptr x8 0) fun x18 x19 =>
 mG .i64 x17 x19 fun x20 =>
 W3 .i64 x20 1 fun x21 =>
 mg .i64 6 h10 (.ptr x8 0) fun x22 x23 =>
 Kn .i64 16 x23 fun x24 =>
 LE false [(.int .i64 x21), (.int .i64 x24)] fun x25 =>
 TV .i64 x25 fun x26 =>
 mg .i64 3 h10 (.ptr x8 0) fun x27 x28 =>
 z8 [(.int .i64 0), (.int .i64 0), (.int .i64 0), (.int .i64 0)] [(0, 1, (.int .i64 x13)), (1, 1, (.int .i64 x15)), (2, 1, (.int .i64 x26)), (3, 1, (.int .i64 x28))] fun x29 =>
 mT h10 (.ptr x2 0) 4 x29 fun h30 =>
 iI h30 (.ptr x2 0) 4 true fun x31 =>
 k x31 h30
theorem ail (n : Nat) (k0 : Q0) (k : yb) (hk : Wa k0 k) (a0 : AV) (a1 : Int) (h : Heap) : (XN n k0 ) ⟨cJ [(p0, a0), (p1, (.int .i64 a1))], h⟩ = (OY n k ) a0 a1 h := by
  obtain rfl := fx2 hk
  kernel_rfl
def ahE : Q1 := XN n k0
def OS (n : Nat) (a0 : AV) (a1 : Int) (h : Heap) (k : yb) : CRes := OY n k a0 a1 h
theorem aiK (n : Nat) (k0 : Q0) (s : St) : D (fq []) uh n H5 (cH z_plan_shape k0) (fun _ _ => .err) (cH z_plan_shape k0) s = ahE n k0 s := by kernel_rfl
theorem aiD (n : Nat) (a0 : AV) (a1 : Int) (h : Heap) (k0 : Q0) : W a_plan_shape z_plan_shape [] uh n H5 [a0, (.int .i64 a1)] h k0 = OS n a0 a1 h (fun u0 h => k0 u0 h) := by
  let k : yb := fun u0 h => k0 u0 h
  have hk : Wa k0 k := fun _ _ => rfl
  have hb : ∀ F : Tr AV → CRes, iz a_plan_shape [a0, (.int .i64 a1)] .leaf F = F (cJ [(p0, a0), (p1, (.int .i64 a1))]) := fun F => by kernel_rfl
  exact (ny hb).trans ((aiK n k0 _).trans (ail n k0 k hk a0 a1 h))
end
def ol (n : Nat) : dT := OS n
theorem ah4 {tbl : Tr AFn} (hp : cF tbl) (ht : tbl.get (key pP) = some Y6) (n : Nat) : Sound tbl pP (rQ (ol n)) := by
  refine Sound.of (dN hp (ps := a_plan_shape) (rs := z_plan_shape) (l := []) (ty := uh) (n := n) (c := H5) ht trivial) fun args H k r H' h => ?_
  unfold rQ at h
  obtain ⟨a0, l0, e0, h0⟩ := cT h
  subst e0
  obtain ⟨a1, l1, e1, h1⟩ := dQ h0
  subst e1
  obtain ⟨e9, h9⟩ := cY h1
  subst e9
  exact (aiD n a0 a1 H k).trans h9
/-! cofferdam/plan.sliced -/
abbrev jB := AV → Heap → (Bool → Heap → CRes) → CRes
abbrev jb := Bool → Heap → CRes
def qf (g : jB) : Wr := fun l h k => mm l fun a0 l => mP l (g a0 h fun u0 h => k (.bool u0) h)
def eZ (aa : bP) (ad : bX) (al : cV) (av : dx) (aF : et) (aB : dT) : d7 := fq [(fb, ge aa), (eP, fe ad), (lE, mv al), (oq, ql av), (rX, tE aF), (pP, rQ aB)]
abbrev eN (k0 : Q0) (k : jb) : Prop := ∀ u0 h, k0 (.bool u0) h = k u0 h
abbrev zH : Type := Heap → CRes
abbrev GR (J : Q1) (j : zH) : Prop := ∀ h, J ⟨cJ [], h⟩ = j h
abbrev rD : Type := AV → Int → Int → Heap → CRes
abbrev zD (J : Q1) (j : rD) : Prop := ∀ v1 v58 v59 h, J ⟨cJ [(p1, v1), (p58, (.int .i64 v58)), (p59, (.int .i64 v59))], h⟩ = j v1 v58 v59 h
abbrev zq : Type := AV → Int → Int → Bool → Heap → CRes
abbrev FB (J : Q1) (j : zq) : Prop := ∀ v1 v58 v59 v82 h, J ⟨cJ [(p1, v1), (p58, (.int .i64 v58)), (p59, (.int .i64 v59)), (p82, (.bool v82))], h⟩ = j v1 v58 v59 v82 h
abbrev jZ : Type := AV → Int → Int → Heap → CRes
abbrev rF (J : Q1) (j : jZ) : Prop := ∀ v1 v58 v59 h, J ⟨cJ [(p1, v1), (p58, (.int .i64 v58)), (p59, (.int .i64 v59))], h⟩ = j v1 v58 v59 h
abbrev za : Type := AV → Bool → Heap → CRes
abbrev F6 (J : Q1) (j : za) : Prop := ∀ v1 v55 h, J ⟨cJ [(p1, v1), (p55, (.bool v55))], h⟩ = j v1 v55 h
abbrev zh : Type := AV → Bool → Heap → CRes
abbrev FN (J : Q1) (j : zh) : Prop := ∀ v1 v34 h, J ⟨cJ [(p1, v1), (p34, (.bool v34))], h⟩ = j v1 v34 h
abbrev zG : Type := AV → Bool → Heap → CRes
abbrev Gh (J : Q1) (j : zG) : Prop := ∀ v1 v25 h, J ⟨cJ [(p1, v1), (p25, (.bool v25))], h⟩ = j v1 v25 h
abbrev zM : Type := AV → Bool → Heap → CRes
abbrev Gm (J : Q1) (j : zM) : Prop := ∀ v1 v20 h, J ⟨cJ [(p1, v1), (p20, (.bool v20))], h⟩ = j v1 v20 h
abbrev zI : Type := AV → Bool → Heap → CRes
abbrev GH (J : Q1) (j : zI) : Prop := ∀ v1 v15 h, J ⟨cJ [(p1, v1), (p15, (.bool v15))], h⟩ = j v1 v15 h
section
variable (n : Nat) (aa : bP) (ad : bX) (al : cV) (av : dx) (aF : et) (aB : dT) (k0 : Q0) (k : jb)
def PI (n : Nat) (aa : bP) (ad : bX) (al : cV) (av : dx) (aF : et) (aB : dT) (k0 : Q0) : Q1 := (bH (eZ aa ad al av aF aB) eJ PH (cH z_plan_sliced k0))
def GU (n : Nat) (aa : bP) (ad : bX) (al : cV) (av : dx) (aF : et) (aB : dT) (k : jb) (h : Heap) : CRes :=
 k true h
theorem acO (hk : eN k0 k) : GR (PI n aa ad al av aF aB k0 ) (GU n aa ad al av aF aB k ) := by
  obtain rfl := fx2 hk
  intro h
  kernel_rfl
def FG : Q1 := PI n aa ad al av aF aB k0
def vp : zH := GU n aa ad al av aF aB k
theorem acv (hk : eN k0 k) : GR (FG n aa ad al av aF aB k0 ) (vp n aa ad al av aF aB k ) := acO n aa ad al av aF aB k0 k hk
def QD (n : Nat) (aa : bP) (ad : bX) (al : cV) (av : dx) (aF : et) (aB : dT) (k0 : Q0) (J1 : Q1) : Q1 := (bH (eZ aa ad al av aF aB) eJ QT (fun s => cQ F2 s J1))
def y4 (n : Nat) (aa : bP) (ad : bX) (al : cV) (av : dx) (aF : et) (aB : dT) (k : jb) (j1 : jZ) (v1 : AV) (v58 : Int) (v59 : Int) (h : Heap) : CRes :=
 mG .i64 v59 1 fun x47 =>
 j1 v1 v58 x47 h
theorem acG (hk : eN k0 k) (J1 : Q1) (j1 : jZ) (h1 : rF J1 j1) : zD (QD n aa ad al av aF aB k0 J1) (y4 n aa ad al av aF aB k j1) := by
  obtain rfl := fx2 hk
  obtain rfl := fx4 h1
  intro v1 v58 v59 h
  kernel_rfl
def uD (J1 : Q1) : Q1 := QD n aa ad al av aF aB k0 J1
def nE (j1 : jZ) : rD := y4 n aa ad al av aF aB k j1
theorem PD (hk : eN k0 k) (J1 : Q1) (j1 : jZ) (h1 : rF J1 j1) : zD (uD n aa ad al av aF aB k0 J1) (nE n aa ad al av aF aB k j1) := acG n aa ad al av aF aB k0 k hk J1 j1 h1
def PW (n : Nat) (aa : bP) (ad : bX) (al : cV) (av : dx) (aF : et) (aB : dT) (k0 : Q0) (J2 : Q1) : Q1 := (fun s => fg (.t p82) s (bH (eZ aa ad al av aF aB) eJ PL (cH z_plan_sliced k0)) (fun s => cQ Gp s J2))
def GL (n : Nat) (aa : bP) (ad : bX) (al : cV) (av : dx) (aF : et) (aB : dT) (k : jb) (j2 : rD) (v1 : AV) (v58 : Int) (v59 : Int) (v82 : Bool) (h : Heap) : CRes :=
 ifB v82
 (k false h)
 (j2 v1 v58 v59 h)
theorem acF (hk : eN k0 k) (J2 : Q1) (j2 : rD) (h2 : zD J2 j2) : FB (PW n aa ad al av aF aB k0 J2) (GL n aa ad al av aF aB k j2) := by
  obtain rfl := fx2 hk
  obtain rfl := fx4 h2
  intro v1 v58 v59 v82 h
  kernel_rfl
def Gw (J1 : Q1) : Q1 := PW n aa ad al av aF aB k0 (uD n aa ad al av aF aB k0 J1)
def uo (j1 : jZ) : zq := GL n aa ad al av aF aB k (nE n aa ad al av aF aB k j1)
theorem ac5 (hk : eN k0 k) (J1 : Q1) (j1 : jZ) (h1 : rF J1 j1) : FB (Gw n aa ad al av aF aB k0 J1) (uo n aa ad al av aF aB k j1) := acF n aa ad al av aF aB k0 k hk (uD n aa ad al av aF aB k0 J1) (nE n aa ad al av aF aB k j1) (PD n aa ad al av aF aB k0 k hk J1 j1 h1)
def PE (n : Nat) (aa : bP) (ad : bX) (al : cV) (av : dx) (aF : et) (aB : dT) (k0 : Q0) (J0 : Q1) (J2 : Q1) (J3 : Q1) : Q1 := (bH (eZ aa ad al av aF aB) eJ Qn (fun s => fg (.t p60) s (bH (eZ aa ad al av aF aB) eJ QB (bH (eZ aa ad al av aF aB) eJ Qw (fun s => fg (.t p65) s (fun s => cQ Gp s J2) (bH (eZ aa ad al av aF aB) eJ Qk (bH (eZ aa ad al av aF aB) eJ Qr (fun s => cQ Qy s J3)))))) (fun s => cQ Qo s J0)))
def zC (n : Nat) (aa : bP) (ad : bX) (al : cV) (av : dx) (aF : et) (aB : dT) (k : jb) (j0 : zH) (j2 : rD) (j3 : zq) (v1 : AV) (v58 : Int) (v59 : Int) (h : Heap) : CRes :=
 ifB (ltF v59 v58)
 (iI h v1 17 true fun x34 =>
 al x34 v59 h fun x35 h36 =>
 ifB (jR (eqF x35 0))
 (j2 v1 v58 v59 h36)
 (fld 6 h36 v1 6 true fun x37 x38 =>
 iI h36 v1 17 true fun x39 =>
 aB x39 v59 (h36.shut true) fun x40 h41 =>
 aF x38 x40 (h41.back h36.ro) fun x42 x43 h44 =>
 ifB (jR (eqF x43 0))
 (j3 v1 v58 v59 true h44)
 (faK 12 v1 fun x45 =>
 ldI .u64 h44 x45 fun x46 =>
 j3 v1 v58 v59 (ltF x46 x42) h44)))
 (j0 h)
theorem abY (hk : eN k0 k) (J0 : Q1) (j0 : zH) (h0 : GR J0 j0) (J2 : Q1) (j2 : rD) (h2 : zD J2 j2) (J3 : Q1) (j3 : zq) (h3 : FB J3 j3) : rF (PE n aa ad al av aF aB k0 J0 J2 J3) (zC n aa ad al av aF aB k j0 j2 j3) := by
  obtain rfl := fx2 hk
  obtain rfl := fx1 h0
  obtain rfl := fx4 h2
  obtain rfl := fx5 h3
  intro v1 v58 v59 h
  kernel_rfl
def pH (m : Nat) : Q1 := Nat.rec (motive := fun _ => Q1) (fun _ => .err) (fun _ ih => PE n aa ad al av aF aB k0 (FG n aa ad al av aF aB k0 ) (uD n aa ad al av aF aB k0 ih) (Gw n aa ad al av aF aB k0 ih)) m
def jp (m : Nat) : jZ := Nat.rec (motive := fun _ => jZ) (fun _ _ _ _ => .err) (fun _ ih => zC n aa ad al av aF aB k (vp n aa ad al av aF aB k ) (nE n aa ad al av aF aB k ih) (uo n aa ad al av aF aB k ih)) m
theorem acb (m : Nat) : jp n aa ad al av aF aB k (m + 1) = zC n aa ad al av aF aB k (vp n aa ad al av aF aB k ) (nE n aa ad al av aF aB k (jp n aa ad al av aF aB k m)) (uo n aa ad al av aF aB k (jp n aa ad al av aF aB k m)) := rfl
theorem ac6 (hk : eN k0 k) (m : Nat) : rF (pH n aa ad al av aF aB k0 m) (jp n aa ad al av aF aB k m) := by
  induction m with
  | zero => intro v1 v58 v59 h; rfl
  | succ m ih => exact abY n aa ad al av aF aB k0 k hk (FG n aa ad al av aF aB k0 ) (vp n aa ad al av aF aB k ) (acv n aa ad al av aF aB k0 k hk ) (uD n aa ad al av aF aB k0 (pH n aa ad al av aF aB k0 m)) (nE n aa ad al av aF aB k (jp n aa ad al av aF aB k m)) (PD n aa ad al av aF aB k0 k hk (pH n aa ad al av aF aB k0 m) (jp n aa ad al av aF aB k m) ih) (Gw n aa ad al av aF aB k0 (pH n aa ad al av aF aB k0 m)) (uo n aa ad al av aF aB k (jp n aa ad al av aF aB k m)) (ac5 n aa ad al av aF aB k0 k hk (pH n aa ad al av aF aB k0 m) (jp n aa ad al av aF aB k m) ih)
def P1 (n : Nat) (aa : bP) (ad : bX) (al : cV) (av : dx) (aF : et) (aB : dT) (k0 : Q0) (J1 : Q1) : Q1 := (fun s => fg (.t p55) s (bH (eZ aa ad al av aF aB) eJ Qh (cH z_plan_sliced k0)) (bH (eZ aa ad al av aF aB) eJ Qf (fun s => cQ F2 s J1)))
def F3 (n : Nat) (aa : bP) (ad : bX) (al : cV) (av : dx) (aF : et) (aB : dT) (k : jb) (j1 : jZ) (v1 : AV) (v55 : Bool) (h : Heap) : CRes :=
 ifB v55
 (k false h)
 (fld 16 h v1 1 false fun x31 x32 =>
 ju x32 fun x33 =>
 j1 v1 x33 0 h)
theorem acQ (hk : eN k0 k) (J1 : Q1) (j1 : jZ) (h1 : rF J1 j1) : F6 (P1 n aa ad al av aF aB k0 J1) (F3 n aa ad al av aF aB k j1) := by
  obtain rfl := fx2 hk
  obtain rfl := fx4 h1
  intro v1 v55 h
  kernel_rfl
def FL : Q1 := P1 n aa ad al av aF aB k0 (pH n aa ad al av aF aB k0 n)
def zz : za := F3 n aa ad al av aF aB k (jp n aa ad al av aF aB k n)
theorem acX (hk : eN k0 k) : F6 (FL n aa ad al av aF aB k0 ) (zz n aa ad al av aF aB k ) := acQ n aa ad al av aF aB k0 k hk (pH n aa ad al av aF aB k0 n) (jp n aa ad al av aF aB k n) (ac6 n aa ad al av aF aB k0 k hk n)
def PY (n : Nat) (aa : bP) (ad : bX) (al : cV) (av : dx) (aF : et) (aB : dT) (k0 : Q0) (J4 : Q1) : Q1 := (fun s => fg (.t p34) s (bH (eZ aa ad al av aF aB) eJ Oz (cH z_plan_sliced k0)) (bH (eZ aa ad al av aF aB) eJ OF (bH (eZ aa ad al av aF aB) eJ Nn (fun s => cQ Qd s J4))))
def GX (n : Nat) (aa : bP) (ad : bX) (al : cV) (av : dx) (aF : et) (aB : dT) (k : jb) (j4 : za) (v1 : AV) (v34 : Bool) (h : Heap) : CRes :=
 ifB v34
 (k true h)
 (fld 6 h v1 6 true fun x17 x18 =>
 mg .i64 3 h v1 fun x19 x20 =>
 mg .i64 4 h v1 fun x21 x22 =>
 Kn .i64 x20 x22 fun x23 =>
 mg .i64 5 h v1 fun x24 x25 =>
 av x18 x23 x25 h fun x26 x27 h28 =>
 ifB (jR (eqF x27 0))
 (j4 v1 true h28)
 (faK 13 v1 fun x29 =>
 ldI .u64 h28 x29 fun x30 =>
 j4 v1 (ltF x30 x26) h28))
theorem ac9 (hk : eN k0 k) (J4 : Q1) (j4 : za) (h4 : F6 J4 j4) : FN (PY n aa ad al av aF aB k0 J4) (GX n aa ad al av aF aB k j4) := by
  obtain rfl := fx2 hk
  obtain rfl := fx3 h4
  intro v1 v34 h
  kernel_rfl
def FT : Q1 := PY n aa ad al av aF aB k0 (FL n aa ad al av aF aB k0 )
def zA : zh := GX n aa ad al av aF aB k (zz n aa ad al av aF aB k )
theorem ab2 (hk : eN k0 k) : FN (FT n aa ad al av aF aB k0 ) (zA n aa ad al av aF aB k ) := ac9 n aa ad al av aF aB k0 k hk (FL n aa ad al av aF aB k0 ) (zz n aa ad al av aF aB k ) (acX n aa ad al av aF aB k0 k hk )
def P5 (n : Nat) (aa : bP) (ad : bX) (al : cV) (av : dx) (aF : et) (aB : dT) (k0 : Q0) (J5 : Q1) : Q1 := (fun s => fg (.t p25) s (bH (eZ aa ad al av aF aB) eJ NS (cH z_plan_sliced k0)) (bH (eZ aa ad al av aF aB) eJ OL (fun s => cQ Rl s J5)))
def Gx (n : Nat) (aa : bP) (ad : bX) (al : cV) (av : dx) (aF : et) (aB : dT) (k : jb) (j5 : zh) (v1 : AV) (v25 : Bool) (h : Heap) : CRes :=
 ifB v25
 (k false h)
 (iI h v1 17 true fun x10 =>
 aa x10 h fun x11 h12 =>
 ifB (jR x11)
 (j5 v1 true h12)
 (faK 6 v1 fun x13 =>
 iI h12 x13 6 true fun x14 =>
 ad x14 h12 fun x15 h16 =>
 j5 v1 (jR (eqF x15 0)) h16))
theorem acs (hk : eN k0 k) (J5 : Q1) (j5 : zh) (h5 : FN J5 j5) : Gh (P5 n aa ad al av aF aB k0 J5) (Gx n aa ad al av aF aB k j5) := by
  obtain rfl := fx2 hk
  obtain rfl := fx3 h5
  intro v1 v25 h
  kernel_rfl
def FV : Q1 := P5 n aa ad al av aF aB k0 (FT n aa ad al av aF aB k0 )
def zw : zG := Gx n aa ad al av aF aB k (zA n aa ad al av aF aB k )
theorem ab9 (hk : eN k0 k) : Gh (FV n aa ad al av aF aB k0 ) (zw n aa ad al av aF aB k ) := acs n aa ad al av aF aB k0 k hk (FT n aa ad al av aF aB k0 ) (zA n aa ad al av aF aB k ) (ab2 n aa ad al av aF aB k0 k hk )
def PQ (n : Nat) (aa : bP) (ad : bX) (al : cV) (av : dx) (aF : et) (aB : dT) (k0 : Q0) (J8 : Q1) : Q1 := (bH (eZ aa ad al av aF aB) eJ Nv (fun s => cQ QE s J8))
def FJ (n : Nat) (aa : bP) (ad : bX) (al : cV) (av : dx) (aF : et) (aB : dT) (k : jb) (j8 : zG) (v1 : AV) (v20 : Bool) (h : Heap) : CRes :=
 ifB v20
 (j8 v1 true h)
 (faK 14 v1 fun x8 =>
 ldI .u64 h x8 fun x9 =>
 j8 v1 (jR (ltF x9 1099511627776)) h)
theorem ac4 (hk : eN k0 k) (J8 : Q1) (j8 : zG) (h8 : Gh J8 j8) : Gm (PQ n aa ad al av aF aB k0 J8) (FJ n aa ad al av aF aB k j8) := by
  obtain rfl := fx2 hk
  obtain rfl := fx3 h8
  intro v1 v20 h
  kernel_rfl
def G4 : Q1 := PQ n aa ad al av aF aB k0 (FV n aa ad al av aF aB k0 )
def zi : zM := FJ n aa ad al av aF aB k (zw n aa ad al av aF aB k )
theorem acz (hk : eN k0 k) : Gm (G4 n aa ad al av aF aB k0 ) (zi n aa ad al av aF aB k ) := ac4 n aa ad al av aF aB k0 k hk (FV n aa ad al av aF aB k0 ) (zw n aa ad al av aF aB k ) (ab9 n aa ad al av aF aB k0 k hk )
def QQ (n : Nat) (aa : bP) (ad : bX) (al : cV) (av : dx) (aF : et) (aB : dT) (k0 : Q0) (J7 : Q1) : Q1 := (bH (eZ aa ad al av aF aB) eJ Oe (fun s => cQ PO s J7))
def FY (n : Nat) (aa : bP) (ad : bX) (al : cV) (av : dx) (aF : et) (aB : dT) (k : jb) (j7 : zM) (v1 : AV) (v15 : Bool) (h : Heap) : CRes :=
 ifB v15
 (j7 v1 true h)
 (faK 13 v1 fun x6 =>
 ldI .u64 h x6 fun x7 =>
 j7 v1 (ltF 4194304 x7) h)
theorem acx (hk : eN k0 k) (J7 : Q1) (j7 : zM) (h7 : Gm J7 j7) : GH (QQ n aa ad al av aF aB k0 J7) (FY n aa ad al av aF aB k j7) := by
  obtain rfl := fx2 hk
  obtain rfl := fx3 h7
  intro v1 v15 h
  kernel_rfl
def Gf : Q1 := QQ n aa ad al av aF aB k0 (G4 n aa ad al av aF aB k0 )
def zg : zI := FY n aa ad al av aF aB k (zi n aa ad al av aF aB k )
theorem ab7 (hk : eN k0 k) : GH (Gf n aa ad al av aF aB k0 ) (zg n aa ad al av aF aB k ) := acx n aa ad al av aF aB k0 k hk (G4 n aa ad al av aF aB k0 ) (zi n aa ad al av aF aB k ) (acz n aa ad al av aF aB k0 k hk )
def V5 (n : Nat) (aa : bP) (ad : bX) (al : cV) (av : dx) (aF : et) (aB : dT) (k0 : Q0) (J6 : Q1) : Q1 := (bH (eZ aa ad al av aF aB) eJ N0 (bH (eZ aa ad al av aF aB) eJ NY (fun s => cQ Qu s J6)))
def LZ (n : Nat) (aa : bP) (ad : bX) (al : cV) (av : dx) (aF : et) (aB : dT) (k : jb) (j6 : zI) (a0 : AV) (h : Heap) : CRes :=
 Al h a0 fun x0 h1 =>
 mg .u64 12 h1 (.ptr x0 0) fun x2 x3 =>
 ifB (ltF x3 1)
 (j6 (.ptr x0 0) true h1)
 (faK 12 (.ptr x0 0) fun x4 =>
 ldI .u64 h1 x4 fun x5 =>
 j6 (.ptr x0 0) (ltF 4194304 x5) h1)
theorem afF (n : Nat) (aa : bP) (ad : bX) (al : cV) (av : dx) (aF : et) (aB : dT) (k0 : Q0) (k : jb) (hk : eN k0 k) (J6 : Q1) (j6 : zI) (h6 : GH J6 j6) (a0 : AV) (h : Heap) : (V5 n aa ad al av aF aB k0 J6) ⟨cJ [(p0, a0)], h⟩ = (LZ n aa ad al av aF aB k j6) a0 h := by
  obtain rfl := fx2 hk
  obtain rfl := fx3 h6
  kernel_rfl
def agk : Q1 := V5 n aa ad al av aF aB k0 (Gf n aa ad al av aF aB k0 )
def LR (n : Nat) (aa : bP) (ad : bX) (al : cV) (av : dx) (aF : et) (aB : dT) (a0 : AV) (h : Heap) (k : jb) : CRes := LZ n aa ad al av aF aB k (zg n aa ad al av aF aB k ) a0 h
theorem afS (n : Nat) (aa : bP) (ad : bX) (al : cV) (av : dx) (aF : et) (aB : dT) (k0 : Q0) (s : St) : D (fq [(fb, ge aa), (eP, fe ad), (lE, mv al), (oq, ql av), (rX, tE aF), (pP, rQ aB)]) eJ n Et (cH z_plan_sliced k0) (fun _ _ => .err) (cH z_plan_sliced k0) s = agk n aa ad al av aF aB k0 s := by kernel_rfl
theorem afW (n : Nat) (aa : bP) (ad : bX) (al : cV) (av : dx) (aF : et) (aB : dT) (a0 : AV) (h : Heap) (k0 : Q0) : W a_plan_sliced z_plan_sliced [(fb, ge aa), (eP, fe ad), (lE, mv al), (oq, ql av), (rX, tE aF), (pP, rQ aB)] eJ n Et [a0] h k0 = LR n aa ad al av aF aB a0 h (fun u0 h => k0 (.bool u0) h) := by
  let k : jb := fun u0 h => k0 (.bool u0) h
  have hk : eN k0 k := fun _ _ => rfl
  have hb : ∀ F : Tr AV → CRes, iz a_plan_sliced [a0] .leaf F = F (cJ [(p0, a0)]) := fun F => by kernel_rfl
  exact (ny hb).trans ((afS n aa ad al av aF aB k0 _).trans (afF n aa ad al av aF aB k0 k hk (Gf n aa ad al av aF aB k0 ) (zg n aa ad al av aF aB k ) (ab7 n aa ad al av aF aB k0 k hk ) a0 h))
end
def mH (n : Nat) : jB := LR n (eo n) (ez n) (kC n) (mM n) (qd n) (ol n)
theorem agi {tbl : Tr AFn} (hp : cF tbl) (ht : tbl.get (key oi) = some Vb) (n : Nat) (uu : Sound tbl fb (ge (eo n))) (st : Sound tbl eP (fe (ez n))) (Pg : Sound tbl lE (mv (kC n))) (ae7 : Sound tbl oq (ql (mM n))) (ah5 : Sound tbl rX (tE (qd n))) (afM : Sound tbl pP (rQ (ol n))) : Sound tbl oi (qf (mH n)) := by
  refine Sound.of (dN hp (ps := a_plan_sliced) (rs := z_plan_sliced) (l := [(fb, ge (eo n)), (eP, fe (ez n)), (lE, mv (kC n)), (oq, ql (mM n)), (rX, tE (qd n)), (pP, rQ (ol n))]) (ty := eJ) (n := n) (c := Et) ht ⟨uu, st, Pg, ae7, ah5, afM, trivial⟩) fun args H k r H' h => ?_
  unfold qf at h
  obtain ⟨a0, l0, e0, h0⟩ := cT h
  subst e0
  obtain ⟨e9, h9⟩ := cY h0
  subst e9
  exact (afW n (eo n) (ez n) (kC n) (mM n) (qd n) (ol n) a0 H k).trans h9
/-! cofferdam/plan.turned$1 -/
abbrev gK := Int → AV → Heap → (Bool → Heap → CRes) → CRes
abbrev qp := Bool → Heap → CRes
def mq (g : gK) : Wr := fun l h k => pZ .i64 l fun a0 l => mm l fun a1 l => mP l (g a0 a1 h fun u0 h => k (.bool u0) h)
def KW (ab : bD) : d7 := fq [(dg, dw ab)]
abbrev KR (k0 : Q0) (k : qp) : Prop := ∀ u0 h, k0 (.bool u0) h = k u0 h
section
variable (n : Nat) (ab : bD) (k0 : Q0) (k : qp)
def Nd (n : Nat) (ab : bD) (k0 : Q0) : Q1 := (bH (KW ab) tq IP (bH (KW ab) tq JJ (cH z_plan_turned_f1 k0)))
def DA (n : Nat) (ab : bD) (k : qp) (a0 : Int) (a1 : AV) (h : Heap) : CRes :=
 fld 16 h a1 1 false fun x0 x1 =>
 ju x1 fun x2 =>
 W3 .i64 x2 1 fun x3 =>
 ab a0 0 x3 h fun x4 h5 =>
 k (jR x4) h5
theorem aa3 (n : Nat) (ab : bD) (k0 : Q0) (k : qp) (hk : KR k0 k) (a0 : Int) (a1 : AV) (h : Heap) : (Nd n ab k0 ) ⟨cJ [(p0, (.int .i64 a0)), (p1, a1)], h⟩ = (DA n ab k ) a0 a1 h := by
  obtain rfl := fx2 hk
  kernel_rfl
def abb : Q1 := Nd n ab k0
def Dl (n : Nat) (ab : bD) (a0 : Int) (a1 : AV) (h : Heap) (k : qp) : CRes := DA n ab k a0 a1 h
theorem ZC (n : Nat) (ab : bD) (k0 : Q0) (s : St) : D (fq [(dg, dw ab)]) tq n yh (cH z_plan_turned_f1 k0) (fun _ _ => .err) (cH z_plan_turned_f1 k0) s = abb n ab k0 s := by kernel_rfl
theorem ZS (n : Nat) (ab : bD) (a0 : Int) (a1 : AV) (h : Heap) (k0 : Q0) : W a_plan_turned_f1 z_plan_turned_f1 [(dg, dw ab)] tq n yh [(.int .i64 a0), a1] h k0 = Dl n ab a0 a1 h (fun u0 h => k0 (.bool u0) h) := by
  let k : qp := fun u0 h => k0 (.bool u0) h
  have hk : KR k0 k := fun _ _ => rfl
  have hb : ∀ F : Tr AV → CRes, iz a_plan_turned_f1 [(.int .i64 a0), a1] .leaf F = F (cJ [(p0, (.int .i64 a0)), (p1, a1)]) := fun F => by kernel_rfl
  exact (ny hb).trans ((ZC n ab k0 _).trans (aa3 n ab k0 k hk a0 a1 h))
end
def js (n : Nat) : gK := Dl n (dI n)
theorem abf {tbl : Tr AFn} (hp : cF tbl) (ht : tbl.get (key jx) = some NZ) (n : Nat) (nd : Sound tbl dg (dw (dI n))) : Sound tbl jx (mq (js n)) := by
  refine Sound.of (dN hp (ps := a_plan_turned_f1) (rs := z_plan_turned_f1) (l := [(dg, dw (dI n))]) (ty := tq) (n := n) (c := yh) ht ⟨nd, trivial⟩) fun args H k r H' h => ?_
  unfold mq at h
  obtain ⟨a0, l0, e0, h0⟩ := dQ h
  subst e0
  obtain ⟨a1, l1, e1, h1⟩ := cT h0
  subst e1
  obtain ⟨e9, h9⟩ := cY h1
  subst e9
  exact (ZS n (dI n) a0 a1 H k).trans h9
abbrev dH := AV → AV → Heap → (Int → Heap → CRes) → CRes
abbrev eT := Int → Heap → CRes
def eU (g : dH) : Wr := fun l h k => mm l fun a0 l => mm l fun a1 l => mP l (g a0 a1 h fun u0 h => k (.int .i64 u0) h)
def dD (bE : gK) : d7 := fq [(jx, mq bE)]
abbrev io (k0 : Q0) (k : eT) : Prop := ∀ u0 h, k0 (.int .i64 u0) h = k u0 h
abbrev kU : Type := Heap → CRes
abbrev nK (J : Q1) (j : kU) : Prop := ∀ h, J ⟨cJ [], h⟩ = j h
abbrev ga : Type := AV → AV → Int → Int → Heap → CRes
abbrev kS (J : Q1) (j : ga) : Prop := ∀ v0 v1 v7 v8 h, J ⟨cJ [(p0, v0), (p1, v1), (p7, (.int .i64 v7)), (p8, (.int .i64 v8))], h⟩ = j v0 v1 v7 v8 h
section
variable (n : Nat) (bE : gK) (k0 : Q0) (k : eT)
def sF (n : Nat) (bE : gK) (k0 : Q0) : Q1 := (bH (dD bE) di sM (cH z_slices_IndexFunc___int_int_ k0))
def nI (n : Nat) (bE : gK) (k : eT) (h : Heap) : CRes :=
 k (-1) h
theorem BW (hk : io k0 k) : nK (sF n bE k0 ) (nI n bE k ) := by
  obtain rfl := fx2 hk
  intro h
  kernel_rfl
def nG : Q1 := sF n bE k0
def jg : kU := nI n bE k
theorem BZ (hk : io k0 k) : nK (nG n bE k0 ) (jg n bE k ) := BW n bE k0 k hk
def sI (n : Nat) (bE : gK) (k0 : Q0) (J0 : Q1) (J1 : Q1) : Q1 := (bH (dD bE) di sG (fun s => fg (.t p9) s (bH (dD bE) di sL (bH (dD bE) di sK (fun s => fg (.t p16) s (bH (dD bE) di sD (cH z_slices_IndexFunc___int_int_ k0)) (bH (dD bE) di sC (fun s => cQ nH s J1))))) (fun s => cQ sJ s J0)))
def kV (n : Nat) (bE : gK) (k : eT) (j0 : kU) (j1 : ga) (v0 : AV) (v1 : AV) (v7 : Int) (v8 : Int) (h : Heap) : CRes :=
 ifB (ltF v8 v7)
 (LS .i64 1 h v0 v8 fun x1 x2 =>
 dD bE v1 [(.int .i64 x2)] h fun x3 h4 =>
 HJ x3 fun x5 =>
 ifB x5
 (k v8 h4)
 (mG .i64 v8 1 fun x6 =>
 j1 v0 v1 v7 x6 h4))
 (j0 h)
theorem BX (hk : io k0 k) (J0 : Q1) (j0 : kU) (h0 : nK J0 j0) (J1 : Q1) (j1 : ga) (h1 : kS J1 j1) : kS (sI n bE k0 J0 J1) (kV n bE k j0 j1) := by
  obtain rfl := fx2 hk
  obtain rfl := fx1 h0
  obtain rfl := fx5 h1
  intro v0 v1 v7 v8 h
  kernel_rfl
def kT (m : Nat) : Q1 := Nat.rec (motive := fun _ => Q1) (fun _ => .err) (fun _ ih => sI n bE k0 (nG n bE k0 ) ih) m
def f8 (m : Nat) : ga := Nat.rec (motive := fun _ => ga) (fun _ _ _ _ _ => .err) (fun _ ih => kV n bE k (jg n bE k ) ih) m
theorem B0 (m : Nat) : f8 n bE k (m + 1) = kV n bE k (jg n bE k ) (f8 n bE k m) := rfl
theorem BU (hk : io k0 k) (m : Nat) : kS (kT n bE k0 m) (f8 n bE k m) := by
  induction m with
  | zero => intro v0 v1 v7 v8 h; rfl
  | succ m ih => exact BX n bE k0 k hk (nG n bE k0 ) (jg n bE k ) (BZ n bE k0 k hk ) (kT n bE k0 m) (f8 n bE k m) ih
def tT (n : Nat) (bE : gK) (k0 : Q0) (J1 : Q1) : Q1 := (bH (dD bE) di sE (bH (dD bE) di sN (fun s => cQ nH s J1)))
def oK (n : Nat) (bE : gK) (k : eT) (j1 : ga) (a0 : AV) (a1 : AV) (h : Heap) : CRes :=
 ju a0 fun x0 =>
 j1 a0 a1 x0 0 h
theorem EN (n : Nat) (bE : gK) (k0 : Q0) (k : eT) (hk : io k0 k) (J1 : Q1) (j1 : ga) (h1 : kS J1 j1) (a0 : AV) (a1 : AV) (h : Heap) : (tT n bE k0 J1) ⟨cJ [(p0, a0), (p1, a1)], h⟩ = (oK n bE k j1) a0 a1 h := by
  obtain rfl := fx2 hk
  obtain rfl := fx5 h1
  kernel_rfl
def EV : Q1 := tT n bE k0 (kT n bE k0 n)
def oE (n : Nat) (bE : gK) (a0 : AV) (a1 : AV) (h : Heap) (k : eT) : CRes := oK n bE k (f8 n bE k n) a0 a1 h
theorem Fd (n : Nat) (bE : gK) (k0 : Q0) (s : St) : D (fq [(jx, mq bE)]) di n lG (cH z_slices_IndexFunc___int_int_ k0) (fun _ _ => .err) (cH z_slices_IndexFunc___int_int_ k0) s = EV n bE k0 s := by kernel_rfl
theorem Fq (n : Nat) (bE : gK) (a0 : AV) (a1 : AV) (h : Heap) (k0 : Q0) : W a_slices_IndexFunc___int_int_ z_slices_IndexFunc___int_int_ [(jx, mq bE)] di n lG [a0, a1] h k0 = oE n bE a0 a1 h (fun u0 h => k0 (.int .i64 u0) h) := by
  let k : eT := fun u0 h => k0 (.int .i64 u0) h
  have hk : io k0 k := fun _ _ => rfl
  have hb : ∀ F : Tr AV → CRes, iz a_slices_IndexFunc___int_int_ [a0, a1] .leaf F = F (cJ [(p0, a0), (p1, a1)]) := fun F => by kernel_rfl
  exact (ny hb).trans ((Fd n bE k0 _).trans (EN n bE k0 k hk (kT n bE k0 n) (f8 n bE k n) (BU n bE k0 k hk n) a0 a1 h))
end
def gH (n : Nat) : dH := oE n (js n)
theorem EL {tbl : Tr AFn} (hp : cF tbl) (ht : tbl.get (key ec) = some tH) (n : Nat) (Y4 : Sound tbl jx (mq (js n))) : Sound tbl ec (eU (gH n)) := by
  refine Sound.of (dN hp (ps := a_slices_IndexFunc___int_int_) (rs := z_slices_IndexFunc___int_int_) (l := [(jx, mq (js n))]) (ty := di) (n := n) (c := lG) ht ⟨Y4, trivial⟩) fun args H k r H' h => ?_
  unfold eU at h
  obtain ⟨a0, l0, e0, h0⟩ := cT h
  subst e0
  obtain ⟨a1, l1, e1, h1⟩ := cT h0
  subst e1
  obtain ⟨e9, h9⟩ := cY h1
  subst e9
  exact (Fq n (js n) a0 a1 H k).trans h9
abbrev cR := AV → AV → Heap → (Bool → Heap → CRes) → CRes
abbrev gM := Bool → Heap → CRes
def en (g : cR) : Wr := fun l h k => mm l fun a0 l => mm l fun a1 l => mP l (g a0 a1 h fun u0 h => k (.bool u0) h)
def rv (cr : dH) : d7 := fq [(ec, eU cr)]
abbrev ru (k0 : Q0) (k : gM) : Prop := ∀ u0 h, k0 (.bool u0) h = k u0 h
section
variable (n : Nat) (cr : dH) (k0 : Q0) (k : gM)
def r6 (n : Nat) (cr : dH) (k0 : Q0) : Q1 := (bH (rv cr) iU qM (bH (rv cr) iU qN (cH z_slices_ContainsFunc___int_int_ k0)))
def nm (n : Nat) (cr : dH) (k : gM) (a0 : AV) (a1 : AV) (h : Heap) : CRes :=
 cr a0 a1 h fun x0 h1 =>
 k (jR (ltF x0 0)) h1
theorem AB (n : Nat) (cr : dH) (k0 : Q0) (k : gM) (hk : ru k0 k) (a0 : AV) (a1 : AV) (h : Heap) : (r6 n cr k0 ) ⟨cJ [(p0, a0), (p1, a1)], h⟩ = (nm n cr k ) a0 a1 h := by
  obtain rfl := fx2 hk
  kernel_rfl
def Bw : Q1 := r6 n cr k0
def ng (n : Nat) (cr : dH) (a0 : AV) (a1 : AV) (h : Heap) (k : gM) : CRes := nm n cr k a0 a1 h
theorem BA (n : Nat) (cr : dH) (k0 : Q0) (s : St) : D (fq [(ec, eU cr)]) iU n kK (cH z_slices_ContainsFunc___int_int_ k0) (fun _ _ => .err) (cH z_slices_ContainsFunc___int_int_ k0) s = Bw n cr k0 s := by kernel_rfl
theorem Bt (n : Nat) (cr : dH) (a0 : AV) (a1 : AV) (h : Heap) (k0 : Q0) : W a_slices_ContainsFunc___int_int_ z_slices_ContainsFunc___int_int_ [(ec, eU cr)] iU n kK [a0, a1] h k0 = ng n cr a0 a1 h (fun u0 h => k0 (.bool u0) h) := by
  let k : gM := fun u0 h => k0 (.bool u0) h
  have hk : ru k0 k := fun _ _ => rfl
  have hb : ∀ F : Tr AV → CRes, iz a_slices_ContainsFunc___int_int_ [a0, a1] .leaf F = F (cJ [(p0, a0), (p1, a1)]) := fun F => by kernel_rfl
  exact (ny hb).trans ((BA n cr k0 _).trans (AB n cr k0 k hk a0 a1 h))
end
def fj (n : Nat) : cR := ng n (gH n)
theorem A4 {tbl : Tr AFn} (hp : cF tbl) (ht : tbl.get (key dF) = some r9) (n : Nat) (C8 : Sound tbl ec (eU (gH n))) : Sound tbl dF (en (fj n)) := by
  refine Sound.of (dN hp (ps := a_slices_ContainsFunc___int_int_) (rs := z_slices_ContainsFunc___int_int_) (l := [(ec, eU (gH n))]) (ty := iU) (n := n) (c := kK) ht ⟨C8, trivial⟩) fun args H k r H' h => ?_
  unfold en at h
  obtain ⟨a0, l0, e0, h0⟩ := cT h
  subst e0
  obtain ⟨a1, l1, e1, h1⟩ := cT h0
  subst e1
  obtain ⟨e9, h9⟩ := cY h1
  subst e9
  exact (Bt n (gH n) a0 a1 H k).trans h9
/-! cofferdam/plan.turned -/
abbrev jG := AV → Heap → (Bool → Heap → CRes) → CRes
abbrev sB := Bool → Heap → CRes
def qj (g : jG) : Wr := fun l h k => mm l fun a0 l => mP l (g a0 h fun u0 h => k (.bool u0) h)
def JS (ab : bD) (aY : cR) : d7 := fq [(dg, dw ab), (dF, en aY)]
abbrev AG (k0 : Q0) (k : sB) : Prop := ∀ u0 h, k0 (.bool u0) h = k u0 h
abbrev zv : Type := Bool → Heap → CRes
abbrev Fy (J : Q1) (j : zv) : Prop := ∀ v13 h, J ⟨cJ [(p13, (.bool v13))], h⟩ = j v13 h
section
variable (n : Nat) (ab : bD) (aY : cR) (k0 : Q0) (k : sB)
def QL (n : Nat) (ab : bD) (aY : cR) (k0 : Q0) : Q1 := (bH (JS ab aY) vB Qe (cH z_plan_turned k0))
def FS (n : Nat) (ab : bD) (aY : cR) (k : sB) (v13 : Bool) (h : Heap) : CRes :=
 k v13 h
theorem acq (hk : AG k0 k) : Fy (QL n ab aY k0 ) (FS n ab aY k ) := by
  obtain rfl := fx2 hk
  intro v13 h
  kernel_rfl
def Gr : Q1 := QL n ab aY k0
def y6 : zv := FS n ab aY k
theorem acY (hk : AG k0 k) : Fy (Gr n ab aY k0 ) (y6 n ab aY k ) := acq n ab aY k0 k hk
def Vo (n : Nat) (ab : bD) (aY : cR) (k0 : Q0) (J0 : Q1) : Q1 := (bH (JS ab aY) vB Rb (bH (JS ab aY) vB Qx (fun s => cQ QS s J0)))
def Md (n : Nat) (ab : bD) (aY : cR) (k : sB) (j0 : zv) (a0 : AV) (h : Heap) : CRes :=
 Al h a0 fun x0 h1 =>
 fld 15 h1 (.ptr x0 0) 1 false fun x2 x3 =>
 ju x3 fun x4 =>
 ab x4 1 64 h1 fun x5 h6 =>
 ifB x5
 (faK 15 (.ptr x0 0) fun x7 =>
 iI h6 x7 1 false fun x8 =>
 aY x8 (.func 59 [] [(.ptr x0 0)]) h6 fun x9 h10 =>
 j0 (jR x9) h10)
 (j0 false h6)
theorem agI (n : Nat) (ab : bD) (aY : cR) (k0 : Q0) (k : sB) (hk : AG k0 k) (J0 : Q1) (j0 : zv) (h0 : Fy J0 j0) (a0 : AV) (h : Heap) : (Vo n ab aY k0 J0) ⟨cJ [(p0, a0)], h⟩ = (Md n ab aY k j0) a0 h := by
  obtain rfl := fx2 hk
  obtain rfl := fx2 h0
  kernel_rfl
def agt : Q1 := Vo n ab aY k0 (Gr n ab aY k0 )
def L0 (n : Nat) (ab : bD) (aY : cR) (a0 : AV) (h : Heap) (k : sB) : CRes := Md n ab aY k (y6 n ab aY k ) a0 h
theorem agn (n : Nat) (ab : bD) (aY : cR) (k0 : Q0) (s : St) : D (fq [(dg, dw ab), (dF, en aY)]) vB n Es (cH z_plan_turned k0) (fun _ _ => .err) (cH z_plan_turned k0) s = agt n ab aY k0 s := by kernel_rfl
theorem agj (n : Nat) (ab : bD) (aY : cR) (a0 : AV) (h : Heap) (k0 : Q0) : W a_plan_turned z_plan_turned [(dg, dw ab), (dF, en aY)] vB n Es [a0] h k0 = L0 n ab aY a0 h (fun u0 h => k0 (.bool u0) h) := by
  let k : sB := fun u0 h => k0 (.bool u0) h
  have hk : AG k0 k := fun _ _ => rfl
  have hb : ∀ F : Tr AV → CRes, iz a_plan_turned [a0] .leaf F = F (cJ [(p0, a0)]) := fun F => by kernel_rfl
  exact (ny hb).trans ((agn n ab aY k0 _).trans (agI n ab aY k0 k hk (Gr n ab aY k0 ) (y6 n ab aY k ) (acY n ab aY k0 k hk ) a0 h))
end
def mN (n : Nat) : jG := L0 n (dI n) (fj n)
theorem af6 {tbl : Tr AFn} (hp : cF tbl) (ht : tbl.get (key oh) = some Vl) (n : Nat) (nd : Sound tbl dg (dw (dI n))) (An : Sound tbl dF (en (fj n))) : Sound tbl oh (qj (mN n)) := by
  refine Sound.of (dN hp (ps := a_plan_turned) (rs := z_plan_turned) (l := [(dg, dw (dI n)), (dF, en (fj n))]) (ty := vB) (n := n) (c := Es) ht ⟨nd, An, trivial⟩) fun args H k r H' h => ?_
  unfold qj at h
  obtain ⟨a0, l0, e0, h0⟩ := cT h
  subst e0
  obtain ⟨e9, h9⟩ := cY h0
  subst e9
  exact (agj n (dI n) (fj n) a0 H k).trans h9
/-! cofferdam/plan.Check -/
abbrev og := AV → Heap → (AV → Heap → CRes) → CRes
abbrev sd := AV → Heap → CRes
def rJ (g : og) : Wr := fun l h k => mm l fun a0 l => mP l (g a0 h fun u0 h => k u0 h)
def iG (bw : iv) (aa : bP) (ad : bX) (bR : jB) (bQ : jG) (al : cV) : d7 := fq [(kd, nF bw), (fb, ge aa), (eP, fe ad), (oi, qf bR), (oh, qj bQ), (lE, mv al)]
abbrev vw (k0 : Q0) (k : sd) : Prop := ∀ u0 h, k0 u0 h = k u0 h
abbrev AQ : Type := AV → Heap → CRes
abbrev Jz (J : Q1) (j : AQ) : Prop := ∀ v3 h, J ⟨cJ [(p3, v3)], h⟩ = j v3 h
abbrev qT : Type := AV → AV → AV → Int → Int → Heap → CRes
abbrev Aw (J : Q1) (j : qT) : Prop := ∀ v1 v3 v4 v29 v30 h, J ⟨cJ [(p1, v1), (p3, v3), (p4, v4), (p29, (.int .i64 v29)), (p30, (.int .i64 v30))], h⟩ = j v1 v3 v4 v29 v30 h
section
variable (n : Nat) (bw : iv) (aa : bP) (ad : bX) (bR : jB) (bQ : jG) (al : cV) (k0 : Q0) (k : sd)
def SW (n : Nat) (bw : iv) (aa : bP) (ad : bX) (bR : jB) (bQ : jG) (al : cV) (k0 : Q0) : Q1 := (bH (iG bw aa ad bR bQ al) iT RW (cH z_plan_Check k0))
def I2 (n : Nat) (bw : iv) (aa : bP) (ad : bX) (bR : jB) (bQ : jG) (al : cV) (k : sd) (v3 : AV) (h : Heap) : CRes :=
 iI h v3 1 false fun x26 =>
 k x26 h
theorem afj (hk : vw k0 k) : Jz (SW n bw aa ad bR bQ al k0 ) (I2 n bw aa ad bR bQ al k ) := by
  obtain rfl := fx2 hk
  intro v3 h
  kernel_rfl
def Jk : Q1 := SW n bw aa ad bR bQ al k0
def w9 : AQ := I2 n bw aa ad bR bQ al k
theorem adQ (hk : vw k0 k) : Jz (Jk n bw aa ad bR bQ al k0 ) (w9 n bw aa ad bR bQ al k ) := afj n bw aa ad bR bQ al k0 k hk
def R7 (n : Nat) (bw : iv) (aa : bP) (ad : bX) (bR : jB) (bQ : jG) (al : cV) (k0 : Q0) (J0 : Q1) (J1 : Q1) : Q1 := (bH (iG bw aa ad bR bQ al) iT SM (fun s => fg (.t p31) s (bH (iG bw aa ad bR bQ al) iT R4 (bH (iG bw aa ad bR bQ al) iT SS (bH (iG bw aa ad bR bQ al) iT Tk (bH (iG bw aa ad bR bQ al) iT SH (fun s => cQ JD s J1))))) (fun s => cQ RZ s J0)))
def BF (n : Nat) (bw : iv) (aa : bP) (ad : bX) (bR : jB) (bQ : jG) (al : cV) (k : sd) (j0 : AQ) (j1 : qT) (v1 : AV) (v3 : AV) (v4 : AV) (v29 : Int) (v30 : Int) (h : Heap) : CRes :=
 ifB (ltF v30 v29)
 (iI h v1 17 true fun x27 =>
 al x27 v30 h fun x28 h29 =>
 mG .i64 4 v30 fun x30 =>
 iG bw aa ad bR bQ al v4 [(.bool (eqF x28 0)), (.int .i64 x28), (.int .i64 x30)] h29 fun x31 h32 =>
 mG .i64 v30 1 fun x33 =>
 j1 v1 v3 v4 v29 x33 h32)
 (j0 v3 h)
theorem adR (hk : vw k0 k) (J0 : Q1) (j0 : AQ) (h0 : Jz J0 j0) (J1 : Q1) (j1 : qT) (h1 : Aw J1 j1) : Aw (R7 n bw aa ad bR bQ al k0 J0 J1) (BF n bw aa ad bR bQ al k j0 j1) := by
  obtain rfl := fx2 hk
  obtain rfl := fx2 h0
  obtain rfl := fx6 h1
  intro v1 v3 v4 v29 v30 h
  kernel_rfl
def BG (m : Nat) : Q1 := Nat.rec (motive := fun _ => Q1) (fun _ => .err) (fun _ ih => R7 n bw aa ad bR bQ al k0 (Jk n bw aa ad bR bQ al k0 ) ih) m
def qV (m : Nat) : qT := Nat.rec (motive := fun _ => qT) (fun _ _ _ _ _ _ => .err) (fun _ ih => BF n bw aa ad bR bQ al k (w9 n bw aa ad bR bQ al k ) ih) m
theorem aee (m : Nat) : qV n bw aa ad bR bQ al k (m + 1) = BF n bw aa ad bR bQ al k (w9 n bw aa ad bR bQ al k ) (qV n bw aa ad bR bQ al k m) := rfl
theorem afl (hk : vw k0 k) (m : Nat) : Aw (BG n bw aa ad bR bQ al k0 m) (qV n bw aa ad bR bQ al k m) := by
  induction m with
  | zero => intro v1 v3 v4 v29 v30 h; rfl
  | succ m ih => exact adR n bw aa ad bR bQ al k0 k hk (Jk n bw aa ad bR bQ al k0 ) (w9 n bw aa ad bR bQ al k ) (adQ n bw aa ad bR bQ al k0 k hk ) (BG n bw aa ad bR bQ al k0 m) (qV n bw aa ad bR bQ al k m) ih
def XJ (n : Nat) (bw : iv) (aa : bP) (ad : bX) (bR : jB) (bQ : jG) (al : cV) (k0 : Q0) (J1 : Q1) : Q1 := (bH (iG bw aa ad bR bQ al) iT QM (bH (iG bw aa ad bR bQ al) iT PU (bH (iG bw aa ad bR bQ al) iT PT (bH (iG bw aa ad bR bQ al) iT PK (bH (iG bw aa ad bR bQ al) iT S5 (bH (iG bw aa ad bR bQ al) iT Tb (bH (iG bw aa ad bR bQ al) iT Sb (bH (iG bw aa ad bR bQ al) iT SJ (fun s => cQ JD s J1)))))))))
def O9 (n : Nat) (bw : iv) (aa : bP) (ad : bX) (bR : jB) (bQ : jG) (al : cV) (k : sd) (j1 : qT) (a0 : AV) (h : Heap) : CRes :=
 Al h a0 fun x0 h1 =>
 A2 h1 (.cells [.nilslice] true 0) fun x2 h3 =>
 iI h3 (.ptr x0 0) 17 true fun x4 =>
 aa x4 h3 fun x5 h6 =>
 bw x5 114 0 (.ptr x2 0) h6 fun h7 =>
 fld 6 h7 (.ptr x0 0) 6 true fun x8 x9 =>
 ad x9 h7 fun x10 h11 =>
 bw (eqF x10 0) 100 1 (.ptr x2 0) h11 fun h12 =>
 iI h12 (.ptr x0 0) 17 true fun x13 =>
 bR x13 h12 fun x14 h15 =>
 bw x14 113 2 (.ptr x2 0) h15 fun h16 =>
 iI h16 (.ptr x0 0) 17 true fun x17 =>
 bQ x17 h16 fun x18 h19 =>
 bw x18 112 3 (.ptr x2 0) h19 fun h20 =>
 fld 16 h20 (.ptr x0 0) 1 false fun x21 x22 =>
 ju x22 fun x23 =>
 LE false [(.int .i64 x23), (.int .i64 8)] fun x24 =>
 TV .i64 x24 fun x25 =>
 j1 (.ptr x0 0) (.ptr x2 0) (.func 37 [] [(.ptr x2 0)]) x25 0 h20
theorem aip (n : Nat) (bw : iv) (aa : bP) (ad : bX) (bR : jB) (bQ : jG) (al : cV) (k0 : Q0) (k : sd) (hk : vw k0 k) (J1 : Q1) (j1 : qT) (h1 : Aw J1 j1) (a0 : AV) (h : Heap) : (XJ n bw aa ad bR bQ al k0 J1) ⟨cJ [(p0, a0)], h⟩ = (O9 n bw aa ad bR bQ al k j1) a0 h := by
  obtain rfl := fx2 hk
  obtain rfl := fx6 h1
  kernel_rfl
def aia : Q1 := XJ n bw aa ad bR bQ al k0 (BG n bw aa ad bR bQ al k0 n)
def Pl (n : Nat) (bw : iv) (aa : bP) (ad : bX) (bR : jB) (bQ : jG) (al : cV) (a0 : AV) (h : Heap) (k : sd) : CRes := O9 n bw aa ad bR bQ al k (qV n bw aa ad bR bQ al k n) a0 h
theorem ajt (n : Nat) (bw : iv) (aa : bP) (ad : bX) (bR : jB) (bQ : jG) (al : cV) (k0 : Q0) (s : St) : D (fq [(kd, nF bw), (fb, ge aa), (eP, fe ad), (oi, qf bR), (oh, qj bQ), (lE, mv al)]) iT n HL (cH z_plan_Check k0) (fun _ _ => .err) (cH z_plan_Check k0) s = aia n bw aa ad bR bQ al k0 s := by kernel_rfl
theorem ajk (n : Nat) (bw : iv) (aa : bP) (ad : bX) (bR : jB) (bQ : jG) (al : cV) (a0 : AV) (h : Heap) (k0 : Q0) : W a_plan_Check z_plan_Check [(kd, nF bw), (fb, ge aa), (eP, fe ad), (oi, qf bR), (oh, qj bQ), (lE, mv al)] iT n HL [a0] h k0 = Pl n bw aa ad bR bQ al a0 h (fun u0 h => k0 u0 h) := by
  let k : sd := fun u0 h => k0 u0 h
  have hk : vw k0 k := fun _ _ => rfl
  have hb : ∀ F : Tr AV → CRes, iz a_plan_Check [a0] .leaf F = F (cJ [(p0, a0)]) := fun F => by kernel_rfl
  exact (ny hb).trans ((ajt n bw aa ad bR bQ al k0 _).trans (aip n bw aa ad bR bQ al k0 k hk (BG n bw aa ad bR bQ al k0 n) (qV n bw aa ad bR bQ al k n) (afl n bw aa ad bR bQ al k0 k hk n) a0 h))
end
def sc (n : Nat) : og := Pl n (jW n) (eo n) (ez n) (mH n) (mN n) (kC n)
theorem aiZ {tbl : Tr AFn} (hp : cF tbl) (ht : tbl.get (key qb) = some YK) (n : Nat) (aaV : Sound tbl kd (nF (jW n))) (uu : Sound tbl fb (ge (eo n))) (st : Sound tbl eP (fe (ez n))) (aep : Sound tbl oi (qf (mH n))) (aeO : Sound tbl oh (qj (mN n))) (Pg : Sound tbl lE (mv (kC n))) : Sound tbl qb (rJ (sc n)) := by
  refine Sound.of (dN hp (ps := a_plan_Check) (rs := z_plan_Check) (l := [(kd, nF (jW n)), (fb, ge (eo n)), (eP, fe (ez n)), (oi, qf (mH n)), (oh, qj (mN n)), (lE, mv (kC n))]) (ty := iT) (n := n) (c := HL) ht ⟨aaV, uu, st, aep, aeO, Pg, trivial⟩) fun args H k r H' h => ?_
  unfold rJ at h
  obtain ⟨a0, l0, e0, h0⟩ := cT h
  subst e0
  obtain ⟨e9, h9⟩ := cY h0
  subst e9
  exact (ajk n (jW n) (eo n) (ez n) (mH n) (mN n) (kC n) a0 H k).trans h9
/-! cofferdam/plan.May -/
abbrev dh := AV → Heap → (Bool → Heap → CRes) → CRes
abbrev Df := Bool → Heap → CRes
def nX (g : dh) : Wr := fun l h k => mm l fun a0 l => mP l (g a0 h fun u0 h => k (.bool u0) h)
def abE (gE : og) : d7 := fq [(qb, rJ gE)]
abbrev abz (k0 : Q0) (k : Df) : Prop := ∀ u0 h, k0 (.bool u0) h = k u0 h
section
variable (n : Nat) (gE : og) (k0 : Q0) (k : Df)
def aeq (n : Nat) (gE : og) (k0 : Q0) : Q1 := (bH (abE gE) Jc Yq (bH (abE gE) Jc XO (cH z_plan_May k0)))
def W4 (n : Nat) (gE : og) (k : Df) (a0 : AV) (h : Heap) : CRes :=
 Al h a0 fun x0 h1 =>
 iI h1 (.ptr x0 0) 17 true fun x2 =>
 gE x2 h1 fun x3 h4 =>
 ju x3 fun x5 =>
 k (eqF x5 0) h4
theorem aln (n : Nat) (gE : og) (k0 : Q0) (k : Df) (hk : abz k0 k) (a0 : AV) (h : Heap) : (aeq n gE k0 ) ⟨cJ [(p0, a0)], h⟩ = (W4 n gE k ) a0 h := by
  obtain rfl := fx2 hk
  kernel_rfl
def alr : Q1 := aeq n gE k0
def Wo (n : Nat) (gE : og) (a0 : AV) (h : Heap) (k : Df) : CRes := W4 n gE k a0 h
theorem alv (n : Nat) (gE : og) (k0 : Q0) (s : St) : D (fq [(qb, rJ gE)]) Jc n O6 (cH z_plan_May k0) (fun _ _ => .err) (cH z_plan_May k0) s = alr n gE k0 s := by kernel_rfl
theorem alB (n : Nat) (gE : og) (a0 : AV) (h : Heap) (k0 : Q0) : W a_plan_May z_plan_May [(qb, rJ gE)] Jc n O6 [a0] h k0 = Wo n gE a0 h (fun u0 h => k0 (.bool u0) h) := by
  let k : Df := fun u0 h => k0 (.bool u0) h
  have hk : abz k0 k := fun _ _ => rfl
  have hb : ∀ F : Tr AV → CRes, iz a_plan_May [a0] .leaf F = F (cJ [(p0, a0)]) := fun F => by kernel_rfl
  exact (ny hb).trans ((alv n gE k0 _).trans (aln n gE k0 k hk a0 h))
end
def k8 (n : Nat) : dh := Wo n (sc n)
theorem ak3 {tbl : Tr AFn} (hp : cF tbl) (ht : tbl.get (key mS) = some ae0) (n : Nat) (agc : Sound tbl qb (rJ (sc n))) : Sound tbl mS (nX (k8 n)) := by
  refine Sound.of (dN hp (ps := a_plan_May) (rs := z_plan_May) (l := [(qb, rJ (sc n))]) (ty := Jc) (n := n) (c := O6) ht ⟨agc, trivial⟩) fun args H k r H' h => ?_
  unfold nX at h
  obtain ⟨a0, l0, e0, h0⟩ := cT h
  subst e0
  obtain ⟨e9, h9⟩ := cY h0
  subst e9
  exact (alB n (sc n) a0 H k).trans h9
/-! cofferdam/plan.there -/
abbrev oc := AV → Int → Heap → (Int → Heap → CRes) → CRes
abbrev ul := Int → Heap → CRes
def rM (g : oc) : Wr := fun l h k => mm l fun a0 l => pZ .i64 l fun a1 l => mP l (g a0 a1 h fun u0 h => k (.int .i64 u0) h)
def sr (aw : dh) : d7 := fq [(mS, nX aw)]
abbrev Ey (k0 : Q0) (k : ul) : Prop := ∀ u0 h, k0 (.int .i64 u0) h = k u0 h
abbrev AM : Type := Bool → Heap → CRes
abbrev Jd (J : Q1) (j : AM) : Prop := ∀ v18 h, J ⟨cJ [(p18, (.bool v18))], h⟩ = j v18 h
section
variable (n : Nat) (aw : dh) (k0 : Q0) (k : ul)
def RP (n : Nat) (aw : dh) (k0 : Q0) : Q1 := (bH (sr aw) ot Tc (fun s => fg (.t p9) s (bH (sr aw) ot Sq (cH z_plan_there k0)) (bH (sr aw) ot Sl (cH z_plan_there k0))))
def Ki (n : Nat) (aw : dh) (k : ul) (v18 : Bool) (h : Heap) : CRes :=
 ifB v18
 (k 270 h)
 (k 0 h)
theorem aeL (hk : Ey k0 k) : Jd (RP n aw k0 ) (Ki n aw k ) := by
  obtain rfl := fx2 hk
  intro v18 h
  kernel_rfl
def JH : Q1 := RP n aw k0
def Bo : AM := Ki n aw k
theorem aey (hk : Ey k0 k) : Jd (JH n aw k0 ) (Bo n aw k ) := aeL n aw k0 k hk
def Y8 (n : Nat) (aw : dh) (k0 : Q0) (J0 : Q1) : Q1 := (bH (sr aw) ot Ti (bH (sr aw) ot S6 (fun s => fg (.t p5) s (bH (sr aw) ot R0 (cH z_plan_there k0)) (bH (sr aw) ot TT (fun s => cQ Ta s J0)))))
def O7 (n : Nat) (aw : dh) (k : ul) (j0 : AM) (a0 : AV) (a1 : Int) (h : Heap) : CRes :=
 Al h a0 fun x0 h1 =>
 iI h1 (.ptr x0 0) 17 true fun x2 =>
 aw x2 h1 fun x3 h4 =>
 ifB (jR x3)
 (k 5 h4)
 (ifB (ltF a1 0)
 (j0 true h4)
 (fld 16 h4 (.ptr x0 0) 1 false fun x5 x6 =>
 ju x6 fun x7 =>
 j0 (jR (ltF a1 x7)) h4))
theorem aja (n : Nat) (aw : dh) (k0 : Q0) (k : ul) (hk : Ey k0 k) (J0 : Q1) (j0 : AM) (h0 : Jd J0 j0) (a0 : AV) (a1 : Int) (h : Heap) : (Y8 n aw k0 J0) ⟨cJ [(p0, a0), (p1, (.int .i64 a1))], h⟩ = (O7 n aw k j0) a0 a1 h := by
  obtain rfl := fx2 hk
  obtain rfl := fx2 h0
  kernel_rfl
def ah9 : Q1 := Y8 n aw k0 (JH n aw k0 )
def Pc (n : Nat) (aw : dh) (a0 : AV) (a1 : Int) (h : Heap) (k : ul) : CRes := O7 n aw k (Bo n aw k ) a0 a1 h
theorem ahZ (n : Nat) (aw : dh) (k0 : Q0) (s : St) : D (fq [(mS, nX aw)]) ot n H3 (cH z_plan_there k0) (fun _ _ => .err) (cH z_plan_there k0) s = ah9 n aw k0 s := by kernel_rfl
theorem ai5 (n : Nat) (aw : dh) (a0 : AV) (a1 : Int) (h : Heap) (k0 : Q0) : W a_plan_there z_plan_there [(mS, nX aw)] ot n H3 [a0, (.int .i64 a1)] h k0 = Pc n aw a0 a1 h (fun u0 h => k0 (.int .i64 u0) h) := by
  let k : ul := fun u0 h => k0 (.int .i64 u0) h
  have hk : Ey k0 k := fun _ _ => rfl
  have hb : ∀ F : Tr AV → CRes, iz a_plan_there [a0, (.int .i64 a1)] .leaf F = F (cJ [(p0, a0), (p1, (.int .i64 a1))]) := fun F => by kernel_rfl
  exact (ny hb).trans ((ahZ n aw k0 _).trans (aja n aw k0 k hk (JH n aw k0 ) (Bo n aw k ) (aey n aw k0 k hk ) a0 a1 h))
end
def r7 (n : Nat) : oc := Pc n (k8 n)
theorem ai1 {tbl : Tr AFn} (hp : cF tbl) (ht : tbl.get (key pW) = some XW) (n : Nat) (Sx : Sound tbl mS (nX (k8 n))) : Sound tbl pW (rM (r7 n)) := by
  refine Sound.of (dN hp (ps := a_plan_there) (rs := z_plan_there) (l := [(mS, nX (k8 n))]) (ty := ot) (n := n) (c := H3) ht ⟨Sx, trivial⟩) fun args H k r H' h => ?_
  unfold rM at h
  obtain ⟨a0, l0, e0, h0⟩ := cT h
  subst e0
  obtain ⟨a1, l1, e1, h1⟩ := dQ h0
  subst e1
  obtain ⟨e9, h9⟩ := cY h1
  subst e9
  exact (ai5 n (k8 n) a0 a1 H k).trans h9
/-! cofferdam/plan.Total -/
abbrev kO := AV → Int → Heap → (Int → Int → Heap → CRes) → CRes
abbrev xj := Int → Int → Heap → CRes
def sg (g : kO) : Wr := fun l h k => mm l fun a0 l => pZ .i64 l fun a1 l => mP l (g a0 a1 h fun u0 u1 h => k (.tuple [(.int .i64 u0), (.int .i64 u1)]) h)
def yT (eQ : oc) (aq : cU) : d7 := fq [(pW, rM eQ), (kL, ll aq)]
abbrev VP (k0 : Q0) (k : xj) : Prop := ∀ u0 u1 h, k0 (.tuple [(.int .i64 u0), (.int .i64 u1)]) h = k u0 u1 h
section
variable (n : Nat) (eQ : oc) (aq : cU) (k0 : Q0) (k : xj)
def Yr (n : Nat) (eQ : oc) (aq : cU) (k0 : Q0) : Q1 := (bH (yT eQ aq) rP Ua (bH (yT eQ aq) rP TW (bH (yT eQ aq) rP TD (fun s => fg (.t p11) s (bH (yT eQ aq) rP SK (cH z_plan_Total k0)) (bH (yT eQ aq) rP RS (cH z_plan_Total k0))))))
def Pm (n : Nat) (eQ : oc) (aq : cU) (k : xj) (a0 : AV) (a1 : Int) (h : Heap) : CRes :=
 Al h a0 fun x0 h1 =>
 iI h1 (.ptr x0 0) 17 true fun x2 =>
 eQ x2 a1 h1 fun x3 h4 =>
 ifB (jR (eqF x3 0))
 (k 0 x3 h4)
 (iI h4 (.ptr x0 0) 17 true fun x5 =>
 aq x5 a1 h4 fun x6 h7 =>
 k x6 0 h7)
theorem ajd (n : Nat) (eQ : oc) (aq : cU) (k0 : Q0) (k : xj) (hk : VP k0 k) (a0 : AV) (a1 : Int) (h : Heap) : (Yr n eQ aq k0 ) ⟨cJ [(p0, a0), (p1, (.int .i64 a1))], h⟩ = (Pm n eQ aq k ) a0 a1 h := by
  obtain rfl := fx3 hk
  kernel_rfl
def air : Q1 := Yr n eQ aq k0
def Po (n : Nat) (eQ : oc) (aq : cU) (a0 : AV) (a1 : Int) (h : Heap) (k : xj) : CRes := Pm n eQ aq k a0 a1 h
theorem ahP (n : Nat) (eQ : oc) (aq : cU) (k0 : Q0) (s : St) : D (fq [(pW, rM eQ), (kL, ll aq)]) rP n HZ (cH z_plan_Total k0) (fun _ _ => .err) (cH z_plan_Total k0) s = air n eQ aq k0 s := by kernel_rfl
theorem ahW (n : Nat) (eQ : oc) (aq : cU) (a0 : AV) (a1 : Int) (h : Heap) (k0 : Q0) : W a_plan_Total z_plan_Total [(pW, rM eQ), (kL, ll aq)] rP n HZ [a0, (.int .i64 a1)] h k0 = Po n eQ aq a0 a1 h (fun u0 u1 h => k0 (.tuple [(.int .i64 u0), (.int .i64 u1)]) h) := by
  let k : xj := fun u0 u1 h => k0 (.tuple [(.int .i64 u0), (.int .i64 u1)]) h
  have hk : VP k0 k := fun _ _ _ => rfl
  have hb : ∀ F : Tr AV → CRes, iz a_plan_Total [a0, (.int .i64 a1)] .leaf F = F (cJ [(p0, a0), (p1, (.int .i64 a1))]) := fun F => by kernel_rfl
  exact (ny hb).trans ((ahP n eQ aq k0 _).trans (ajd n eQ aq k0 k hk a0 a1 h))
end
def rV (n : Nat) : kO := Po n (r7 n) (lm n)
theorem aig {tbl : Tr AFn} (hp : cF tbl) (ht : tbl.get (key pO) = some XQ) (n : Nat) (afI : Sound tbl pW (rM (r7 n))) (LQ : Sound tbl kL (ll (lm n))) : Sound tbl pO (sg (rV n)) := by
  refine Sound.of (dN hp (ps := a_plan_Total) (rs := z_plan_Total) (l := [(pW, rM (r7 n)), (kL, ll (lm n))]) (ty := rP) (n := n) (c := HZ) ht ⟨afI, LQ, trivial⟩) fun args H k r H' h => ?_
  unfold sg at h
  obtain ⟨a0, l0, e0, h0⟩ := cT h
  subst e0
  obtain ⟨a1, l1, e1, h1⟩ := dQ h0
  subst e1
  obtain ⟨e9, h9⟩ := cY h1
  subst e9
  exact (ahW n (r7 n) (lm n) a0 a1 H k).trans h9
abbrev c8 := AV → Heap → (AV → Heap → CRes) → CRes
abbrev jI := AV → Heap → CRes
def gV (g : c8) : Wr := fun l h k => mm l fun a0 l => mP l (g a0 h fun u0 h => k u0 h)
def m7 : d7 := fq []
abbrev wO (k0 : Q0) (k : jI) : Prop := ∀ u0 h, k0 u0 h = k u0 h
section
variable (n : Nat) (k0 : Q0) (k : jI)
def yq (n : Nat) (k0 : Q0) : Q1 := (bH (m7 ) iJ wc (bH (m7 ) iJ wa (fun s => fg (.t p4) s (bH (m7 ) iJ wz (cH z_slices_Clone___int_int_ k0)) (bH (m7 ) iJ wd (cH z_slices_Clone___int_int_ k0)))))
def rx (n : Nat) (k : jI) (a0 : AV) (h : Heap) : CRes :=
 UG (.nil .sl) a0 .nilslice fun x0 =>
 ifB (SB false x0)
 (k .nilslice h)
 (qQ h 0 [] [] fun x1 h2 =>
 re h2 1 x1 a0 fun x3 h4 =>
 k x3 h4)
theorem Kz (n : Nat) (k0 : Q0) (k : jI) (hk : wO k0 k) (a0 : AV) (h : Heap) : (yq n k0 ) ⟨cJ [(p0, a0)], h⟩ = (rx n k ) a0 h := by
  obtain rfl := fx2 hk
  kernel_rfl
def Kr : Q1 := yq n k0
def rA (n : Nat) (a0 : AV) (h : Heap) (k : jI) : CRes := rx n k a0 h
theorem Kx (n : Nat) (k0 : Q0) (s : St) : D (fq []) iJ n nM (cH z_slices_Clone___int_int_ k0) (fun _ _ => .err) (cH z_slices_Clone___int_int_ k0) s = Kr n k0 s := by kernel_rfl
theorem KB (n : Nat) (a0 : AV) (h : Heap) (k0 : Q0) : W a_slices_Clone___int_int_ z_slices_Clone___int_int_ [] iJ n nM [a0] h k0 = rA n a0 h (fun u0 h => k0 u0 h) := by
  let k : jI := fun u0 h => k0 u0 h
  have hk : wO k0 k := fun _ _ => rfl
  have hb : ∀ F : Tr AV → CRes, iz a_slices_Clone___int_int_ [a0] .leaf F = F (cJ [(p0, a0)]) := fun F => by kernel_rfl
  exact (ny hb).trans ((Kx n k0 _).trans (Kz n k0 k hk a0 h))
end
def gU (n : Nat) : c8 := rA n
theorem Kt {tbl : Tr AFn} (hp : cF tbl) (ht : tbl.get (key gc) = some yn) (n : Nat) : Sound tbl gc (gV (gU n)) := by
  refine Sound.of (dN hp (ps := a_slices_Clone___int_int_) (rs := z_slices_Clone___int_int_) (l := []) (ty := iJ) (n := n) (c := nM) ht trivial) fun args H k r H' h => ?_
  unfold gV at h
  obtain ⟨a0, l0, e0, h0⟩ := cT h
  subst e0
  obtain ⟨e9, h9⟩ := cY h0
  subst e9
  exact (KB n a0 H k).trans h9
/-! cofferdam/colour.within -/
abbrev cI := Int → Int → Int → Heap → (Bool → Heap → CRes) → CRes
abbrev pA := Bool → Heap → CRes
def eS (g : cI) : Wr := fun l h k => pZ .i64 l fun a0 l => pZ .i64 l fun a1 l => pZ .i64 l fun a2 l => mP l (g a0 a1 a2 h fun u0 h => k (.bool u0) h)
def Dx : d7 := fq []
abbrev xC (k0 : Q0) (k : pA) : Prop := ∀ u0 h, k0 (.bool u0) h = k u0 h
abbrev wb : Type := Bool → Heap → CRes
abbrev AF (J : Q1) (j : wb) : Prop := ∀ v14 h, J ⟨cJ [(p14, (.bool v14))], h⟩ = j v14 h
section
variable (n : Nat) (k0 : Q0) (k : pA)
def KU (n : Nat) (k0 : Q0) : Q1 := (bH (Dx ) rB KP (cH z_colour_within k0))
def Bb (n : Nat) (k : pA) (v14 : Bool) (h : Heap) : CRes :=
 k v14 h
theorem X5 (hk : xC k0 k) : AF (KU n k0 ) (Bb n k ) := by
  obtain rfl := fx2 hk
  intro v14 h
  kernel_rfl
def AX : Q1 := KU n k0
def wB : wb := Bb n k
theorem XE (hk : xC k0 k) : AF (AX n k0 ) (wB n k ) := X5 n k0 k hk
def PC (n : Nat) (k0 : Q0) (J0 : Q1) : Q1 := (bH (Dx ) rB Lp (bH (Dx ) rB Lw (fun s => cQ KK s J0)))
def GZ (n : Nat) (k : pA) (j0 : wb) (a0 : Int) (a1 : Int) (a2 : Int) (h : Heap) : CRes :=
 ifB (jR (ltF a0 a1))
 (j0 (jR (ltF a2 a0)) h)
 (j0 false h)
theorem acS (n : Nat) (k0 : Q0) (k : pA) (hk : xC k0 k) (J0 : Q1) (j0 : wb) (h0 : AF J0 j0) (a0 : Int) (a1 : Int) (a2 : Int) (h : Heap) : (PC n k0 J0) ⟨cJ [(p0, (.int .i64 a0)), (p1, (.int .i64 a1)), (p2, (.int .i64 a2))], h⟩ = (GZ n k j0) a0 a1 a2 h := by
  obtain rfl := fx2 hk
  obtain rfl := fx2 h0
  kernel_rfl
def acr : Q1 := PC n k0 (AX n k0 )
def FX (n : Nat) (a0 : Int) (a1 : Int) (a2 : Int) (h : Heap) (k : pA) : CRes := GZ n k (wB n k ) a0 a1 a2 h
theorem ab0 (n : Nat) (k0 : Q0) (s : St) : D (fq []) rB n y3 (cH z_colour_within k0) (fun _ _ => .err) (cH z_colour_within k0) s = acr n k0 s := by kernel_rfl
theorem acR (n : Nat) (a0 : Int) (a1 : Int) (a2 : Int) (h : Heap) (k0 : Q0) : W a_colour_within z_colour_within [] rB n y3 [(.int .i64 a0), (.int .i64 a1), (.int .i64 a2)] h k0 = FX n a0 a1 a2 h (fun u0 h => k0 (.bool u0) h) := by
  let k : pA := fun u0 h => k0 (.bool u0) h
  have hk : xC k0 k := fun _ _ => rfl
  have hb : ∀ F : Tr AV → CRes, iz a_colour_within [(.int .i64 a0), (.int .i64 a1), (.int .i64 a2)] .leaf F = F (cJ [(p0, (.int .i64 a0)), (p1, (.int .i64 a1)), (p2, (.int .i64 a2))]) := fun F => by kernel_rfl
  exact (ny hb).trans ((ab0 n k0 _).trans (acS n k0 k hk (AX n k0 ) (wB n k ) (XE n k0 k hk ) a0 a1 a2 h))
end
def gA (n : Nat) : cI := FX n
theorem acg {tbl : Tr AFn} (hp : cF tbl) (ht : tbl.get (key ew) = some QH) (n : Nat) : Sound tbl ew (eS (gA n)) := by
  refine Sound.of (dN hp (ps := a_colour_within) (rs := z_colour_within) (l := []) (ty := rB) (n := n) (c := y3) ht trivial) fun args H k r H' h => ?_
  unfold eS at h
  obtain ⟨a0, l0, e0, h0⟩ := dQ h
  subst e0
  obtain ⟨a1, l1, e1, h1⟩ := dQ h0
  subst e1
  obtain ⟨a2, l2, e2, h2⟩ := dQ h1
  subst e2
  obtain ⟨e9, h9⟩ := cY h2
  subst e9
  exact (acR n a0 a1 a2 H k).trans h9
/-! cofferdam/colour.may -/
abbrev eg := Int → Heap → (Bool → Heap → CRes) → CRes
abbrev xJ := Bool → Heap → CRes
def lj (g : eg) : Wr := fun l h k => pZ .i64 l fun a0 l => mP l (g a0 h fun u0 h => k (.bool u0) h)
def V4 (aD : cI) : d7 := fq [(ew, eS aD)]
abbrev V6 (k0 : Q0) (k : xJ) : Prop := ∀ u0 h, k0 (.bool u0) h = k u0 h
section
variable (n : Nat) (aD : cI) (k0 : Q0) (k : xJ)
def XT (n : Nat) (aD : cI) (k0 : Q0) : Q1 := (bH (V4 aD) A1 T8 (bH (V4 aD) A1 RO (cH z_colour_may k0)))
def Pi (n : Nat) (aD : cI) (k : xJ) (a0 : Int) (h : Heap) : CRes :=
 aD a0 1 16 h fun x0 h1 =>
 k x0 h1
theorem aiN (n : Nat) (aD : cI) (k0 : Q0) (k : xJ) (hk : V6 k0 k) (a0 : Int) (h : Heap) : (XT n aD k0 ) ⟨cJ [(p0, (.int .i64 a0))], h⟩ = (Pi n aD k ) a0 h := by
  obtain rfl := fx2 hk
  kernel_rfl
def aio : Q1 := XT n aD k0
def O2 (n : Nat) (aD : cI) (a0 : Int) (h : Heap) (k : xJ) : CRes := Pi n aD k a0 h
theorem aiH (n : Nat) (aD : cI) (k0 : Q0) (s : St) : D (fq [(ew, eS aD)]) A1 n HX (cH z_colour_may k0) (fun _ _ => .err) (cH z_colour_may k0) s = aio n aD k0 s := by kernel_rfl
theorem ai8 (n : Nat) (aD : cI) (a0 : Int) (h : Heap) (k0 : Q0) : W a_colour_may z_colour_may [(ew, eS aD)] A1 n HX [(.int .i64 a0)] h k0 = O2 n aD a0 h (fun u0 h => k0 (.bool u0) h) := by
  let k : xJ := fun u0 h => k0 (.bool u0) h
  have hk : V6 k0 k := fun _ _ => rfl
  have hb : ∀ F : Tr AV → CRes, iz a_colour_may [(.int .i64 a0)] .leaf F = F (cJ [(p0, (.int .i64 a0))]) := fun F => by kernel_rfl
  exact (ny hb).trans ((aiH n aD k0 _).trans (aiN n aD k0 k hk a0 h))
end
def lM (n : Nat) : eg := O2 n (gA n)
theorem aiE {tbl : Tr AFn} (hp : cF tbl) (ht : tbl.get (key kJ) = some X9) (n : Nat) (td : Sound tbl ew (eS (gA n))) : Sound tbl kJ (lj (lM n)) := by
  refine Sound.of (dN hp (ps := a_colour_may) (rs := z_colour_may) (l := [(ew, eS (gA n))]) (ty := A1) (n := n) (c := HX) ht ⟨td, trivial⟩) fun args H k r H' h => ?_
  unfold lj at h
  obtain ⟨a0, l0, e0, h0⟩ := dQ h
  subst e0
  obtain ⟨e9, h9⟩ := cY h0
  subst e9
  exact (ai8 n (gA n) a0 H k).trans h9
/-! cofferdam/colour.Count -/
abbrev iR := Int → Int → Int → Heap → (Int → Int → Heap → CRes) → CRes
abbrev oz := Int → Int → Heap → CRes
def oI (g : iR) : Wr := fun l h k => pZ .i64 l fun a0 l => pZ .i64 l fun a1 l => pZ .i64 l fun a2 l => mP l (g a0 a1 a2 h fun u0 u1 h => k (.tuple [(.int .i64 u0), (.int .i64 u1)]) h)
def ur (aD : cI) (bg : eg) : d7 := fq [(ew, eS aD), (kJ, lj bg)]
abbrev rC (k0 : Q0) (k : oz) : Prop := ∀ u0 u1 h, k0 (.tuple [(.int .i64 u0), (.int .i64 u1)]) h = k u0 u1 h
abbrev yd : Type := Int → Int → Int → Bool → Heap → CRes
abbrev DS (J : Q1) (j : yd) : Prop := ∀ v0 v1 v2 v22 h, J ⟨cJ [(p0, (.int .i64 v0)), (p1, (.int .i64 v1)), (p2, (.int .i64 v2)), (p22, (.bool v22))], h⟩ = j v0 v1 v2 v22 h
abbrev xr : Type := Int → Int → Int → Bool → Heap → CRes
abbrev C5 (J : Q1) (j : xr) : Prop := ∀ v0 v1 v2 v15 h, J ⟨cJ [(p0, (.int .i64 v0)), (p1, (.int .i64 v1)), (p2, (.int .i64 v2)), (p15, (.bool v15))], h⟩ = j v0 v1 v2 v15 h
section
variable (n : Nat) (aD : cI) (bg : eg) (k0 : Q0) (k : oz)
def Mq (n : Nat) (aD : cI) (bg : eg) (k0 : Q0) : Q1 := (fun s => fg (.t p22) s (bH (ur aD bg) oH Ob (cH z_colour_Count k0)) (bH (ur aD bg) oH MF (cH z_colour_Count k0)))
def Dd (n : Nat) (aD : cI) (bg : eg) (k : oz) (v0 : Int) (v1 : Int) (v2 : Int) (v22 : Bool) (h : Heap) : CRes :=
 ifB v22
 (k 0 2 h)
 (W3 .i64 v0 v2 fun x7 =>
 mG .i64 x7 v1 fun x8 =>
 W3 .i64 x8 1 fun x9 =>
 quoK .i64 x9 v1 fun x10 =>
 k x10 0 h)
theorem abg (hk : rC k0 k) : DS (Mq n aD bg k0 ) (Dd n aD bg k ) := by
  obtain rfl := fx3 hk
  intro v0 v1 v2 v22 h
  kernel_rfl
def D3 : Q1 := Mq n aD bg k0
def xQ : yd := Dd n aD bg k
theorem Zd (hk : rC k0 k) : DS (D3 n aD bg k0 ) (xQ n aD bg k ) := abg n aD bg k0 k hk
def Nu (n : Nat) (aD : cI) (bg : eg) (k0 : Q0) (J1 : Q1) : Q1 := (bH (ur aD bg) oH M2 (fun s => cQ N7 s J1))
def Dq (n : Nat) (aD : cI) (bg : eg) (k : oz) (j1 : yd) (v0 : Int) (v1 : Int) (v2 : Int) (v15 : Bool) (h : Heap) : CRes :=
 ifB v15
 (j1 v0 v1 v2 true h)
 (W3 .i64 v1 1 fun x4 =>
 aD v2 0 x4 h fun x5 h6 =>
 j1 v0 v1 v2 (jR x5) h6)
theorem Zt (hk : rC k0 k) (J1 : Q1) (j1 : yd) (h1 : DS J1 j1) : C5 (Nu n aD bg k0 J1) (Dq n aD bg k j1) := by
  obtain rfl := fx3 hk
  obtain rfl := fx5 h1
  intro v0 v1 v2 v15 h
  kernel_rfl
def D9 : Q1 := Nu n aD bg k0 (D3 n aD bg k0 )
def xK : xr := Dq n aD bg k (xQ n aD bg k )
theorem Z9 (hk : rC k0 k) : C5 (D9 n aD bg k0 ) (xK n aD bg k ) := Zt n aD bg k0 k hk (D3 n aD bg k0 ) (xQ n aD bg k ) (Zd n aD bg k0 k hk )
def Td (n : Nat) (aD : cI) (bg : eg) (k0 : Q0) (J0 : Q1) : Q1 := (bH (ur aD bg) oH Mv (bH (ur aD bg) oH Ou (fun s => cQ MA s J0)))
def I9 (n : Nat) (aD : cI) (bg : eg) (k : oz) (j0 : xr) (a0 : Int) (a1 : Int) (a2 : Int) (h : Heap) : CRes :=
 aD a0 1 4096 h fun x0 h1 =>
 ifB (jR x0)
 (j0 a0 a1 a2 true h1)
 (bg a1 h1 fun x2 h3 =>
 j0 a0 a1 a2 (jR x2) h3)
theorem adI (n : Nat) (aD : cI) (bg : eg) (k0 : Q0) (k : oz) (hk : rC k0 k) (J0 : Q1) (j0 : xr) (h0 : C5 J0 j0) (a0 : Int) (a1 : Int) (a2 : Int) (h : Heap) : (Td n aD bg k0 J0) ⟨cJ [(p0, (.int .i64 a0)), (p1, (.int .i64 a1)), (p2, (.int .i64 a2))], h⟩ = (I9 n aD bg k j0) a0 a1 a2 h := by
  obtain rfl := fx3 hk
  obtain rfl := fx5 h0
  kernel_rfl
def afz : Q1 := Td n aD bg k0 (D9 n aD bg k0 )
def JY (n : Nat) (aD : cI) (bg : eg) (a0 : Int) (a1 : Int) (a2 : Int) (h : Heap) (k : oz) : CRes := I9 n aD bg k (xK n aD bg k ) a0 a1 a2 h
theorem adp (n : Nat) (aD : cI) (bg : eg) (k0 : Q0) (s : St) : D (fq [(ew, eS aD), (kJ, lj bg)]) oH n Br (cH z_colour_Count k0) (fun _ _ => .err) (cH z_colour_Count k0) s = afz n aD bg k0 s := by kernel_rfl
theorem adr (n : Nat) (aD : cI) (bg : eg) (a0 : Int) (a1 : Int) (a2 : Int) (h : Heap) (k0 : Q0) : W a_colour_Count z_colour_Count [(ew, eS aD), (kJ, lj bg)] oH n Br [(.int .i64 a0), (.int .i64 a1), (.int .i64 a2)] h k0 = JY n aD bg a0 a1 a2 h (fun u0 u1 h => k0 (.tuple [(.int .i64 u0), (.int .i64 u1)]) h) := by
  let k : oz := fun u0 u1 h => k0 (.tuple [(.int .i64 u0), (.int .i64 u1)]) h
  have hk : rC k0 k := fun _ _ _ => rfl
  have hb : ∀ F : Tr AV → CRes, iz a_colour_Count [(.int .i64 a0), (.int .i64 a1), (.int .i64 a2)] .leaf F = F (cJ [(p0, (.int .i64 a0)), (p1, (.int .i64 a1)), (p2, (.int .i64 a2))]) := fun F => by kernel_rfl
  exact (ny hb).trans ((adp n aD bg k0 _).trans (adI n aD bg k0 k hk (D9 n aD bg k0 ) (xK n aD bg k ) (Z9 n aD bg k0 k hk ) a0 a1 a2 h))
end
def mW (n : Nat) : iR := JY n (gA n) (lM n)
theorem aeR {tbl : Tr AFn} (hp : cF tbl) (ht : tbl.get (key nh) = some SR) (n : Nat) (td : Sound tbl ew (eS (gA n))) (LM : Sound tbl kJ (lj (lM n))) : Sound tbl nh (oI (mW n)) := by
  refine Sound.of (dN hp (ps := a_colour_Count) (rs := z_colour_Count) (l := [(ew, eS (gA n)), (kJ, lj (lM n))]) (ty := oH) (n := n) (c := Br) ht ⟨td, LM, trivial⟩) fun args H k r H' h => ?_
  unfold oI at h
  obtain ⟨a0, l0, e0, h0⟩ := dQ h
  subst e0
  obtain ⟨a1, l1, e1, h1⟩ := dQ h0
  subst e1
  obtain ⟨a2, l2, e2, h2⟩ := dQ h1
  subst e2
  obtain ⟨e9, h9⟩ := cY h2
  subst e9
  exact (adr n (gA n) (lM n) a0 a1 a2 H k).trans h9
/-! cofferdam/buddy.New -/
abbrev lw := Int → Heap → (AV → Int → Heap → CRes) → CRes
abbrev my := AV → Int → Heap → CRes
def tG (g : lw) : Wr := fun l h k => pZ .i64 l fun a0 l => mP l (g a0 h fun u0 u1 h => k (.tuple [u0, (.int .i64 u1)]) h)
def nj : d7 := fq []
abbrev lV (k0 : Q0) (k : my) : Prop := ∀ u0 u1 h, k0 (.tuple [u0, (.int .i64 u1)]) h = k u0 u1 h
abbrev Ew : Type := AV → Heap → CRes
abbrev LT (J : Q1) (j : Ew) : Prop := ∀ v4 h, J ⟨cJ [(p4, v4)], h⟩ = j v4 h
abbrev Ev : Type := Int → AV → Int → Int → Heap → CRes
abbrev Mg (J : Q1) (j : Ev) : Prop := ∀ v0 v4 v5 v6 h, J ⟨cJ [(p0, (.int .i64 v0)), (p4, v4), (p5, (.int .i64 v5)), (p6, (.int .i64 v6))], h⟩ = j v0 v4 v5 v6 h
abbrev sx : Type := Int → AV → Int → Int → Heap → CRes
abbrev EA (J : Q1) (j : sx) : Prop := ∀ v0 v4 v5 v6 h, J ⟨cJ [(p0, (.int .i64 v0)), (p4, v4), (p5, (.int .i64 v5)), (p6, (.int .i64 v6))], h⟩ = j v0 v4 v5 v6 h
abbrev ld : Type := Int → AV → Int → Int → Heap → CRes
abbrev vy (J : Q1) (j : ld) : Prop := ∀ v0 v4 v5 v6 h, J ⟨cJ [(p0, (.int .i64 v0)), (p4, v4), (p5, (.int .i64 v5)), (p6, (.int .i64 v6))], h⟩ = j v0 v4 v5 v6 h
abbrev El : Type := Int → Bool → Heap → CRes
abbrev Mn (J : Q1) (j : El) : Prop := ∀ v0 v12 h, J ⟨cJ [(p0, (.int .i64 v0)), (p12, (.bool v12))], h⟩ = j v0 v12 h
section
variable (n : Nat) (k0 : Q0) (k : my)
def Wj (n : Nat) (k0 : Q0) : Q1 := (bH (nj ) ly V0 (cH z_buddy_New k0))
def LW (n : Nat) (k : my) (v4 : AV) (h : Heap) : CRes :=
 k v4 0 h
theorem agd (hk : lV k0 k) : LT (Wj n k0 ) (LW n k ) := by
  obtain rfl := fx3 hk
  intro v4 h
  kernel_rfl
def LK : Q1 := Wj n k0
def yZ : Ew := LW n k
theorem afT (hk : lV k0 k) : LT (LK n k0 ) (yZ n k ) := agd n k0 k hk
def Va (n : Nat) (k0 : Q0) (J1 : Q1) : Q1 := (bH (nj ) ly Vw (bH (nj ) ly Vg (fun s => cQ Mb s J1)))
def L6 (n : Nat) (k : my) (j1 : ld) (v0 : Int) (v4 : AV) (v5 : Int) (v6 : Int) (h : Heap) : CRes :=
 nfa 2 v4 fun x5 =>
 Pv 1 7 x5 v6 fun x6 =>
 iI h x6 1 false fun x7 =>
 qQ h 1 [(.int .i64 0)] [(0, 1, (.int .i64 v5))] fun x8 h9 =>
 re h9 1 x7 x8 fun x10 h11 =>
 nfa 2 v4 fun x12 =>
 Pv 1 7 x12 v6 fun x13 =>
 mT h11 x13 1 x10 fun h14 =>
 aci .i64 1 v6 fun x15 =>
 mG .i64 v5 x15 fun x16 =>
 j1 v0 v4 x16 v6 h14
theorem agR (hk : lV k0 k) (J1 : Q1) (j1 : ld) (h1 : vy J1 j1) : Mg (Va n k0 J1) (L6 n k j1) := by
  obtain rfl := fx3 hk
  obtain rfl := fx5 h1
  intro v0 v4 v5 v6 h
  kernel_rfl
def LN (J1 : Q1) : Q1 := Va n k0 J1
def yX (j1 : ld) : Ev := L6 n k j1
theorem agu (hk : lV k0 k) (J1 : Q1) (j1 : ld) (h1 : vy J1 j1) : Mg (LN n k0 J1) (yX n k j1) := agR n k0 k hk J1 j1 h1
def Wn (n : Nat) (k0 : Q0) (J2 : Q1) (J3 : Q1) : Q1 := (bH (nj ) ly VY (fun s => fg (.t p29) s (bH (nj ) ly VI (fun s => cQ LU s J3)) (fun s => cQ VU s J2)))
def Er (n : Nat) (k : my) (j2 : Ev) (j3 : sx) (v0 : Int) (v4 : AV) (v5 : Int) (v6 : Int) (h : Heap) : CRes :=
 aci .i64 1 v6 fun x17 =>
 mG .i64 v5 x17 fun x18 =>
 ifB (ltF v0 x18)
 (W3 .i64 v6 1 fun x19 =>
 j3 v0 v4 v5 x19 h)
 (j2 v0 v4 v5 v6 h)
theorem agb (hk : lV k0 k) (J2 : Q1) (j2 : Ev) (h2 : Mg J2 j2) (J3 : Q1) (j3 : sx) (h3 : EA J3 j3) : EA (Wn n k0 J2 J3) (Er n k j2 j3) := by
  obtain rfl := fx3 hk
  obtain rfl := fx5 h2
  obtain rfl := fx5 h3
  intro v0 v4 v5 v6 h
  kernel_rfl
def Ee (J1 : Q1) (m : Nat) : Q1 := Nat.rec (motive := fun _ => Q1) (fun _ => .err) (fun _ ih => Wn n k0 (LN n k0 J1) ih) m
def qk (j1 : ld) (m : Nat) : sx := Nat.rec (motive := fun _ => sx) (fun _ _ _ _ _ => .err) (fun _ ih => Er n k (yX n k j1) ih) m
theorem afJ (j1 : ld) (m : Nat) : qk n k j1 (m + 1) = Er n k (yX n k j1) (qk n k j1 m) := rfl
theorem afO (hk : lV k0 k) (J1 : Q1) (j1 : ld) (h1 : vy J1 j1) (m : Nat) : EA (Ee n k0 J1 m) (qk n k j1 m) := by
  induction m with
  | zero => intro v0 v4 v5 v6 h; rfl
  | succ m ih => exact agb n k0 k hk (LN n k0 J1) (yX n k j1) (agu n k0 k hk J1 j1 h1) (Ee n k0 J1 m) (qk n k j1 m) ih
def V3 (n : Nat) (k0 : Q0) (J0 : Q1) (J3 : Q1) : Q1 := (bH (nj ) ly Vv (fun s => fg (.t p19) s (fun s => cQ LU s J3) (fun s => cQ VM s J0)))
def Eh (n : Nat) (k : my) (j0 : Ew) (j3 : sx) (v0 : Int) (v4 : AV) (v5 : Int) (v6 : Int) (h : Heap) : CRes :=
 ifB (ltF v5 v0)
 (j3 v0 v4 v5 v6 h)
 (j0 v4 h)
theorem agQ (hk : lV k0 k) (J0 : Q1) (j0 : Ew) (h0 : LT J0 j0) (J3 : Q1) (j3 : sx) (h3 : EA J3 j3) : vy (V3 n k0 J0 J3) (Eh n k j0 j3) := by
  obtain rfl := fx3 hk
  obtain rfl := fx2 h0
  obtain rfl := fx5 h3
  intro v0 v4 v5 v6 h
  kernel_rfl
def yS (m : Nat) : Q1 := Nat.rec (motive := fun _ => Q1) (fun _ => .err) (fun _ ih => V3 n k0 (LK n k0 ) (Ee n k0 ih n)) m
def om (m : Nat) : ld := Nat.rec (motive := fun _ => ld) (fun _ _ _ _ _ => .err) (fun _ ih => Eh n k (yZ n k ) (qk n k ih n)) m
theorem age (m : Nat) : om n k (m + 1) = Eh n k (yZ n k ) (qk n k (om n k m) n) := rfl
theorem agO (hk : lV k0 k) (m : Nat) : vy (yS n k0 m) (om n k m) := by
  induction m with
  | zero => intro v0 v4 v5 v6 h; rfl
  | succ m ih => exact agQ n k0 k hk (LK n k0 ) (yZ n k ) (afT n k0 k hk ) (Ee n k0 (yS n k0 m) n) (qk n k (om n k m) n) (afO n k0 k hk (yS n k0 m) (om n k m) ih n)
def Vp (n : Nat) (k0 : Q0) (J1 : Q1) : Q1 := (fun s => fg (.t p12) s (bH (nj ) ly Wh (cH z_buddy_New k0)) (bH (nj ) ly Vx (bH (nj ) ly Vs (fun s => cQ Mb s J1))))
def Ma (n : Nat) (k : my) (j1 : ld) (v0 : Int) (v12 : Bool) (h : Heap) : CRes :=
 ifB v12
 (k .nilptr 2 h)
 (A2 h (.mp []) fun x0 h1 =>
 z8 [(.bool false), (.int .i64 0), .nilslice, .nilslice, .nilslice, .nilslice, .nilslice, .nilslice, .nilslice, .nilmap] [(0, 1, (.bool true)), (1, 1, (.int .i64 v0)), (9, 1, (.map x0))] fun x2 =>
 Al h1 x2 fun x3 h4 =>
 j1 v0 (.ptr x3 0) 0 6 h4)
theorem af9 (hk : lV k0 k) (J1 : Q1) (j1 : ld) (h1 : vy J1 j1) : Mn (Vp n k0 J1) (Ma n k j1) := by
  obtain rfl := fx3 hk
  obtain rfl := fx5 h1
  intro v0 v12 h
  kernel_rfl
def L3 : Q1 := Vp n k0 (yS n k0 n)
def Eg : El := Ma n k (om n k n)
theorem afZ (hk : lV k0 k) : Mn (L3 n k0 ) (Eg n k ) := af9 n k0 k hk (yS n k0 n) (om n k n) (agO n k0 k hk n)
def abq (n : Nat) (k0 : Q0) (J4 : Q1) : Q1 := (bH (nj ) ly T7 (bH (nj ) ly U9 (fun s => cQ Wl s J4)))
def SE (n : Nat) (k : my) (j4 : El) (a0 : Int) (h : Heap) : CRes :=
 ifB (ltF a0 0)
 (j4 a0 true h)
 (j4 a0 (ltF 4096 a0) h)
theorem aj9 (n : Nat) (k0 : Q0) (k : my) (hk : lV k0 k) (J4 : Q1) (j4 : El) (h4 : Mn J4 j4) (a0 : Int) (h : Heap) : (abq n k0 J4) ⟨cJ [(p0, (.int .i64 a0))], h⟩ = (SE n k j4) a0 h := by
  obtain rfl := fx3 hk
  obtain rfl := fx3 h4
  kernel_rfl
def akU : Q1 := abq n k0 (L3 n k0 )
def S7 (n : Nat) (a0 : Int) (h : Heap) (k : my) : CRes := SE n k (Eg n k ) a0 h
theorem akj (n : Nat) (k0 : Q0) (s : St) : D (fq []) ly n KD (cH z_buddy_New k0) (fun _ _ => .err) (cH z_buddy_New k0) s = akU n k0 s := by kernel_rfl
theorem ajF (n : Nat) (a0 : Int) (h : Heap) (k0 : Q0) : W a_buddy_New z_buddy_New [] ly n KD [(.int .i64 a0)] h k0 = S7 n a0 h (fun u0 u1 h => k0 (.tuple [u0, (.int .i64 u1)]) h) := by
  let k : my := fun u0 u1 h => k0 (.tuple [u0, (.int .i64 u1)]) h
  have hk : lV k0 k := fun _ _ _ => rfl
  have hb : ∀ F : Tr AV → CRes, iz a_buddy_New [(.int .i64 a0)] .leaf F = F (cJ [(p0, (.int .i64 a0))]) := fun F => by kernel_rfl
  exact (ny hb).trans ((akj n k0 _).trans (aj9 n k0 k hk (L3 n k0 ) (Eg n k ) (afZ n k0 k hk ) a0 h))
end
def rW (n : Nat) : lw := S7 n
theorem akc {tbl : Tr AFn} (hp : cF tbl) (ht : tbl.get (key sa) = some aby) (n : Nat) : Sound tbl sa (tG (rW n)) := by
  refine Sound.of (dN hp (ps := a_buddy_New) (rs := z_buddy_New) (l := []) (ty := ly) (n := n) (c := KD) ht trivial) fun args H k r H' h => ?_
  unfold tG at h
  obtain ⟨a0, l0, e0, h0⟩ := dQ h
  subst e0
  obtain ⟨e9, h9⟩ := cY h0
  subst e9
  exact (ajF n a0 H k).trans h9
/-! cofferdam/pool.New -/
abbrev eR := AV → Int → Heap → (AV → Int → Heap → CRes) → CRes
abbrev xi := AV → Int → Heap → CRes
def wX (g : eR) : Wr := fun l h k => mm l fun a0 l => pZ .i64 l fun a1 l => mP l (g a0 a1 h fun u0 u1 h => k (.tuple [u0, (.int .i64 u1)]) h)
def iP (bT : kO) (aE : c8) (bA : iR) (cm : lw) : d7 := fq [(pO, sg bT), (gc, gV aE), (nh, oI bA), (sa, tG cm)]
abbrev Ag (k0 : Q0) (k : xi) : Prop := ∀ u0 u1 h, k0 (.tuple [u0, (.int .i64 u1)]) h = k u0 u1 h
abbrev Ia : Type := AV → Heap → CRes
abbrev ON (J : Q1) (j : Ia) : Prop := ∀ v9 h, J ⟨cJ [(p9, v9)], h⟩ = j v9 h
abbrev um : Type := AV → AV → AV → Int → Int → Heap → CRes
abbrev HY (J : Q1) (j : um) : Prop := ∀ v2 v9 v57 v58 v59 h, J ⟨cJ [(p2, v2), (p9, v9), (p57, v57), (p58, (.int .i64 v58)), (p59, (.int .i64 v59))], h⟩ = j v2 v9 v57 v58 v59 h
section
variable (n : Nat) (bT : kO) (aE : c8) (bA : iR) (cm : lw) (k0 : Q0) (k : xi)
def YN (n : Nat) (bT : kO) (aE : c8) (bA : iR) (cm : lw) (k0 : Q0) : Q1 := (bH (iP bT aE bA cm) iK XD (cH z_pool_New k0))
def Pa (n : Nat) (bT : kO) (aE : c8) (bA : iR) (cm : lw) (k : xi) (v9 : AV) (h : Heap) : CRes :=
 k v9 0 h
theorem ai3 (hk : Ag k0 k) : ON (YN n bT aE bA cm k0 ) (Pa n bT aE bA cm k ) := by
  obtain rfl := fx3 hk
  intro v9 h
  kernel_rfl
def Pn : Q1 := YN n bT aE bA cm k0
def BL : Ia := Pa n bT aE bA cm k
theorem ajg (hk : Ag k0 k) : ON (Pn n bT aE bA cm k0 ) (BL n bT aE bA cm k ) := ai3 n bT aE bA cm k0 k hk
def XG (n : Nat) (bT : kO) (aE : c8) (bA : iR) (cm : lw) (k0 : Q0) (J0 : Q1) (J1 : Q1) : Q1 := (bH (iP bT aE bA cm) iK We (fun s => fg (.t p60) s (bH (iP bT aE bA cm) iK YO (bH (iP bT aE bA cm) iK Yw (bH (iP bT aE bA cm) iK Yu (fun s => fg (.t p73) s (bH (iP bT aE bA cm) iK Y5 (cH z_pool_New k0)) (bH (iP bT aE bA cm) iK XP (bH (iP bT aE bA cm) iK YA (fun s => fg (.t p81) s (bH (iP bT aE bA cm) iK YZ (cH z_pool_New k0)) (bH (iP bT aE bA cm) iK XS (bH (iP bT aE bA cm) iK YT (fun s => cQ OV s J1)))))))))) (fun s => cQ YE s J0)))
def HR (n : Nat) (bT : kO) (aE : c8) (bA : iR) (cm : lw) (k : xi) (j0 : Ia) (j1 : um) (v2 : AV) (v9 : AV) (v57 : AV) (v58 : Int) (v59 : Int) (h : Heap) : CRes :=
 ifB (ltF v59 v58)
 (LS .i64 1 h v57 v59 fun x42 x43 =>
 mg .i64 0 h v2 fun x44 x45 =>
 mg .i64 1 h v2 fun x46 x47 =>
 bA x45 x47 x43 h fun x48 x49 h50 =>
 ifB (jR (eqF x49 0))
 (k .nilptr x49 h50)
 (cm x48 h50 fun x51 x52 h53 =>
 ifB (jR (eqF x52 0))
 (k .nilptr x52 h53)
 (acN 11 h53 v9 1 false fun x54 x55 =>
 qQ h53 1 [.nilptr] [(0, 1, x51)] fun x56 h57 =>
 re h57 1 x55 x56 fun x58 h59 =>
 nfst 11 h59 v9 1 x58 fun x60 h61 =>
 mG .i64 v59 1 fun x62 =>
 j1 v2 v9 v57 v58 x62 h61)))
 (j0 v9 h)
theorem aiw (hk : Ag k0 k) (J0 : Q1) (j0 : Ia) (h0 : ON J0 j0) (J1 : Q1) (j1 : um) (h1 : HY J1 j1) : HY (XG n bT aE bA cm k0 J0 J1) (HR n bT aE bA cm k j0 j1) := by
  obtain rfl := fx3 hk
  obtain rfl := fx2 h0
  obtain rfl := fx6 h1
  intro v2 v9 v57 v58 v59 h
  kernel_rfl
def H0 (m : Nat) : Q1 := Nat.rec (motive := fun _ => Q1) (fun _ => .err) (fun _ ih => XG n bT aE bA cm k0 (Pn n bT aE bA cm k0 ) ih) m
def uf (m : Nat) : um := Nat.rec (motive := fun _ => um) (fun _ _ _ _ _ _ => .err) (fun _ ih => HR n bT aE bA cm k (BL n bT aE bA cm k ) ih) m
theorem ahG (m : Nat) : uf n bT aE bA cm k (m + 1) = HR n bT aE bA cm k (BL n bT aE bA cm k ) (uf n bT aE bA cm k m) := rfl
theorem aie (hk : Ag k0 k) (m : Nat) : HY (H0 n bT aE bA cm k0 m) (uf n bT aE bA cm k m) := by
  induction m with
  | zero => intro v2 v9 v57 v58 v59 h; rfl
  | succ m ih => exact aiw n bT aE bA cm k0 k hk (Pn n bT aE bA cm k0 ) (BL n bT aE bA cm k ) (ajg n bT aE bA cm k0 k hk ) (H0 n bT aE bA cm k0 m) (uf n bT aE bA cm k m) ih
def ad8 (n : Nat) (bT : kO) (aE : c8) (bA : iR) (cm : lw) (k0 : Q0) (J1 : Q1) : Q1 := (bH (iP bT aE bA cm) iK Vh (bH (iP bT aE bA cm) iK Vf (bH (iP bT aE bA cm) iK VW (fun s => fg (.t p22) s (bH (iP bT aE bA cm) iK V7 (cH z_pool_New k0)) (bH (iP bT aE bA cm) iK VN (bH (iP bT aE bA cm) iK VH (bH (iP bT aE bA cm) iK VS (bH (iP bT aE bA cm) iK Wg (fun s => cQ OV s J1)))))))))
def W5 (n : Nat) (bT : kO) (aE : c8) (bA : iR) (cm : lw) (k : xi) (j1 : um) (a0 : AV) (a1 : Int) (h : Heap) : CRes :=
 Al h a0 fun x0 h1 =>
 iI h1 (.ptr x0 0) 17 true fun x2 =>
 bT x2 a1 h1 fun x3 x4 h5 =>
 ifB (jR (eqF x4 0))
 (k .nilptr x4 h5)
 (fld 16 h5 (.ptr x0 0) 1 false fun x6 x7 =>
 eld 8 h5 x7 a1 8 true fun x8 x9 =>
 A2 h5 (.cells [.nilslice, (.int .i64 0), (.int .i64 0), (.int .i64 0), (.int .i64 0), (.int .i64 0), (.int .i64 0), (.int .i64 0)] true 0) fun x10 h11 =>
 mT h11 (.ptr x10 0) 8 x9 fun h12 =>
 mg .i64 1 h12 (.ptr x0 0) fun x13 x14 =>
 fld 0 h12 (.ptr x10 0) 1 false fun x15 x16 =>
 aE x16 (h12.shut true) fun x17 h18 =>
 mg .i64 1 (h18.back h12.ro) (.ptr x10 0) fun x19 x20 =>
 A2 (h18.back h12.ro) (.mp []) fun x21 h22 =>
 z8 [(.int .i64 0), .nilslice, (.int .i64 0), (.int .i64 0), (.int .i64 0), (.int .i64 0), (.int .i64 0), (.int .i64 0), (.int .i64 0), (.int .i64 0), (.int .i64 0), .nilslice, .nilmap, (.int .i64 0), (.int .i64 0), (.int .i64 0), (.int .i64 0), (.int .i64 0), (.int .i64 0), (.int .i64 0)] [(0, 1, (.int .i64 x14)), (1, 1, x17), (2, 1, (.int .i64 x20)), (10, 1, (.int .i64 x3)), (12, 1, (.map x21))] fun x23 =>
 Al h22 x23 fun x24 h25 =>
 mg .i64 2 h25 (.ptr x10 0) fun x26 x27 =>
 mg .i64 3 h25 (.ptr x10 0) fun x28 x29 =>
 mg .i64 4 h25 (.ptr x10 0) fun x30 x31 =>
 mg .i64 5 h25 (.ptr x10 0) fun x32 x33 =>
 mg .i64 6 h25 (.ptr x10 0) fun x34 x35 =>
 z8 [(.int .i64 0), (.int .i64 0), (.int .i64 0), (.int .i64 0), (.int .i64 0), (.int .i64 0), (.int .i64 0)] [(2, 1, (.int .i64 x27)), (3, 1, (.int .i64 x29)), (4, 1, (.int .i64 x31)), (5, 1, (.int .i64 x33)), (6, 1, (.int .i64 x35))] fun x36 =>
 nfst 3 h25 (.ptr x24 0) 7 x36 fun x37 h38 =>
 acN 1 h38 (.ptr x24 0) 1 false fun x39 x40 =>
 ju x40 fun x41 =>
 j1 (.ptr x0 0) (.ptr x24 0) x40 x41 0 h38)
theorem alK (n : Nat) (bT : kO) (aE : c8) (bA : iR) (cm : lw) (k0 : Q0) (k : xi) (hk : Ag k0 k) (J1 : Q1) (j1 : um) (h1 : HY J1 j1) (a0 : AV) (a1 : Int) (h : Heap) : (ad8 n bT aE bA cm k0 J1) ⟨cJ [(p0, a0), (p1, (.int .i64 a1))], h⟩ = (W5 n bT aE bA cm k j1) a0 a1 h := by
  obtain rfl := fx3 hk
  obtain rfl := fx6 h1
  kernel_rfl
def alM : Q1 := ad8 n bT aE bA cm k0 (H0 n bT aE bA cm k0 n)
def WR (n : Nat) (bT : kO) (aE : c8) (bA : iR) (cm : lw) (a0 : AV) (a1 : Int) (h : Heap) (k : xi) : CRes := W5 n bT aE bA cm k (uf n bT aE bA cm k n) a0 a1 h
theorem ala (n : Nat) (bT : kO) (aE : c8) (bA : iR) (cm : lw) (k0 : Q0) (s : St) : D (fq [(pO, sg bT), (gc, gV aE), (nh, oI bA), (sa, tG cm)]) iK n Pq (cH z_pool_New k0) (fun _ _ => .err) (cH z_pool_New k0) s = alM n bT aE bA cm k0 s := by kernel_rfl
theorem alP (n : Nat) (bT : kO) (aE : c8) (bA : iR) (cm : lw) (a0 : AV) (a1 : Int) (h : Heap) (k0 : Q0) : W a_pool_New z_pool_New [(pO, sg bT), (gc, gV aE), (nh, oI bA), (sa, tG cm)] iK n Pq [a0, (.int .i64 a1)] h k0 = WR n bT aE bA cm a0 a1 h (fun u0 u1 h => k0 (.tuple [u0, (.int .i64 u1)]) h) := by
  let k : xi := fun u0 u1 h => k0 (.tuple [u0, (.int .i64 u1)]) h
  have hk : Ag k0 k := fun _ _ _ => rfl
  have hb : ∀ F : Tr AV → CRes, iz a_pool_New [a0, (.int .i64 a1)] .leaf F = F (cJ [(p0, a0), (p1, (.int .i64 a1))]) := fun F => by kernel_rfl
  exact (ny hb).trans ((ala n bT aE bA cm k0 _).trans (alK n bT aE bA cm k0 k hk (H0 n bT aE bA cm k0 n) (uf n bT aE bA cm k n) (aie n bT aE bA cm k0 k hk n) a0 a1 h))
end
def ob (n : Nat) : eR := WR n (rV n) (gU n) (mW n) (rW n)
theorem alH {tbl : Tr AFn} (hp : cF tbl) (ht : tbl.get (key ud) = some afk) (n : Nat) (agf : Sound tbl pO (sg (rV n))) (Jq : Sound tbl gc (gV (gU n))) (acU : Sound tbl nh (oI (mW n))) (ah8 : Sound tbl sa (tG (rW n))) : Sound tbl ud (wX (ob n)) := by
  refine Sound.of (dN hp (ps := a_pool_New) (rs := z_pool_New) (l := [(pO, sg (rV n)), (gc, gV (gU n)), (nh, oI (mW n)), (sa, tG (rW n))]) (ty := iK) (n := n) (c := Pq) ht ⟨agf, Jq, acU, ah8, trivial⟩) fun args H k r H' h => ?_
  unfold wX at h
  obtain ⟨a0, l0, e0, h0⟩ := cT h
  subst e0
  obtain ⟨a1, l1, e1, h1⟩ := dQ h0
  subst e1
  obtain ⟨e9, h9⟩ := cY h1
  subst e9
  exact (alP n (rV n) (gU n) (mW n) (rW n) a0 a1 H k).trans h9
abbrev cL := AV → Heap → (Bool → Heap → CRes) → CRes
abbrev mi := Bool → Heap → CRes
def gl (g : cL) : Wr := fun l h k => mm l fun a0 l => mP l (g a0 h fun u0 h => k (.bool u0) h)
def yI : d7 := fq []
abbrev sX (k0 : Q0) (k : mi) : Prop := ∀ u0 h, k0 (.bool u0) h = k u0 h
abbrev sh : Type := Bool → Heap → CRes
abbrev xa (J : Q1) (j : sh) : Prop := ∀ v11 h, J ⟨cJ [(p11, (.bool v11))], h⟩ = j v11 h
section
variable (n : Nat) (k0 : Q0) (k : mi)
def Fa (n : Nat) (k0 : Q0) : Q1 := (bH (yI ) nV Fc (cH z_pool_Pool__there k0))
def w7 (n : Nat) (k : mi) (v11 : Bool) (h : Heap) : CRes :=
 k v11 h
theorem Sf (hk : sX k0 k) : xa (Fa n k0 ) (w7 n k ) := by
  obtain rfl := fx2 hk
  intro v11 h
  kernel_rfl
def wP : Q1 := Fa n k0
def r8 : sh := w7 n k
theorem Tv (hk : sX k0 k) : xa (wP n k0 ) (r8 n k ) := Sf n k0 k hk
def Ka (n : Nat) (k0 : Q0) (J0 : Q1) : Q1 := (bH (yI ) nV EU (bH (yI ) nV E7 (fun s => cQ E4 s J0)))
def z6 (n : Nat) (k : mi) (j0 : sh) (a0 : AV) (h : Heap) : CRes :=
 UG (.nil .ptr) a0 .nilptr fun x0 =>
 ifB (SB true x0)
 (acN 12 h a0 1 false fun x1 x2 =>
 UG (.nil .mp) x2 .nilmap fun x3 =>
 j0 (SB true x3) h)
 (j0 false h)
theorem Xb (n : Nat) (k0 : Q0) (k : mi) (hk : sX k0 k) (J0 : Q1) (j0 : sh) (h0 : xa J0 j0) (a0 : AV) (h : Heap) : (Ka n k0 J0) ⟨cJ [(p0, a0)], h⟩ = (z6 n k j0) a0 h := by
  obtain rfl := fx2 hk
  obtain rfl := fx2 h0
  kernel_rfl
def WP : Q1 := Ka n k0 (wP n k0 )
def zP (n : Nat) (a0 : AV) (h : Heap) (k : mi) : CRes := z6 n k (r8 n k ) a0 h
theorem WG (n : Nat) (k0 : Q0) (s : St) : D (fq []) nV n un (cH z_pool_Pool__there k0) (fun _ _ => .err) (cH z_pool_Pool__there k0) s = WP n k0 s := by kernel_rfl
theorem WM (n : Nat) (a0 : AV) (h : Heap) (k0 : Q0) : W a_pool_Pool__there z_pool_Pool__there [] nV n un [a0] h k0 = zP n a0 h (fun u0 h => k0 (.bool u0) h) := by
  let k : mi := fun u0 h => k0 (.bool u0) h
  have hk : sX k0 k := fun _ _ => rfl
  have hb : ∀ F : Tr AV → CRes, iz a_pool_Pool__there [a0] .leaf F = F (cJ [(p0, a0)]) := fun F => by kernel_rfl
  exact (ny hb).trans ((WG n k0 _).trans (Xb n k0 k hk (wP n k0 ) (r8 n k ) (Tv n k0 k hk ) a0 h))
end
def gQ (n : Nat) : cL := zP n
theorem WY {tbl : Tr AFn} (hp : cF tbl) (ht : tbl.get (key eX) = some Jt) (n : Nat) : Sound tbl eX (gl (gQ n)) := by
  refine Sound.of (dN hp (ps := a_pool_Pool__there) (rs := z_pool_Pool__there) (l := []) (ty := nV) (n := n) (c := un) ht trivial) fun args H k r H' h => ?_
  unfold gl at h
  obtain ⟨a0, l0, e0, h0⟩ := cT h
  subst e0
  obtain ⟨e9, h9⟩ := cY h0
  subst e9
  exact (WM n a0 H k).trans h9
abbrev cq := AV → Heap → (Bool → Heap → CRes) → CRes
abbrev lu := Bool → Heap → CRes
def fy (g : cq) : Wr := fun l h k => mm l fun a0 l => mP l (g a0 h fun u0 h => k (.bool u0) h)
def wM : d7 := fq []
abbrev si (k0 : Q0) (k : lu) : Prop := ∀ u0 h, k0 (.bool u0) h = k u0 h
abbrev rf : Type := Bool → Heap → CRes
abbrev vY (J : Q1) (j : rf) : Prop := ∀ v11 h, J ⟨cJ [(p11, (.bool v11))], h⟩ = j v11 h
section
variable (n : Nat) (k0 : Q0) (k : lu)
def Ca (n : Nat) (k0 : Q0) : Q1 := (bH (wM ) nv Cy (cH z_buddy_Buddy__none k0))
def vM (n : Nat) (k : lu) (v11 : Bool) (h : Heap) : CRes :=
 k v11 h
theorem Ro (hk : si k0 k) : vY (Ca n k0 ) (vM n k ) := by
  obtain rfl := fx2 hk
  intro v11 h
  kernel_rfl
def vV : Q1 := Ca n k0
def rk : rf := vM n k
theorem Rr (hk : si k0 k) : vY (vV n k0 ) (rk n k ) := Ro n k0 k hk
def Hl (n : Nat) (k0 : Q0) (J0 : Q1) : Q1 := (bH (wM ) nv B5 (bH (wM ) nv Cg (fun s => cQ B3 s J0)))
def yA (n : Nat) (k : lu) (j0 : rf) (a0 : AV) (h : Heap) : CRes :=
 UG (.nil .ptr) a0 .nilptr fun x0 =>
 ifB (SB false x0)
 (j0 true h)
 (nfldB 0 h a0 fun x1 x2 =>
 j0 (jR x2) h)
theorem UD (n : Nat) (k0 : Q0) (k : lu) (hk : si k0 k) (J0 : Q1) (j0 : rf) (h0 : vY J0 j0) (a0 : AV) (h : Heap) : (Hl n k0 J0) ⟨cJ [(p0, a0)], h⟩ = (yA n k j0) a0 h := by
  obtain rfl := fx2 hk
  obtain rfl := fx2 h0
  kernel_rfl
def Us : Q1 := Hl n k0 (vV n k0 )
def yK (n : Nat) (a0 : AV) (h : Heap) (k : lu) : CRes := yA n k (rk n k ) a0 h
theorem U4 (n : Nat) (k0 : Q0) (s : St) : D (fq []) nv n sR (cH z_buddy_Buddy__none k0) (fun _ _ => .err) (cH z_buddy_Buddy__none k0) s = Us n k0 s := by kernel_rfl
theorem U5 (n : Nat) (a0 : AV) (h : Heap) (k0 : Q0) : W a_buddy_Buddy__none z_buddy_Buddy__none [] nv n sR [a0] h k0 = yK n a0 h (fun u0 h => k0 (.bool u0) h) := by
  let k : lu := fun u0 h => k0 (.bool u0) h
  have hk : si k0 k := fun _ _ => rfl
  have hb : ∀ F : Tr AV → CRes, iz a_buddy_Buddy__none [a0] .leaf F = F (cJ [(p0, a0)]) := fun F => by kernel_rfl
  exact (ny hb).trans ((U4 n k0 _).trans (UD n k0 k hk (vV n k0 ) (rk n k ) (Rr n k0 k hk ) a0 h))
end
def gw (n : Nat) : cq := yK n
theorem UU {tbl : Tr AFn} (hp : cF tbl) (ht : tbl.get (key eG) = some Hm) (n : Nat) : Sound tbl eG (fy (gw n)) := by
  refine Sound.of (dN hp (ps := a_buddy_Buddy__none) (rs := z_buddy_Buddy__none) (l := []) (ty := nv) (n := n) (c := sR) ht trivial) fun args H k r H' h => ?_
  unfold fy at h
  obtain ⟨a0, l0, e0, h0⟩ := cT h
  subst e0
  obtain ⟨e9, h9⟩ := cY h0
  subst e9
  exact (U5 n a0 H k).trans h9
abbrev cy := AV → Int → Int → Heap → (AV → Heap → CRes) → CRes
abbrev jy := AV → Heap → CRes
def gF (g : cy) : Wr := fun l h k => mm l fun a0 l => pZ .i64 l fun a1 l => pZ .i64 l fun a2 l => mP l (g a0 a1 a2 h fun u0 h => k u0 h)
def gh : d7 := fq []
abbrev wm (k0 : Q0) (k : jy) : Prop := ∀ u0 h, k0 u0 h = k u0 h
section
variable (n : Nat) (k0 : Q0) (k : jy)
def xf (n : Nat) (k0 : Q0) : Q1 := (bH (gh ) dW vf (bH (gh ) dW uy (bH (gh ) dW uC (fun s => fg (.t p16) s (bH (gh ) dW uS (cH z_slices_Delete___int_int_ k0)) (bH (gh ) dW uL (bH (gh ) dW uB (bH (gh ) dW vq (bH (gh ) dW vi (cH z_slices_Delete___int_int_ k0)))))))))
def q7 (n : Nat) (k : jy) (a0 : AV) (a1 : Int) (a2 : Int) (h : Heap) : CRes :=
 ju a0 fun x0 =>
 slK (.sl 1) a0 (some (.int .i64 a1)) (some (.int .i64 a2)) (some (.int .i64 x0)) fun x1 =>
 ifB (eqF a1 a2)
 (k a0 h)
 (ju a0 fun x2 =>
 slK (.sl 1) a0 none (some (.int .i64 a1)) none fun x3 =>
 slK (.sl 1) a0 (some (.int .i64 a2)) none none fun x4 =>
 re h 1 x3 x4 fun x5 h6 =>
 ju x5 fun x7 =>
 slK (.sl 1) x5 (some (.int .i64 x7)) (some (.int .i64 x2)) none fun x8 =>
 ahC h6 [(.int .i64 0)] x8 fun h9 =>
 k x5 h9)
theorem Jg (n : Nat) (k0 : Q0) (k : jy) (hk : wm k0 k) (a0 : AV) (a1 : Int) (a2 : Int) (h : Heap) : (xf n k0 ) ⟨cJ [(p0, a0), (p1, (.int .i64 a1)), (p2, (.int .i64 a2))], h⟩ = (q7 n k ) a0 a1 a2 h := by
  obtain rfl := fx2 hk
  kernel_rfl
def IQ : Q1 := xf n k0
def qR (n : Nat) (a0 : AV) (a1 : Int) (a2 : Int) (h : Heap) (k : jy) : CRes := q7 n k a0 a1 a2 h
theorem JN (n : Nat) (k0 : Q0) (s : St) : D (fq []) dW n mQ (cH z_slices_Delete___int_int_ k0) (fun _ _ => .err) (cH z_slices_Delete___int_int_ k0) s = IQ n k0 s := by kernel_rfl
theorem Jm (n : Nat) (a0 : AV) (a1 : Int) (a2 : Int) (h : Heap) (k0 : Q0) : W a_slices_Delete___int_int_ z_slices_Delete___int_int_ [] dW n mQ [a0, (.int .i64 a1), (.int .i64 a2)] h k0 = qR n a0 a1 a2 h (fun u0 h => k0 u0 h) := by
  let k : jy := fun u0 h => k0 u0 h
  have hk : wm k0 k := fun _ _ => rfl
  have hb : ∀ F : Tr AV → CRes, iz a_slices_Delete___int_int_ [a0, (.int .i64 a1), (.int .i64 a2)] .leaf F = F (cJ [(p0, a0), (p1, (.int .i64 a1)), (p2, (.int .i64 a2))]) := fun F => by kernel_rfl
  exact (ny hb).trans ((JN n k0 _).trans (Jg n k0 k hk a0 a1 a2 h))
end
def ep (n : Nat) : cy := qR n
theorem IM {tbl : Tr AFn} (hp : cF tbl) (ht : tbl.get (key fk) = some wZ) (n : Nat) : Sound tbl fk (gF (ep n)) := by
  refine Sound.of (dN hp (ps := a_slices_Delete___int_int_) (rs := z_slices_Delete___int_int_) (l := []) (ty := dW) (n := n) (c := mQ) ht trivial) fun args H k r H' h => ?_
  unfold gF at h
  obtain ⟨a0, l0, e0, h0⟩ := cT h
  subst e0
  obtain ⟨a1, l1, e1, h1⟩ := dQ h0
  subst e1
  obtain ⟨a2, l2, e2, h2⟩ := dQ h1
  subst e2
  obtain ⟨e9, h9⟩ := cY h2
  subst e9
  exact (Jm n a0 a1 a2 H k).trans h9
abbrev gI := Int → Heap → (Bool → Heap → CRes) → CRes
abbrev qu := Bool → Heap → CRes
def mn (g : gI) : Wr := fun l h k => pZ .i64 l fun a0 l => mP l (g a0 h fun u0 h => k (.bool u0) h)
def Lm : d7 := fq []
abbrev Lc (k0 : Q0) (k : qu) : Prop := ∀ u0 h, k0 (.bool u0) h = k u0 h
section
variable (n : Nat) (k0 : Q0) (k : qu)
def No (n : Nat) (k0 : Q0) : Q1 := (bH (Lm ) tu Jj (bH (Lm ) tu IE (cH z_cmp_isNaN_int_ k0)))
def D6 (n : Nat) (k : qu) (a0 : Int) (h : Heap) : CRes :=
 k (jR (eqF a0 a0)) h
theorem aab (n : Nat) (k0 : Q0) (k : qu) (hk : Lc k0 k) (a0 : Int) (h : Heap) : (No n k0 ) ⟨cJ [(p0, (.int .i64 a0))], h⟩ = (D6 n k ) a0 h := by
  obtain rfl := fx2 hk
  kernel_rfl
def aae : Q1 := No n k0
def Dr (n : Nat) (a0 : Int) (h : Heap) (k : qu) : CRes := D6 n k a0 h
theorem Za (n : Nat) (k0 : Q0) (s : St) : D (fq []) tu n xG (cH z_cmp_isNaN_int_ k0) (fun _ _ => .err) (cH z_cmp_isNaN_int_ k0) s = aae n k0 s := by kernel_rfl
theorem ZT (n : Nat) (a0 : Int) (h : Heap) (k0 : Q0) : W a_cmp_isNaN_int_ z_cmp_isNaN_int_ [] tu n xG [(.int .i64 a0)] h k0 = Dr n a0 h (fun u0 h => k0 (.bool u0) h) := by
  let k : qu := fun u0 h => k0 (.bool u0) h
  have hk : Lc k0 k := fun _ _ => rfl
  have hb : ∀ F : Tr AV → CRes, iz a_cmp_isNaN_int_ [(.int .i64 a0)] .leaf F = F (cJ [(p0, (.int .i64 a0))]) := fun F => by kernel_rfl
  exact (ny hb).trans ((Za n k0 _).trans (aab n k0 k hk a0 h))
end
def oa (n : Nat) : gI := Dr n
theorem ZA {tbl : Tr AFn} (hp : cF tbl) (ht : tbl.get (key li) = some NN) (n : Nat) : Sound tbl li (mn (oa n)) := by
  refine Sound.of (dN hp (ps := a_cmp_isNaN_int_) (rs := z_cmp_isNaN_int_) (l := []) (ty := tu) (n := n) (c := xG) ht trivial) fun args H k r H' h => ?_
  unfold mn at h
  obtain ⟨a0, l0, e0, h0⟩ := dQ h
  subst e0
  obtain ⟨e9, h9⟩ := cY h0
  subst e9
  exact (ZT n a0 H k).trans h9
abbrev gu := Int → Int → Heap → (Bool → Heap → CRes) → CRes
abbrev nD := Bool → Heap → CRes
def nA (g : gu) : Wr := fun l h k => pZ .i64 l fun a0 l => pZ .i64 l fun a1 l => mP l (g a0 a1 h fun u0 h => k (.bool u0) h)
def xF (bS : gI) : d7 := fq [(li, mn bS)]
abbrev qn (k0 : Q0) (k : nD) : Prop := ∀ u0 h, k0 (.bool u0) h = k u0 h
abbrev wg : Type := Bool → Heap → CRes
abbrev AD (J : Q1) (j : wg) : Prop := ∀ v16 h, J ⟨cJ [(p16, (.bool v16))], h⟩ = j v16 h
abbrev wq : Type := Int → Int → Bool → Heap → CRes
abbrev Bg (J : Q1) (j : wq) : Prop := ∀ v0 v1 v11 h, J ⟨cJ [(p0, (.int .i64 v0)), (p1, (.int .i64 v1)), (p11, (.bool v11))], h⟩ = j v0 v1 v11 h
section
variable (n : Nat) (bS : gI) (k0 : Q0) (k : nD)
def Lf (n : Nat) (bS : gI) (k0 : Q0) : Q1 := (bH (xF bS) pe Ls (cH z_cmp_Less_int_ k0))
def Bz (n : Nat) (bS : gI) (k : nD) (v16 : Bool) (h : Heap) : CRes :=
 k v16 h
theorem Yc (hk : qn k0 k) : AD (Lf n bS k0 ) (Bz n bS k ) := by
  obtain rfl := fx2 hk
  intro v16 h
  kernel_rfl
def Bi : Q1 := Lf n bS k0
def wA : wg := Bz n bS k
theorem XF (hk : qn k0 k) : AD (Bi n bS k0 ) (wA n bS k ) := Yc n bS k0 k hk
def Li (n : Nat) (bS : gI) (k0 : Q0) (J1 : Q1) : Q1 := (bH (xF bS) pe KG (fun s => cQ Lo s J1))
def BO (n : Nat) (bS : gI) (k : nD) (j1 : wg) (v0 : Int) (v1 : Int) (v11 : Bool) (h : Heap) : CRes :=
 ifB v11
 (j1 true h)
 (j1 (ltF v0 v1) h)
theorem XU (hk : qn k0 k) (J1 : Q1) (j1 : wg) (h1 : AD J1 j1) : Bg (Li n bS k0 J1) (BO n bS k j1) := by
  obtain rfl := fx2 hk
  obtain rfl := fx2 h1
  intro v0 v1 v11 h
  kernel_rfl
def Ao : Q1 := Li n bS k0 (Bi n bS k0 )
def we : wq := BO n bS k (wA n bS k )
theorem YP (hk : qn k0 k) : Bg (Ao n bS k0 ) (we n bS k ) := XU n bS k0 k hk (Bi n bS k0 ) (wA n bS k ) (XF n bS k0 k hk )
def Q2 (n : Nat) (bS : gI) (k0 : Q0) (J0 : Q1) : Q1 := (bH (xF bS) pe Lj (bH (xF bS) pe KY (fun s => cQ K4 s J0)))
def GQ (n : Nat) (bS : gI) (k : nD) (j0 : wq) (a0 : Int) (a1 : Int) (h : Heap) : CRes :=
 bS a0 h fun x0 h1 =>
 ifB x0
 (bS a1 h1 fun x2 h3 =>
 j0 a0 a1 (jR x2) h3)
 (j0 a0 a1 false h1)
theorem abZ (n : Nat) (bS : gI) (k0 : Q0) (k : nD) (hk : qn k0 k) (J0 : Q1) (j0 : wq) (h0 : Bg J0 j0) (a0 : Int) (a1 : Int) (h : Heap) : (Q2 n bS k0 J0) ⟨cJ [(p0, (.int .i64 a0)), (p1, (.int .i64 a1))], h⟩ = (GQ n bS k j0) a0 a1 h := by
  obtain rfl := fx2 hk
  obtain rfl := fx4 h0
  kernel_rfl
def acI : Q1 := Q2 n bS k0 (Ao n bS k0 )
def FZ (n : Nat) (bS : gI) (a0 : Int) (a1 : Int) (h : Heap) (k : nD) : CRes := GQ n bS k (we n bS k ) a0 a1 h
theorem aco (n : Nat) (bS : gI) (k0 : Q0) (s : St) : D (fq [(li, mn bS)]) pe n zE (cH z_cmp_Less_int_ k0) (fun _ _ => .err) (cH z_cmp_Less_int_ k0) s = acI n bS k0 s := by kernel_rfl
theorem acH (n : Nat) (bS : gI) (a0 : Int) (a1 : Int) (h : Heap) (k0 : Q0) : W a_cmp_Less_int_ z_cmp_Less_int_ [(li, mn bS)] pe n zE [(.int .i64 a0), (.int .i64 a1)] h k0 = FZ n bS a0 a1 h (fun u0 h => k0 (.bool u0) h) := by
  let k : nD := fun u0 h => k0 (.bool u0) h
  have hk : qn k0 k := fun _ _ => rfl
  have hb : ∀ F : Tr AV → CRes, iz a_cmp_Less_int_ [(.int .i64 a0), (.int .i64 a1)] .leaf F = F (cJ [(p0, (.int .i64 a0)), (p1, (.int .i64 a1))]) := fun F => by kernel_rfl
  exact (ny hb).trans ((aco n bS k0 _).trans (abZ n bS k0 k hk (Ao n bS k0 ) (we n bS k ) (YP n bS k0 k hk ) a0 a1 h))
end
def lL (n : Nat) : gu := FZ n (oa n)
theorem acu {tbl : Tr AFn} (hp : cF tbl) (ht : tbl.get (key lI) = some Px) (n : Nat) (XB : Sound tbl li (mn (oa n))) : Sound tbl lI (nA (lL n)) := by
  refine Sound.of (dN hp (ps := a_cmp_Less_int_) (rs := z_cmp_Less_int_) (l := [(li, mn (oa n))]) (ty := pe) (n := n) (c := zE) ht ⟨XB, trivial⟩) fun args H k r H' h => ?_
  unfold nA at h
  obtain ⟨a0, l0, e0, h0⟩ := dQ h
  subst e0
  obtain ⟨a1, l1, e1, h1⟩ := dQ h0
  subst e1
  obtain ⟨e9, h9⟩ := cY h1
  subst e9
  exact (acH n (oa n) a0 a1 H k).trans h9
abbrev dU := Int → Heap → (Bool → Heap → CRes) → CRes
abbrev nu := Bool → Heap → CRes
def kz (g : dU) : Wr := fun l h k => pZ .i64 l fun a0 l => mP l (g a0 h fun u0 h => k (.bool u0) h)
def Fh : d7 := fq []
abbrev Fm (k0 : Q0) (k : nu) : Prop := ∀ u0 h, k0 (.bool u0) h = k u0 h
section
variable (n : Nat) (k0 : Q0) (k : nu)
def HF (n : Nat) (k0 : Q0) : Q1 := (bH (Fh ) pJ Cs (bH (Fh ) pJ Cq (cH z_slices_isNaN_int_ k0)))
def yC (n : Nat) (k : nu) (a0 : Int) (h : Heap) : CRes :=
 k (jR (eqF a0 a0)) h
theorem Uz (n : Nat) (k0 : Q0) (k : nu) (hk : Fm k0 k) (a0 : Int) (h : Heap) : (HF n k0 ) ⟨cJ [(p0, (.int .i64 a0))], h⟩ = (yC n k ) a0 h := by
  obtain rfl := fx2 hk
  kernel_rfl
def U1 : Q1 := HF n k0
def yt (n : Nat) (a0 : Int) (h : Heap) (k : nu) : CRes := yC n k a0 h
theorem U7 (n : Nat) (k0 : Q0) (s : St) : D (fq []) pJ n sV (cH z_slices_isNaN_int_ k0) (fun _ _ => .err) (cH z_slices_isNaN_int_ k0) s = U1 n k0 s := by kernel_rfl
theorem UB (n : Nat) (a0 : Int) (h : Heap) (k0 : Q0) : W a_slices_isNaN_int_ z_slices_isNaN_int_ [] pJ n sV [(.int .i64 a0)] h k0 = yt n a0 h (fun u0 h => k0 (.bool u0) h) := by
  let k : nu := fun u0 h => k0 (.bool u0) h
  have hk : Fm k0 k := fun _ _ => rfl
  have hb : ∀ F : Tr AV → CRes, iz a_slices_isNaN_int_ [(.int .i64 a0)] .leaf F = F (cJ [(p0, (.int .i64 a0))]) := fun F => by kernel_rfl
  exact (ny hb).trans ((U7 n k0 _).trans (Uz n k0 k hk a0 h))
end
def jj (n : Nat) : dU := yt n
theorem UO {tbl : Tr AFn} (hp : cF tbl) (ht : tbl.get (key jo) = some Hr) (n : Nat) : Sound tbl jo (kz (jj n)) := by
  refine Sound.of (dN hp (ps := a_slices_isNaN_int_) (rs := z_slices_isNaN_int_) (l := []) (ty := pJ) (n := n) (c := sV) ht trivial) fun args H k r H' h => ?_
  unfold kz at h
  obtain ⟨a0, l0, e0, h0⟩ := dQ h
  subst e0
  obtain ⟨e9, h9⟩ := cY h0
  subst e9
  exact (UB n a0 H k).trans h9
abbrev de := AV → Int → Heap → (Int → Bool → Heap → CRes) → CRes
abbrev dG := Int → Bool → Heap → CRes
def ea (g : de) : Wr := fun l h k => mm l fun a0 l => pZ .i64 l fun a1 l => mP l (g a0 a1 h fun u0 u1 h => k (.tuple [(.int .i64 u0), (.bool u1)]) h)
def db (bj : gu) (aI : dU) : d7 := fq [(lI, nA bj), (jo, kz aI)]
abbrev dZ (k0 : Q0) (k : dG) : Prop := ∀ u0 u1 h, k0 (.tuple [(.int .i64 u0), (.bool u1)]) h = k u0 u1 h
abbrev jK : Type := Int → Bool → Heap → CRes
abbrev mh (J : Q1) (j : jK) : Prop := ∀ v31 v53 h, J ⟨cJ [(p31, (.int .i64 v31)), (p53, (.bool v53))], h⟩ = j v31 v53 h
abbrev jS : Type := AV → Int → Int → Int → Heap → CRes
abbrev mj (J : Q1) (j : jS) : Prop := ∀ v0 v1 v6 v7 h, J ⟨cJ [(p0, v0), (p1, (.int .i64 v1)), (p6, (.int .i64 v6)), (p7, (.int .i64 v7))], h⟩ = j v0 v1 v6 v7 h
abbrev eC : Type := AV → Int → Int → Int → Int → Heap → CRes
abbrev jO (J : Q1) (j : eC) : Prop := ∀ v0 v1 v6 v7 v8 h, J ⟨cJ [(p0, v0), (p1, (.int .i64 v1)), (p6, (.int .i64 v6)), (p7, (.int .i64 v7)), (p8, (.int .i64 v8))], h⟩ = j v0 v1 v6 v7 v8 h
section
variable (n : Nat) (bj : gu) (aI : dU) (k0 : Q0) (k : dG)
def q8 (n : Nat) (bj : gu) (aI : dU) (k0 : Q0) : Q1 := (bH (db bj aI) cN q6 (cH z_slices_BinarySearch___int_int_ k0))
def me (n : Nat) (bj : gu) (aI : dU) (k : dG) (v31 : Int) (v53 : Bool) (h : Heap) : CRes :=
 k v31 v53 h
theorem zQ (hk : dZ k0 k) : mh (q8 n bj aI k0 ) (me n bj aI k ) := by
  obtain rfl := fx3 hk
  intro v31 v53 h
  kernel_rfl
def ml : Q1 := q8 n bj aI k0
def jP : jK := me n bj aI k
theorem zY (hk : dZ k0 k) : mh (ml n bj aI k0 ) (jP n bj aI k ) := zQ n bj aI k0 k hk
def qK (n : Nat) (bj : gu) (aI : dU) (k0 : Q0) (J0 : Q1) : Q1 := (bH (db bj aI) cN qG (fun s => cQ qZ s J0))
def md (n : Nat) (bj : gu) (aI : dU) (k : dG) (j0 : jK) (v0 : AV) (v1 : Int) (v6 : Int) (v7 : Int) (h : Heap) : CRes :=
 ifB (ltF v7 v6)
 (LS .i64 1 h v0 v7 fun x1 x2 =>
 ifB (eqF x2 v1)
 (j0 v7 true h)
 (LS .i64 1 h v0 v7 fun x3 x4 =>
 aI x4 h fun x5 h6 =>
 ifB x5
 (aI v1 h6 fun x7 h8 =>
 j0 v7 x7 h8)
 (j0 v7 false h6)))
 (j0 v7 false h)
theorem Aa (hk : dZ k0 k) (J0 : Q1) (j0 : jK) (h0 : mh J0 j0) : mj (qK n bj aI k0 J0) (md n bj aI k j0) := by
  obtain rfl := fx3 hk
  obtain rfl := fx3 h0
  intro v0 v1 v6 v7 h
  kernel_rfl
def mf : Q1 := qK n bj aI k0 (ml n bj aI k0 )
def iw : jS := md n bj aI k (jP n bj aI k )
theorem zT (hk : dZ k0 k) : mj (mf n bj aI k0 ) (iw n bj aI k ) := Aa n bj aI k0 k hk (ml n bj aI k0 ) (jP n bj aI k ) (zY n bj aI k0 k hk )
def qz (n : Nat) (bj : gu) (aI : dU) (k0 : Q0) (J1 : Q1) (J2 : Q1) : Q1 := (bH (db bj aI) cN qC (fun s => fg (.t p15) s (bH (db bj aI) cN qI (bH (db bj aI) cN qF (fun s => fg (.t p27) s (bH (db bj aI) cN qE (fun s => cQ jQ s J2)) (bH (db bj aI) cN qW (fun s => cQ jQ s J2))))) (fun s => cQ q0 s J1)))
def jN (n : Nat) (bj : gu) (aI : dU) (k : dG) (j1 : jS) (j2 : eC) (v0 : AV) (v1 : Int) (v6 : Int) (v7 : Int) (v8 : Int) (h : Heap) : CRes :=
 ifB (ltF v7 v8)
 (mG .i64 v7 v8 fun x9 =>
 yV .u64 x9 fun x10 =>
 shrK .u64 x10 1 fun x11 =>
 yV .i64 x11 fun x12 =>
 LS .i64 1 h v0 x12 fun x13 x14 =>
 bj x14 v1 h fun x15 h16 =>
 ifB x15
 (mG .i64 x12 1 fun x17 =>
 j2 v0 v1 v6 x17 v8 h16)
 (j2 v0 v1 v6 v7 x12 h16))
 (j1 v0 v1 v6 v7 h)
theorem zR (hk : dZ k0 k) (J1 : Q1) (j1 : jS) (h1 : mj J1 j1) (J2 : Q1) (j2 : eC) (h2 : jO J2 j2) : jO (qz n bj aI k0 J1 J2) (jN n bj aI k j1 j2) := by
  obtain rfl := fx3 hk
  obtain rfl := fx5 h1
  obtain rfl := fx6 h2
  intro v0 v1 v6 v7 v8 h
  kernel_rfl
def jT (m : Nat) : Q1 := Nat.rec (motive := fun _ => Q1) (fun _ => .err) (fun _ ih => qz n bj aI k0 (mf n bj aI k0 ) ih) m
def eB (m : Nat) : eC := Nat.rec (motive := fun _ => eC) (fun _ _ _ _ _ _ => .err) (fun _ ih => jN n bj aI k (iw n bj aI k ) ih) m
theorem zW (m : Nat) : eB n bj aI k (m + 1) = jN n bj aI k (iw n bj aI k ) (eB n bj aI k m) := rfl
theorem z9 (hk : dZ k0 k) (m : Nat) : jO (jT n bj aI k0 m) (eB n bj aI k m) := by
  induction m with
  | zero => intro v0 v1 v6 v7 v8 h; rfl
  | succ m ih => exact zR n bj aI k0 k hk (mf n bj aI k0 ) (iw n bj aI k ) (zT n bj aI k0 k hk ) (jT n bj aI k0 m) (eB n bj aI k m) ih
def rZ (n : Nat) (bj : gu) (aI : dU) (k0 : Q0) (J2 : Q1) : Q1 := (bH (db bj aI) cN qY (bH (db bj aI) cN qX (bH (db bj aI) cN qJ (fun s => cQ jQ s J2))))
def ni (n : Nat) (bj : gu) (aI : dU) (k : dG) (j2 : eC) (a0 : AV) (a1 : Int) (h : Heap) : CRes :=
 ju a0 fun x0 =>
 j2 a0 a1 x0 0 x0 h
theorem Bx (n : Nat) (bj : gu) (aI : dU) (k0 : Q0) (k : dG) (hk : dZ k0 k) (J2 : Q1) (j2 : eC) (h2 : jO J2 j2) (a0 : AV) (a1 : Int) (h : Heap) : (rZ n bj aI k0 J2) ⟨cJ [(p0, a0), (p1, (.int .i64 a1))], h⟩ = (ni n bj aI k j2) a0 a1 h := by
  obtain rfl := fx3 hk
  obtain rfl := fx6 h2
  kernel_rfl
def A3 : Q1 := rZ n bj aI k0 (jT n bj aI k0 n)
def nf (n : Nat) (bj : gu) (aI : dU) (a0 : AV) (a1 : Int) (h : Heap) (k : dG) : CRes := ni n bj aI k (eB n bj aI k n) a0 a1 h
theorem Az (n : Nat) (bj : gu) (aI : dU) (k0 : Q0) (s : St) : D (fq [(lI, nA bj), (jo, kz aI)]) cN n kN (cH z_slices_BinarySearch___int_int_ k0) (fun _ _ => .err) (cH z_slices_BinarySearch___int_int_ k0) s = A3 n bj aI k0 s := by kernel_rfl
theorem AP (n : Nat) (bj : gu) (aI : dU) (a0 : AV) (a1 : Int) (h : Heap) (k0 : Q0) : W a_slices_BinarySearch___int_int_ z_slices_BinarySearch___int_int_ [(lI, nA bj), (jo, kz aI)] cN n kN [a0, (.int .i64 a1)] h k0 = nf n bj aI a0 a1 h (fun u0 u1 h => k0 (.tuple [(.int .i64 u0), (.bool u1)]) h) := by
  let k : dG := fun u0 u1 h => k0 (.tuple [(.int .i64 u0), (.bool u1)]) h
  have hk : dZ k0 k := fun _ _ _ => rfl
  have hb : ∀ F : Tr AV → CRes, iz a_slices_BinarySearch___int_int_ [a0, (.int .i64 a1)] .leaf F = F (cJ [(p0, a0), (p1, (.int .i64 a1))]) := fun F => by kernel_rfl
  exact (ny hb).trans ((Az n bj aI k0 _).trans (Bx n bj aI k0 k hk (jT n bj aI k0 n) (eB n bj aI k n) (z9 n bj aI k0 k hk n) a0 a1 h))
end
def ef (n : Nat) : de := nf n (lL n) (jj n)
theorem BN {tbl : Tr AFn} (hp : cF tbl) (ht : tbl.get (key dE) = some sj) (n : Nat) (aa7 : Sound tbl lI (nA (lL n))) (SI : Sound tbl jo (kz (jj n))) : Sound tbl dE (ea (ef n)) := by
  refine Sound.of (dN hp (ps := a_slices_BinarySearch___int_int_) (rs := z_slices_BinarySearch___int_int_) (l := [(lI, nA (lL n)), (jo, kz (jj n))]) (ty := cN) (n := n) (c := kN) ht ⟨aa7, SI, trivial⟩) fun args H k r H' h => ?_
  unfold ea at h
  obtain ⟨a0, l0, e0, h0⟩ := cT h
  subst e0
  obtain ⟨a1, l1, e1, h1⟩ := dQ h0
  subst e1
  obtain ⟨e9, h9⟩ := cY h1
  subst e9
  exact (AP n (lL n) (jj n) a0 a1 H k).trans h9
abbrev cW := AV → Int → Int → Heap → (Heap → CRes) → CRes
abbrev nU := Heap → CRes
def k9 (g : cW) : Wr := fun l h k => mm l fun a0 l => pZ .i64 l fun a1 l => pZ .i64 l fun a2 l => mP l (g a0 a1 a2 h fun h => k (.tuple []) h)
def Ht (cj : de) (cB : Wr) : d7 := fq [(dE, ea cj), (jz, cB)]
abbrev Hg (k0 : Q0) (k : nU) : Prop := ∀ h, k0 (.tuple []) h = k h
section
variable (n : Nat) (cj : de) (cB : Wr) (k0 : Q0) (k : nU)
def Kd (n : Nat) (cj : de) (cB : Wr) (k0 : Q0) : Q1 := (bH (Ht cj cB) qS EZ (bH (Ht cj cB) qS Fe (cH z_buddy_Buddy__put k0)))
def zZ (n : Nat) (cj : de) (cB : Wr) (k : nU) (a0 : AV) (a1 : Int) (a2 : Int) (h : Heap) : CRes :=
 nfa 2 a0 fun x0 =>
 Pv 1 7 x0 a2 fun x1 =>
 iI h x1 1 false fun x2 =>
 cj x2 a1 h fun x3 x4 h5 =>
 nfa 2 a0 fun x6 =>
 Pv 1 7 x6 a2 fun x7 =>
 iI h5 x7 1 false fun x8 =>
 qQ h5 1 [(.int .i64 0)] [(0, 1, (.int .i64 a1))] fun x9 h10 =>
 cB [x8, (.int .i64 x3), x9] h10 fun x11 h12 =>
 nfa 2 a0 fun x13 =>
 Pv 1 7 x13 a2 fun x14 =>
 mT h12 x14 1 x11 fun h15 =>
 k h15
theorem Wv (n : Nat) (cj : de) (cB : Wr) (k0 : Q0) (k : nU) (hk : Hg k0 k) (a0 : AV) (a1 : Int) (a2 : Int) (h : Heap) : (Kd n cj cB k0 ) ⟨cJ [(p0, a0), (p1, (.int .i64 a1)), (p2, (.int .i64 a2))], h⟩ = (zZ n cj cB k ) a0 a1 a2 h := by
  obtain rfl := fx1 hk
  kernel_rfl
def W6 : Q1 := Kd n cj cB k0
def zO (n : Nat) (cj : de) (cB : Wr) (a0 : AV) (a1 : Int) (a2 : Int) (h : Heap) (k : nU) : CRes := zZ n cj cB k a0 a1 a2 h
theorem WW (n : Nat) (cj : de) (cB : Wr) (k0 : Q0) (s : St) : D (fq [(dE, ea cj), (jz, cB)]) qS n uc (cH z_buddy_Buddy__put k0) (fun _ _ => .err) (cH z_buddy_Buddy__put k0) s = W6 n cj cB k0 s := by kernel_rfl
theorem Wz (n : Nat) (cj : de) (cB : Wr) (a0 : AV) (a1 : Int) (a2 : Int) (h : Heap) (k0 : Q0) : W a_buddy_Buddy__put z_buddy_Buddy__put [(dE, ea cj), (jz, cB)] qS n uc [a0, (.int .i64 a1), (.int .i64 a2)] h k0 = zO n cj cB a0 a1 a2 h (fun h => k0 (.tuple []) h) := by
  let k : nU := fun h => k0 (.tuple []) h
  have hk : Hg k0 k := fun _ => rfl
  have hb : ∀ F : Tr AV → CRes, iz a_buddy_Buddy__put [a0, (.int .i64 a1), (.int .i64 a2)] .leaf F = F (cJ [(p0, a0), (p1, (.int .i64 a1)), (p2, (.int .i64 a2))]) := fun F => by kernel_rfl
  exact (ny hb).trans ((WW n cj cB k0 _).trans (Wv n cj cB k0 k hk a0 a1 a2 h))
end
def je (n : Nat) : cW := zO n (ef n) (Hn lb)
theorem WJ {tbl : Tr AFn} (hp : cF tbl) (ht : tbl.get (key jM) = some JQ) (n : Nat) (Am : Sound tbl dE (ea (ef n))) (HV : Sound tbl jz (Hn lb)) : Sound tbl jM (k9 (je n)) := by
  refine Sound.of (dN hp (ps := a_buddy_Buddy__put) (rs := z_buddy_Buddy__put) (l := [(dE, ea (ef n)), (jz, Hn lb)]) (ty := qS) (n := n) (c := uc) ht ⟨Am, HV, trivial⟩) fun args H k r H' h => ?_
  unfold k9 at h
  obtain ⟨a0, l0, e0, h0⟩ := cT h
  subst e0
  obtain ⟨a1, l1, e1, h1⟩ := dQ h0
  subst e1
  obtain ⟨a2, l2, e2, h2⟩ := dQ h1
  subst e2
  obtain ⟨e9, h9⟩ := cY h2
  subst e9
  exact (Wz n (ef n) (Hn lb) a0 a1 a2 H k).trans h9
abbrev eH := AV → Int → Heap → (Int → Int → Heap → CRes) → CRes
abbrev gx := Int → Int → Heap → CRes
def kw (g : eH) : Wr := fun l h k => mm l fun a0 l => pZ .i64 l fun a1 l => mP l (g a0 a1 h fun u0 u1 h => k (.tuple [(.int .i64 u0), (.int .i64 u1)]) h)
def da (af : cq) (aj : cy) (am : cW) : d7 := fq [(eG, fy af), (fk, gF aj), (jM, k9 am)]
abbrev ed (k0 : Q0) (k : gx) : Prop := ∀ u0 u1 h, k0 (.tuple [(.int .i64 u0), (.int .i64 u1)]) h = k u0 u1 h
abbrev rb : Type := AV → Int → Int → Heap → CRes
abbrev vT (J : Q1) (j : rb) : Prop := ∀ v0 v1 v7 h, J ⟨cJ [(p0, v0), (p1, (.int .i64 v1)), (p7, (.int .i64 v7))], h⟩ = j v0 v1 v7 h
abbrev kF : Type := AV → Int → Int → Int → Heap → CRes
abbrev rp (J : Q1) (j : kF) : Prop := ∀ v0 v1 v6 v7 h, J ⟨cJ [(p0, v0), (p1, (.int .i64 v1)), (p6, (.int .i64 v6)), (p7, (.int .i64 v7))], h⟩ = j v0 v1 v6 v7 h
abbrev rn : Type := AV → Int → Int → Heap → CRes
abbrev vK (J : Q1) (j : rn) : Prop := ∀ v0 v1 v6 h, J ⟨cJ [(p0, v0), (p1, (.int .i64 v1)), (p6, (.int .i64 v6))], h⟩ = j v0 v1 v6 h
abbrev rc : Type := AV → Int → Int → Bool → Heap → CRes
abbrev vJ (J : Q1) (j : rc) : Prop := ∀ v0 v1 v6 v30 h, J ⟨cJ [(p0, v0), (p1, (.int .i64 v1)), (p6, (.int .i64 v6)), (p30, (.bool v30))], h⟩ = j v0 v1 v6 v30 h
abbrev iy : Type := AV → Int → Int → Heap → CRes
abbrev nO (J : Q1) (j : iy) : Prop := ∀ v0 v1 v6 h, J ⟨cJ [(p0, v0), (p1, (.int .i64 v1)), (p6, (.int .i64 v6))], h⟩ = j v0 v1 v6 h
abbrev ra : Type := AV → Int → Bool → Heap → CRes
abbrev vO (J : Q1) (j : ra) : Prop := ∀ v0 v1 v17 h, J ⟨cJ [(p0, v0), (p1, (.int .i64 v1)), (p17, (.bool v17))], h⟩ = j v0 v1 v17 h
section
variable (n : Nat) (af : cq) (aj : cy) (am : cW) (k0 : Q0) (k : gx)
def CC (n : Nat) (af : cq) (aj : cy) (am : cW) (k0 : Q0) : Q1 := (bH (da af aj am) cS Cc (bH (da af aj am) cS CG (cH z_buddy_Buddy__Take k0)))
def vQ (n : Nat) (af : cq) (aj : cy) (am : cW) (k : gx) (v0 : AV) (v1 : Int) (v7 : Int) (h : Heap) : CRes :=
 acN 9 h v0 1 false fun x19 x20 =>
 Y1 h (.cell .int) x20 (.int .i64 v7) (.int .i64 v1) fun h21 =>
 k v7 0 h21
theorem RE (hk : ed k0 k) : vT (CC n af aj am k0 ) (vQ n af aj am k ) := by
  obtain rfl := fx3 hk
  intro v0 v1 v7 h
  kernel_rfl
def vD : Q1 := CC n af aj am k0
def nQ : rb := vQ n af aj am k
theorem RM (hk : ed k0 k) : vT (vD n af aj am k0 ) (nQ n af aj am k ) := RE n af aj am k0 k hk
def CE (n : Nat) (af : cq) (aj : cy) (am : cW) (k0 : Q0) (J0 : Q1) (J1 : Q1) : Q1 := (bH (da af aj am) cS B8 (fun s => fg (.t p57) s (bH (da af aj am) cS Cp (bH (da af aj am) cS Cf (fun s => cQ vW s J1))) (fun s => cQ CH s J0)))
def rj (n : Nat) (af : cq) (aj : cy) (am : cW) (k : gx) (j0 : rb) (j1 : kF) (v0 : AV) (v1 : Int) (v6 : Int) (v7 : Int) (h : Heap) : CRes :=
 ifB (ltF v1 v6)
 (W3 .i64 v6 1 fun x22 =>
 aci .i64 1 x22 fun x23 =>
 mG .i64 v7 x23 fun x24 =>
 am v0 x24 x22 h fun h25 =>
 j1 v0 v1 x22 v7 h25)
 (j0 v0 v1 v7 h)
theorem Ry (hk : ed k0 k) (J0 : Q1) (j0 : rb) (h0 : vT J0 j0) (J1 : Q1) (j1 : kF) (h1 : rp J1 j1) : rp (CE n af aj am k0 J0 J1) (rj n af aj am k j0 j1) := by
  obtain rfl := fx3 hk
  obtain rfl := fx4 h0
  obtain rfl := fx5 h1
  intro v0 v1 v6 v7 h
  kernel_rfl
def q9 (m : Nat) : Q1 := Nat.rec (motive := fun _ => Q1) (fun _ => .err) (fun _ ih => CE n af aj am k0 (vD n af aj am k0 ) ih) m
def kG (m : Nat) : kF := Nat.rec (motive := fun _ => kF) (fun _ _ _ _ _ => .err) (fun _ ih => rj n af aj am k (nQ n af aj am k ) ih) m
theorem RB (m : Nat) : kG n af aj am k (m + 1) = rj n af aj am k (nQ n af aj am k ) (kG n af aj am k m) := rfl
theorem Rp (hk : ed k0 k) (m : Nat) : rp (q9 n af aj am k0 m) (kG n af aj am k m) := by
  induction m with
  | zero => intro v0 v1 v6 v7 h; rfl
  | succ m ih => exact Ry n af aj am k0 k hk (vD n af aj am k0 ) (nQ n af aj am k ) (RM n af aj am k0 k hk ) (q9 n af aj am k0 m) (kG n af aj am k m) ih
def Cd (n : Nat) (af : cq) (aj : cy) (am : cW) (k0 : Q0) (J1 : Q1) : Q1 := (bH (da af aj am) cS CA (fun s => fg (.t p34) s (bH (da af aj am) cS Cx (cH z_buddy_Buddy__Take k0)) (bH (da af aj am) cS B7 (bH (da af aj am) cS CO (fun s => cQ vW s J1)))))
def vN (n : Nat) (af : cq) (aj : cy) (am : cW) (k : gx) (j1 : kF) (v0 : AV) (v1 : Int) (v6 : Int) (h : Heap) : CRes :=
 ifB (ltF 6 v6)
 (k 0 90 h)
 (nfa 2 v0 fun x2 =>
 Pv 1 7 x2 v6 fun x3 =>
 iI h x3 1 false fun x4 =>
 LS .i64 1 h x4 0 fun x5 x6 =>
 nfa 2 v0 fun x7 =>
 Pv 1 7 x7 v6 fun x8 =>
 iI h x8 1 false fun x9 =>
 aj x9 0 1 h fun x10 h11 =>
 nfa 2 v0 fun x12 =>
 Pv 1 7 x12 v6 fun x13 =>
 mT h11 x13 1 x10 fun h14 =>
 j1 v0 v1 v6 x6 h14)
theorem RI (hk : ed k0 k) (J1 : Q1) (j1 : kF) (h1 : rp J1 j1) : vK (Cd n af aj am k0 J1) (vN n af aj am k j1) := by
  obtain rfl := fx3 hk
  obtain rfl := fx5 h1
  intro v0 v1 v6 h
  kernel_rfl
def vL : Q1 := Cd n af aj am k0 (q9 n af aj am k0 n)
def rl : rn := vN n af aj am k (kG n af aj am k n)
theorem RF (hk : ed k0 k) : vK (vL n af aj am k0 ) (rl n af aj am k ) := RI n af aj am k0 k hk (q9 n af aj am k0 n) (kG n af aj am k n) (Rp n af aj am k0 k hk n)
def B1 (n : Nat) (af : cq) (aj : cy) (am : cW) (k0 : Q0) (J2 : Q1) (J3 : Q1) : Q1 := (fun s => fg (.t p30) s (bH (da af aj am) cS Cm (fun s => cQ vX s J3)) (fun s => cQ Ch s J2))
def vH (n : Nat) (af : cq) (aj : cy) (am : cW) (k : gx) (j2 : rn) (j3 : iy) (v0 : AV) (v1 : Int) (v6 : Int) (v30 : Bool) (h : Heap) : CRes :=
 ifB v30
 (mG .i64 v6 1 fun x26 =>
 j3 v0 v1 x26 h)
 (j2 v0 v1 v6 h)
theorem Rt (hk : ed k0 k) (J2 : Q1) (j2 : rn) (h2 : vK J2 j2) (J3 : Q1) (j3 : iy) (h3 : nO J3 j3) : vJ (B1 n af aj am k0 J2 J3) (vH n af aj am k j2 j3) := by
  obtain rfl := fx3 hk
  obtain rfl := fx4 h2
  obtain rfl := fx4 h3
  intro v0 v1 v6 v30 h
  kernel_rfl
def vU (J3 : Q1) : Q1 := B1 n af aj am k0 (vL n af aj am k0 ) J3
def nT (j3 : iy) : rc := vH n af aj am k (rl n af aj am k ) j3
theorem Rm (hk : ed k0 k) (J3 : Q1) (j3 : iy) (h3 : nO J3 j3) : vJ (vU n af aj am k0 J3) (nT n af aj am k j3) := Rt n af aj am k0 k hk (vL n af aj am k0 ) (rl n af aj am k ) (RF n af aj am k0 k hk ) J3 j3 h3
def CB (n : Nat) (af : cq) (aj : cy) (am : cW) (k0 : Q0) (J4 : Q1) : Q1 := (bH (da af aj am) cS Ax (fun s => cQ Ck s J4))
def ri (n : Nat) (af : cq) (aj : cy) (am : cW) (k : gx) (j4 : rc) (v0 : AV) (v1 : Int) (v6 : Int) (h : Heap) : CRes :=
 ifB (jR (ltF 6 v6))
 (nfa 2 v0 fun x15 =>
 Pv 1 7 x15 v6 fun x16 =>
 iI h x16 1 false fun x17 =>
 ju x17 fun x18 =>
 j4 v0 v1 v6 (eqF x18 0) h)
 (j4 v0 v1 v6 false h)
theorem RK (hk : ed k0 k) (J4 : Q1) (j4 : rc) (h4 : vJ J4 j4) : nO (CB n af aj am k0 J4) (ri n af aj am k j4) := by
  obtain rfl := fx3 hk
  obtain rfl := fx5 h4
  intro v0 v1 v6 h
  kernel_rfl
def nS (m : Nat) : Q1 := Nat.rec (motive := fun _ => Q1) (fun _ => .err) (fun _ ih => CB n af aj am k0 (vU n af aj am k0 ih)) m
def jh (m : Nat) : iy := Nat.rec (motive := fun _ => iy) (fun _ _ _ _ => .err) (fun _ ih => ri n af aj am k (nT n af aj am k ih)) m
theorem RA (m : Nat) : jh n af aj am k (m + 1) = ri n af aj am k (nT n af aj am k (jh n af aj am k m)) := rfl
theorem RH (hk : ed k0 k) (m : Nat) : nO (nS n af aj am k0 m) (jh n af aj am k m) := by
  induction m with
  | zero => intro v0 v1 v6 h; rfl
  | succ m ih => exact RK n af aj am k0 k hk (vU n af aj am k0 (nS n af aj am k0 m)) (nT n af aj am k (jh n af aj am k m)) (Rm n af aj am k0 k hk (nS n af aj am k0 m) (jh n af aj am k m) ih)
def CJ (n : Nat) (af : cq) (aj : cy) (am : cW) (k0 : Q0) (J3 : Q1) : Q1 := (bH (da af aj am) cS AA (fun s => fg (.t p11) s (bH (da af aj am) cS Bm (cH z_buddy_Buddy__Take k0)) (bH (da af aj am) cS BH (fun s => cQ vX s J3))))
def vR (n : Nat) (af : cq) (aj : cy) (am : cW) (k : gx) (j3 : iy) (v0 : AV) (v1 : Int) (v17 : Bool) (h : Heap) : CRes :=
 ifB v17
 (k 0 2 h)
 (j3 v0 v1 v1 h)
theorem Rn (hk : ed k0 k) (J3 : Q1) (j3 : iy) (h3 : nO J3 j3) : vO (CJ n af aj am k0 J3) (vR n af aj am k j3) := by
  obtain rfl := fx3 hk
  obtain rfl := fx4 h3
  intro v0 v1 v17 h
  kernel_rfl
def vF : Q1 := CJ n af aj am k0 (nS n af aj am k0 n)
def rm : ra := vR n af aj am k (jh n af aj am k n)
theorem RL (hk : ed k0 k) : vO (vF n af aj am k0 ) (rm n af aj am k ) := Rn n af aj am k0 k hk (nS n af aj am k0 n) (jh n af aj am k n) (RH n af aj am k0 k hk n)
def Hs (n : Nat) (af : cq) (aj : cy) (am : cW) (k0 : Q0) (J5 : Q1) : Q1 := (bH (da af aj am) cS A6 (bH (da af aj am) cS AJ (fun s => fg (.t p8) s (bH (da af aj am) cS A0 (cH z_buddy_Buddy__Take k0)) (bH (da af aj am) cS BB (fun s => cQ CL s J5)))))
def yw (n : Nat) (af : cq) (aj : cy) (am : cW) (k : gx) (j5 : ra) (a0 : AV) (a1 : Int) (h : Heap) : CRes :=
 af a0 h fun x0 h1 =>
 ifB x0
 (k 0 1 h1)
 (ifB (ltF a1 0)
 (j5 a0 a1 true h1)
 (j5 a0 a1 (ltF 6 a1) h1))
theorem UL (n : Nat) (af : cq) (aj : cy) (am : cW) (k0 : Q0) (k : gx) (hk : ed k0 k) (J5 : Q1) (j5 : ra) (h5 : vO J5 j5) (a0 : AV) (a1 : Int) (h : Heap) : (Hs n af aj am k0 J5) ⟨cJ [(p0, a0), (p1, (.int .i64 a1))], h⟩ = (yw n af aj am k j5) a0 a1 h := by
  obtain rfl := fx3 hk
  obtain rfl := fx4 h5
  kernel_rfl
def Ux : Q1 := Hs n af aj am k0 (vF n af aj am k0 )
def yu (n : Nat) (af : cq) (aj : cy) (am : cW) (a0 : AV) (a1 : Int) (h : Heap) (k : gx) : CRes := yw n af aj am k (rm n af aj am k ) a0 a1 h
theorem UT (n : Nat) (af : cq) (aj : cy) (am : cW) (k0 : Q0) (s : St) : D (fq [(eG, fy af), (fk, gF aj), (jM, k9 am)]) cS n sU (cH z_buddy_Buddy__Take k0) (fun _ _ => .err) (cH z_buddy_Buddy__Take k0) s = Ux n af aj am k0 s := by kernel_rfl
theorem US (n : Nat) (af : cq) (aj : cy) (am : cW) (a0 : AV) (a1 : Int) (h : Heap) (k0 : Q0) : W a_buddy_Buddy__Take z_buddy_Buddy__Take [(eG, fy af), (fk, gF aj), (jM, k9 am)] cS n sU [a0, (.int .i64 a1)] h k0 = yu n af aj am a0 a1 h (fun u0 u1 h => k0 (.tuple [(.int .i64 u0), (.int .i64 u1)]) h) := by
  let k : gx := fun u0 u1 h => k0 (.tuple [(.int .i64 u0), (.int .i64 u1)]) h
  have hk : ed k0 k := fun _ _ _ => rfl
  have hb : ∀ F : Tr AV → CRes, iz a_buddy_Buddy__Take [a0, (.int .i64 a1)] .leaf F = F (cJ [(p0, a0), (p1, (.int .i64 a1))]) := fun F => by kernel_rfl
  exact (ny hb).trans ((UT n af aj am k0 _).trans (UL n af aj am k0 k hk (vF n af aj am k0 ) (rm n af aj am k ) (RL n af aj am k0 k hk ) a0 a1 h))
end
def jk (n : Nat) : eH := yu n (gw n) (ep n) (je n)
theorem Uy {tbl : Tr AFn} (hp : cF tbl) (ht : tbl.get (key ji) = some HK) (n : Nat) (xh : Sound tbl eG (fy (gw n))) (HT : Sound tbl fk (gF (ep n))) (UM : Sound tbl jM (k9 (je n))) : Sound tbl ji (kw (jk n)) := by
  refine Sound.of (dN hp (ps := a_buddy_Buddy__Take) (rs := z_buddy_Buddy__Take) (l := [(eG, fy (gw n)), (fk, gF (ep n)), (jM, k9 (je n))]) (ty := cS) (n := n) (c := sU) ht ⟨xh, HT, UM, trivial⟩) fun args H k r H' h => ?_
  unfold kw at h
  obtain ⟨a0, l0, e0, h0⟩ := cT h
  subst e0
  obtain ⟨a1, l1, e1, h1⟩ := dQ h0
  subst e1
  obtain ⟨e9, h9⟩ := cY h1
  subst e9
  exact (US n (gw n) (ep n) (je n) a0 a1 H k).trans h9
/-! cofferdam/colour.Frame -/
abbrev iV := Int → Int → Int → Heap → (Int → Int → Heap → CRes) → CRes
abbrev oJ := Int → Int → Heap → CRes
def ou (g : iV) : Wr := fun l h k => pZ .i64 l fun a0 l => pZ .i64 l fun a1 l => pZ .i64 l fun a2 l => mP l (g a0 a1 a2 h fun u0 u1 h => k (.tuple [(.int .i64 u0), (.int .i64 u1)]) h)
def uY (aD : cI) (bg : eg) : d7 := fq [(ew, eS aD), (kJ, lj bg)]
abbrev rE (k0 : Q0) (k : oJ) : Prop := ∀ u0 u1 h, k0 (.tuple [(.int .i64 u0), (.int .i64 u1)]) h = k u0 u1 h
abbrev xS : Type := Int → Int → Int → Bool → Heap → CRes
abbrev Dh (J : Q1) (j : xS) : Prop := ∀ v0 v1 v2 v26 h, J ⟨cJ [(p0, (.int .i64 v0)), (p1, (.int .i64 v1)), (p2, (.int .i64 v2)), (p26, (.bool v26))], h⟩ = j v0 v1 v2 v26 h
abbrev yc : Type := Int → Int → Int → Bool → Heap → CRes
abbrev DZ (J : Q1) (j : yc) : Prop := ∀ v0 v1 v2 v17 h, J ⟨cJ [(p0, (.int .i64 v0)), (p1, (.int .i64 v1)), (p2, (.int .i64 v2)), (p17, (.bool v17))], h⟩ = j v0 v1 v2 v17 h
section
variable (n : Nat) (aD : cI) (bg : eg) (k0 : Q0) (k : oJ)
def OA (n : Nat) (aD : cI) (bg : eg) (k0 : Q0) : Q1 := (fun s => fg (.t p26) s (bH (uY aD bg) oM MV (cH z_colour_Frame k0)) (bH (uY aD bg) oM Ms (cH z_colour_Frame k0)))
def DE (n : Nat) (aD : cI) (bg : eg) (k : oJ) (v0 : Int) (v1 : Int) (v2 : Int) (v26 : Bool) (h : Heap) : CRes :=
 ifB v26
 (k 0 2 h)
 (Kn .i64 v1 v2 fun x9 =>
 mG .i64 x9 v0 fun x10 =>
 k x10 0 h)
theorem aar (hk : rE k0 k) : Dh (OA n aD bg k0 ) (DE n aD bg k ) := by
  obtain rfl := fx3 hk
  intro v0 v1 v2 v26 h
  kernel_rfl
def CY : Q1 := OA n aD bg k0
def xR : xS := DE n aD bg k
theorem aaW (hk : rE k0 k) : Dh (CY n aD bg k0 ) (xR n aD bg k ) := aar n aD bg k0 k hk
def Ov (n : Nat) (aD : cI) (bg : eg) (k0 : Q0) (J1 : Q1) : Q1 := (bH (uY aD bg) oM N4 (fun s => cQ Oa s J1))
def D8 (n : Nat) (aD : cI) (bg : eg) (k : oJ) (j1 : xS) (v0 : Int) (v1 : Int) (v2 : Int) (v17 : Bool) (h : Heap) : CRes :=
 ifB v17
 (j1 v0 v1 v2 true h)
 (W3 .i64 4095 v0 fun x5 =>
 quoK .i64 x5 v2 fun x6 =>
 aD v1 0 x6 h fun x7 h8 =>
 j1 v0 v1 v2 (jR x7) h8)
theorem Zm (hk : rE k0 k) (J1 : Q1) (j1 : xS) (h1 : Dh J1 j1) : DZ (Ov n aD bg k0 J1) (D8 n aD bg k j1) := by
  obtain rfl := fx3 hk
  obtain rfl := fx5 h1
  intro v0 v1 v2 v17 h
  kernel_rfl
def Eb : Q1 := Ov n aD bg k0 (CY n aD bg k0 )
def xW : yc := D8 n aD bg k (xR n aD bg k )
theorem abh (hk : rE k0 k) : DZ (Eb n aD bg k0 ) (xW n aD bg k ) := Zm n aD bg k0 k hk (CY n aD bg k0 ) (xR n aD bg k ) (aaW n aD bg k0 k hk )
def SP (n : Nat) (aD : cI) (bg : eg) (k0 : Q0) (J0 : Q1) : Q1 := (bH (uY aD bg) oM Oq (bH (uY aD bg) oM MU (fun s => cQ NK s J0)))
def IX (n : Nat) (aD : cI) (bg : eg) (k : oJ) (j0 : yc) (a0 : Int) (a1 : Int) (a2 : Int) (h : Heap) : CRes :=
 bg a2 h fun x0 h1 =>
 ifB (jR x0)
 (j0 a0 a1 a2 true h1)
 (W3 .i64 a2 1 fun x2 =>
 aD a0 0 x2 h1 fun x3 h4 =>
 j0 a0 a1 a2 (jR x3) h4)
theorem aeC (n : Nat) (aD : cI) (bg : eg) (k0 : Q0) (k : oJ) (hk : rE k0 k) (J0 : Q1) (j0 : yc) (h0 : DZ J0 j0) (a0 : Int) (a1 : Int) (a2 : Int) (h : Heap) : (SP n aD bg k0 J0) ⟨cJ [(p0, (.int .i64 a0)), (p1, (.int .i64 a1)), (p2, (.int .i64 a2))], h⟩ = (IX n aD bg k j0) a0 a1 a2 h := by
  obtain rfl := fx3 hk
  obtain rfl := fx5 h0
  kernel_rfl
def adJ : Q1 := SP n aD bg k0 (Eb n aD bg k0 )
def JP (n : Nat) (aD : cI) (bg : eg) (a0 : Int) (a1 : Int) (a2 : Int) (h : Heap) (k : oJ) : CRes := IX n aD bg k (xW n aD bg k ) a0 a1 a2 h
theorem aft (n : Nat) (aD : cI) (bg : eg) (k0 : Q0) (s : St) : D (fq [(ew, eS aD), (kJ, lj bg)]) oM n Bs (cH z_colour_Frame k0) (fun _ _ => .err) (cH z_colour_Frame k0) s = adJ n aD bg k0 s := by kernel_rfl
theorem afx (n : Nat) (aD : cI) (bg : eg) (a0 : Int) (a1 : Int) (a2 : Int) (h : Heap) (k0 : Q0) : W a_colour_Frame z_colour_Frame [(ew, eS aD), (kJ, lj bg)] oM n Bs [(.int .i64 a0), (.int .i64 a1), (.int .i64 a2)] h k0 = JP n aD bg a0 a1 a2 h (fun u0 u1 h => k0 (.tuple [(.int .i64 u0), (.int .i64 u1)]) h) := by
  let k : oJ := fun u0 u1 h => k0 (.tuple [(.int .i64 u0), (.int .i64 u1)]) h
  have hk : rE k0 k := fun _ _ _ => rfl
  have hb : ∀ F : Tr AV → CRes, iz a_colour_Frame [(.int .i64 a0), (.int .i64 a1), (.int .i64 a2)] .leaf F = F (cJ [(p0, (.int .i64 a0)), (p1, (.int .i64 a1)), (p2, (.int .i64 a2))]) := fun F => by kernel_rfl
  exact (ny hb).trans ((aft n aD bg k0 _).trans (aeC n aD bg k0 k hk (Eb n aD bg k0 ) (xW n aD bg k ) (abh n aD bg k0 k hk ) a0 a1 a2 h))
end
def mY (n : Nat) : iV := JP n (gA n) (lM n)
theorem adV {tbl : Tr AFn} (hp : cF tbl) (ht : tbl.get (key na) = some Te) (n : Nat) (td : Sound tbl ew (eS (gA n))) (LM : Sound tbl kJ (lj (lM n))) : Sound tbl na (ou (mY n)) := by
  refine Sound.of (dN hp (ps := a_colour_Frame) (rs := z_colour_Frame) (l := [(ew, eS (gA n)), (kJ, lj (lM n))]) (ty := oM) (n := n) (c := Bs) ht ⟨td, LM, trivial⟩) fun args H k r H' h => ?_
  unfold ou at h
  obtain ⟨a0, l0, e0, h0⟩ := dQ h
  subst e0
  obtain ⟨a1, l1, e1, h1⟩ := dQ h0
  subst e1
  obtain ⟨a2, l2, e2, h2⟩ := dQ h1
  subst e2
  obtain ⟨e9, h9⟩ := cY h2
  subst e9
  exact (afx n (gA n) (lM n) a0 a1 a2 H k).trans h9
abbrev cK := AV → Int → Int → Int → Heap → (AV → Int → Heap → CRes) → CRes
abbrev kW := AV → Int → Heap → CRes
def gj (g : cK) : Wr := fun l h k => mm l fun a0 l => pZ .i64 l fun a1 l => pZ .i64 l fun a2 l => pZ .u8 l fun a3 l => mP l (g a0 a1 a2 a3 h fun u0 u1 h => k (.tuple [u0, (.int .i64 u1)]) h)
def dV (aX : eH) (bF : iV) : d7 := fq [(ji, kw aX), (na, ou bF)]
abbrev nw (k0 : Q0) (k : kW) : Prop := ∀ u0 u1 h, k0 (.tuple [u0, (.int .i64 u1)]) h = k u0 u1 h
abbrev rL : Type := AV → Heap → CRes
abbrev w3 (J : Q1) (j : rL) : Prop := ∀ v12 h, J ⟨cJ [(p12, v12)], h⟩ = j v12 h
abbrev kX : Type := AV → Int → Int → Int → AV → Int → Int → Heap → CRes
abbrev rR (J : Q1) (j : kX) : Prop := ∀ v0 v1 v3 v10 v12 v31 v32 h, J ⟨cJ [(p0, v0), (p1, (.int .i64 v1)), (p3, (.int .u8 v3)), (p10, (.int .i64 v10)), (p12, v12), (p31, (.int .i64 v31)), (p32, (.int .i64 v32))], h⟩ = j v0 v1 v3 v10 v12 v31 v32 h
section
variable (n : Nat) (aX : eH) (bF : iV) (k0 : Q0) (k : kW)
def Fl (n : Nat) (aX : eH) (bF : iV) (k0 : Q0) : Q1 := (bH (dV aX bF) du EX (cH z_pool_Pool__taken k0))
def wU (n : Nat) (aX : eH) (bF : iV) (k : kW) (v12 : AV) (h : Heap) : CRes :=
 k v12 0 h
theorem SQ (hk : nw k0 k) : w3 (Fl n aX bF k0 ) (wU n aX bF k ) := by
  obtain rfl := fx3 hk
  intro v12 h
  kernel_rfl
def wV : Q1 := Fl n aX bF k0
def oB : rL := wU n aX bF k
theorem SA (hk : nw k0 k) : w3 (wV n aX bF k0 ) (oB n aX bF k ) := SQ n aX bF k0 k hk
def Fs (n : Nat) (aX : eH) (bF : iV) (k0 : Q0) (J0 : Q1) (J1 : Q1) : Q1 := (bH (dV aX bF) du EG (fun s => fg (.t p33) s (bH (dV aX bF) du Fu (bH (dV aX bF) du EJ (bH (dV aX bF) du Fk (fun s => fg (.t p54) s (bH (dV aX bF) du Fn (cH z_pool_Pool__taken k0)) (bH (dV aX bF) du EY (bH (dV aX bF) du E3 (bH (dV aX bF) du E6 (bH (dV aX bF) du EP (fun s => cQ xe s J1))))))))) (fun s => cQ EH s J0)))
def se (n : Nat) (aX : eH) (bF : iV) (k : kW) (j0 : rL) (j1 : kX) (v0 : AV) (v1 : Int) (v3 : Int) (v10 : Int) (v12 : AV) (v31 : Int) (v32 : Int) (h : Heap) : CRes :=
 ifB (ltF v32 v31)
 (acN 1 h v0 1 false fun x8 x9 =>
 LS .i64 1 h x9 v1 fun x10 x11 =>
 mG .i64 v10 v32 fun x12 =>
 nfldI .i64 0 h v0 fun x13 x14 =>
 bF x11 x12 x14 h fun x15 x16 h17 =>
 ifB (jR (eqF x16 0))
 (k .nilslice x16 h17)
 (acN 12 h17 v0 1 false fun x18 x19 =>
 Y1 h17 (.cell .int) x19 (.int .i64 x15) (.int .u8 v3) fun h20 =>
 nfa 13 v0 fun x21 =>
 Pv 1 7 x21 v3 fun x22 =>
 ldI .i64 h20 x22 fun x23 =>
 mG .i64 x23 1 fun x24 =>
 nfa 13 v0 fun x25 =>
 Pv 1 7 x25 v3 fun x26 =>
 mT h20 x26 1 (.int .i64 x24) fun h27 =>
 qQ h27 1 [(.int .i64 0)] [(0, 1, (.int .i64 x15))] fun x28 h29 =>
 re h29 1 v12 x28 fun x30 h31 =>
 mG .i64 v32 1 fun x32 =>
 j1 v0 v1 v3 v10 x30 v31 x32 h31))
 (j0 v12 h)
theorem TI (hk : nw k0 k) (J0 : Q1) (j0 : rL) (h0 : w3 J0 j0) (J1 : Q1) (j1 : kX) (h1 : rR J1 j1) : rR (Fs n aX bF k0 J0 J1) (se n aX bF k j0 j1) := by
  obtain rfl := fx3 hk
  obtain rfl := fx2 h0
  obtain rfl := fx8 h1
  intro v0 v1 v3 v10 v12 v31 v32 h
  kernel_rfl
def rN (m : Nat) : Q1 := Nat.rec (motive := fun _ => Q1) (fun _ => .err) (fun _ ih => Fs n aX bF k0 (wV n aX bF k0 ) ih) m
def la (m : Nat) : kX := Nat.rec (motive := fun _ => kX) (fun _ _ _ _ _ _ _ _ => .err) (fun _ ih => se n aX bF k (oB n aX bF k ) ih) m
theorem ST (m : Nat) : la n aX bF k (m + 1) = se n aX bF k (oB n aX bF k ) (la n aX bF k m) := rfl
theorem Ud (hk : nw k0 k) (m : Nat) : rR (rN n aX bF k0 m) (la n aX bF k m) := by
  induction m with
  | zero => intro v0 v1 v3 v10 v12 v31 v32 h; rfl
  | succ m ih => exact TI n aX bF k0 k hk (wV n aX bF k0 ) (oB n aX bF k ) (SA n aX bF k0 k hk ) (rN n aX bF k0 m) (la n aX bF k m) ih
def IB (n : Nat) (aX : eH) (bF : iV) (k0 : Q0) (J1 : Q1) : Q1 := (bH (dV aX bF) du Cn (bH (dV aX bF) du Cz (bH (dV aX bF) du B6 (fun s => fg (.t p29) s (bH (dV aX bF) du Cj (cH z_pool_Pool__taken k0)) (bH (dV aX bF) du Cr (bH (dV aX bF) du Cv (fun s => cQ xe s J1)))))))
def zX (n : Nat) (aX : eH) (bF : iV) (k : kW) (j1 : kX) (a0 : AV) (a1 : Int) (a2 : Int) (a3 : Int) (h : Heap) : CRes :=
 acN 11 h a0 1 false fun x0 x1 =>
 eld 1 h x1 a1 1 false fun x2 x3 =>
 aX x3 a2 h fun x4 x5 h6 =>
 ifB (jR (eqF x5 0))
 (k .nilslice 4 h6)
 (aci .i64 1 a2 fun x7 =>
 j1 a0 a1 a3 x4 .nilslice x7 0 h6)
theorem WZ (n : Nat) (aX : eH) (bF : iV) (k0 : Q0) (k : kW) (hk : nw k0 k) (J1 : Q1) (j1 : kX) (h1 : rR J1 j1) (a0 : AV) (a1 : Int) (a2 : Int) (a3 : Int) (h : Heap) : (IB n aX bF k0 J1) ⟨cJ [(p0, a0), (p1, (.int .i64 a1)), (p2, (.int .i64 a2)), (p3, (.int .u8 a3))], h⟩ = (zX n aX bF k j1) a0 a1 a2 a3 h := by
  obtain rfl := fx3 hk
  obtain rfl := fx8 h1
  kernel_rfl
def Xj : Q1 := IB n aX bF k0 (rN n aX bF k0 n)
def z5 (n : Nat) (aX : eH) (bF : iV) (a0 : AV) (a1 : Int) (a2 : Int) (a3 : Int) (h : Heap) (k : kW) : CRes := zX n aX bF k (la n aX bF k n) a0 a1 a2 a3 h
theorem WE (n : Nat) (aX : eH) (bF : iV) (k0 : Q0) (s : St) : D (fq [(ji, kw aX), (na, ou bF)]) du n uj (cH z_pool_Pool__taken k0) (fun _ _ => .err) (cH z_pool_Pool__taken k0) s = Xj n aX bF k0 s := by kernel_rfl
theorem Wx (n : Nat) (aX : eH) (bF : iV) (a0 : AV) (a1 : Int) (a2 : Int) (a3 : Int) (h : Heap) (k0 : Q0) : W a_pool_Pool__taken z_pool_Pool__taken [(ji, kw aX), (na, ou bF)] du n uj [a0, (.int .i64 a1), (.int .i64 a2), (.int .u8 a3)] h k0 = z5 n aX bF a0 a1 a2 a3 h (fun u0 u1 h => k0 (.tuple [u0, (.int .i64 u1)]) h) := by
  let k : kW := fun u0 u1 h => k0 (.tuple [u0, (.int .i64 u1)]) h
  have hk : nw k0 k := fun _ _ _ => rfl
  have hb : ∀ F : Tr AV → CRes, iz a_pool_Pool__taken [a0, (.int .i64 a1), (.int .i64 a2), (.int .u8 a3)] .leaf F = F (cJ [(p0, a0), (p1, (.int .i64 a1)), (p2, (.int .i64 a2)), (p3, (.int .u8 a3))]) := fun F => by kernel_rfl
  exact (ny hb).trans ((WE n aX bF k0 _).trans (WZ n aX bF k0 k hk (rN n aX bF k0 n) (la n aX bF k n) (Ud n aX bF k0 k hk n) a0 a1 a2 a3 h))
end
def gP (n : Nat) : cK := z5 n (jk n) (mY n)
theorem WS {tbl : Tr AFn} (hp : cF tbl) (ht : tbl.get (key fh) = some Je) (n : Nat) (Sy : Sound tbl ji (kw (jk n))) (acE : Sound tbl na (ou (mY n))) : Sound tbl fh (gj (gP n)) := by
  refine Sound.of (dN hp (ps := a_pool_Pool__taken) (rs := z_pool_Pool__taken) (l := [(ji, kw (jk n)), (na, ou (mY n))]) (ty := du) (n := n) (c := uj) ht ⟨Sy, acE, trivial⟩) fun args H k r H' h => ?_
  unfold gj at h
  obtain ⟨a0, l0, e0, h0⟩ := cT h
  subst e0
  obtain ⟨a1, l1, e1, h1⟩ := dQ h0
  subst e1
  obtain ⟨a2, l2, e2, h2⟩ := dQ h1
  subst e2
  obtain ⟨a3, l3, e3, h3⟩ := dQ h2
  subst e3
  obtain ⟨e9, h9⟩ := cY h3
  subst e9
  exact (Wx n (jk n) (mY n) a0 a1 a2 a3 H k).trans h9
abbrev cE := AV → Heap → (AV → Int → Heap → CRes) → CRes
abbrev n0 := AV → Int → Heap → CRes
def kY (g : cE) : Wr := fun l h k => mm l fun a0 l => mP l (g a0 h fun u0 u1 h => k (.tuple [u0, (.int .i64 u1)]) h)
def ns (ar : cL) (au : cK) : d7 := fq [(eX, gl ar), (fh, gj au)]
abbrev Hq (k0 : Q0) (k : n0) : Prop := ∀ u0 u1 h, k0 (.tuple [u0, (.int .i64 u1)]) h = k u0 u1 h
section
variable (n : Nat) (ar : cL) (au : cK) (k0 : Q0) (k : n0)
def JF (n : Nat) (ar : cL) (au : cK) (k0 : Q0) : Q1 := (bH (ns ar au) jL Fb (bH (ns ar au) jL E0 (fun s => fg (.t p6) s (bH (ns ar au) jL EM (cH z_pool_Pool__Image k0)) (bH (ns ar au) jL Fo (fun s => fg (.t p12) s (bH (ns ar au) jL EW (cH z_pool_Pool__Image k0)) (bH (ns ar au) jL Fr (cH z_pool_Pool__Image k0)))))))
def zS (n : Nat) (ar : cL) (au : cK) (k : n0) (a0 : AV) (h : Heap) : CRes :=
 ar a0 h fun x0 h1 =>
 ifB (jR x0)
 (k .nilslice 1 h1)
 (nfa 13 a0 fun x2 =>
 Pv 1 7 x2 1 fun x3 =>
 ldI .i64 h1 x3 fun x4 =>
 ifB (ltF 0 x4)
 (k .nilslice 91 h1)
 (nfldI .i64 2 h1 a0 fun x5 x6 =>
 au a0 0 x6 1 h1 fun x7 x8 h9 =>
 k x7 x8 h9))
theorem WU (n : Nat) (ar : cL) (au : cK) (k0 : Q0) (k : n0) (hk : Hq k0 k) (a0 : AV) (h : Heap) : (JF n ar au k0 ) ⟨cJ [(p0, a0)], h⟩ = (zS n ar au k ) a0 h := by
  obtain rfl := fx3 hk
  kernel_rfl
def WN : Q1 := JF n ar au k0
def zV (n : Nat) (ar : cL) (au : cK) (a0 : AV) (h : Heap) (k : n0) : CRes := zS n ar au k a0 h
theorem WB (n : Nat) (ar : cL) (au : cK) (k0 : Q0) (s : St) : D (fq [(eX, gl ar), (fh, gj au)]) jL n uk (cH z_pool_Pool__Image k0) (fun _ _ => .err) (cH z_pool_Pool__Image k0) s = WN n ar au k0 s := by kernel_rfl
theorem WI (n : Nat) (ar : cL) (au : cK) (a0 : AV) (h : Heap) (k0 : Q0) : W a_pool_Pool__Image z_pool_Pool__Image [(eX, gl ar), (fh, gj au)] jL n uk [a0] h k0 = zV n ar au a0 h (fun u0 u1 h => k0 (.tuple [u0, (.int .i64 u1)]) h) := by
  let k : n0 := fun u0 u1 h => k0 (.tuple [u0, (.int .i64 u1)]) h
  have hk : Hq k0 k := fun _ _ _ => rfl
  have hb : ∀ F : Tr AV → CRes, iz a_pool_Pool__Image [a0] .leaf F = F (cJ [(p0, a0)]) := fun F => by kernel_rfl
  exact (ny hb).trans ((WB n ar au k0 _).trans (WU n ar au k0 k hk a0 h))
end
def gk (n : Nat) : cE := zV n (gQ n) (gP n)
theorem Wt {tbl : Tr AFn} (hp : cF tbl) (ht : tbl.get (key jU) = some JB) (n : Nat) (yy : Sound tbl eX (gl (gQ n))) (yH : Sound tbl fh (gj (gP n))) : Sound tbl jU (kY (gk n)) := by
  refine Sound.of (dN hp (ps := a_pool_Pool__Image) (rs := z_pool_Pool__Image) (l := [(eX, gl (gQ n)), (fh, gj (gP n))]) (ty := jL) (n := n) (c := uk) ht ⟨yy, yH, trivial⟩) fun args H k r H' h => ?_
  unfold kY at h
  obtain ⟨a0, l0, e0, h0⟩ := cT h
  subst e0
  obtain ⟨e9, h9⟩ := cY h0
  subst e9
  exact (WI n (gQ n) (gP n) a0 H k).trans h9
abbrev dj := AV → Heap → (Int → Heap → CRes) → CRes
abbrev ku := Int → Heap → CRes
def kp (g : dj) : Wr := fun l h k => mm l fun a0 l => mP l (g a0 h fun u0 h => k (.int .i64 u0) h)
def ie (af : cq) : d7 := fq [(eG, fy af)]
abbrev mr (k0 : Q0) (k : ku) : Prop := ∀ u0 h, k0 (.int .i64 u0) h = k u0 h
abbrev rg : Type := Int → Heap → CRes
abbrev vG (J : Q1) (j : rg) : Prop := ∀ v3 h, J ⟨cJ [(p3, (.int .i64 v3))], h⟩ = j v3 h
abbrev kE : Type := Int → AV → Int → Heap → CRes
abbrev rr (J : Q1) (j : kE) : Prop := ∀ v3 v11 v12 h, J ⟨cJ [(p3, (.int .i64 v3)), (p11, v11), (p12, (.int .i64 v12))], h⟩ = j v3 v11 v12 h
section
variable (n : Nat) (af : cq) (k0 : Q0) (k : ku)
def CN (n : Nat) (af : cq) (k0 : Q0) : Q1 := (bH (ie af) fu Ce (cH z_buddy_Buddy__Free k0))
def vP (n : Nat) (af : cq) (k : ku) (v3 : Int) (h : Heap) : CRes :=
 k v3 h
theorem RD (hk : mr k0 k) : vG (CN n af k0 ) (vP n af k ) := by
  obtain rfl := fx2 hk
  intro v3 h
  kernel_rfl
def vE : Q1 := CN n af k0
def nR : rg := vP n af k
theorem RC (hk : mr k0 k) : vG (vE n af k0 ) (nR n af k ) := RD n af k0 k hk
def Cu (n : Nat) (af : cq) (k0 : Q0) (J0 : Q1) (J1 : Q1) : Q1 := (bH (ie af) fu CM (fun s => fg (.t p13) s (bH (ie af) fu CF (bH (ie af) fu Cb (bH (ie af) fu B4 (fun s => cQ vI s J1)))) (fun s => cQ Cw s J0)))
def rh (n : Nat) (af : cq) (k : ku) (j0 : rg) (j1 : kE) (v3 : Int) (v11 : AV) (v12 : Int) (h : Heap) : CRes :=
 ifB (ltF v12 7)
 (Vr 1 7 false v11 v12 fun x4 =>
 ju x4 fun x5 =>
 aci .i64 x5 v12 fun x6 =>
 mG .i64 v3 x6 fun x7 =>
 mG .i64 v12 1 fun x8 =>
 j1 x7 v11 x8 h)
 (j0 v3 h)
theorem Rw (hk : mr k0 k) (J0 : Q1) (j0 : rg) (h0 : vG J0 j0) (J1 : Q1) (j1 : kE) (h1 : rr J1 j1) : rr (Cu n af k0 J0 J1) (rh n af k j0 j1) := by
  obtain rfl := fx2 hk
  obtain rfl := fx2 h0
  obtain rfl := fx4 h1
  intro v3 v11 v12 h
  kernel_rfl
def rq (m : Nat) : Q1 := Nat.rec (motive := fun _ => Q1) (fun _ => .err) (fun _ ih => Cu n af k0 (vE n af k0 ) ih) m
def kH (m : Nat) : kE := Nat.rec (motive := fun _ => kE) (fun _ _ _ _ => .err) (fun _ ih => rh n af k (nR n af k ) ih) m
theorem Ru (m : Nat) : kH n af k (m + 1) = rh n af k (nR n af k ) (kH n af k m) := rfl
theorem RJ (hk : mr k0 k) (m : Nat) : rr (rq n af k0 m) (kH n af k m) := by
  induction m with
  | zero => intro v3 v11 v12 h; rfl
  | succ m ih => exact Rw n af k0 k hk (vE n af k0 ) (nR n af k ) (RC n af k0 k hk ) (rq n af k0 m) (kH n af k m) ih
def He (n : Nat) (af : cq) (k0 : Q0) (J1 : Q1) : Q1 := (bH (ie af) fu CI (bH (ie af) fu B9 (fun s => fg (.t p7) s (bH (ie af) fu B2 (cH z_buddy_Buddy__Free k0)) (bH (ie af) fu Co (bH (ie af) fu Ci (fun s => cQ vI s J1))))))
def yP (n : Nat) (af : cq) (k : ku) (j1 : kE) (a0 : AV) (h : Heap) : CRes :=
 af a0 h fun x0 h1 =>
 ifB x0
 (k 0 h1)
 (acN 2 h1 a0 7 true fun x2 x3 =>
 j1 0 x3 0 h1)
theorem Uv (n : Nat) (af : cq) (k0 : Q0) (k : ku) (hk : mr k0 k) (J1 : Q1) (j1 : kE) (h1 : rr J1 j1) (a0 : AV) (h : Heap) : (He n af k0 J1) ⟨cJ [(p0, a0)], h⟩ = (yP n af k j1) a0 h := by
  obtain rfl := fx2 hk
  obtain rfl := fx4 h1
  kernel_rfl
def UW : Q1 := He n af k0 (rq n af k0 n)
def yz (n : Nat) (af : cq) (a0 : AV) (h : Heap) (k : ku) : CRes := yP n af k (kH n af k n) a0 h
theorem UE (n : Nat) (af : cq) (k0 : Q0) (s : St) : D (fq [(eG, fy af)]) fu n sS (cH z_buddy_Buddy__Free k0) (fun _ _ => .err) (cH z_buddy_Buddy__Free k0) s = UW n af k0 s := by kernel_rfl
theorem U2 (n : Nat) (af : cq) (a0 : AV) (h : Heap) (k0 : Q0) : W a_buddy_Buddy__Free z_buddy_Buddy__Free [(eG, fy af)] fu n sS [a0] h k0 = yz n af a0 h (fun u0 h => k0 (.int .i64 u0) h) := by
  let k : ku := fun u0 h => k0 (.int .i64 u0) h
  have hk : mr k0 k := fun _ _ => rfl
  have hb : ∀ F : Tr AV → CRes, iz a_buddy_Buddy__Free [a0] .leaf F = F (cJ [(p0, a0)]) := fun F => by kernel_rfl
  exact (ny hb).trans ((UE n af k0 _).trans (Uv n af k0 k hk (rq n af k0 n) (kH n af k n) (RJ n af k0 k hk n) a0 h))
end
def iD (n : Nat) : dj := yz n (gw n)
theorem U6 {tbl : Tr AFn} (hp : cF tbl) (ht : tbl.get (key jm) = some Hv) (n : Nat) (xh : Sound tbl eG (fy (gw n))) : Sound tbl jm (kp (iD n)) := by
  refine Sound.of (dN hp (ps := a_buddy_Buddy__Free) (rs := z_buddy_Buddy__Free) (l := [(eG, fy (gw n))]) (ty := fu) (n := n) (c := sS) ht ⟨xh, trivial⟩) fun args H k r H' h => ?_
  unfold kp at h
  obtain ⟨a0, l0, e0, h0⟩ := cT h
  subst e0
  obtain ⟨e9, h9⟩ := cY h0
  subst e9
  exact (U2 n (gw n) a0 H k).trans h9
abbrev cG := AV → Int → Heap → (Int → Int → Heap → CRes) → CRes
abbrev iS := Int → Int → Heap → CRes
def lA (g : cG) : Wr := fun l h k => mm l fun a0 l => pZ .u8 l fun a1 l => mP l (g a0 a1 h fun u0 u1 h => k (.tuple [(.int .i64 u0), (.int .i64 u1)]) h)
def dv (ar : cL) (au : cK) (aC : dj) : d7 := fq [(eX, gl ar), (fh, gj au), (jm, kp aC)]
abbrev jd (k0 : Q0) (k : iS) : Prop := ∀ u0 u1 h, k0 (.tuple [(.int .i64 u0), (.int .i64 u1)]) h = k u0 u1 h
abbrev sP : Type := AV → Int → Int → Heap → CRes
abbrev yr (J : Q1) (j : sP) : Prop := ∀ v0 v1 v6 h, J ⟨cJ [(p0, v0), (p1, (.int .u8 v1)), (p6, (.int .i64 v6))], h⟩ = j v0 v1 v6 h
abbrev sW : Type := AV → Int → Int → AV → Int → Int → Heap → CRes
abbrev yv (J : Q1) (j : sW) : Prop := ∀ v0 v1 v6 v39 v40 v41 h, J ⟨cJ [(p0, v0), (p1, (.int .u8 v1)), (p6, (.int .i64 v6)), (p39, v39), (p40, (.int .i64 v40)), (p41, (.int .i64 v41))], h⟩ = j v0 v1 v6 v39 v40 v41 h
abbrev jl : Type := AV → Int → Int → AV → Int → Int → Heap → CRes
abbrev pK (J : Q1) (j : jl) : Prop := ∀ v0 v1 v6 v39 v40 v41 h, J ⟨cJ [(p0, v0), (p1, (.int .u8 v1)), (p6, (.int .i64 v6)), (p39, v39), (p40, (.int .i64 v40)), (p41, (.int .i64 v41))], h⟩ = j v0 v1 v6 v39 v40 v41 h
abbrev sO : Type := AV → Int → Bool → Heap → CRes
abbrev yO (J : Q1) (j : sO) : Prop := ∀ v0 v1 v21 h, J ⟨cJ [(p0, v0), (p1, (.int .u8 v1)), (p21, (.bool v21))], h⟩ = j v0 v1 v21 h
section
variable (n : Nat) (ar : cL) (au : cK) (aC : dj) (k0 : Q0) (k : iS)
def Hf (n : Nat) (ar : cL) (au : cK) (aC : dj) (k0 : Q0) : Q1 := (bH (dv ar au aC) c0 HH (bH (dv ar au aC) c0 HG (fun s => fg (.t p67) s (bH (dv ar au aC) c0 Hc (cH z_pool_Pool__Take k0)) (bH (dv ar au aC) c0 Hj (cH z_pool_Pool__Take k0)))))
def yJ (n : Nat) (ar : cL) (au : cK) (aC : dj) (k : iS) (v0 : AV) (v1 : Int) (v6 : Int) (h : Heap) : CRes :=
 au v0 v6 0 v1 h fun x11 x12 h13 =>
 ifB (jR (eqF x12 0))
 (k 0 x12 h13)
 (LS .i64 1 h13 x11 0 fun x14 x15 =>
 k x15 0 h13)
theorem UZ (hk : jd k0 k) : yr (Hf n ar au aC k0 ) (yJ n ar au aC k ) := by
  obtain rfl := fx3 hk
  intro v0 v1 v6 h
  kernel_rfl
def yL : Q1 := Hf n ar au aC k0
def nr : sP := yJ n ar au aC k
theorem UK (hk : jd k0 k) : yr (yL n ar au aC k0 ) (nr n ar au aC k ) := UZ n ar au aC k0 k hk
def Hw (n : Nat) (ar : cL) (au : cK) (aC : dj) (k0 : Q0) (J1 : Q1) : Q1 := (bH (dv ar au aC) c0 G9 (fun s => cQ yF s J1))
def yG (n : Nat) (ar : cL) (au : cK) (aC : dj) (k : iS) (j1 : jl) (v0 : AV) (v1 : Int) (v6 : Int) (v39 : AV) (v40 : Int) (v41 : Int) (h : Heap) : CRes :=
 mG .i64 v41 1 fun x26 =>
 j1 v0 v1 v6 v39 v40 x26 h
theorem UJ (hk : jd k0 k) (J1 : Q1) (j1 : jl) (h1 : pK J1 j1) : yv (Hw n ar au aC k0 J1) (yG n ar au aC k j1) := by
  obtain rfl := fx3 hk
  obtain rfl := fx7 h1
  intro v0 v1 v6 v39 v40 v41 h
  kernel_rfl
def yx (J1 : Q1) : Q1 := Hw n ar au aC k0 J1
def pL (j1 : jl) : sW := yG n ar au aC k j1
theorem UC (hk : jd k0 k) (J1 : Q1) (j1 : jl) (h1 : pK J1 j1) : yv (yx n ar au aC k0 J1) (pL n ar au aC k j1) := UJ n ar au aC k0 k hk J1 j1 h1
def Hh (n : Nat) (ar : cL) (au : cK) (aC : dj) (k0 : Q0) (J0 : Q1) (J2 : Q1) : Q1 := (bH (dv ar au aC) c0 Hi (fun s => fg (.t p42) s (bH (dv ar au aC) c0 Hy (bH (dv ar au aC) c0 Hu (fun s => fg (.t p56) s (bH (dv ar au aC) c0 HB (fun s => cQ yM s J2)) (fun s => cQ yM s J2)))) (fun s => cQ Hk s J0)))
def sQ (n : Nat) (ar : cL) (au : cK) (aC : dj) (k : iS) (j0 : sP) (j2 : sW) (v0 : AV) (v1 : Int) (v6 : Int) (v39 : AV) (v40 : Int) (v41 : Int) (h : Heap) : CRes :=
 ifB (ltF v41 v40)
 (eld 1 h v39 v41 1 false fun x16 x17 =>
 aC x17 (h.shut true) fun x18 h19 =>
 acN 11 (h19.back h.ro) v0 1 false fun x20 x21 =>
 eld 1 (h19.back h.ro) x21 v6 1 false fun x22 x23 =>
 aC x23 (h19.back h.ro) fun x24 h25 =>
 ifB (ltF x24 x18)
 (j2 v0 v1 v41 v39 v40 v41 h25)
 (j2 v0 v1 v6 v39 v40 v41 h25))
 (j0 v0 v1 v6 h)
theorem UN (hk : jd k0 k) (J0 : Q1) (j0 : sP) (h0 : yr J0 j0) (J2 : Q1) (j2 : sW) (h2 : yv J2 j2) : pK (Hh n ar au aC k0 J0 J2) (sQ n ar au aC k j0 j2) := by
  obtain rfl := fx3 hk
  obtain rfl := fx4 h0
  obtain rfl := fx7 h2
  intro v0 v1 v6 v39 v40 v41 h
  kernel_rfl
def pI (m : Nat) : Q1 := Nat.rec (motive := fun _ => Q1) (fun _ => .err) (fun _ ih => Hh n ar au aC k0 (yL n ar au aC k0 ) (yx n ar au aC k0 ih)) m
def kq (m : Nat) : jl := Nat.rec (motive := fun _ => jl) (fun _ _ _ _ _ _ _ => .err) (fun _ ih => sQ n ar au aC k (nr n ar au aC k ) (pL n ar au aC k ih)) m
theorem UQ (m : Nat) : kq n ar au aC k (m + 1) = sQ n ar au aC k (nr n ar au aC k ) (pL n ar au aC k (kq n ar au aC k m)) := rfl
theorem Uu (hk : jd k0 k) (m : Nat) : pK (pI n ar au aC k0 m) (kq n ar au aC k m) := by
  induction m with
  | zero => intro v0 v1 v6 v39 v40 v41 h; rfl
  | succ m ih => exact UN n ar au aC k0 k hk (yL n ar au aC k0 ) (nr n ar au aC k ) (UK n ar au aC k0 k hk ) (yx n ar au aC k0 (pI n ar au aC k0 m)) (pL n ar au aC k (kq n ar au aC k m)) (UC n ar au aC k0 k hk (pI n ar au aC k0 m) (kq n ar au aC k m) ih)
def G7 (n : Nat) (ar : cL) (au : cK) (aC : dj) (k0 : Q0) (J1 : Q1) : Q1 := (bH (dv ar au aC) c0 E5 (fun s => fg (.t p15) s (bH (dv ar au aC) c0 EQ (cH z_pool_Pool__Take k0)) (bH (dv ar au aC) c0 Fi (fun s => fg (.t p22) s (bH (dv ar au aC) c0 EK (cH z_pool_Pool__Take k0)) (bH (dv ar au aC) c0 EO (bH (dv ar au aC) c0 HD (fun s => cQ yF s J1)))))))
def ys (n : Nat) (ar : cL) (au : cK) (aC : dj) (k : iS) (j1 : jl) (v0 : AV) (v1 : Int) (v21 : Bool) (h : Heap) : CRes :=
 ifB v21
 (k 0 2 h)
 (nfa 13 v0 fun x2 =>
 Pv 1 7 x2 v1 fun x3 =>
 ldI .i64 h x3 fun x4 =>
 nfa 3 v0 fun x5 =>
 Pv 1 7 x5 v1 fun x6 =>
 ldI .i64 h x6 fun x7 =>
 ifB (jR (ltF x4 x7))
 (k 0 4 h)
 (acN 11 h v0 1 false fun x8 x9 =>
 ju x9 fun x10 =>
 j1 v0 v1 0 x9 x10 0 h))
theorem UR (hk : jd k0 k) (J1 : Q1) (j1 : jl) (h1 : pK J1 j1) : yO (G7 n ar au aC k0 J1) (ys n ar au aC k j1) := by
  obtain rfl := fx3 hk
  obtain rfl := fx7 h1
  intro v0 v1 v21 h
  kernel_rfl
def yE : Q1 := G7 n ar au aC k0 (pI n ar au aC k0 n)
def sT : sO := ys n ar au aC k (kq n ar au aC k n)
theorem U3 (hk : jd k0 k) : yO (yE n ar au aC k0 ) (sT n ar au aC k ) := UR n ar au aC k0 k hk (pI n ar au aC k0 n) (kq n ar au aC k n) (Uu n ar au aC k0 k hk n)
def LD (n : Nat) (ar : cL) (au : cK) (aC : dj) (k0 : Q0) (J3 : Q1) : Q1 := (bH (dv ar au aC) c0 E2 (bH (dv ar au aC) c0 Fp (fun s => fg (.t p11) s (bH (dv ar au aC) c0 EF (cH z_pool_Pool__Take k0)) (bH (dv ar au aC) c0 Fg (fun s => cQ HC s J3)))))
def Au (n : Nat) (ar : cL) (au : cK) (aC : dj) (k : iS) (j3 : sO) (a0 : AV) (a1 : Int) (h : Heap) : CRes :=
 ar a0 h fun x0 h1 =>
 ifB (jR x0)
 (k 0 1 h1)
 (ifB (ltF a1 2)
 (j3 a0 a1 true h1)
 (j3 a0 a1 (ltF 6 a1) h1))
theorem Yd (n : Nat) (ar : cL) (au : cK) (aC : dj) (k0 : Q0) (k : iS) (hk : jd k0 k) (J3 : Q1) (j3 : sO) (h3 : yO J3 j3) (a0 : AV) (a1 : Int) (h : Heap) : (LD n ar au aC k0 J3) ⟨cJ [(p0, a0), (p1, (.int .u8 a1))], h⟩ = (Au n ar au aC k j3) a0 a1 h := by
  obtain rfl := fx3 hk
  obtain rfl := fx4 h3
  kernel_rfl
def YX : Q1 := LD n ar au aC k0 (yE n ar au aC k0 )
def AR (n : Nat) (ar : cL) (au : cK) (aC : dj) (a0 : AV) (a1 : Int) (h : Heap) (k : iS) : CRes := Au n ar au aC k (sT n ar au aC k ) a0 a1 h
theorem Yn (n : Nat) (ar : cL) (au : cK) (aC : dj) (k0 : Q0) (s : St) : D (fq [(eX, gl ar), (fh, gj au), (jm, kp aC)]) c0 n wj (cH z_pool_Pool__Take k0) (fun _ _ => .err) (cH z_pool_Pool__Take k0) s = YX n ar au aC k0 s := by kernel_rfl
theorem Xq (n : Nat) (ar : cL) (au : cK) (aC : dj) (a0 : AV) (a1 : Int) (h : Heap) (k0 : Q0) : W a_pool_Pool__Take z_pool_Pool__Take [(eX, gl ar), (fh, gj au), (jm, kp aC)] c0 n wj [a0, (.int .u8 a1)] h k0 = AR n ar au aC a0 a1 h (fun u0 u1 h => k0 (.tuple [(.int .i64 u0), (.int .i64 u1)]) h) := by
  let k : iS := fun u0 u1 h => k0 (.tuple [(.int .i64 u0), (.int .i64 u1)]) h
  have hk : jd k0 k := fun _ _ _ => rfl
  have hb : ∀ F : Tr AV → CRes, iz a_pool_Pool__Take [a0, (.int .u8 a1)] .leaf F = F (cJ [(p0, a0), (p1, (.int .u8 a1))]) := fun F => by kernel_rfl
  exact (ny hb).trans ((Yn n ar au aC k0 _).trans (Yd n ar au aC k0 k hk (yE n ar au aC k0 ) (sT n ar au aC k ) (U3 n ar au aC k0 k hk ) a0 a1 h))
end
def eE (n : Nat) : cG := AR n (gQ n) (gP n) (iD n)
theorem Yl {tbl : Tr AFn} (hp : cF tbl) (ht : tbl.get (key kI) = some KN) (n : Nat) (yy : Sound tbl eX (gl (gQ n))) (yH : Sound tbl fh (gj (gP n))) (R2 : Sound tbl jm (kp (iD n))) : Sound tbl kI (lA (eE n)) := by
  refine Sound.of (dN hp (ps := a_pool_Pool__Take) (rs := z_pool_Pool__Take) (l := [(eX, gl (gQ n)), (fh, gj (gP n)), (jm, kp (iD n))]) (ty := c0) (n := n) (c := wj) ht ⟨yy, yH, R2, trivial⟩) fun args H k r H' h => ?_
  unfold lA at h
  obtain ⟨a0, l0, e0, h0⟩ := cT h
  subst e0
  obtain ⟨a1, l1, e1, h1⟩ := dQ h0
  subst e1
  obtain ⟨e9, h9⟩ := cY h1
  subst e9
  exact (Xq n (gQ n) (gP n) (iD n) a0 a1 H k).trans h9
/-! cofferdam/cofferdamlaw12.PoolApart -/
abbrev wH := AV → AV → Heap → (Bool → Heap → CRes) → CRes
abbrev cD := Bool → Heap → CRes
def qO (g : wH) : Wr := fun l h k => mm l fun a0 l => mm l fun a1 l => mP l (g a0 a1 h fun u0 h => k (.bool u0) h)
def cn (ae : Wr) (aG : eR) (aw : dh) (ah : cE) (ak : cG) : d7 := fq [(lr, ae), (ud, wX aG), (mS, nX aw), (jU, kY ah), (kI, lA ak)]
abbrev cv (k0 : Q0) (k : cD) : Prop := ∀ u0 h, k0 (.bool u0) h = k u0 h
abbrev l7 : Type := Heap → CRes
abbrev pF (J : Q1) (j : l7) : Prop := ∀ h, J ⟨cJ [], h⟩ = j h
abbrev lK : Type := AV → AV → AV → Int → Heap → CRes
abbrev pk (J : Q1) (j : lK) : Prop := ∀ v1 v2 v5 v6 h, J ⟨cJ [(p1, v1), (p2, v2), (p5, v5), (p6, (.int .i64 v6))], h⟩ = j v1 v2 v5 v6 h
abbrev gS : Type := AV → AV → AV → Int → AV → Int → Heap → CRes
abbrev lW (J : Q1) (j : gS) : Prop := ∀ v1 v2 v5 v6 v9 v14 h, J ⟨cJ [(p1, v1), (p2, v2), (p5, v5), (p6, (.int .i64 v6)), (p9, v9), (p14, (.int .i64 v14))], h⟩ = j v1 v2 v5 v6 v9 v14 h
abbrev mb : Type := AV → AV → AV → Int → AV → Heap → CRes
abbrev oS (J : Q1) (j : mb) : Prop := ∀ v1 v2 v5 v6 v9 h, J ⟨cJ [(p1, v1), (p2, v2), (p5, v5), (p6, (.int .i64 v6)), (p9, v9)], h⟩ = j v1 v2 v5 v6 v9 h
abbrev lU : Type := AV → AV → AV → Int → AV → AV → Int → Heap → CRes
abbrev o0 (J : Q1) (j : lU) : Prop := ∀ v1 v2 v5 v6 v7 v9 v11 h, J ⟨cJ [(p1, v1), (p2, v2), (p5, v5), (p6, (.int .i64 v6)), (p7, v7), (p9, v9), (p11, (.int .i64 v11))], h⟩ = j v1 v2 v5 v6 v7 v9 v11 h
abbrev lP : Type := AV → AV → AV → Int → AV → AV → Int → Bool → Heap → CRes
abbrev pr (J : Q1) (j : lP) : Prop := ∀ v1 v2 v5 v6 v7 v9 v11 v56 h, J ⟨cJ [(p1, v1), (p2, v2), (p5, v5), (p6, (.int .i64 v6)), (p7, v7), (p9, v9), (p11, (.int .i64 v11)), (p56, (.bool v56))], h⟩ = j v1 v2 v5 v6 v7 v9 v11 v56 h
abbrev dB : Type := AV → AV → AV → Int → AV → AV → Int → Heap → CRes
abbrev iM (J : Q1) (j : dB) : Prop := ∀ v1 v2 v5 v6 v7 v9 v11 h, J ⟨cJ [(p1, v1), (p2, v2), (p5, v5), (p6, (.int .i64 v6)), (p7, v7), (p9, v9), (p11, (.int .i64 v11))], h⟩ = j v1 v2 v5 v6 v7 v9 v11 h
abbrev lQ : Type := Bool → Heap → CRes
abbrev pB (J : Q1) (j : lQ) : Prop := ∀ v43 h, J ⟨cJ [(p43, (.bool v43))], h⟩ = j v43 h
abbrev l6 : Type := AV → AV → AV → Int → Bool → Heap → CRes
abbrev oW (J : Q1) (j : l6) : Prop := ∀ v1 v2 v5 v6 v26 h, J ⟨cJ [(p1, v1), (p2, v2), (p5, v5), (p6, (.int .i64 v6)), (p26, (.bool v26))], h⟩ = j v1 v2 v5 v6 v26 h
abbrev cw : Type := AV → AV → AV → Int → Heap → CRes
abbrev dX (J : Q1) (j : cw) : Prop := ∀ v1 v2 v5 v6 h, J ⟨cJ [(p1, v1), (p2, v2), (p5, v5), (p6, (.int .i64 v6))], h⟩ = j v1 v2 v5 v6 h
section
variable (n : Nat) (ae : Wr) (aG : eR) (aw : dh) (ah : cE) (ak : cG) (k0 : Q0) (k : cD)
def uF (n : Nat) (ae : Wr) (aG : eR) (aw : dh) (ah : cE) (ak : cG) (k0 : Q0) : Q1 := (bH (cn ae aG aw ah ak) b7 uv (cH z_cofferdamlaw12_PoolApart k0))
def ph (n : Nat) (ae : Wr) (aG : eR) (aw : dh) (ah : cE) (ak : cG) (k : cD) (h : Heap) : CRes :=
 k true h
theorem Gu (hk : cv k0 k) : pF (uF n ae aG aw ah ak k0 ) (ph n ae aG aw ah ak k ) := by
  obtain rfl := fx2 hk
  intro h
  kernel_rfl
def pd : Q1 := uF n ae aG aw ah ak k0
def lR : l7 := ph n ae aG aw ah ak k
theorem FO (hk : cv k0 k) : pF (pd n ae aG aw ah ak k0 ) (lR n ae aG aw ah ak k ) := Gu n ae aG aw ah ak k0 k hk
def uN (n : Nat) (ae : Wr) (aG : eR) (aw : dh) (ah : cE) (ak : cG) (k0 : Q0) (J1 : Q1) : Q1 := (bH (cn ae aG aw ah ak) b7 uJ (fun s => cQ pt s J1))
def oT (n : Nat) (ae : Wr) (aG : eR) (aw : dh) (ah : cE) (ak : cG) (k : cD) (j1 : cw) (v1 : AV) (v2 : AV) (v5 : AV) (v6 : Int) (h : Heap) : CRes :=
 mG .i64 v6 1 fun x21 =>
 j1 v1 v2 v5 x21 h
theorem GA (hk : cv k0 k) (J1 : Q1) (j1 : cw) (h1 : dX J1 j1) : pk (uN n ae aG aw ah ak k0 J1) (oT n ae aG aw ah ak k j1) := by
  obtain rfl := fx2 hk
  obtain rfl := fx5 h1
  intro v1 v2 v5 v6 h
  kernel_rfl
def pz (J1 : Q1) : Q1 := uN n ae aG aw ah ak k0 J1
def kh (j1 : cw) : lK := oT n ae aG aw ah ak k j1
theorem Ga (hk : cv k0 k) (J1 : Q1) (j1 : cw) (h1 : dX J1 j1) : pk (pz n ae aG aw ah ak k0 J1) (kh n ae aG aw ah ak k j1) := GA n ae aG aw ah ak k0 k hk J1 j1 h1
def uH (n : Nat) (ae : Wr) (aG : eR) (aw : dh) (ah : cE) (ak : cG) (k0 : Q0) (J2 : Q1) (J3 : Q1) : Q1 := (bH (cn ae aG aw ah ak) b7 uW (fun s => fg (.t p80) s (bH (cn ae aG aw ah ak) b7 vd (fun s => fg (.t p90) s (bH (cn ae aG aw ah ak) b7 vc (cH z_cofferdamlaw12_PoolApart k0)) (bH (cn ae aG aw ah ak) b7 uI (bH (cn ae aG aw ah ak) b7 ut (fun s => cQ oX s J3))))) (fun s => cQ vr s J2)))
def lT (n : Nat) (ae : Wr) (aG : eR) (aw : dh) (ah : cE) (ak : cG) (k : cD) (j2 : lK) (j3 : gS) (v1 : AV) (v2 : AV) (v5 : AV) (v6 : Int) (v9 : AV) (v14 : Int) (h : Heap) : CRes :=
 ju v9 fun x22 =>
 ifB (ltF v14 x22)
 (LS .i64 1 h v9 v14 fun x23 x24 =>
 LS .i64 1 h v5 x24 fun x25 x26 =>
 ifB (jR (eqF x26 0))
 (k false h)
 (LS .i64 1 h v9 v14 fun x27 x28 =>
 mG .i64 1 v6 fun x29 =>
 est 1 h v5 x28 1 (.int .i64 x29) fun x30 h31 =>
 mG .i64 v14 1 fun x32 =>
 j3 v1 v2 v5 v6 v9 x32 h31))
 (j2 v1 v2 v5 v6 h)
theorem GY (hk : cv k0 k) (J2 : Q1) (j2 : lK) (h2 : pk J2 j2) (J3 : Q1) (j3 : gS) (h3 : lW J3 j3) : lW (uH n ae aG aw ah ak k0 J2 J3) (lT n ae aG aw ah ak k j2 j3) := by
  obtain rfl := fx2 hk
  obtain rfl := fx5 h2
  obtain rfl := fx7 h3
  intro v1 v2 v5 v6 v9 v14 h
  kernel_rfl
def lX (J1 : Q1) (m : Nat) : Q1 := Nat.rec (motive := fun _ => Q1) (fun _ => .err) (fun _ ih => uH n ae aG aw ah ak k0 (pz n ae aG aw ah ak k0 J1) ih) m
def gR (j1 : cw) (m : Nat) : gS := Nat.rec (motive := fun _ => gS) (fun _ _ _ _ _ _ _ => .err) (fun _ ih => lT n ae aG aw ah ak k (kh n ae aG aw ah ak k j1) ih) m
theorem GO (j1 : cw) (m : Nat) : gR n ae aG aw ah ak k j1 (m + 1) = lT n ae aG aw ah ak k (kh n ae aG aw ah ak k j1) (gR n ae aG aw ah ak k j1 m) := rfl
theorem Gi (hk : cv k0 k) (J1 : Q1) (j1 : cw) (h1 : dX J1 j1) (m : Nat) : lW (lX n ae aG aw ah ak k0 J1 m) (gR n ae aG aw ah ak k j1 m) := by
  induction m with
  | zero => intro v1 v2 v5 v6 v9 v14 h; rfl
  | succ m ih => exact GY n ae aG aw ah ak k0 k hk (pz n ae aG aw ah ak k0 J1) (kh n ae aG aw ah ak k j1) (Ga n ae aG aw ah ak k0 k hk J1 j1 h1) (lX n ae aG aw ah ak k0 J1 m) (gR n ae aG aw ah ak k j1 m) ih
def vk (n : Nat) (ae : Wr) (aG : eR) (aw : dh) (ah : cE) (ak : cG) (k0 : Q0) (J3 : Q1) : Q1 := (bH (cn ae aG aw ah ak) b7 uG (fun s => cQ oX s J3))
def py (n : Nat) (ae : Wr) (aG : eR) (aw : dh) (ah : cE) (ak : cG) (k : cD) (j3 : gS) (v1 : AV) (v2 : AV) (v5 : AV) (v6 : Int) (v9 : AV) (h : Heap) : CRes :=
 j3 v1 v2 v5 v6 v9 0 h
theorem FF (hk : cv k0 k) (J3 : Q1) (j3 : gS) (h3 : lW J3 j3) : oS (vk n ae aG aw ah ak k0 J3) (py n ae aG aw ah ak k j3) := by
  obtain rfl := fx2 hk
  obtain rfl := fx7 h3
  intro v1 v2 v5 v6 v9 h
  kernel_rfl
def oZ (J1 : Q1) : Q1 := vk n ae aG aw ah ak k0 (lX n ae aG aw ah ak k0 J1 n)
def iO (j1 : cw) : mb := py n ae aG aw ah ak k (gR n ae aG aw ah ak k j1 n)
theorem Gc (hk : cv k0 k) (J1 : Q1) (j1 : cw) (h1 : dX J1 j1) : oS (oZ n ae aG aw ah ak k0 J1) (iO n ae aG aw ah ak k j1) := FF n ae aG aw ah ak k0 k hk (lX n ae aG aw ah ak k0 J1 n) (gR n ae aG aw ah ak k j1 n) (Gi n ae aG aw ah ak k0 k hk J1 j1 h1 n)
def uV (n : Nat) (ae : Wr) (aG : eR) (aw : dh) (ah : cE) (ak : cG) (k0 : Q0) (J5 : Q1) : Q1 := (bH (cn ae aG aw ah ak) b7 vh (fun s => cQ pu s J5))
def pl (n : Nat) (ae : Wr) (aG : eR) (aw : dh) (ah : cE) (ak : cG) (k : cD) (j5 : dB) (v1 : AV) (v2 : AV) (v5 : AV) (v6 : Int) (v7 : AV) (v9 : AV) (v11 : Int) (h : Heap) : CRes :=
 mG .i64 v11 1 fun x45 =>
 j5 v1 v2 v5 v6 v7 v9 x45 h
theorem Gb (hk : cv k0 k) (J5 : Q1) (j5 : dB) (h5 : iM J5 j5) : o0 (uV n ae aG aw ah ak k0 J5) (pl n ae aG aw ah ak k j5) := by
  obtain rfl := fx2 hk
  obtain rfl := fx8 h5
  intro v1 v2 v5 v6 v7 v9 v11 h
  kernel_rfl
def pG (J5 : Q1) : Q1 := uV n ae aG aw ah ak k0 J5
def lS (j5 : dB) : lU := pl n ae aG aw ah ak k j5
theorem Gl (hk : cv k0 k) (J5 : Q1) (j5 : dB) (h5 : iM J5 j5) : o0 (pG n ae aG aw ah ak k0 J5) (lS n ae aG aw ah ak k j5) := Gb n ae aG aw ah ak k0 k hk J5 j5 h5
def uA (n : Nat) (ae : Wr) (aG : eR) (aw : dh) (ah : cE) (ak : cG) (k0 : Q0) (J4 : Q1) (J6 : Q1) : Q1 := (fun s => fg (.t p56) s (bH (cn ae aG aw ah ak) b7 tF (bH (cn ae aG aw ah ak) b7 tP (fun s => fg (.t p72) s (bH (cn ae aG aw ah ak) b7 uZ (fun s => cQ pj s J6)) (fun s => cQ pj s J6)))) (fun s => cQ uq s J4))
def oR (n : Nat) (ae : Wr) (aG : eR) (aw : dh) (ah : cE) (ak : cG) (k : cD) (j4 : mb) (j6 : lU) (v1 : AV) (v2 : AV) (v5 : AV) (v6 : Int) (v7 : AV) (v9 : AV) (v11 : Int) (v56 : Bool) (h : Heap) : CRes :=
 ifB v56
 (adq 3 v1 v11 fun x33 =>
 mg .u8 2 h x33 fun x34 x35 =>
 remK .u8 x35 5 fun x36 =>
 mG .u8 2 x36 fun x37 =>
 ak v7 x37 h fun x38 x39 h40 =>
 ifB (eqF x39 0)
 (qQ h40 1 [(.int .i64 0)] [(0, 1, (.int .i64 x38))] fun x41 h42 =>
 re h42 1 v9 x41 fun x43 h44 =>
 j6 v1 v2 v5 v6 v7 x43 v11 h44)
 (j6 v1 v2 v5 v6 v7 v9 v11 h40))
 (j4 v1 v2 v5 v6 v9 h)
theorem GK (hk : cv k0 k) (J4 : Q1) (j4 : mb) (h4 : oS J4 j4) (J6 : Q1) (j6 : lU) (h6 : o0 J6 j6) : pr (uA n ae aG aw ah ak k0 J4 J6) (oR n ae aG aw ah ak k j4 j6) := by
  obtain rfl := fx2 hk
  obtain rfl := fx6 h4
  obtain rfl := fx8 h6
  intro v1 v2 v5 v6 v7 v9 v11 v56 h
  kernel_rfl
def px (J1 : Q1) (J5 : Q1) : Q1 := uA n ae aG aw ah ak k0 (oZ n ae aG aw ah ak k0 J1) (pG n ae aG aw ah ak k0 J5)
def jX (j1 : cw) (j5 : dB) : lP := oR n ae aG aw ah ak k (iO n ae aG aw ah ak k j1) (lS n ae aG aw ah ak k j5)
theorem Fv (hk : cv k0 k) (J1 : Q1) (j1 : cw) (h1 : dX J1 j1) (J5 : Q1) (j5 : dB) (h5 : iM J5 j5) : pr (px n ae aG aw ah ak k0 J1 J5) (jX n ae aG aw ah ak k j1 j5) := GK n ae aG aw ah ak k0 k hk (oZ n ae aG aw ah ak k0 J1) (iO n ae aG aw ah ak k j1) (Gc n ae aG aw ah ak k0 k hk J1 j1 h1) (pG n ae aG aw ah ak k0 J5) (lS n ae aG aw ah ak k j5) (Gl n ae aG aw ah ak k0 k hk J5 j5 h5)
def uO (n : Nat) (ae : Wr) (aG : eR) (aw : dh) (ah : cE) (ak : cG) (k0 : Q0) (J7 : Q1) : Q1 := (bH (cn ae aG aw ah ak) b7 tx (fun s => cQ uw s J7))
def l9 (n : Nat) (ae : Wr) (aG : eR) (aw : dh) (ah : cE) (ak : cG) (k : cD) (j7 : lP) (v1 : AV) (v2 : AV) (v5 : AV) (v6 : Int) (v7 : AV) (v9 : AV) (v11 : Int) (h : Heap) : CRes :=
 ju v1 fun x20 =>
 ifB (ltF v11 x20)
 (j7 v1 v2 v5 v6 v7 v9 v11 (ltF v11 40) h)
 (j7 v1 v2 v5 v6 v7 v9 v11 false h)
theorem F4 (hk : cv k0 k) (J7 : Q1) (j7 : lP) (h7 : pr J7 j7) : iM (uO n ae aG aw ah ak k0 J7) (l9 n ae aG aw ah ak k j7) := by
  obtain rfl := fx2 hk
  obtain rfl := fx9 h7
  intro v1 v2 v5 v6 v7 v9 v11 h
  kernel_rfl
def jV (J1 : Q1) (m : Nat) : Q1 := Nat.rec (motive := fun _ => Q1) (fun _ => .err) (fun _ ih => uO n ae aG aw ah ak k0 (px n ae aG aw ah ak k0 J1 ih)) m
def eA (j1 : cw) (m : Nat) : dB := Nat.rec (motive := fun _ => dB) (fun _ _ _ _ _ _ _ _ => .err) (fun _ ih => l9 n ae aG aw ah ak k (jX n ae aG aw ah ak k j1 ih)) m
theorem FQ (j1 : cw) (m : Nat) : eA n ae aG aw ah ak k j1 (m + 1) = l9 n ae aG aw ah ak k (jX n ae aG aw ah ak k j1 (eA n ae aG aw ah ak k j1 m)) := rfl
theorem Gg (hk : cv k0 k) (J1 : Q1) (j1 : cw) (h1 : dX J1 j1) (m : Nat) : iM (jV n ae aG aw ah ak k0 J1 m) (eA n ae aG aw ah ak k j1 m) := by
  induction m with
  | zero => intro v1 v2 v5 v6 v7 v9 v11 h; rfl
  | succ m ih => exact F4 n ae aG aw ah ak k0 k hk (px n ae aG aw ah ak k0 J1 (jV n ae aG aw ah ak k0 J1 m)) (jX n ae aG aw ah ak k j1 (eA n ae aG aw ah ak k j1 m)) (Fv n ae aG aw ah ak k0 k hk J1 j1 h1 (jV n ae aG aw ah ak k0 J1 m) (eA n ae aG aw ah ak k j1 m) ih)
def vu (n : Nat) (ae : Wr) (aG : eR) (aw : dh) (ah : cE) (ak : cG) (k0 : Q0) : Q1 := (bH (cn ae aG aw ah ak) b7 tO (cH z_cofferdamlaw12_PoolApart k0))
def pq (n : Nat) (ae : Wr) (aG : eR) (aw : dh) (ah : cE) (ak : cG) (k : cD) (v43 : Bool) (h : Heap) : CRes :=
 k v43 h
theorem Gt (hk : cv k0 k) : pB (vu n ae aG aw ah ak k0 ) (pq n ae aG aw ah ak k ) := by
  obtain rfl := fx2 hk
  intro v43 h
  kernel_rfl
def pE : Q1 := vu n ae aG aw ah ak k0
def mc : lQ := pq n ae aG aw ah ak k
theorem Gj (hk : cv k0 k) : pB (pE n ae aG aw ah ak k0 ) (mc n ae aG aw ah ak k ) := Gt n ae aG aw ah ak k0 k hk
def vn (n : Nat) (ae : Wr) (aG : eR) (aw : dh) (ah : cE) (ak : cG) (k0 : Q0) (J0 : Q1) (J5 : Q1) (J8 : Q1) : Q1 := (fun s => fg (.t p26) s (bH (cn ae aG aw ah ak) b7 tU (bH (cn ae aG aw ah ak) b7 ua (fun s => fg (.t p36) s (bH (cn ae aG aw ah ak) b7 tL (fun s => cQ uQ s J8)) (bH (cn ae aG aw ah ak) b7 ub (bH (cn ae aG aw ah ak) b7 tM (fun s => cQ pu s J5)))))) (fun s => cQ uK s J0))
def oV (n : Nat) (ae : Wr) (aG : eR) (aw : dh) (ah : cE) (ak : cG) (k : cD) (j0 : l7) (j5 : dB) (j8 : lQ) (v1 : AV) (v2 : AV) (v5 : AV) (v6 : Int) (v26 : Bool) (h : Heap) : CRes :=
 ifB v26
 (iI h v2 17 true fun x10 =>
 aG x10 v6 h fun x11 x12 h13 =>
 ifB (jR (eqF x12 0))
 (ifB (eqF x12 5)
 (iI h13 v2 17 true fun x14 =>
 aw x14 h13 fun x15 h16 =>
 j8 (jR x15) h16)
 (j8 false h13))
 (ah x11 h13 fun x17 x18 h19 =>
 j5 v1 v2 v5 v6 x11 x17 0 h19))
 (j0 h)
theorem G3 (hk : cv k0 k) (J0 : Q1) (j0 : l7) (h0 : pF J0 j0) (J5 : Q1) (j5 : dB) (h5 : iM J5 j5) (J8 : Q1) (j8 : lQ) (h8 : pB J8 j8) : oW (vn n ae aG aw ah ak k0 J0 J5 J8) (oV n ae aG aw ah ak k j0 j5 j8) := by
  obtain rfl := fx2 hk
  obtain rfl := fx1 h0
  obtain rfl := fx8 h5
  obtain rfl := fx2 h8
  intro v1 v2 v5 v6 v26 h
  kernel_rfl
def oU (J1 : Q1) : Q1 := vn n ae aG aw ah ak k0 (pd n ae aG aw ah ak k0 ) (jV n ae aG aw ah ak k0 J1 n) (pE n ae aG aw ah ak k0 )
def ki (j1 : cw) : l6 := oV n ae aG aw ah ak k (lR n ae aG aw ah ak k ) (eA n ae aG aw ah ak k j1 n) (mc n ae aG aw ah ak k )
theorem GE (hk : cv k0 k) (J1 : Q1) (j1 : cw) (h1 : dX J1 j1) : oW (oU n ae aG aw ah ak k0 J1) (ki n ae aG aw ah ak k j1) := G3 n ae aG aw ah ak k0 k hk (pd n ae aG aw ah ak k0 ) (lR n ae aG aw ah ak k ) (FO n ae aG aw ah ak k0 k hk ) (jV n ae aG aw ah ak k0 J1 n) (eA n ae aG aw ah ak k j1 n) (Gg n ae aG aw ah ak k0 k hk J1 j1 h1 n) (pE n ae aG aw ah ak k0 ) (mc n ae aG aw ah ak k ) (Gj n ae aG aw ah ak k0 k hk )
def uT (n : Nat) (ae : Wr) (aG : eR) (aw : dh) (ah : cE) (ak : cG) (k0 : Q0) (J9 : Q1) : Q1 := (bH (cn ae aG aw ah ak) b7 tX (fun s => cQ uU s J9))
def lZ (n : Nat) (ae : Wr) (aG : eR) (aw : dh) (ah : cE) (ak : cG) (k : cD) (j9 : l6) (v1 : AV) (v2 : AV) (v5 : AV) (v6 : Int) (h : Heap) : CRes :=
 fld 16 h v2 1 false fun x7 x8 =>
 ju x8 fun x9 =>
 ifB (ltF v6 x9)
 (j9 v1 v2 v5 v6 (ltF v6 8) h)
 (j9 v1 v2 v5 v6 false h)
theorem F9 (hk : cv k0 k) (J9 : Q1) (j9 : l6) (h9 : oW J9 j9) : dX (uT n ae aG aw ah ak k0 J9) (lZ n ae aG aw ah ak k j9) := by
  obtain rfl := fx2 hk
  obtain rfl := fx6 h9
  intro v1 v2 v5 v6 h
  kernel_rfl
def kg (m : Nat) : Q1 := Nat.rec (motive := fun _ => Q1) (fun _ => .err) (fun _ ih => uT n ae aG aw ah ak k0 (oU n ae aG aw ah ak k0 ih)) m
def dC (m : Nat) : cw := Nat.rec (motive := fun _ => cw) (fun _ _ _ _ _ => .err) (fun _ ih => lZ n ae aG aw ah ak k (ki n ae aG aw ah ak k ih)) m
theorem FK (m : Nat) : dC n ae aG aw ah ak k (m + 1) = lZ n ae aG aw ah ak k (ki n ae aG aw ah ak k (dC n ae aG aw ah ak k m)) := rfl
theorem Gy (hk : cv k0 k) (m : Nat) : dX (kg n ae aG aw ah ak k0 m) (dC n ae aG aw ah ak k m) := by
  induction m with
  | zero => intro v1 v2 v5 v6 h; rfl
  | succ m ih => exact F9 n ae aG aw ah ak k0 k hk (oU n ae aG aw ah ak k0 (kg n ae aG aw ah ak k0 m)) (ki n ae aG aw ah ak k (dC n ae aG aw ah ak k m)) (GE n ae aG aw ah ak k0 k hk (kg n ae aG aw ah ak k0 m) (dC n ae aG aw ah ak k m) ih)
def xb (n : Nat) (ae : Wr) (aG : eR) (aw : dh) (ah : cE) (ak : cG) (k0 : Q0) (J1 : Q1) : Q1 := (bH (cn ae aG aw ah ak) b7 tW (bH (cn ae aG aw ah ak) b7 tQ (fun s => fg (.t p16) s (bH (cn ae aG aw ah ak) b7 tV (cH z_cofferdamlaw12_PoolApart k0)) (bH (cn ae aG aw ah ak) b7 tz (bH (cn ae aG aw ah ak) b7 tK (fun s => cQ pt s J1))))))
def qL (n : Nat) (ae : Wr) (aG : eR) (aw : dh) (ah : cE) (ak : cG) (k : cD) (j1 : cw) (a0 : AV) (a1 : AV) (h : Heap) : CRes :=
 Al h a0 fun x0 h1 =>
 ae [] h1 fun x2 h3 =>
 HJ x2 fun x4 =>
 ifB (jR x4)
 (k false h3)
 (mkK h3 [(.int .i64 0)] 4096 4096 fun x5 h6 =>
 j1 a1 (.ptr x0 0) x5 0 h6)
theorem IZ (n : Nat) (ae : Wr) (aG : eR) (aw : dh) (ah : cE) (ak : cG) (k0 : Q0) (k : cD) (hk : cv k0 k) (J1 : Q1) (j1 : cw) (h1 : dX J1 j1) (a0 : AV) (a1 : AV) (h : Heap) : (xb n ae aG aw ah ak k0 J1) ⟨cJ [(p0, a0), (p1, a1)], h⟩ = (qL n ae aG aw ah ak k j1) a0 a1 h := by
  obtain rfl := fx2 hk
  obtain rfl := fx5 h1
  kernel_rfl
def JA : Q1 := xb n ae aG aw ah ak k0 (kg n ae aG aw ah ak k0 n)
def qA (n : Nat) (ae : Wr) (aG : eR) (aw : dh) (ah : cE) (ak : cG) (a0 : AV) (a1 : AV) (h : Heap) (k : cD) : CRes := qL n ae aG aw ah ak k (dC n ae aG aw ah ak k n) a0 a1 h
theorem Ju (n : Nat) (ae : Wr) (aG : eR) (aw : dh) (ah : cE) (ak : cG) (k0 : Q0) (s : St) : D (fq [(lr, ae), (ud, wX aG), (mS, nX aw), (jU, kY ah), (kI, lA ak)]) b7 n nk (cH z_cofferdamlaw12_PoolApart k0) (fun _ _ => .err) (cH z_cofferdamlaw12_PoolApart k0) s = JA n ae aG aw ah ak k0 s := by kernel_rfl
theorem Jr (n : Nat) (ae : Wr) (aG : eR) (aw : dh) (ah : cE) (ak : cG) (a0 : AV) (a1 : AV) (h : Heap) (k0 : Q0) : W a_cofferdamlaw12_PoolApart z_cofferdamlaw12_PoolApart [(lr, ae), (ud, wX aG), (mS, nX aw), (jU, kY ah), (kI, lA ak)] b7 n nk [a0, a1] h k0 = qA n ae aG aw ah ak a0 a1 h (fun u0 h => k0 (.bool u0) h) := by
  let k : cD := fun u0 h => k0 (.bool u0) h
  have hk : cv k0 k := fun _ _ => rfl
  have hb : ∀ F : Tr AV → CRes, iz a_cofferdamlaw12_PoolApart [a0, a1] .leaf F = F (cJ [(p0, a0), (p1, a1)]) := fun F => by kernel_rfl
  exact (ny hb).trans ((Ju n ae aG aw ah ak k0 _).trans (IZ n ae aG aw ah ak k0 k hk (kg n ae aG aw ah ak k0 n) (dC n ae aG aw ah ak k n) (Gy n ae aG aw ah ak k0 k hk n) a0 a1 h))
end
def mU (n : Nat) : wH := qA n (Hn lq) (ob n) (k8 n) (gk n) (eE n)
theorem I5 {tbl : Tr AFn} (hp : cF tbl) (ht : tbl.get (key mO) = some wK) (n : Nat) (Np : Sound tbl lr (Hn lq)) (akJ : Sound tbl ud (wX (ob n))) (Sx : Sound tbl mS (nX (k8 n))) (UH : Sound tbl jU (kY (gk n))) (Xg : Sound tbl kI (lA (eE n))) : Sound tbl mO (qO (mU n)) := by
  refine Sound.of (dN hp (ps := a_cofferdamlaw12_PoolApart) (rs := z_cofferdamlaw12_PoolApart) (l := [(lr, Hn lq), (ud, wX (ob n)), (mS, nX (k8 n)), (jU, kY (gk n)), (kI, lA (eE n))]) (ty := b7) (n := n) (c := nk) ht ⟨Np, akJ, Sx, UH, Xg, trivial⟩) fun args H k r H' h => ?_
  unfold qO at h
  obtain ⟨a0, l0, e0, h0⟩ := cT h
  subst e0
  obtain ⟨a1, l1, e1, h1⟩ := cT h0
  subst e1
  obtain ⟨e9, h9⟩ := cY h1
  subst e9
  exact (Jr n (Hn lq) (ob n) (k8 n) (gk n) (eE n) a0 a1 H k).trans h9
abbrev al4 := AV → Heap → (AV → Heap → CRes) → CRes
abbrev amo := AV → Heap → CRes
/-! cofferdam/cofferdamref00.EqInts -/
abbrev ahz := AV → AV → Heap → (Bool → Heap → CRes) → CRes
abbrev agV := Bool → Heap → CRes
/-! cofferdam/cofferdamlaw12.PoolEven -/
abbrev afD := Bool → Heap → CRes
end
end Go.Proofs.Ytnlbfbiogfilfaa.Sh
