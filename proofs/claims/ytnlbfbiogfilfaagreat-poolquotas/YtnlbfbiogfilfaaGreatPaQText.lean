/- The program's functions in continuation style: printed by a program, held against their code by the kernel. -/
import Derived.Test.YtnlbfbiogfilfaaGreatPaQCode
import Derived.Test.YtnlbfbiogfilfaaGreatAiTblPaQPrims
import Derived.KernelRfl
set_option linter.all false
namespace Go.Proofs.YtnlbfbiogfilfaaGreat.Sh
open Go.Ai
set_option maxRecDepth 100000
noncomputable section
/-! cofferdam/plan.Check$1 -/
abbrev ie := Bool → Int → Int → AV → Heap → (Heap → CRes) → CRes
abbrev tq := Heap → CRes
def tk (g : ie) : Wr := fun l h k => aBool l fun a0 l => ph .i64 l fun a1 l => ph .i64 l fun a2 l => lM l fun a3 l => mq l (g a0 a1 a2 a3 h fun h => k (.tuple []) h)
def TE : dN := eO []
abbrev Uu (k0 : Q0) (k : tq) : Prop := ∀ h, k0 (.tuple []) h = k h
section
variable (n : Nat) (k0 : Q0) (k : tq)
def Xu (n : Nat) (k0 : Q0) : Q1 := (bS (TE ) xL P3 (fun s => eK (.t p8) s (bS (TE ) xL QF (cX ti k0)) (cX ti k0)))
def Mv (n : Nat) (k : tq) (a0 : Bool) (a1 : Int) (a2 : Int) (a3 : AV) (h : Heap) : CRes :=
 ifB (jk a0)
 (gJ h a3 1 false fun x0 =>
 wa [(.int .i64 0), (.int .i64 0)] [(0, 1, (.int .i64 a1)), (1, 1, (.int .i64 a2))] fun x1 =>
 pR h 1 [(.int .i64 0), (.int .i64 0)] [(0, 2, x1)] fun x2 h3 =>
 qk h3 2 x0 x2 fun x4 h5 =>
 lR h5 a3 1 x4 fun h6 =>
 k h6)
 (k h)
theorem aiO (n : Nat) (k0 : Q0) (k : tq) (hk : Uu k0 k) (a0 : Bool) (a1 : Int) (a2 : Int) (a3 : AV) (h : Heap) : (Xu n k0 ) ⟨c8 [(p0, (.bool a0)), (p1, (.int .i64 a1)), (p2, (.int .i64 a2)), (p3, a3)], h⟩ = (Mv n k ) a0 a1 a2 a3 h := by
  obtain rfl := fx1 hk
  kernel_rfl
def ai4 : Q1 := Xu n k0
def LS (n : Nat) (a0 : Bool) (a1 : Int) (a2 : Int) (a3 : AV) (h : Heap) (k : tq) : CRes := Mv n k a0 a1 a2 a3 h
theorem ai2 (n : Nat) (k0 : Q0) (s : St) : D (eO []) xL n Mr (cX ti k0) (fun _ _ => .err) (cX ti k0) s = ai4 n k0 s := by kernel_rfl
theorem aiZ (n : Nat) (a0 : Bool) (a1 : Int) (a2 : Int) (a3 : AV) (h : Heap) (k0 : Q0) : W Mo ti [] xL n Mr [(.bool a0), (.int .i64 a1), (.int .i64 a2), a3] h k0 = LS n a0 a1 a2 a3 h (fun h => k0 (.tuple []) h) := by
  let k : tq := fun h => k0 (.tuple []) h
  have hk : Uu k0 k := fun _ => rfl
  have hb : ∀ F : Tr AV → CRes, gG Mo [(.bool a0), (.int .i64 a1), (.int .i64 a2), a3] .leaf F = F (c8 [(p0, (.bool a0)), (p1, (.int .i64 a1)), (p2, (.int .i64 a2)), (p3, a3)]) := fun F => by kernel_rfl
  exact (mC hb).trans ((ai2 n k0 _).trans (aiO n k0 k hk a0 a1 a2 a3 h))
end
def mG (n : Nat) : ie := LS n
/-! cofferdam/plan.within -/
abbrev bV := Int → Int → Int → Heap → (Bool → Heap → CRes) → CRes
abbrev uk := Bool → Heap → CRes
def fC (g : bV) : Wr := fun l h k => ph .i64 l fun a0 l => ph .i64 l fun a1 l => ph .i64 l fun a2 l => mq l (g a0 a1 a2 h fun u0 h => k (.bool u0) h)
def NY : dN := eO []
abbrev F2 (k0 : Q0) (k : uk) : Prop := ∀ u0 h, k0 (.bool u0) h = k u0 h
abbrev CE : Type := Bool → Heap → CRes
abbrev LI (J : Q1) (j : CE) : Prop := ∀ v14 h, J ⟨c8 [(p14, (.bool v14))], h⟩ = j v14 h
section
variable (n : Nat) (k0 : Q0) (k : uk)
def XB (n : Nat) (k0 : Q0) : Q1 := (bS (NY ) ye Wz (cX BI k0))
def LN (n : Nat) (k : uk) (v14 : Bool) (h : Heap) : CRes :=
 k v14 h
theorem aiW (hk : F2 k0 k) : LI (XB n k0 ) (LN n k ) := by
  obtain rfl := fx2 hk
  intro v14 h
  kernel_rfl
def W7 : Q1 := XB n k0
def Lz : CE := LN n k
theorem ai9 (hk : F2 k0 k) : LI (W7 n k0 ) (Lz n k ) := aiW n k0 k hk
def adi (n : Nat) (k0 : Q0) (J0 : Q1) : Q1 := (bS (NY ) ye Wf (bS (NY ) ye XT (fun s => da WT s J0)))
def Ru (n : Nat) (k : uk) (j0 : CE) (a0 : Int) (a1 : Int) (a2 : Int) (h : Heap) : CRes :=
 ifB (jk (ltF a0 a1))
 (j0 (jk (ltF a2 a0)) h)
 (j0 false h)
theorem amb (n : Nat) (k0 : Q0) (k : uk) (hk : F2 k0 k) {J0 : Q1} {j0 : CE} (h0 : LI J0 j0) (a0 : Int) (a1 : Int) (a2 : Int) (h : Heap) : (adi n k0 J0) ⟨c8 [(p0, (.int .i64 a0)), (p1, (.int .i64 a1)), (p2, (.int .i64 a2))], h⟩ = (Ru n k j0) a0 a1 a2 h := by
  obtain rfl := fx2 hk
  obtain rfl := fx2 h0
  kernel_rfl
def alW : Q1 := adi n k0 (W7 n k0 )
def Ry (n : Nat) (a0 : Int) (a1 : Int) (a2 : Int) (h : Heap) (k : uk) : CRes := Ru n k (Lz n k ) a0 a1 a2 h
theorem alR (n : Nat) (k0 : Q0) (s : St) : D (eO []) ye n QR (cX BI k0) (fun _ _ => .err) (cX BI k0) s = alW n k0 s := by kernel_rfl
theorem al4 (n : Nat) (a0 : Int) (a1 : Int) (a2 : Int) (h : Heap) (k0 : Q0) : W RL BI [] ye n QR [(.int .i64 a0), (.int .i64 a1), (.int .i64 a2)] h k0 = Ry n a0 a1 a2 h (fun u0 h => k0 (.bool u0) h) := by
  let k : uk := fun u0 h => k0 (.bool u0) h
  have hk : F2 k0 k := fun _ _ => rfl
  have hb : ∀ F : Tr AV → CRes, gG RL [(.int .i64 a0), (.int .i64 a1), (.int .i64 a2)] .leaf F = F (c8 [(p0, (.int .i64 a0)), (p1, (.int .i64 a1)), (p2, (.int .i64 a2))]) := fun F => by kernel_rfl
  exact (mC hb).trans ((alR n k0 _).trans (amb n k0 k hk (ai9 n k0 k hk ) a0 a1 a2 h))
end
def fU (n : Nat) : bV := Ry n
/-! cofferdam/plan.power -/
abbrev fJ := Int → Int → Heap → (Bool → Heap → CRes) → CRes
abbrev xn := Bool → Heap → CRes
def AI (g : fJ) : Wr := fun l h k => ph .i64 l fun a0 l => ph .i64 l fun a1 l => mq l (g a0 a1 h fun u0 h => k (.bool u0) h)
def Rg (ah : bV) : dN := eO [(fM, fC ah)]
abbrev Jv (k0 : Q0) (k : xn) : Prop := ∀ u0 h, k0 (.bool u0) h = k u0 h
abbrev Fg : Type := Bool → Heap → CRes
abbrev Ps (J : Q1) (j : Fg) : Prop := ∀ v14 h, J ⟨c8 [(p14, (.bool v14))], h⟩ = j v14 h
section
variable (n : Nat) (ah : bV) (k0 : Q0) (k : xn)
def Yu (n : Nat) (ah : bV) (k0 : Q0) : Q1 := (bS (Rg ah) Au abd (cX Fa k0))
def OG (n : Nat) (ah : bV) (k : xn) (v14 : Bool) (h : Heap) : CRes :=
 k v14 h
theorem akp (hk : Jv k0 k) : Ps (Yu n ah k0 ) (OG n ah k ) := by
  obtain rfl := fx2 hk
  intro v14 h
  kernel_rfl
def aaL : Q1 := Yu n ah k0
def OD : Fg := OG n ah k
theorem alB (hk : Jv k0 k) : Ps (aaL n ah k0 ) (OD n ah k ) := akp n ah k0 k hk
def afO (n : Nat) (ah : bV) (k0 : Q0) (J0 : Q1) : Q1 := (bS (Rg ah) Au aap (bS (Rg ah) Au YB (fun s => da ZO s J0)))
def Vp (n : Nat) (ah : bV) (k : xn) (j0 : Fg) (a0 : Int) (a1 : Int) (h : Heap) : CRes :=
 ah a0 1 a1 h fun x0 h1 =>
 ifB x0
 (Yl .i64 a0 1 fun x2 =>
 bitK .and .i64 a0 x2 fun x3 =>
 j0 (eqF x3 0) h1)
 (j0 false h1)
theorem anJ (n : Nat) (ah : bV) (k0 : Q0) (k : xn) (hk : Jv k0 k) {J0 : Q1} {j0 : Fg} (h0 : Ps J0 j0) (a0 : Int) (a1 : Int) (h : Heap) : (afO n ah k0 J0) ⟨c8 [(p0, (.int .i64 a0)), (p1, (.int .i64 a1))], h⟩ = (Vp n ah k j0) a0 a1 h := by
  obtain rfl := fx2 hk
  obtain rfl := fx2 h0
  kernel_rfl
def anZ : Q1 := afO n ah k0 (aaL n ah k0 )
def Vr (n : Nat) (ah : bV) (a0 : Int) (a1 : Int) (h : Heap) (k : xn) : CRes := Vp n ah k (OD n ah k ) a0 a1 h
theorem an1 (n : Nat) (ah : bV) (k0 : Q0) (s : St) : D (eO [(fM, fC ah)]) Au n Vk (cX Fa k0) (fun _ _ => .err) (cX Fa k0) s = anZ n ah k0 s := by kernel_rfl
theorem aoS (n : Nat) (ah : bV) (a0 : Int) (a1 : Int) (h : Heap) (k0 : Q0) : W Uz Fa [(fM, fC ah)] Au n Vk [(.int .i64 a0), (.int .i64 a1)] h k0 = Vr n ah a0 a1 h (fun u0 h => k0 (.bool u0) h) := by
  let k : xn := fun u0 h => k0 (.bool u0) h
  have hk : Jv k0 k := fun _ _ => rfl
  have hb : ∀ F : Tr AV → CRes, gG Uz [(.int .i64 a0), (.int .i64 a1)] .leaf F = F (c8 [(p0, (.int .i64 a0)), (p1, (.int .i64 a1))]) := fun F => by kernel_rfl
  exact (mC hb).trans ((an1 n ah k0 _).trans (anJ n ah k0 k hk (alB n ah k0 k hk ) a0 a1 h))
end
def Aq (n : Nat) : fJ := Vr n (fU n)
/-! cofferdam/plan.machine -/
abbrev ck := AV → Heap → (Bool → Heap → CRes) → CRes
abbrev jv := Bool → Heap → CRes
def iU (g : ck) : Wr := fun l h k => lM l fun a0 l => mq l (g a0 h fun u0 h => k (.bool u0) h)
def mD (bt : fJ) (ah : bV) : dN := eO [(F6, AI bt), (fM, fC ah)]
abbrev gc (k0 : Q0) (k : jv) : Prop := ∀ u0 h, k0 (.bool u0) h = k u0 h
abbrev zZ : Type := Bool → Heap → CRes
abbrev I2 (J : Q1) (j : zZ) : Prop := ∀ v44 h, J ⟨c8 [(p44, (.bool v44))], h⟩ = j v44 h
abbrev Aa : Type := AV → Bool → Heap → CRes
abbrev Iy (J : Q1) (j : Aa) : Prop := ∀ v1 v38 h, J ⟨c8 [(p1, v1), (p38, (.bool v38))], h⟩ = j v1 v38 h
abbrev AO : Type := AV → Bool → Heap → CRes
abbrev I8 (J : Q1) (j : AO) : Prop := ∀ v1 v33 h, J ⟨c8 [(p1, v1), (p33, (.bool v33))], h⟩ = j v1 v33 h
abbrev AB : Type := AV → Bool → Heap → CRes
abbrev Hz (J : Q1) (j : AB) : Prop := ∀ v1 v28 h, J ⟨c8 [(p1, v1), (p28, (.bool v28))], h⟩ = j v1 v28 h
abbrev z7 : Type := AV → Bool → Heap → CRes
abbrev Iv (J : Q1) (j : z7) : Prop := ∀ v1 v23 h, J ⟨c8 [(p1, v1), (p23, (.bool v23))], h⟩ = j v1 v23 h
abbrev AL : Type := AV → Bool → Heap → CRes
abbrev Ip (J : Q1) (j : AL) : Prop := ∀ v1 v18 h, J ⟨c8 [(p1, v1), (p18, (.bool v18))], h⟩ = j v1 v18 h
abbrev AM : Type := AV → Bool → Heap → CRes
abbrev IL (J : Q1) (j : AM) : Prop := ∀ v1 v10 h, J ⟨c8 [(p1, v1), (p10, (.bool v10))], h⟩ = j v1 v10 h
section
variable (n : Nat) (bt : fJ) (ah : bV) (k0 : Q0) (k : jv)
def So (n : Nat) (bt : fJ) (ah : bV) (k0 : Q0) : Q1 := (bS (mD bt ah) kx RY (cX zQ k0))
def IK (n : Nat) (bt : fJ) (ah : bV) (k : jv) (v44 : Bool) (h : Heap) : CRes :=
 k v44 h
theorem agk (hk : gc k0 k) : I2 (So n bt ah k0 ) (IK n bt ah k ) := by
  obtain rfl := fx2 hk
  intro v44 h
  kernel_rfl
def SV : Q1 := So n bt ah k0
def Ii : zZ := IK n bt ah k
theorem agI (hk : gc k0 k) : I2 (SV n bt ah k0 ) (Ii n bt ah k ) := agk n bt ah k0 k hk
def TR (n : Nat) (bt : fJ) (ah : bV) (k0 : Q0) (J6 : Q1) : Q1 := (bS (mD bt ah) kx SI (fun s => da Sd s J6))
def IP (n : Nat) (bt : fJ) (ah : bV) (k : jv) (j6 : zZ) (v1 : AV) (v38 : Bool) (h : Heap) : CRes :=
 ifB v38
 (faK 16 v1 fun x31 =>
 gJ h x31 1 false fun x32 =>
 jb x32 fun x33 =>
 ah x33 1 8 h fun x34 h35 =>
 j6 x34 h35)
 (j6 false h)
theorem af3 (hk : gc k0 k) {J6 : Q1} {j6 : zZ} (h6 : I2 J6 j6) : Iy (TR n bt ah k0 J6) (IP n bt ah k j6) := by
  obtain rfl := fx2 hk
  obtain rfl := fx2 h6
  intro v1 v38 h
  kernel_rfl
def T0 : Q1 := TR n bt ah k0 (SV n bt ah k0 )
def HF : Aa := IP n bt ah k (Ii n bt ah k )
theorem ahz (hk : gc k0 k) : Iy (T0 n bt ah k0 ) (HF n bt ah k ) := af3 n bt ah k0 k hk (agI n bt ah k0 k hk )
def T4 (n : Nat) (bt : fJ) (ah : bV) (k0 : Q0) (J5 : Q1) : Q1 := (bS (mD bt ah) kx Tm (fun s => da Sm s J5))
def IU (n : Nat) (bt : fJ) (ah : bV) (k : jv) (j5 : Aa) (v1 : AV) (v33 : Bool) (h : Heap) : CRes :=
 ifB v33
 (faK 5 v1 fun x27 =>
 ldI .i64 h x27 fun x28 =>
 ah x28 1 64 h fun x29 h30 =>
 j5 v1 x29 h30)
 (j5 v1 false h)
theorem ahl (hk : gc k0 k) {J5 : Q1} {j5 : Aa} (h5 : Iy J5 j5) : I8 (T4 n bt ah k0 J5) (IU n bt ah k j5) := by
  obtain rfl := fx2 hk
  obtain rfl := fx3 h5
  intro v1 v33 h
  kernel_rfl
def Tz : Q1 := T4 n bt ah k0 (T0 n bt ah k0 )
def H6 : AO := IU n bt ah k (HF n bt ah k )
theorem agj (hk : gc k0 k) : I8 (Tz n bt ah k0 ) (H6 n bt ah k ) := ahl n bt ah k0 k hk (ahz n bt ah k0 k hk )
def Tx (n : Nat) (bt : fJ) (ah : bV) (k0 : Q0) (J4 : Q1) : Q1 := (bS (mD bt ah) kx RW (fun s => da TG s J4))
def H9 (n : Nat) (bt : fJ) (ah : bV) (k : jv) (j4 : AO) (v1 : AV) (v28 : Bool) (h : Heap) : CRes :=
 ifB v28
 (faK 4 v1 fun x23 =>
 ldI .i64 h x23 fun x24 =>
 ah x24 1 16 h fun x25 h26 =>
 j4 v1 x25 h26)
 (j4 v1 false h)
theorem ahf (hk : gc k0 k) {J4 : Q1} {j4 : AO} (h4 : I8 J4 j4) : Hz (Tx n bt ah k0 J4) (H9 n bt ah k j4) := by
  obtain rfl := fx2 hk
  obtain rfl := fx3 h4
  intro v1 v28 h
  kernel_rfl
def S6 : Q1 := Tx n bt ah k0 (Tz n bt ah k0 )
def HC : AB := H9 n bt ah k (H6 n bt ah k )
theorem ahg (hk : gc k0 k) : Hz (S6 n bt ah k0 ) (HC n bt ah k ) := ahf n bt ah k0 k hk (agj n bt ah k0 k hk )
def Uh (n : Nat) (bt : fJ) (ah : bV) (k0 : Q0) (J3 : Q1) : Q1 := (bS (mD bt ah) kx SZ (fun s => da TT s J3))
def HE (n : Nat) (bt : fJ) (ah : bV) (k : jv) (j3 : AB) (v1 : AV) (v23 : Bool) (h : Heap) : CRes :=
 ifB v23
 (faK 2 v1 fun x19 =>
 ldI .i64 h x19 fun x20 =>
 ah x20 1 16 h fun x21 h22 =>
 j3 v1 x21 h22)
 (j3 v1 false h)
theorem agV (hk : gc k0 k) {J3 : Q1} {j3 : AB} (h3 : Hz J3 j3) : Iv (Uh n bt ah k0 J3) (HE n bt ah k j3) := by
  obtain rfl := fx2 hk
  obtain rfl := fx3 h3
  intro v1 v23 h
  kernel_rfl
def Su : Q1 := Uh n bt ah k0 (S6 n bt ah k0 )
def HQ : z7 := HE n bt ah k (HC n bt ah k )
theorem af1 (hk : gc k0 k) : Iv (Su n bt ah k0 ) (HQ n bt ah k ) := agV n bt ah k0 k hk (ahg n bt ah k0 k hk )
def Ur (n : Nat) (bt : fJ) (ah : bV) (k0 : Q0) (J2 : Q1) : Q1 := (bS (mD bt ah) kx R0 (fun s => da Un s J2))
def HZ (n : Nat) (bt : fJ) (ah : bV) (k : jv) (j2 : z7) (v1 : AV) (v18 : Bool) (h : Heap) : CRes :=
 ifB v18
 (faK 3 v1 fun x15 =>
 ldI .i64 h x15 fun x16 =>
 bt x16 4096 h fun x17 h18 =>
 j2 v1 x17 h18)
 (j2 v1 false h)
theorem ag4 (hk : gc k0 k) {J2 : Q1} {j2 : z7} (h2 : Iv J2 j2) : Ip (Ur n bt ah k0 J2) (HZ n bt ah k j2) := by
  obtain rfl := fx2 hk
  obtain rfl := fx3 h2
  intro v1 v18 h
  kernel_rfl
def TZ : Q1 := Ur n bt ah k0 (Su n bt ah k0 )
def IH : AL := HZ n bt ah k (HQ n bt ah k )
theorem ahM (hk : gc k0 k) : Ip (TZ n bt ah k0 ) (IH n bt ah k ) := ag4 n bt ah k0 k hk (af1 n bt ah k0 k hk )
def Sf (n : Nat) (bt : fJ) (ah : bV) (k0 : Q0) (J1 : Q1) : Q1 := (bS (mD bt ah) kx TH (fun s => da Uy s J1))
def IY (n : Nat) (bt : fJ) (ah : bV) (k : jv) (j1 : AL) (v1 : AV) (v10 : Bool) (h : Heap) : CRes :=
 ifB v10
 (faK 0 v1 fun x10 =>
 ldI .i64 h x10 fun x11 =>
 jO .i64 1 h v1 fun x12 x13 =>
 remK .i64 x11 x13 fun x14 =>
 j1 v1 (eqF x14 0) h)
 (j1 v1 false h)
theorem agx (hk : gc k0 k) {J1 : Q1} {j1 : AL} (h1 : Ip J1 j1) : IL (Sf n bt ah k0 J1) (IY n bt ah k j1) := by
  obtain rfl := fx2 hk
  obtain rfl := fx3 h1
  intro v1 v10 h
  kernel_rfl
def SO : Q1 := Sf n bt ah k0 (TZ n bt ah k0 )
def II : AM := IY n bt ah k (IH n bt ah k )
theorem agd (hk : gc k0 k) : IL (SO n bt ah k0 ) (II n bt ah k ) := agx n bt ah k0 k hk (ahM n bt ah k0 k hk )
def aae (n : Nat) (bt : fJ) (ah : bV) (k0 : Q0) (J0 : Q1) : Q1 := (bS (mD bt ah) kx ST (bS (mD bt ah) kx Se (fun s => da TP s J0)))
def Pi (n : Nat) (bt : fJ) (ah : bV) (k : jv) (j0 : AM) (a0 : AV) (h : Heap) : CRes :=
 zt h a0 fun x0 h1 =>
 jO .i64 1 h1 (.ptr x0 0) fun x2 x3 =>
 bt x3 16 h1 fun x4 h5 =>
 ifB x4
 (faK 0 (.ptr x0 0) fun x6 =>
 ldI .i64 h5 x6 fun x7 =>
 ah x7 1 4096 h5 fun x8 h9 =>
 j0 (.ptr x0 0) x8 h9)
 (j0 (.ptr x0 0) false h5)
theorem alz (n : Nat) (bt : fJ) (ah : bV) (k0 : Q0) (k : jv) (hk : gc k0 k) {J0 : Q1} {j0 : AM} (h0 : IL J0 j0) (a0 : AV) (h : Heap) : (aae n bt ah k0 J0) ⟨c8 [(p0, a0)], h⟩ = (Pi n bt ah k j0) a0 h := by
  obtain rfl := fx2 hk
  obtain rfl := fx3 h0
  kernel_rfl
def alw : Q1 := aae n bt ah k0 (SO n bt ah k0 )
def OX (n : Nat) (bt : fJ) (ah : bV) (a0 : AV) (h : Heap) (k : jv) : CRes := Pi n bt ah k (II n bt ah k ) a0 h
theorem ajV (n : Nat) (bt : fJ) (ah : bV) (k0 : Q0) (s : St) : D (eO [(F6, AI bt), (fM, fC ah)]) kx n Pf (cX zQ k0) (fun _ _ => .err) (cX zQ k0) s = alw n bt ah k0 s := by kernel_rfl
theorem ajQ (n : Nat) (bt : fJ) (ah : bV) (a0 : AV) (h : Heap) (k0 : Q0) : W O5 zQ [(F6, AI bt), (fM, fC ah)] kx n Pf [a0] h k0 = OX n bt ah a0 h (fun u0 h => k0 (.bool u0) h) := by
  let k : jv := fun u0 h => k0 (.bool u0) h
  have hk : gc k0 k := fun _ _ => rfl
  have hb : ∀ F : Tr AV → CRes, gG O5 [a0] .leaf F = F (c8 [(p0, a0)]) := fun F => by kernel_rfl
  exact (mC hb).trans ((ajV n bt ah k0 _).trans (alz n bt ah k0 k hk (agd n bt ah k0 k hk ) a0 h))
end
def gn (n : Nat) : ck := OX n (Aq n) (fU n)
/-! cofferdam/cost.Check -/
abbrev cu := AV → Heap → (Int → Heap → CRes) → CRes
abbrev mH := Int → Heap → CRes
def iw (g : cu) : Wr := fun l h k => lM l fun a0 l => mq l (g a0 h fun u0 h => k (.int .i64 u0) h)
def iH : dN := eO []
abbrev jE (k0 : Q0) (k : mH) : Prop := ∀ u0 h, k0 (.int .i64 u0) h = k u0 h
abbrev Fe : Type := Heap → CRes
abbrev NW (J : Q1) (j : Fe) : Prop := ∀ h, J ⟨c8 [], h⟩ = j h
abbrev EP : Type := AV → Int → Int → Bool → Heap → CRes
abbrev Po (J : Q1) (j : EP) : Prop := ∀ v35 v36 v37 v46 h, J ⟨c8 [(p35, v35), (p36, (.int .i64 v36)), (p37, (.int .i64 v37)), (p46, (.bool v46))], h⟩ = j v35 v36 v37 v46 h
abbrev nH : Type := AV → Int → Int → Heap → CRes
abbrev zR (J : Q1) (j : nH) : Prop := ∀ v35 v36 v37 h, J ⟨c8 [(p35, v35), (p36, (.int .i64 v36)), (p37, (.int .i64 v37))], h⟩ = j v35 v36 v37 h
abbrev Fx : Type := AV → Heap → CRes
abbrev OU (J : Q1) (j : Fx) : Prop := ∀ v1 h, J ⟨c8 [(p1, v1)], h⟩ = j v1 h
abbrev Fy : Type := AV → Int → AV → Int → Int → Bool → Heap → CRes
abbrev Oe (J : Q1) (j : Fy) : Prop := ∀ v1 v5 v14 v15 v16 v26 h, J ⟨c8 [(p1, v1), (p5, (.int .u64 v5)), (p14, v14), (p15, (.int .i64 v15)), (p16, (.int .i64 v16)), (p26, (.bool v26))], h⟩ = j v1 v5 v14 v15 v16 v26 h
abbrev nP : Type := AV → Int → AV → Int → Int → Heap → CRes
abbrev zU (J : Q1) (j : nP) : Prop := ∀ v1 v3 v14 v15 v16 h, J ⟨c8 [(p1, v1), (p3, (.int .u64 v3)), (p14, v14), (p15, (.int .i64 v15)), (p16, (.int .i64 v16))], h⟩ = j v1 v3 v14 v15 v16 h
section
variable (n : Nat) (k0 : Q0) (k : mH)
def Z2 (n : Nat) (k0 : Q0) : Q1 := (bS (iH ) gQ YP (cX xi k0))
def Pw (n : Nat) (k : mH) (h : Heap) : CRes :=
 k 0 h
theorem akL (hk : jE k0 k) : NW (Z2 n k0 ) (Pw n k ) := by
  obtain rfl := fx2 hk
  intro h
  kernel_rfl
def Y7 : Q1 := Z2 n k0
def Fv : Fe := Pw n k
theorem ak0 (hk : jE k0 k) : NW (Y7 n k0 ) (Fv n k ) := akL n k0 k hk
def YJ (n : Nat) (k0 : Q0) (J1 : Q1) : Q1 := (fun s => eK (.t p46) s (bS (iH ) gQ Y9 (cX xi k0)) (bS (iH ) gQ Z8 (fun s => da OS s J1)))
def Oj (n : Nat) (k : mH) (j1 : nH) (v35 : AV) (v36 : Int) (v37 : Int) (v46 : Bool) (h : Heap) : CRes :=
 ifB v46
 (k 100 h)
 (lU .i64 v37 1 fun x25 =>
 j1 v35 v36 x25 h)
theorem ak2 (hk : jE k0 k) {J1 : Q1} {j1 : nH} (h1 : zR J1 j1) : Po (YJ n k0 J1) (Oj n k j1) := by
  obtain rfl := fx2 hk
  obtain rfl := fx4 h1
  intro v35 v36 v37 v46 h
  kernel_rfl
def aaf (J1 : Q1) : Q1 := YJ n k0 J1
def Fk (j1 : nH) : EP := Oj n k j1
theorem alA (hk : jE k0 k) {J1 : Q1} {j1 : nH} (h1 : zR J1 j1) : Po (aaf n k0 J1) (Fk n k j1) := ak2 n k0 k hk h1
def YO (n : Nat) (k0 : Q0) (J0 : Q1) (J2 : Q1) : Q1 := (bS (iH ) gQ YR (fun s => eK (.t p38) s (bS (iH ) gQ YM (bS (iH ) gQ aaw (fun s => da Zg s J2))) (fun s => da Ys s J0)))
def Fc (n : Nat) (k : mH) (j0 : Fe) (j2 : EP) (v35 : AV) (v36 : Int) (v37 : Int) (h : Heap) : CRes :=
 ifB (ltF v37 v36)
 (Q6 .u64 1 h v35 v37 fun x22 x23 =>
 ifB (ltF x23 1)
 (j2 v35 v36 v37 true h)
 (j2 v35 v36 v37 (ltF 65536 x23) h))
 (j0 h)
theorem alr (hk : jE k0 k) {J0 : Q1} {j0 : Fe} (h0 : NW J0 j0) {J2 : Q1} {j2 : EP} (h2 : Po J2 j2) : zR (YO n k0 J0 J2) (Fc n k j0 j2) := by
  obtain rfl := fx2 hk
  obtain rfl := fx1 h0
  obtain rfl := fx5 h2
  intro v35 v36 v37 h
  kernel_rfl
def ZR (m : Nat) : Q1 := Nat.rec (motive := fun _ => Q1) (fun _ => .err) (fun _ ih => YO n k0 (Y7 n k0 ) (aaf n k0 ih)) m
def E6 (m : Nat) : nH := Nat.rec (motive := fun _ => nH) (fun _ _ _ _ => .err) (fun _ ih => Fc n k (Fv n k ) (Fk n k ih)) m
theorem ak8 (hk : jE k0 k) (m : Nat) : zR (ZR n k0 m) (E6 n k m) := by
  induction m with
  | zero => intro v35 v36 v37 h; rfl
  | succ m ih => exact alr n k0 k hk (ak0 n k0 k hk ) (alA n k0 k hk ih)
def aau (n : Nat) (k0 : Q0) (J1 : Q1) : Q1 := (bS (iH ) gQ aa1 (fun s => da OS s J1))
def OH (n : Nat) (k : mH) (j1 : nH) (v1 : AV) (h : Heap) : CRes :=
 jO .u64 3 h v1 fun x11 x12 =>
 jO .u64 4 h v1 fun x13 x14 =>
 jO .u64 5 h v1 fun x15 x16 =>
 pR h 3 [(.int .u64 0), (.int .u64 0), (.int .u64 0)] [(0, 1, (.int .u64 x12)), (1, 1, (.int .u64 x14)), (2, 1, (.int .u64 x16))] fun x17 h18 =>
 jb x17 fun x19 =>
 j1 x17 x19 0 h18
theorem alH (hk : jE k0 k) {J1 : Q1} {j1 : nH} (h1 : zR J1 j1) : OU (aau n k0 J1) (OH n k j1) := by
  obtain rfl := fx2 hk
  obtain rfl := fx4 h1
  intro v1 h
  kernel_rfl
def Zb : Q1 := aau n k0 (ZR n k0 n)
def zG : Fx := OH n k (E6 n k n)
theorem alc (hk : jE k0 k) : OU (Zb n k0 ) (zG n k ) := alH n k0 k hk (ak8 n k0 k hk n)
def ZZ (n : Nat) (k0 : Q0) (J4 : Q1) : Q1 := (fun s => eK (.t p26) s (bS (iH ) gQ ZF (cX xi k0)) (bS (iH ) gQ Zu (bS (iH ) gQ YA (fun s => da Pt s J4))))
def OJ (n : Nat) (k : mH) (j4 : nP) (v1 : AV) (v5 : Int) (v14 : AV) (v15 : Int) (v16 : Int) (v26 : Bool) (h : Heap) : CRes :=
 ifB v26
 (k 100 h)
 (lU .i64 v16 1 fun x24 =>
 j4 v1 v5 v14 v15 x24 h)
theorem alx (hk : jE k0 k) {J4 : Q1} {j4 : nP} (h4 : zU J4 j4) : Oe (ZZ n k0 J4) (OJ n k j4) := by
  obtain rfl := fx2 hk
  obtain rfl := fx6 h4
  intro v1 v5 v14 v15 v16 v26 h
  kernel_rfl
def aaA (J4 : Q1) : Q1 := ZZ n k0 J4
def Fi (j4 : nP) : Fy := OJ n k j4
theorem ajY (hk : jE k0 k) {J4 : Q1} {j4 : nP} (h4 : zU J4 j4) : Oe (aaA n k0 J4) (Fi n k j4) := alx n k0 k hk h4
def aaQ (n : Nat) (k0 : Q0) (J3 : Q1) (J5 : Q1) : Q1 := (bS (iH ) gQ VO (fun s => eK (.t p17) s (bS (iH ) gQ WP (bS (iH ) gQ XG (fun s => da Zp s J5))) (fun s => da aa8 s J3)))
def Fh (n : Nat) (k : mH) (j3 : Fx) (j5 : Fy) (v1 : AV) (v3 : Int) (v14 : AV) (v15 : Int) (v16 : Int) (h : Heap) : CRes :=
 ifB (ltF v16 v15)
 (Q6 .u64 1 h v14 v16 fun x20 x21 =>
 ifB (ltF x21 v3)
 (j5 v1 x21 v14 v15 v16 true h)
 (j5 v1 x21 v14 v15 v16 (ltF 65536 x21) h))
 (j3 v1 h)
theorem aj0 (hk : jE k0 k) {J3 : Q1} {j3 : Fx} (h3 : OU J3 j3) {J5 : Q1} {j5 : Fy} (h5 : Oe J5 j5) : zU (aaQ n k0 J3 J5) (Fh n k j3 j5) := by
  obtain rfl := fx2 hk
  obtain rfl := fx2 h3
  obtain rfl := fx7 h5
  intro v1 v3 v14 v15 v16 h
  kernel_rfl
def aaP (m : Nat) : Q1 := Nat.rec (motive := fun _ => Q1) (fun _ => .err) (fun _ ih => aaQ n k0 (Zb n k0 ) (aaA n k0 ih)) m
def F1 (m : Nat) : nP := Nat.rec (motive := fun _ => nP) (fun _ _ _ _ _ _ => .err) (fun _ ih => Fh n k (zG n k ) (Fi n k ih)) m
theorem akk (hk : jE k0 k) (m : Nat) : zU (aaP n k0 m) (F1 n k m) := by
  induction m with
  | zero => intro v1 v3 v14 v15 v16 h; rfl
  | succ m ih => exact aj0 n k0 k hk (alc n k0 k hk ) (ajY n k0 k hk ih)
def aep (n : Nat) (k0 : Q0) (J4 : Q1) : Q1 := (bS (iH ) gQ Wm (bS (iH ) gQ WZ (bS (iH ) gQ XJ (fun s => da Pt s J4))))
def UR (n : Nat) (k : mH) (j4 : nP) (a0 : AV) (h : Heap) : CRes :=
 zt h a0 fun x0 h1 =>
 jO .u64 0 h1 (.ptr x0 0) fun x2 x3 =>
 jO .u64 1 h1 (.ptr x0 0) fun x4 x5 =>
 jO .u64 2 h1 (.ptr x0 0) fun x6 x7 =>
 pR h1 3 [(.int .u64 0), (.int .u64 0), (.int .u64 0)] [(0, 1, (.int .u64 x3)), (1, 1, (.int .u64 x5)), (2, 1, (.int .u64 x7))] fun x8 h9 =>
 jb x8 fun x10 =>
 j4 (.ptr x0 0) 1 x8 x10 0 h9
theorem aoc (n : Nat) (k0 : Q0) (k : mH) (hk : jE k0 k) {J4 : Q1} {j4 : nP} (h4 : zU J4 j4) (a0 : AV) (h : Heap) : (aep n k0 J4) ⟨c8 [(p0, a0)], h⟩ = (UR n k j4) a0 h := by
  obtain rfl := fx2 hk
  obtain rfl := fx6 h4
  kernel_rfl
def aoj : Q1 := aep n k0 (aaP n k0 n)
def Ve (n : Nat) (a0 : AV) (h : Heap) (k : mH) : CRes := UR n k (F1 n k n) a0 h
theorem an0 (n : Nat) (k0 : Q0) (s : St) : D (eO []) gQ n UN (cX xi k0) (fun _ _ => .err) (cX xi k0) s = aoj n k0 s := by kernel_rfl
theorem aos (n : Nat) (a0 : AV) (h : Heap) (k0 : Q0) : W VC xi [] gQ n UN [a0] h k0 = Ve n a0 h (fun u0 h => k0 (.int .i64 u0) h) := by
  let k : mH := fun u0 h => k0 (.int .i64 u0) h
  have hk : jE k0 k := fun _ _ => rfl
  have hb : ∀ F : Tr AV → CRes, gG VC [a0] .leaf F = F (c8 [(p0, a0)]) := fun F => by kernel_rfl
  exact (mC hb).trans ((an0 n k0 _).trans (aoc n k0 k hk (akk n k0 k hk n) a0 h))
end
def gE (n : Nat) : cu := Ve n
abbrev fD := AV → Int → Heap → (Int → Heap → CRes) → CRes
abbrev gK := Int → Heap → CRes
def jY (g : fD) : Wr := fun l h k => lM l fun a0 l => ph .i64 l fun a1 l => mq l (g a0 a1 h fun u0 h => k (.int .i64 u0) h)
def gm : dN := eO []
abbrev jy (k0 : Q0) (k : gK) : Prop := ∀ u0 h, k0 (.int .i64 u0) h = k u0 h
abbrev ng : Type := Heap → CRes
abbrev rc (J : Q1) (j : ng) : Prop := ∀ h, J ⟨c8 [], h⟩ = j h
abbrev gS : Type := AV → Int → Int → Int → Heap → CRes
abbrev nd (J : Q1) (j : gS) : Prop := ∀ v0 v1 v7 v8 h, J ⟨c8 [(p0, v0), (p1, (.int .i64 v1)), (p7, (.int .i64 v7)), (p8, (.int .i64 v8))], h⟩ = j v0 v1 v7 v8 h
section
variable (n : Nat) (k0 : Q0) (k : gK)
def za (n : Nat) (k0 : Q0) : Q1 := (bS (gm ) eJ yP (cX jW k0))
def rh (n : Nat) (k : gK) (h : Heap) : CRes :=
 k (-1) h
theorem Nr (hk : jy k0 k) : rc (za n k0 ) (rh n k ) := by
  obtain rfl := fx2 hk
  intro h
  kernel_rfl
def yL : Q1 := za n k0
def nb : ng := rh n k
theorem NK (hk : jy k0 k) : rc (yL n k0 ) (nb n k ) := Nr n k0 k hk
def yS (n : Nat) (k0 : Q0) (J0 : Q1) (J1 : Q1) : Q1 := (bS (gm ) eJ yU (fun s => eK (.t p9) s (bS (gm ) eJ yQ (bS (gm ) eJ y8 (fun s => eK (.t p16) s (bS (gm ) eJ yO (cX jW k0)) (bS (gm ) eJ y9 (fun s => da ra s J1))))) (fun s => da y5 s J0)))
def nf (n : Nat) (k : gK) (j0 : ng) (j1 : gS) (v0 : AV) (v1 : Int) (v7 : Int) (v8 : Int) (h : Heap) : CRes :=
 ifB (ltF v8 v7)
 (Q6 .i64 1 h v0 v8 fun x1 x2 =>
 ifB (eqF v1 x2)
 (k v8 h)
 (lU .i64 v8 1 fun x3 =>
 j1 v0 v1 v7 x3 h))
 (j0 h)
theorem Nt (hk : jy k0 k) {J0 : Q1} {j0 : ng} (h0 : rc J0 j0) {J1 : Q1} {j1 : gS} (h1 : nd J1 j1) : nd (yS n k0 J0 J1) (nf n k j0 j1) := by
  obtain rfl := fx2 hk
  obtain rfl := fx1 h0
  obtain rfl := fx5 h1
  intro v0 v1 v7 v8 h
  kernel_rfl
def yX (m : Nat) : Q1 := Nat.rec (motive := fun _ => Q1) (fun _ => .err) (fun _ ih => yS n k0 (yL n k0 ) ih) m
def nc (m : Nat) : gS := Nat.rec (motive := fun _ => gS) (fun _ _ _ _ _ => .err) (fun _ ih => nf n k (nb n k ) ih) m
theorem NI (hk : jy k0 k) (m : Nat) : nd (yX n k0 m) (nc n k m) := by
  induction m with
  | zero => intro v0 v1 v7 v8 h; rfl
  | succ m ih => exact Nt n k0 k hk (NK n k0 k hk ) ih
def AQ (n : Nat) (k0 : Q0) (J1 : Q1) : Q1 := (bS (gm ) eJ yZ (bS (gm ) eJ yV (fun s => da ra s J1)))
def s7 (n : Nat) (k : gK) (j1 : gS) (a0 : AV) (a1 : Int) (h : Heap) : CRes :=
 jb a0 fun x0 =>
 j1 a0 a1 x0 0 h
theorem PE (n : Nat) (k0 : Q0) (k : gK) (hk : jy k0 k) {J1 : Q1} {j1 : gS} (h1 : nd J1 j1) (a0 : AV) (a1 : Int) (h : Heap) : (AQ n k0 J1) ⟨c8 [(p0, a0), (p1, (.int .i64 a1))], h⟩ = (s7 n k j1) a0 a1 h := by
  obtain rfl := fx2 hk
  obtain rfl := fx5 h1
  kernel_rfl
def PG : Q1 := AQ n k0 (yX n k0 n)
def ta (n : Nat) (a0 : AV) (a1 : Int) (h : Heap) (k : gK) : CRes := s7 n k (nc n k n) a0 a1 h
theorem Pz (n : Nat) (k0 : Q0) (s : St) : D (eO []) eJ n sZ (cX jW k0) (fun _ _ => .err) (cX jW k0) s = PG n k0 s := by kernel_rfl
theorem PH (n : Nat) (a0 : AV) (a1 : Int) (h : Heap) (k0 : Q0) : W sY jW [] eJ n sZ [a0, (.int .i64 a1)] h k0 = ta n a0 a1 h (fun u0 h => k0 (.int .i64 u0) h) := by
  let k : gK := fun u0 h => k0 (.int .i64 u0) h
  have hk : jy k0 k := fun _ _ => rfl
  have hb : ∀ F : Tr AV → CRes, gG sY [a0, (.int .i64 a1)] .leaf F = F (c8 [(p0, a0), (p1, (.int .i64 a1))]) := fun F => by kernel_rfl
  exact (mC hb).trans ((Pz n k0 _).trans (PE n k0 k hk (NI n k0 k hk n) a0 a1 h))
end
def jX (n : Nat) : fD := ta n
abbrev cO := AV → Int → Heap → (Bool → Heap → CRes) → CRes
abbrev iS := Bool → Heap → CRes
def iQ (g : cO) : Wr := fun l h k => lM l fun a0 l => ph .i64 l fun a1 l => mq l (g a0 a1 h fun u0 h => k (.bool u0) h)
def wJ (cZ : fD) : dN := eO [(lQ, jY cZ)]
abbrev wE (k0 : Q0) (k : iS) : Prop := ∀ u0 h, k0 (.bool u0) h = k u0 h
section
variable (n : Nat) (cZ : fD) (k0 : Q0) (k : iS)
def xH (n : Nat) (cZ : fD) (k0 : Q0) : Q1 := (bS (wJ cZ) kC vd (bS (wJ cZ) kC vh (cX kz k0)))
def qy (n : Nat) (cZ : fD) (k : iS) (a0 : AV) (a1 : Int) (h : Heap) : CRes :=
 cZ a0 a1 h fun x0 h1 =>
 k (jk (ltF x0 0)) h1
theorem Ll (n : Nat) (cZ : fD) (k0 : Q0) (k : iS) (hk : wE k0 k) (a0 : AV) (a1 : Int) (h : Heap) : (xH n cZ k0 ) ⟨c8 [(p0, a0), (p1, (.int .i64 a1))], h⟩ = (qy n cZ k ) a0 a1 h := by
  obtain rfl := fx2 hk
  kernel_rfl
def Mg : Q1 := xH n cZ k0
def qF (n : Nat) (cZ : fD) (a0 : AV) (a1 : Int) (h : Heap) (k : iS) : CRes := qy n cZ k a0 a1 h
theorem Ly (n : Nat) (cZ : fD) (k0 : Q0) (s : St) : D (eO [(lQ, jY cZ)]) kC n qC (cX kz k0) (fun _ _ => .err) (cX kz k0) s = Mg n cZ k0 s := by kernel_rfl
theorem LC (n : Nat) (cZ : fD) (a0 : AV) (a1 : Int) (h : Heap) (k0 : Q0) : W qB kz [(lQ, jY cZ)] kC n qC [a0, (.int .i64 a1)] h k0 = qF n cZ a0 a1 h (fun u0 h => k0 (.bool u0) h) := by
  let k : iS := fun u0 h => k0 (.bool u0) h
  have hk : wE k0 k := fun _ _ => rfl
  have hb : ∀ F : Tr AV → CRes, gG qB [a0, (.int .i64 a1)] .leaf F = F (c8 [(p0, a0), (p1, (.int .i64 a1))]) := fun F => by kernel_rfl
  exact (mC hb).trans ((Ly n cZ k0 _).trans (Ll n cZ k0 k hk a0 a1 h))
end
def c9 (n : Nat) : cO := qF n (jX n)
/-! cofferdam/plan.colours -/
abbrev my := AV → Int → Heap → (Bool → Heap → CRes) → CRes
abbrev iW := Bool → Heap → CRes
def wD (g : my) : Wr := fun l h k => lM l fun a0 l => ph .i64 l fun a1 l => mq l (g a0 a1 h fun u0 h => k (.bool u0) h)
def gd (ar : cO) : dN := eO [(kE, iQ ar)]
abbrev ib (k0 : Q0) (k : iW) : Prop := ∀ u0 h, k0 (.bool u0) h = k u0 h
abbrev AF : Type := AV → Heap → CRes
abbrev HY (J : Q1) (j : AF) : Prop := ∀ v5 h, J ⟨c8 [(p5, v5)], h⟩ = j v5 h
abbrev Ac : Type := Int → AV → AV → AV → Int → Int → Heap → CRes
abbrev HM (J : Q1) (j : Ac) : Prop := ∀ v1 v2 v5 v16 v17 v18 h, J ⟨c8 [(p1, (.int .i64 v1)), (p2, v2), (p5, v5), (p16, v16), (p17, (.int .i64 v17)), (p18, (.int .i64 v18))], h⟩ = j v1 v2 v5 v16 v17 v18 h
abbrev oq : Type := Int → AV → AV → Int → AV → Int → Int → AV → Int → Int → Heap → CRes
abbrev AH (J : Q1) (j : oq) : Prop := ∀ v1 v2 v5 v7 v16 v17 v18 v47 v48 v49 h, J ⟨c8 [(p1, (.int .i64 v1)), (p2, v2), (p5, v5), (p7, (.int .i64 v7)), (p16, v16), (p17, (.int .i64 v17)), (p18, (.int .i64 v18)), (p47, v47), (p48, (.int .i64 v48)), (p49, (.int .i64 v49))], h⟩ = j v1 v2 v5 v7 v16 v17 v18 v47 v48 v49 h
abbrev Ak : Type := Int → AV → AV → Int → AV → Int → Int → Bool → Heap → CRes
abbrev IW (J : Q1) (j : Ak) : Prop := ∀ v1 v2 v5 v7 v16 v17 v18 v43 h, J ⟨c8 [(p1, (.int .i64 v1)), (p2, v2), (p5, v5), (p7, (.int .i64 v7)), (p16, v16), (p17, (.int .i64 v17)), (p18, (.int .i64 v18)), (p43, (.bool v43))], h⟩ = j v1 v2 v5 v7 v16 v17 v18 v43 h
abbrev AA : Type := Int → AV → AV → Int → Int → AV → Int → Int → Bool → Heap → CRes
abbrev HO (J : Q1) (j : AA) : Prop := ∀ v1 v2 v5 v6 v7 v16 v17 v18 v30 h, J ⟨c8 [(p1, (.int .i64 v1)), (p2, v2), (p5, v5), (p6, (.int .i64 v6)), (p7, (.int .i64 v7)), (p16, v16), (p17, (.int .i64 v17)), (p18, (.int .i64 v18)), (p30, (.bool v30))], h⟩ = j v1 v2 v5 v6 v7 v16 v17 v18 v30 h
abbrev f8 : Type := Int → AV → AV → AV → Int → Int → Heap → CRes
abbrev mZ (J : Q1) (j : f8) : Prop := ∀ v1 v2 v5 v16 v17 v18 h, J ⟨c8 [(p1, (.int .i64 v1)), (p2, v2), (p5, v5), (p16, v16), (p17, (.int .i64 v17)), (p18, (.int .i64 v18))], h⟩ = j v1 v2 v5 v16 v17 v18 h
section
variable (n : Nat) (ar : cO) (k0 : Q0) (k : iW)
def TQ (n : Nat) (ar : cO) (k0 : Q0) : Q1 := (bS (gd ar) fO R7 (cX rP k0))
def IX (n : Nat) (ar : cO) (k : iW) (v5 : AV) (h : Heap) : CRes :=
 jb v5 fun x8 =>
 k (ltF 0 x8) h
theorem ahp (hk : ib k0 k) : HY (TQ n ar k0 ) (IX n ar k ) := by
  obtain rfl := fx2 hk
  intro v5 h
  kernel_rfl
def SU : Q1 := TQ n ar k0
def AE : AF := IX n ar k
theorem ahd (hk : ib k0 k) : HY (SU n ar k0 ) (AE n ar k ) := ahp n ar k0 k hk
def TS (n : Nat) (ar : cO) (k0 : Q0) (J1 : Q1) : Q1 := (bS (gd ar) fO Ta (fun s => da Is s J1))
def Jm (n : Nat) (ar : cO) (k : iW) (j1 : f8) (v1 : Int) (v2 : AV) (v5 : AV) (v16 : AV) (v17 : Int) (v18 : Int) (h : Heap) : CRes :=
 lU .i64 v18 1 fun x20 =>
 j1 v1 v2 v5 v16 v17 x20 h
theorem af5 (hk : ib k0 k) {J1 : Q1} {j1 : f8} (h1 : mZ J1 j1) : HM (TS n ar k0 J1) (Jm n ar k j1) := by
  obtain rfl := fx2 hk
  obtain rfl := fx7 h1
  intro v1 v2 v5 v16 v17 v18 h
  kernel_rfl
def TB (J1 : Q1) : Q1 := TS n ar k0 J1
def Ah (j1 : f8) : Ac := Jm n ar k j1
theorem agv (hk : ib k0 k) {J1 : Q1} {j1 : f8} (h1 : mZ J1 j1) : HM (TB n ar k0 J1) (Ah n ar k j1) := af5 n ar k0 k hk h1
def RX (n : Nat) (ar : cO) (k0 : Q0) (J2 : Q1) (J3 : Q1) : Q1 := (bS (gd ar) fO SJ (fun s => eK (.t p50) s (bS (gd ar) fO Sk (bS (gd ar) fO Sz (fun s => eK (.t p56) s (bS (gd ar) fO Tu (cX rP k0)) (bS (gd ar) fO Uw (fun s => da HG s J3))))) (fun s => da Te s J2)))
def As (n : Nat) (ar : cO) (k : iW) (j2 : Ac) (j3 : oq) (v1 : Int) (v2 : AV) (v5 : AV) (v7 : Int) (v16 : AV) (v17 : Int) (v18 : Int) (v47 : AV) (v48 : Int) (v49 : Int) (h : Heap) : CRes :=
 ifB (ltF v49 v48)
 (eld 8 h v47 v49 8 true fun x21 x22 =>
 yA h (.cells [.nilslice, (.int .i64 0), (.int .i64 0), (.int .i64 0), (.int .i64 0), (.int .i64 0), (.int .i64 0), (.int .i64 0)] true 0) fun x23 h24 =>
 lR h24 (.ptr x23 0) 8 x22 fun h25 =>
 fld 0 h25 (.ptr x23 0) 1 false fun x26 x27 =>
 ar x27 v7 h25 fun x28 h29 =>
 ifB x28
 (k false h29)
 (lU .i64 v49 1 fun x30 =>
 j3 v1 v2 v5 v7 v16 v17 v18 v47 v48 x30 h29))
 (j2 v1 v2 v5 v16 v17 v18 h)
theorem agq (hk : ib k0 k) {J2 : Q1} {j2 : Ac} (h2 : HM J2 j2) {J3 : Q1} {j3 : oq} (h3 : AH J3 j3) : AH (RX n ar k0 J2 J3) (As n ar k j2 j3) := by
  obtain rfl := fx2 hk
  obtain rfl := fx7 h2
  obtain rfl := fx11 h3
  intro v1 v2 v5 v7 v16 v17 v18 v47 v48 v49 h
  kernel_rfl
def RS (J1 : Q1) (m : Nat) : Q1 := Nat.rec (motive := fun _ => Q1) (fun _ => .err) (fun _ ih => RX n ar k0 (TB n ar k0 J1) ih) m
def vD (j1 : f8) (m : Nat) : oq := Nat.rec (motive := fun _ => oq) (fun _ _ _ _ _ _ _ _ _ _ _ => .err) (fun _ ih => As n ar k (Ah n ar k j1) ih) m
theorem ahB (hk : ib k0 k) {J1 : Q1} {j1 : f8} (h1 : mZ J1 j1) (m : Nat) : AH (RS n ar k0 J1 m) (vD n ar k j1 m) := by
  induction m with
  | zero => intro v1 v2 v5 v7 v16 v17 v18 v47 v48 v49 h; rfl
  | succ m ih => exact agq n ar k0 k hk (agv n ar k0 k hk h1) ih
def TA (n : Nat) (ar : cO) (k0 : Q0) (J3 : Q1) : Q1 := (fun s => eK (.t p43) s (bS (gd ar) fO Tg (cX rP k0)) (bS (gd ar) fO R2 (fun s => da HG s J3)))
def HW (n : Nat) (ar : cO) (k : iW) (j3 : oq) (v1 : Int) (v2 : AV) (v5 : AV) (v7 : Int) (v16 : AV) (v17 : Int) (v18 : Int) (v43 : Bool) (h : Heap) : CRes :=
 ifB v43
 (k false h)
 (fld 16 h v2 1 false fun x16 x17 =>
 slK (.sl 8) x17 none (some (.int .i64 v1)) none fun x18 =>
 jb x18 fun x19 =>
 j3 v1 v2 v5 v7 v16 v17 v18 x18 x19 0 h)
theorem ags (hk : ib k0 k) {J3 : Q1} {j3 : oq} (h3 : AH J3 j3) : IW (TA n ar k0 J3) (HW n ar k j3) := by
  obtain rfl := fx2 hk
  obtain rfl := fx11 h3
  intro v1 v2 v5 v7 v16 v17 v18 v43 h
  kernel_rfl
def TY (J1 : Q1) : Q1 := TA n ar k0 (RS n ar k0 J1 n)
def H4 (j1 : f8) : Ak := HW n ar k (vD n ar k j1 n)
theorem af2 (hk : ib k0 k) {J1 : Q1} {j1 : f8} (h1 : mZ J1 j1) : IW (TY n ar k0 J1) (H4 n ar k j1) := ags n ar k0 k hk (ahB n ar k0 k hk h1 n)
def Ub (n : Nat) (ar : cO) (k0 : Q0) (J5 : Q1) : Q1 := (bS (gd ar) fO PW (fun s => da T6 s J5))
def Ji (n : Nat) (ar : cO) (k : iW) (j5 : Ak) (v1 : Int) (v2 : AV) (v5 : AV) (v6 : Int) (v7 : Int) (v16 : AV) (v17 : Int) (v18 : Int) (v30 : Bool) (h : Heap) : CRes :=
 ifB v30
 (j5 v1 v2 v5 v7 v16 v17 v18 true h)
 (ifB (ltF 0 v6)
 (Yl .i64 v6 1 fun x13 =>
 Q6 .i64 1 h v5 x13 fun x14 x15 =>
 j5 v1 v2 v5 v7 v16 v17 v18 (jk (ltF x15 v7)) h)
 (j5 v1 v2 v5 v7 v16 v17 v18 false h))
theorem ahu (hk : ib k0 k) {J5 : Q1} {j5 : Ak} (h5 : IW J5 j5) : HO (Ub n ar k0 J5) (Ji n ar k j5) := by
  obtain rfl := fx2 hk
  obtain rfl := fx9 h5
  intro v1 v2 v5 v6 v7 v16 v17 v18 v30 h
  kernel_rfl
def Sp (J1 : Q1) : Q1 := Ub n ar k0 (TY n ar k0 J1)
def z6 (j1 : f8) : AA := Ji n ar k (H4 n ar k j1)
theorem ahH (hk : ib k0 k) {J1 : Q1} {j1 : f8} (h1 : mZ J1 j1) : HO (Sp n ar k0 J1) (z6 n ar k j1) := ahu n ar k0 k hk (af2 n ar k0 k hk h1)
def Tv (n : Nat) (ar : cO) (k0 : Q0) (J0 : Q1) (J4 : Q1) : Q1 := (bS (gd ar) fO Qa (fun s => eK (.t p19) s (bS (gd ar) fO Qv (bS (gd ar) fO Sy (fun s => da Uj s J4))) (fun s => da R3 s J0)))
def AK (n : Nat) (ar : cO) (k : iW) (j0 : AF) (j4 : AA) (v1 : Int) (v2 : AV) (v5 : AV) (v16 : AV) (v17 : Int) (v18 : Int) (h : Heap) : CRes :=
 ifB (ltF v18 v17)
 (Q6 .i64 1 h v16 v18 fun x9 x10 =>
 ifB (ltF x10 0)
 (j4 v1 v2 v5 v18 x10 v16 v17 v18 true h)
 (jO .i64 1 h v2 fun x11 x12 =>
 j4 v1 v2 v5 v18 x10 v16 v17 v18 (jk (ltF x10 x12)) h))
 (j0 v5 h)
theorem agN (hk : ib k0 k) {J0 : Q1} {j0 : AF} (h0 : HY J0 j0) {J4 : Q1} {j4 : AA} (h4 : HO J4 j4) : mZ (Tv n ar k0 J0 J4) (AK n ar k j0 j4) := by
  obtain rfl := fx2 hk
  obtain rfl := fx2 h0
  obtain rfl := fx10 h4
  intro v1 v2 v5 v16 v17 v18 h
  kernel_rfl
def SP (m : Nat) : Q1 := Nat.rec (motive := fun _ => Q1) (fun _ => .err) (fun _ ih => Tv n ar k0 (SU n ar k0 ) (Sp n ar k0 ih)) m
def rE (m : Nat) : f8 := Nat.rec (motive := fun _ => f8) (fun _ _ _ _ _ _ _ => .err) (fun _ ih => AK n ar k (AE n ar k ) (z6 n ar k ih)) m
theorem af8 (hk : ib k0 k) (m : Nat) : mZ (SP n ar k0 m) (rE n ar k m) := by
  induction m with
  | zero => intro v1 v2 v5 v16 v17 v18 h; rfl
  | succ m ih => exact agN n ar k0 k hk (ahd n ar k0 k hk ) (ahH n ar k0 k hk ih)
def aaj (n : Nat) (ar : cO) (k0 : Q0) (J1 : Q1) : Q1 := (bS (gd ar) fO PJ (bS (gd ar) fO Qr (bS (gd ar) fO P9 (fun s => da Is s J1))))
def Ot (n : Nat) (ar : cO) (k : iW) (j1 : f8) (a0 : AV) (a1 : Int) (h : Heap) : CRes :=
 zt h a0 fun x0 h1 =>
 fld 16 h1 (.ptr x0 0) 1 false fun x2 x3 =>
 SM 8 x3 a1 fun x4 =>
 fld 0 h1 x4 1 false fun x5 x6 =>
 jb x6 fun x7 =>
 j1 a1 (.ptr x0 0) x6 x6 x7 0 h1
theorem ajI (n : Nat) (ar : cO) (k0 : Q0) (k : iW) (hk : ib k0 k) {J1 : Q1} {j1 : f8} (h1 : mZ J1 j1) (a0 : AV) (a1 : Int) (h : Heap) : (aaj n ar k0 J1) ⟨c8 [(p0, a0), (p1, (.int .i64 a1))], h⟩ = (Ot n ar k j1) a0 a1 h := by
  obtain rfl := fx2 hk
  obtain rfl := fx7 h1
  kernel_rfl
def akm : Q1 := aaj n ar k0 (SP n ar k0 n)
def Pc (n : Nat) (ar : cO) (a0 : AV) (a1 : Int) (h : Heap) (k : iW) : CRes := Ot n ar k (rE n ar k n) a0 a1 h
theorem ake (n : Nat) (ar : cO) (k0 : Q0) (s : St) : D (eO [(kE, iQ ar)]) fO n Oq (cX rP k0) (fun _ _ => .err) (cX rP k0) s = akm n ar k0 s := by kernel_rfl
theorem alj (n : Nat) (ar : cO) (a0 : AV) (a1 : Int) (h : Heap) (k0 : Q0) : W OC rP [(kE, iQ ar)] fO n Oq [a0, (.int .i64 a1)] h k0 = Pc n ar a0 a1 h (fun u0 h => k0 (.bool u0) h) := by
  let k : iW := fun u0 h => k0 (.bool u0) h
  have hk : ib k0 k := fun _ _ => rfl
  have hb : ∀ F : Tr AV → CRes, gG OC [a0, (.int .i64 a1)] .leaf F = F (c8 [(p0, a0), (p1, (.int .i64 a1))]) := fun F => by kernel_rfl
  exact (mC hb).trans ((ake n ar k0 _).trans (ajI n ar k0 k hk (af8 n ar k0 k hk n) a0 a1 h))
end
def vV (n : Nat) : my := Pc n (c9 n)
/-! cofferdam/plan.each -/
abbrev dK := AV → Heap → (Int → Heap → CRes) → CRes
abbrev Dy := Int → Heap → CRes
def rr (g : dK) : Wr := fun l h k => lM l fun a0 l => mq l (g a0 h fun u0 h => k (.int .i64 u0) h)
def aet : dN := eO []
abbrev aeI (k0 : Q0) (k : Dy) : Prop := ∀ u0 h, k0 (.int .i64 u0) h = k u0 h
section
variable (n : Nat) (k0 : Q0) (k : Dy)
def aic (n : Nat) (k0 : Q0) : Q1 := (bS (aet ) KX acp (bS (aet ) KX adg (cX KE k0)))
def Zi (n : Nat) (k : Dy) (a0 : AV) (h : Heap) : CRes :=
 zt h a0 fun x0 h1 =>
 jO .i64 0 h1 (.ptr x0 0) fun x2 x3 =>
 jO .i64 1 h1 (.ptr x0 0) fun x4 x5 =>
 quoK .i64 x3 x5 fun x6 =>
 k x6 h1
theorem apR (n : Nat) (k0 : Q0) (k : Dy) (hk : aeI k0 k) (a0 : AV) (h : Heap) : (aic n k0 ) ⟨c8 [(p0, a0)], h⟩ = (Zi n k ) a0 h := by
  obtain rfl := fx2 hk
  kernel_rfl
def ao8 : Q1 := aic n k0
def aab (n : Nat) (a0 : AV) (h : Heap) (k : Dy) : CRes := Zi n k a0 h
theorem apD (n : Nat) (k0 : Q0) (s : St) : D (eO []) KX n aa3 (cX KE k0) (fun _ _ => .err) (cX KE k0) s = ao8 n k0 s := by kernel_rfl
theorem apm (n : Nat) (a0 : AV) (h : Heap) (k0 : Q0) : W Zk KE [] KX n aa3 [a0] h k0 = aab n a0 h (fun u0 h => k0 (.int .i64 u0) h) := by
  let k : Dy := fun u0 h => k0 (.int .i64 u0) h
  have hk : aeI k0 k := fun _ _ => rfl
  have hb : ∀ F : Tr AV → CRes, gG Zk [a0] .leaf F = F (c8 [(p0, a0)]) := fun F => by kernel_rfl
  exact (mC hb).trans ((apD n k0 _).trans (apR n k0 k hk a0 h))
end
def rq (n : Nat) : dK := aab n
/-! cofferdam/plan.total -/
abbrev dw := AV → Int → Heap → (Int → Heap → CRes) → CRes
abbrev Ab := Int → Heap → CRes
def pg (g : dw) : Wr := fun l h k => lM l fun a0 l => ph .i64 l fun a1 l => mq l (g a0 a1 h fun u0 h => k (.int .i64 u0) h)
def aci (aI : dK) : dN := eO [(tO, rr aI)]
abbrev acH (k0 : Q0) (k : Ab) : Prop := ∀ u0 h, k0 (.int .i64 u0) h = k u0 h
section
variable (n : Nat) (aI : dK) (k0 : Q0) (k : Ab)
def afj (n : Nat) (aI : dK) (k0 : Q0) : Q1 := (bS (aci aI) E7 aaU (bS (aci aI) E7 aaB (cX FV k0)))
def U9 (n : Nat) (aI : dK) (k : Ab) (a0 : AV) (a1 : Int) (h : Heap) : CRes :=
 zt h a0 fun x0 h1 =>
 fld 16 h1 (.ptr x0 0) 1 false fun x2 x3 =>
 SM 8 x3 a1 fun x4 =>
 fld 0 h1 x4 1 false fun x5 x6 =>
 jb x6 fun x7 =>
 gJ h1 (.ptr x0 0) 17 true fun x8 =>
 aI x8 (h1.shut true) fun x9 h10 =>
 OL .i64 x7 x9 fun x11 =>
 k x11 (h10.back h1.ro)
theorem aoM (n : Nat) (aI : dK) (k0 : Q0) (k : Ab) (hk : acH k0 k) (a0 : AV) (a1 : Int) (h : Heap) : (afj n aI k0 ) ⟨c8 [(p0, a0), (p1, (.int .i64 a1))], h⟩ = (U9 n aI k ) a0 a1 h := by
  obtain rfl := fx2 hk
  kernel_rfl
def aoT : Q1 := afj n aI k0
def Vz (n : Nat) (aI : dK) (a0 : AV) (a1 : Int) (h : Heap) (k : Ab) : CRes := U9 n aI k a0 a1 h
theorem aov (n : Nat) (aI : dK) (k0 : Q0) (s : St) : D (eO [(tO, rr aI)]) E7 n UX (cX FV k0) (fun _ _ => .err) (cX FV k0) s = aoT n aI k0 s := by kernel_rfl
theorem aom (n : Nat) (aI : dK) (a0 : AV) (a1 : Int) (h : Heap) (k0 : Q0) : W VG FV [(tO, rr aI)] E7 n UX [a0, (.int .i64 a1)] h k0 = Vz n aI a0 a1 h (fun u0 h => k0 (.int .i64 u0) h) := by
  let k : Ab := fun u0 h => k0 (.int .i64 u0) h
  have hk : acH k0 k := fun _ _ => rfl
  have hb : ∀ F : Tr AV → CRes, gG VG [a0, (.int .i64 a1)] .leaf F = F (c8 [(p0, a0), (p1, (.int .i64 a1))]) := fun F => by kernel_rfl
  exact (mC hb).trans ((aov n aI k0 _).trans (aoM n aI k0 k hk a0 a1 h))
end
def pe (n : Nat) : dw := Vz n (rq n)
/-! cofferdam/plan.quotas -/
abbrev ni := AV → Int → Heap → (Bool → Heap → CRes) → CRes
abbrev iG := Bool → Heap → CRes
def yg (g : ni) : Wr := fun l h k => lM l fun a0 l => ph .i64 l fun a1 l => mq l (g a0 a1 h fun u0 h => k (.bool u0) h)
def et (aE : dw) (ad : ck) (aI : dK) (ah : bV) : dN := eO [(ri, pg aE), (jx, iU ad), (tO, rr aI), (fM, fC ah)]
abbrev fH (k0 : Q0) (k : iG) : Prop := ∀ u0 h, k0 (.bool u0) h = k u0 h
abbrev CP : Type := Bool → Heap → CRes
abbrev Mb (J : Q1) (j : CP) : Prop := ∀ v104 h, J ⟨c8 [(p104, (.bool v104))], h⟩ = j v104 h
abbrev CW : Type := Int → AV → AV → Bool → Heap → CRes
abbrev Mi (J : Q1) (j : CW) : Prop := ∀ v1 v2 v5 v72 h, J ⟨c8 [(p1, (.int .i64 v1)), (p2, v2), (p5, v5), (p72, (.bool v72))], h⟩ = j v1 v2 v5 v72 h
abbrev CO : Type := Int → AV → AV → Int → Heap → CRes
abbrev LY (J : Q1) (j : CO) : Prop := ∀ v1 v2 v5 v8 h, J ⟨c8 [(p1, (.int .i64 v1)), (p2, v2), (p5, v5), (p8, (.int .i64 v8))], h⟩ = j v1 v2 v5 v8 h
abbrev CX : Type := Int → AV → AV → Int → AV → Int → Int → Heap → CRes
abbrev Lp (J : Q1) (j : CX) : Prop := ∀ v1 v2 v5 v8 v51 v52 v53 h, J ⟨c8 [(p1, (.int .i64 v1)), (p2, v2), (p5, v5), (p8, (.int .i64 v8)), (p51, v51), (p52, (.int .i64 v52)), (p53, (.int .i64 v53))], h⟩ = j v1 v2 v5 v8 v51 v52 v53 h
abbrev mI : Type := Int → AV → AV → Int → AV → Int → Int → Heap → CRes
abbrev xC (J : Q1) (j : mI) : Prop := ∀ v1 v2 v5 v8 v51 v52 v53 h, J ⟨c8 [(p1, (.int .i64 v1)), (p2, v2), (p5, v5), (p8, (.int .i64 v8)), (p51, v51), (p52, (.int .i64 v52)), (p53, (.int .i64 v53))], h⟩ = j v1 v2 v5 v8 v51 v52 v53 h
abbrev CZ : Type := Int → AV → AV → Heap → CRes
abbrev LZ (J : Q1) (j : CZ) : Prop := ∀ v1 v2 v5 h, J ⟨c8 [(p1, (.int .i64 v1)), (p2, v2), (p5, v5)], h⟩ = j v1 v2 v5 h
abbrev qE : Type := Int → AV → AV → AV → Int → Heap → CRes
abbrev Cz (J : Q1) (j : qE) : Prop := ∀ v1 v2 v5 v39 v40 h, J ⟨c8 [(p1, (.int .i64 v1)), (p2, v2), (p5, v5), (p39, v39), (p40, (.int .i64 v40))], h⟩ = j v1 v2 v5 v39 v40 h
abbrev CJ : Type := Int → AV → AV → Bool → Heap → CRes
abbrev Lx (J : Q1) (j : CJ) : Prop := ∀ v1 v2 v5 v32 h, J ⟨c8 [(p1, (.int .i64 v1)), (p2, v2), (p5, v5), (p32, (.bool v32))], h⟩ = j v1 v2 v5 v32 h
abbrev CI : Type := Int → AV → AV → Bool → Heap → CRes
abbrev Mc (J : Q1) (j : CI) : Prop := ∀ v1 v2 v5 v26 h, J ⟨c8 [(p1, (.int .i64 v1)), (p2, v2), (p5, v5), (p26, (.bool v26))], h⟩ = j v1 v2 v5 v26 h
section
variable (n : Nat) (aE : dw) (ad : ck) (aI : dK) (ah : bV) (k0 : Q0) (k : iG)
def Wx (n : Nat) (aE : dw) (ad : ck) (aI : dK) (ah : bV) (k0 : Q0) : Q1 := (bS (et aE ad aI ah) ef W5 (cX pl k0))
def Mn (n : Nat) (aE : dw) (ad : ck) (aI : dK) (ah : bV) (k : iG) (v104 : Bool) (h : Heap) : CRes :=
 k v104 h
theorem aiD (hk : fH k0 k) : Mb (Wx n aE ad aI ah k0 ) (Mn n aE ad aI ah k ) := by
  obtain rfl := fx2 hk
  intro v104 h
  kernel_rfl
def XP : Q1 := Wx n aE ad aI ah k0
def L7 : CP := Mn n aE ad aI ah k
theorem aiw (hk : fH k0 k) : Mb (XP n aE ad aI ah k0 ) (L7 n aE ad aI ah k ) := aiD n aE ad aI ah k0 k hk
def W4 (n : Nat) (aE : dw) (ad : ck) (aI : dK) (ah : bV) (k0 : Q0) (J0 : Q1) : Q1 := (fun s => eK (.t p72) s (bS (et aE ad aI ah) ef Xn (cX pl k0)) (bS (et aE ad aI ah) ef XO (fun s => eK (.t p75) s (bS (et aE ad aI ah) ef XF (cX pl k0)) (bS (et aE ad aI ah) ef Wl (bS (et aE ad aI ah) ef V5 (fun s => da WV s J0))))))
def Ml (n : Nat) (aE : dw) (ad : ck) (aI : dK) (ah : bV) (k : iG) (j0 : CP) (v1 : Int) (v2 : AV) (v5 : AV) (v72 : Bool) (h : Heap) : CRes :=
 ifB v72
 (k false h)
 (gJ h v2 17 true fun x54 =>
 ad x54 h fun x55 h56 =>
 ifB (jk x55)
 (k true h56)
 (jO .i64 1 h56 v5 fun x57 x58 =>
 aiv .i64 1 x58 fun x59 =>
 gJ h56 v2 17 true fun x60 =>
 aI x60 h56 fun x61 h62 =>
 ifB (jk (ltF x61 x59))
 (jO .i64 2 h62 v5 fun x63 x64 =>
 lU .i64 x59 x64 fun x65 =>
 jO .i64 3 h62 v5 fun x66 x67 =>
 lU .i64 x65 x67 fun x68 =>
 jO .i64 4 h62 v5 fun x69 x70 =>
 lU .i64 x68 x70 fun x71 =>
 jO .i64 5 h62 v5 fun x72 x73 =>
 lU .i64 x71 x73 fun x74 =>
 jO .i64 6 h62 v5 fun x75 x76 =>
 lU .i64 x74 x76 fun x77 =>
 gJ h62 v2 17 true fun x78 =>
 aE x78 v1 (h62.shut true) fun x79 h80 =>
 j0 (jk (ltF x79 x77)) (h80.back h62.ro))
 (j0 false h62)))
theorem aiU (hk : fH k0 k) {J0 : Q1} {j0 : CP} (h0 : Mb J0 j0) : Mi (W4 n aE ad aI ah k0 J0) (Ml n aE ad aI ah k j0) := by
  obtain rfl := fx2 hk
  obtain rfl := fx2 h0
  intro v1 v2 v5 v72 h
  kernel_rfl
def VS : Q1 := W4 n aE ad aI ah k0 (XP n aE ad aI ah k0 )
def Lw : CW := Ml n aE ad aI ah k (L7 n aE ad aI ah k )
theorem aiR (hk : fH k0 k) : Mi (VS n aE ad aI ah k0 ) (Lw n aE ad aI ah k ) := aiU n aE ad aI ah k0 k hk (aiw n aE ad aI ah k0 k hk )
def Xd (n : Nat) (aE : dw) (ad : ck) (aI : dK) (ah : bV) (k0 : Q0) (J1 : Q1) : Q1 := (bS (et aE ad aI ah) ef WE (fun s => da V0 s J1))
def L4 (n : Nat) (aE : dw) (ad : ck) (aI : dK) (ah : bV) (k : iG) (j1 : CW) (v1 : Int) (v2 : AV) (v5 : AV) (v8 : Int) (h : Heap) : CRes :=
 jO .i64 7 h v5 fun x38 x39 =>
 ah x39 1 1024 h fun x40 h41 =>
 ifB (jk x40)
 (j1 v1 v2 v5 true h41)
 (j1 v1 v2 v5 (ltF 1024 v8) h41)
theorem ajq (hk : fH k0 k) {J1 : Q1} {j1 : CW} (h1 : Mi J1 j1) : LY (Xd n aE ad aI ah k0 J1) (L4 n aE ad aI ah k j1) := by
  obtain rfl := fx2 hk
  obtain rfl := fx5 h1
  intro v1 v2 v5 v8 h
  kernel_rfl
def V8 : Q1 := Xd n aE ad aI ah k0 (VS n aE ad aI ah k0 )
def xJ : CO := L4 n aE ad aI ah k (Lw n aE ad aI ah k )
theorem aja (hk : fH k0 k) : LY (V8 n aE ad aI ah k0 ) (xJ n aE ad aI ah k ) := ajq n aE ad aI ah k0 k hk (aiR n aE ad aI ah k0 k hk )
def V1 (n : Nat) (aE : dw) (ad : ck) (aI : dK) (ah : bV) (k0 : Q0) (J3 : Q1) : Q1 := (bS (et aE ad aI ah) ef W9 (fun s => da Mw s J3))
def LA (n : Nat) (aE : dw) (ad : ck) (aI : dK) (ah : bV) (k : iG) (j3 : mI) (v1 : Int) (v2 : AV) (v5 : AV) (v8 : Int) (v51 : AV) (v52 : Int) (v53 : Int) (h : Heap) : CRes :=
 lU .i64 v53 1 fun x81 =>
 j3 v1 v2 v5 v8 v51 v52 x81 h
theorem ajk (hk : fH k0 k) {J3 : Q1} {j3 : mI} (h3 : xC J3 j3) : Lp (V1 n aE ad aI ah k0 J3) (LA n aE ad aI ah k j3) := by
  obtain rfl := fx2 hk
  obtain rfl := fx8 h3
  intro v1 v2 v5 v8 v51 v52 v53 h
  kernel_rfl
def XC (J3 : Q1) : Q1 := V1 n aE ad aI ah k0 J3
def C2 (j3 : mI) : CX := LA n aE ad aI ah k j3
theorem air (hk : fH k0 k) {J3 : Q1} {j3 : mI} (h3 : xC J3 j3) : Lp (XC n aE ad aI ah k0 J3) (C2 n aE ad aI ah k j3) := ajk n aE ad aI ah k0 k hk h3
def Wv (n : Nat) (aE : dw) (ad : ck) (aI : dK) (ah : bV) (k0 : Q0) (J2 : Q1) (J4 : Q1) : Q1 := (bS (et aE ad aI ah) ef Ut (fun s => eK (.t p54) s (bS (et aE ad aI ah) ef Ts (bS (et aE ad aI ah) ef Xf (fun s => eK (.t p59) s (bS (et aE ad aI ah) ef XE (fun s => da LH s J4)) (fun s => da LH s J4)))) (fun s => da Xq s J2)))
def CT (n : Nat) (aE : dw) (ad : ck) (aI : dK) (ah : bV) (k : iG) (j2 : CO) (j4 : CX) (v1 : Int) (v2 : AV) (v5 : AV) (v8 : Int) (v51 : AV) (v52 : Int) (v53 : Int) (h : Heap) : CRes :=
 ifB (ltF v53 v52)
 (eld 8 h v51 v53 8 true fun x42 x43 =>
 yA h (.cells [.nilslice, (.int .i64 0), (.int .i64 0), (.int .i64 0), (.int .i64 0), (.int .i64 0), (.int .i64 0), (.int .i64 0)] true 0) fun x44 h45 =>
 lR h45 (.ptr x44 0) 8 x43 fun h46 =>
 jO .i64 7 h46 (.ptr x44 0) fun x47 x48 =>
 ah x48 1 1024 h46 fun x49 h50 =>
 ifB x49
 (jO .i64 7 h50 (.ptr x44 0) fun x51 x52 =>
 lU .i64 v8 x52 fun x53 =>
 j4 v1 v2 v5 x53 v51 v52 v53 h50)
 (j4 v1 v2 v5 v8 v51 v52 v53 h50))
 (j2 v1 v2 v5 v8 h)
theorem ai7 (hk : fH k0 k) {J2 : Q1} {j2 : CO} (h2 : LY J2 j2) {J4 : Q1} {j4 : CX} (h4 : Lp J4 j4) : xC (Wv n aE ad aI ah k0 J2 J4) (CT n aE ad aI ah k j2 j4) := by
  obtain rfl := fx2 hk
  obtain rfl := fx5 h2
  obtain rfl := fx8 h4
  intro v1 v2 v5 v8 v51 v52 v53 h
  kernel_rfl
def Xt (m : Nat) : Q1 := Nat.rec (motive := fun _ => Q1) (fun _ => .err) (fun _ ih => Wv n aE ad aI ah k0 (V8 n aE ad aI ah k0 ) (XC n aE ad aI ah k0 ih)) m
def xD (m : Nat) : mI := Nat.rec (motive := fun _ => mI) (fun _ _ _ _ _ _ _ _ => .err) (fun _ ih => CT n aE ad aI ah k (xJ n aE ad aI ah k ) (C2 n aE ad aI ah k ih)) m
theorem ajb (m : Nat) : xD n aE ad aI ah k (m + 1) = CT n aE ad aI ah k (xJ n aE ad aI ah k ) (C2 n aE ad aI ah k (xD n aE ad aI ah k m)) := rfl
theorem aix (hk : fH k0 k) (m : Nat) : xC (Xt n aE ad aI ah k0 m) (xD n aE ad aI ah k m) := by
  induction m with
  | zero => intro v1 v2 v5 v8 v51 v52 v53 h; rfl
  | succ m ih => exact ai7 n aE ad aI ah k0 k hk (aja n aE ad aI ah k0 k hk ) (air n aE ad aI ah k0 k hk ih)
def XA (n : Nat) (aE : dw) (ad : ck) (aI : dK) (ah : bV) (k0 : Q0) (J3 : Q1) : Q1 := (bS (et aE ad aI ah) ef Ud (bS (et aE ad aI ah) ef Uq (fun s => da Mw s J3)))
def Mq (n : Nat) (aE : dw) (ad : ck) (aI : dK) (ah : bV) (k : iG) (j3 : mI) (v1 : Int) (v2 : AV) (v5 : AV) (h : Heap) : CRes :=
 fld 16 h v2 1 false fun x28 x29 =>
 lU .i64 v1 1 fun x30 =>
 slK (.sl 8) x29 none (some (.int .i64 x30)) none fun x31 =>
 jb x31 fun x32 =>
 j3 v1 v2 v5 0 x31 x32 0 h
theorem ai6 (hk : fH k0 k) {J3 : Q1} {j3 : mI} (h3 : xC J3 j3) : LZ (XA n aE ad aI ah k0 J3) (Mq n aE ad aI ah k j3) := by
  obtain rfl := fx2 hk
  obtain rfl := fx8 h3
  intro v1 v2 v5 h
  kernel_rfl
def WL : Q1 := XA n aE ad aI ah k0 (Xt n aE ad aI ah k0 n)
def CQ : CZ := Mq n aE ad aI ah k (xD n aE ad aI ah k n)
theorem ai8 (hk : fH k0 k) : LZ (WL n aE ad aI ah k0 ) (CQ n aE ad aI ah k ) := ai6 n aE ad aI ah k0 k hk (aix n aE ad aI ah k0 k hk n)
def V7 (n : Nat) (aE : dw) (ad : ck) (aI : dK) (ah : bV) (k0 : Q0) (J5 : Q1) (J6 : Q1) : Q1 := (bS (et aE ad aI ah) ef To (fun s => eK (.t p41) s (bS (et aE ad aI ah) ef SW (bS (et aE ad aI ah) ef SD (fun s => eK (.t p45) s (bS (et aE ad aI ah) ef Up (cX pl k0)) (bS (et aE ad aI ah) ef Sb (fun s => da Mj s J6))))) (fun s => da Xa s J5)))
def C0 (n : Nat) (aE : dw) (ad : ck) (aI : dK) (ah : bV) (k : iG) (j5 : CZ) (j6 : qE) (v1 : Int) (v2 : AV) (v5 : AV) (v39 : AV) (v40 : Int) (h : Heap) : CRes :=
 ifB (ltF v40 3)
 (Xc 1 3 false v39 v40 fun x33 =>
 UA .i64 x33 fun x34 =>
 ah x34 1 4096 h fun x35 h36 =>
 ifB (jk x35)
 (k false h36)
 (lU .i64 v40 1 fun x37 =>
 j6 v1 v2 v5 v39 x37 h36))
 (j5 v1 v2 v5 h)
theorem aiK (hk : fH k0 k) {J5 : Q1} {j5 : CZ} (h5 : LZ J5 j5) {J6 : Q1} {j6 : qE} (h6 : Cz J6 j6) : Cz (V7 n aE ad aI ah k0 J5 J6) (C0 n aE ad aI ah k j5 j6) := by
  obtain rfl := fx2 hk
  obtain rfl := fx4 h5
  obtain rfl := fx6 h6
  intro v1 v2 v5 v39 v40 h
  kernel_rfl
def XK (m : Nat) : Q1 := Nat.rec (motive := fun _ => Q1) (fun _ => .err) (fun _ ih => V7 n aE ad aI ah k0 (WL n aE ad aI ah k0 ) ih) m
def CL (m : Nat) : qE := Nat.rec (motive := fun _ => qE) (fun _ _ _ _ _ _ => .err) (fun _ ih => C0 n aE ad aI ah k (CQ n aE ad aI ah k ) ih) m
theorem ajg (m : Nat) : CL n aE ad aI ah k (m + 1) = C0 n aE ad aI ah k (CQ n aE ad aI ah k ) (CL n aE ad aI ah k m) := rfl
theorem aiA (hk : fH k0 k) (m : Nat) : Cz (XK n aE ad aI ah k0 m) (CL n aE ad aI ah k m) := by
  induction m with
  | zero => intro v1 v2 v5 v39 v40 h; rfl
  | succ m ih => exact aiK n aE ad aI ah k0 k hk (ai8 n aE ad aI ah k0 k hk ) ih
def Wc (n : Nat) (aE : dw) (ad : ck) (aI : dK) (ah : bV) (k0 : Q0) (J6 : Q1) : Q1 := (fun s => eK (.t p32) s (bS (et aE ad aI ah) ef S4 (cX pl k0)) (bS (et aE ad aI ah) ef Uk (fun s => da Mj s J6)))
def LG (n : Nat) (aE : dw) (ad : ck) (aI : dK) (ah : bV) (k : iG) (j6 : qE) (v1 : Int) (v2 : AV) (v5 : AV) (v32 : Bool) (h : Heap) : CRes :=
 ifB v32
 (k false h)
 (jO .i64 4 h v5 fun x21 x22 =>
 jO .i64 5 h v5 fun x23 x24 =>
 jO .i64 6 h v5 fun x25 x26 =>
 wa [(.int .i64 0), (.int .i64 0), (.int .i64 0)] [(0, 1, (.int .i64 x22)), (1, 1, (.int .i64 x24)), (2, 1, (.int .i64 x26))] fun x27 =>
 j6 v1 v2 v5 x27 0 h)
theorem ai1 (hk : fH k0 k) {J6 : Q1} {j6 : qE} (h6 : Cz J6 j6) : Lx (Wc n aE ad aI ah k0 J6) (LG n aE ad aI ah k j6) := by
  obtain rfl := fx2 hk
  obtain rfl := fx6 h6
  intro v1 v2 v5 v32 h
  kernel_rfl
def WG : Q1 := Wc n aE ad aI ah k0 (XK n aE ad aI ah k0 n)
def Mf : CJ := LG n aE ad aI ah k (CL n aE ad aI ah k n)
theorem aiM (hk : fH k0 k) : Lx (WG n aE ad aI ah k0 ) (Mf n aE ad aI ah k ) := ai1 n aE ad aI ah k0 k hk (aiA n aE ad aI ah k0 k hk n)
def XD (n : Nat) (aE : dw) (ad : ck) (aI : dK) (ah : bV) (k0 : Q0) (J8 : Q1) : Q1 := (bS (et aE ad aI ah) ef RT (fun s => da Xg s J8))
def LE (n : Nat) (aE : dw) (ad : ck) (aI : dK) (ah : bV) (k : iG) (j8 : CJ) (v1 : Int) (v2 : AV) (v5 : AV) (v26 : Bool) (h : Heap) : CRes :=
 ifB v26
 (j8 v1 v2 v5 true h)
 (faK 3 v5 fun x17 =>
 ldI .i64 h x17 fun x18 =>
 ah x18 4 4096 h fun x19 h20 =>
 j8 v1 v2 v5 (jk x19) h20)
theorem aiI (hk : fH k0 k) {J8 : Q1} {j8 : CJ} (h8 : Lx J8 j8) : Mc (XD n aE ad aI ah k0 J8) (LE n aE ad aI ah k j8) := by
  obtain rfl := fx2 hk
  obtain rfl := fx5 h8
  intro v1 v2 v5 v26 h
  kernel_rfl
def VR : Q1 := XD n aE ad aI ah k0 (WG n aE ad aI ah k0 )
def LM : CI := LE n aE ad aI ah k (Mf n aE ad aI ah k )
theorem aiN (hk : fH k0 k) : Mc (VR n aE ad aI ah k0 ) (LM n aE ad aI ah k ) := aiI n aE ad aI ah k0 k hk (aiM n aE ad aI ah k0 k hk )
def acr (n : Nat) (aE : dw) (ad : ck) (aI : dK) (ah : bV) (k0 : Q0) (J7 : Q1) : Q1 := (bS (et aE ad aI ah) ef Td (bS (et aE ad aI ah) ef TI (bS (et aE ad aI ah) ef T7 (fun s => da VX s J7))))
def RN (n : Nat) (aE : dw) (ad : ck) (aI : dK) (ah : bV) (k : iG) (j7 : CI) (a0 : AV) (a1 : Int) (h : Heap) : CRes :=
 zt h a0 fun x0 h1 =>
 fld 16 h1 (.ptr x0 0) 1 false fun x2 x3 =>
 eld 8 h1 x3 a1 8 true fun x4 x5 =>
 yA h1 (.cells [.nilslice, (.int .i64 0), (.int .i64 0), (.int .i64 0), (.int .i64 0), (.int .i64 0), (.int .i64 0), (.int .i64 0)] true 0) fun x6 h7 =>
 lR h7 (.ptr x6 0) 8 x5 fun h8 =>
 jO .i64 1 h8 (.ptr x6 0) fun x9 x10 =>
 ah x10 0 3 h8 fun x11 h12 =>
 ifB (jk x11)
 (j7 a1 (.ptr x0 0) (.ptr x6 0) true h12)
 (faK 2 (.ptr x6 0) fun x13 =>
 ldI .i64 h12 x13 fun x14 =>
 ah x14 2 4096 h12 fun x15 h16 =>
 j7 a1 (.ptr x0 0) (.ptr x6 0) (jk x15) h16)
theorem alP (n : Nat) (aE : dw) (ad : ck) (aI : dK) (ah : bV) (k0 : Q0) (k : iG) (hk : fH k0 k) {J7 : Q1} {j7 : CI} (h7 : Mc J7 j7) (a0 : AV) (a1 : Int) (h : Heap) : (acr n aE ad aI ah k0 J7) ⟨c8 [(p0, a0), (p1, (.int .i64 a1))], h⟩ = (RN n aE ad aI ah k j7) a0 a1 h := by
  obtain rfl := fx2 hk
  obtain rfl := fx5 h7
  kernel_rfl
def alZ : Q1 := acr n aE ad aI ah k0 (VR n aE ad aI ah k0 )
def QW (n : Nat) (aE : dw) (ad : ck) (aI : dK) (ah : bV) (a0 : AV) (a1 : Int) (h : Heap) (k : iG) : CRes := RN n aE ad aI ah k (LM n aE ad aI ah k ) a0 a1 h
theorem aml (n : Nat) (aE : dw) (ad : ck) (aI : dK) (ah : bV) (k0 : Q0) (s : St) : D (eO [(ri, pg aE), (jx, iU ad), (tO, rr aI), (fM, fC ah)]) ef n QL (cX pl k0) (fun _ _ => .err) (cX pl k0) s = alZ n aE ad aI ah k0 s := by kernel_rfl
theorem amk (n : Nat) (aE : dw) (ad : ck) (aI : dK) (ah : bV) (a0 : AV) (a1 : Int) (h : Heap) (k0 : Q0) : W QQ pl [(ri, pg aE), (jx, iU ad), (tO, rr aI), (fM, fC ah)] ef n QL [a0, (.int .i64 a1)] h k0 = QW n aE ad aI ah a0 a1 h (fun u0 h => k0 (.bool u0) h) := by
  let k : iG := fun u0 h => k0 (.bool u0) h
  have hk : fH k0 k := fun _ _ => rfl
  have hb : ∀ F : Tr AV → CRes, gG QQ [a0, (.int .i64 a1)] .leaf F = F (c8 [(p0, a0), (p1, (.int .i64 a1))]) := fun F => by kernel_rfl
  exact (mC hb).trans ((aml n aE ad aI ah k0 _).trans (alP n aE ad aI ah k0 k hk (aiN n aE ad aI ah k0 k hk ) a0 a1 h))
end
def yj (n : Nat) : ni := QW n (pe n) (gn n) (rq n) (fU n)
/-! cofferdam/plan.part -/
abbrev dx := AV → Int → Heap → (Int → Heap → CRes) → CRes
abbrev Ea := Int → Heap → CRes
def ru (g : dx) : Wr := fun l h k => lM l fun a0 l => ph .i64 l fun a1 l => mq l (g a0 a1 h fun u0 h => k (.int .i64 u0) h)
def An (eo : my) (eG : ni) : dN := eO [(zP, wD eo), (B4, yg eG)]
abbrev aeS (k0 : Q0) (k : Ea) : Prop := ∀ u0 h, k0 (.int .i64 u0) h = k u0 h
section
variable (n : Nat) (eo : my) (eG : ni) (k0 : Q0) (k : Ea)
def ahY (n : Nat) (eo : my) (eG : ni) (k0 : Q0) : Q1 := (bS (An eo eG) tW acI (bS (An eo eG) tW adq (fun s => eK (.t p5) s (bS (An eo eG) tW acC (cX zv k0)) (bS (An eo eG) tW acW (fun s => eK (.t p10) s (bS (An eo eG) tW acu (cX zv k0)) (bS (An eo eG) tW acR (cX zv k0)))))))
def aaO (n : Nat) (eo : my) (eG : ni) (k : Ea) (a0 : AV) (a1 : Int) (h : Heap) : CRes :=
 zt h a0 fun x0 h1 =>
 gJ h1 (.ptr x0 0) 17 true fun x2 =>
 eo x2 a1 h1 fun x3 h4 =>
 ifB (jk x3)
 (k 110 h4)
 (gJ h4 (.ptr x0 0) 17 true fun x5 =>
 eG x5 a1 h4 fun x6 h7 =>
 ifB (jk x6)
 (k 111 h7)
 (k 0 h7))
theorem apn (n : Nat) (eo : my) (eG : ni) (k0 : Q0) (k : Ea) (hk : aeS k0 k) (a0 : AV) (a1 : Int) (h : Heap) : (ahY n eo eG k0 ) ⟨c8 [(p0, a0), (p1, (.int .i64 a1))], h⟩ = (aaO n eo eG k ) a0 a1 h := by
  obtain rfl := fx2 hk
  kernel_rfl
def aoX : Q1 := ahY n eo eG k0
def aal (n : Nat) (eo : my) (eG : ni) (a0 : AV) (a1 : Int) (h : Heap) (k : Ea) : CRes := aaO n eo eG k a0 a1 h
theorem ao5 (n : Nat) (eo : my) (eG : ni) (k0 : Q0) (s : St) : D (eO [(zP, wD eo), (B4, yg eG)]) tW n aac (cX zv k0) (fun _ _ => .err) (cX zv k0) s = aoX n eo eG k0 s := by kernel_rfl
theorem apd (n : Nat) (eo : my) (eG : ni) (a0 : AV) (a1 : Int) (h : Heap) (k0 : Q0) : W Zw zv [(zP, wD eo), (B4, yg eG)] tW n aac [a0, (.int .i64 a1)] h k0 = aal n eo eG a0 a1 h (fun u0 h => k0 (.int .i64 u0) h) := by
  let k : Ea := fun u0 h => k0 (.int .i64 u0) h
  have hk : aeS k0 k := fun _ _ => rfl
  have hb : ∀ F : Tr AV → CRes, gG Zw [a0, (.int .i64 a1)] .leaf F = F (c8 [(p0, a0), (p1, (.int .i64 a1))]) := fun F => by kernel_rfl
  exact (mC hb).trans ((ao5 n eo eG k0 _).trans (apn n eo eG k0 k hk a0 a1 h))
end
def m9 (n : Nat) : dx := aal n (vV n) (yj n)
/-! cofferdam/cost.within -/
abbrev dB := Int → Int → Int → Heap → (Bool → Heap → CRes) → CRes
abbrev un := Bool → Heap → CRes
def nk (g : dB) : Wr := fun l h k => ph .i64 l fun a0 l => ph .i64 l fun a1 l => ph .i64 l fun a2 l => mq l (g a0 a1 a2 h fun u0 h => k (.bool u0) h)
def NO : dN := eO []
abbrev F5 (k0 : Q0) (k : un) : Prop := ∀ u0 h, k0 (.bool u0) h = k u0 h
abbrev CN : Type := Bool → Heap → CRes
abbrev L6 (J : Q1) (j : CN) : Prop := ∀ v14 h, J ⟨c8 [(p14, (.bool v14))], h⟩ = j v14 h
section
variable (n : Nat) (k0 : Q0) (k : un)
def XM (n : Nat) (k0 : Q0) : Q1 := (bS (NO ) xZ XS (cX BM k0))
def L1 (n : Nat) (k : un) (v14 : Bool) (h : Heap) : CRes :=
 k v14 h
theorem ajn (hk : F5 k0 k) : L6 (XM n k0 ) (L1 n k ) := by
  obtain rfl := fx2 hk
  intro v14 h
  kernel_rfl
def Xz : Q1 := XM n k0
def LF : CN := L1 n k
theorem ajc (hk : F5 k0 k) : L6 (Xz n k0 ) (LF n k ) := ajn n k0 k hk
def acK (n : Nat) (k0 : Q0) (J0 : Q1) : Q1 := (bS (NO ) xZ XN (bS (NO ) xZ Xk (fun s => da WC s J0)))
def Q8 (n : Nat) (k : un) (j0 : CN) (a0 : Int) (a1 : Int) (a2 : Int) (h : Heap) : CRes :=
 ifB (jk (ltF a0 a1))
 (j0 (jk (ltF a2 a0)) h)
 (j0 false h)
theorem amj (n : Nat) (k0 : Q0) (k : un) (hk : F5 k0 k) {J0 : Q1} {j0 : CN} (h0 : L6 J0 j0) (a0 : Int) (a1 : Int) (a2 : Int) (h : Heap) : (acK n k0 J0) ⟨c8 [(p0, (.int .i64 a0)), (p1, (.int .i64 a1)), (p2, (.int .i64 a2))], h⟩ = (Q8 n k j0) a0 a1 a2 h := by
  obtain rfl := fx2 hk
  obtain rfl := fx2 h0
  kernel_rfl
def amy : Q1 := acK n k0 (Xz n k0 )
def QP (n : Nat) (a0 : Int) (a1 : Int) (a2 : Int) (h : Heap) (k : un) : CRes := Q8 n k (LF n k ) a0 a1 a2 h
theorem amx (n : Nat) (k0 : Q0) (s : St) : D (eO []) xZ n Rn (cX BM k0) (fun _ _ => .err) (cX BM k0) s = amy n k0 s := by kernel_rfl
theorem amn (n : Nat) (a0 : Int) (a1 : Int) (a2 : Int) (h : Heap) (k0 : Q0) : W Ro BM [] xZ n Rn [(.int .i64 a0), (.int .i64 a1), (.int .i64 a2)] h k0 = QP n a0 a1 a2 h (fun u0 h => k0 (.bool u0) h) := by
  let k : un := fun u0 h => k0 (.bool u0) h
  have hk : F5 k0 k := fun _ _ => rfl
  have hb : ∀ F : Tr AV → CRes, gG Ro [(.int .i64 a0), (.int .i64 a1), (.int .i64 a2)] .leaf F = F (c8 [(p0, (.int .i64 a0)), (p1, (.int .i64 a1)), (p2, (.int .i64 a2))]) := fun F => by kernel_rfl
  exact (mC hb).trans ((amx n k0 _).trans (amj n k0 k hk (ajc n k0 k hk ) a0 a1 a2 h))
end
def mA (n : Nat) : dB := QP n
/-! cofferdam/cost.Switch -/
abbrev en := AV → Int → Int → Heap → (Int → Int → Heap → CRes) → CRes
abbrev uu := Int → Int → Heap → CRes
def ya (g : en) : Wr := fun l h k => lM l fun a0 l => ph .i64 l fun a1 l => ph .i64 l fun a2 l => mq l (g a0 a1 a2 h fun u0 u1 h => k (.tuple [(.int .u64 u0), (.int .i64 u1)]) h)
def rS (ak : cu) (aH : dB) : dN := eO [(jc, iw ak), (pi, nk aH)]
abbrev EX (k0 : Q0) (k : uu) : Prop := ∀ u0 u1 h, k0 (.tuple [(.int .u64 u0), (.int .i64 u1)]) h = k u0 u1 h
abbrev CC : Type := Int → Int → AV → Bool → Heap → CRes
abbrev LT (J : Q1) (j : CC) : Prop := ∀ v1 v2 v3 v21 h, J ⟨c8 [(p1, (.int .i64 v1)), (p2, (.int .i64 v2)), (p3, v3), (p21, (.bool v21))], h⟩ = j v1 v2 v3 v21 h
section
variable (n : Nat) (ak : cu) (aH : dB) (k0 : Q0) (k : uu)
def Wu (n : Nat) (ak : cu) (aH : dB) (k0 : Q0) : Q1 := (fun s => eK (.t p21) s (bS (rS ak aH) nj VU (cX uw k0)) (bS (rS ak aH) nj XU (cX uw k0)))
def Mu (n : Nat) (ak : cu) (aH : dB) (k : uu) (v1 : Int) (v2 : Int) (v3 : AV) (v21 : Bool) (h : Heap) : CRes :=
 ifB v21
 (k 0 2 h)
 (lU .i64 v1 v2 fun x9 =>
 BG .u64 x9 fun x10 =>
 jO .u64 4 h v3 fun x11 x12 =>
 OL .u64 x10 x12 fun x13 =>
 k x13 0 h)
theorem ajd (hk : EX k0 k) : LT (Wu n ak aH k0 ) (Mu n ak aH k ) := by
  obtain rfl := fx3 hk
  intro v1 v2 v3 v21 h
  kernel_rfl
def WH : Q1 := Wu n ak aH k0
def Li : CC := Mu n ak aH k
theorem aiB (hk : EX k0 k) : LT (WH n ak aH k0 ) (Li n ak aH k ) := ajd n ak aH k0 k hk
def ack (n : Nat) (ak : cu) (aH : dB) (k0 : Q0) (J0 : Q1) : Q1 := (bS (rS ak aH) nj WU (bS (rS ak aH) nj WN (bS (rS ak aH) nj XL (fun s => eK (.t p12) s (bS (rS ak aH) nj V9 (cX uw k0)) (bS (rS ak aH) nj VT (fun s => da WW s J0))))))
def Rf (n : Nat) (ak : cu) (aH : dB) (k : uu) (j0 : CC) (a0 : AV) (a1 : Int) (a2 : Int) (h : Heap) : CRes :=
 zt h a0 fun x0 h1 =>
 gJ h1 (.ptr x0 0) 6 true fun x2 =>
 ak x2 h1 fun x3 h4 =>
 ifB (jk (eqF x3 0))
 (k 0 x3 h4)
 (aH a1 0 65536 h4 fun x5 h6 =>
 ifB (jk x5)
 (j0 a1 a2 (.ptr x0 0) true h6)
 (aH a2 0 64 h6 fun x7 h8 =>
 j0 a1 a2 (.ptr x0 0) (jk x7) h8))
theorem amt (n : Nat) (ak : cu) (aH : dB) (k0 : Q0) (k : uu) (hk : EX k0 k) {J0 : Q1} {j0 : CC} (h0 : LT J0 j0) (a0 : AV) (a1 : Int) (a2 : Int) (h : Heap) : (ack n ak aH k0 J0) ⟨c8 [(p0, a0), (p1, (.int .i64 a1)), (p2, (.int .i64 a2))], h⟩ = (Rf n ak aH k j0) a0 a1 a2 h := by
  obtain rfl := fx3 hk
  obtain rfl := fx5 h0
  kernel_rfl
def amv : Q1 := ack n ak aH k0 (WH n ak aH k0 )
def QV (n : Nat) (ak : cu) (aH : dB) (a0 : AV) (a1 : Int) (a2 : Int) (h : Heap) (k : uu) : CRes := Rf n ak aH k (Li n ak aH k ) a0 a1 a2 h
theorem amz (n : Nat) (ak : cu) (aH : dB) (k0 : Q0) (s : St) : D (eO [(jc, iw ak), (pi, nk aH)]) nj n Rr (cX uw k0) (fun _ _ => .err) (cX uw k0) s = amv n ak aH k0 s := by kernel_rfl
theorem amE (n : Nat) (ak : cu) (aH : dB) (a0 : AV) (a1 : Int) (a2 : Int) (h : Heap) (k0 : Q0) : W Rk uw [(jc, iw ak), (pi, nk aH)] nj n Rr [a0, (.int .i64 a1), (.int .i64 a2)] h k0 = QV n ak aH a0 a1 a2 h (fun u0 u1 h => k0 (.tuple [(.int .u64 u0), (.int .i64 u1)]) h) := by
  let k : uu := fun u0 u1 h => k0 (.tuple [(.int .u64 u0), (.int .i64 u1)]) h
  have hk : EX k0 k := fun _ _ _ => rfl
  have hb : ∀ F : Tr AV → CRes, gG Rk [a0, (.int .i64 a1), (.int .i64 a2)] .leaf F = F (c8 [(p0, a0), (p1, (.int .i64 a1)), (p2, (.int .i64 a2))]) := fun F => by kernel_rfl
  exact (mC hb).trans ((amz n ak aH k0 _).trans (amt n ak aH k0 k hk (aiB n ak aH k0 k hk ) a0 a1 a2 h))
end
def rm (n : Nat) : en := QV n (gE n) (mA n)
/-! cofferdam/cost.asked -/
abbrev lc := AV → AV → Heap → (Int → Heap → CRes) → CRes
abbrev mE := Int → Heap → CRes
def AD (g : lc) : Wr := fun l h k => lM l fun a0 l => lM l fun a1 l => mq l (g a0 a1 h fun u0 h => k (.int .i64 u0) h)
def iK (ak : cu) (aH : dB) : dN := eO [(jc, iw ak), (pi, nk aH)]
abbrev jD (k0 : Q0) (k : mE) : Prop := ∀ u0 h, k0 (.int .i64 u0) h = k u0 h
abbrev F9 : Type := Bool → Heap → CRes
abbrev Pp (J : Q1) (j : F9) : Prop := ∀ v44 h, J ⟨c8 [(p44, (.bool v44))], h⟩ = j v44 h
abbrev E9 : Type := AV → Bool → Heap → CRes
abbrev NS (J : Q1) (j : E9) : Prop := ∀ v3 v38 h, J ⟨c8 [(p3, v3), (p38, (.bool v38))], h⟩ = j v3 v38 h
abbrev FK : Type := AV → Bool → Heap → CRes
abbrev NT (J : Q1) (j : FK) : Prop := ∀ v3 v32 h, J ⟨c8 [(p3, v3), (p32, (.bool v32))], h⟩ = j v3 v32 h
abbrev EI : Type := AV → Bool → Heap → CRes
abbrev OV (J : Q1) (j : EI) : Prop := ∀ v3 v6 h, J ⟨c8 [(p3, v3), (p6, (.bool v6))], h⟩ = j v3 v6 h
abbrev FD : Type := AV → Int → Bool → Heap → CRes
abbrev NX (J : Q1) (j : FD) : Prop := ∀ v3 v13 v23 h, J ⟨c8 [(p3, v3), (p13, (.int .i64 v13)), (p23, (.bool v23))], h⟩ = j v3 v13 v23 h
abbrev nq : Type := AV → Bool → Int → Heap → CRes
abbrev zS (J : Q1) (j : nq) : Prop := ∀ v3 v6 v13 h, J ⟨c8 [(p3, v3), (p6, (.bool v6)), (p13, (.int .i64 v13))], h⟩ = j v3 v6 v13 h
section
variable (n : Nat) (ak : cu) (aH : dB) (k0 : Q0) (k : mE)
def aaS (n : Nat) (ak : cu) (aH : dB) (k0 : Q0) : Q1 := (fun s => eK (.t p44) s (bS (iK ak aH) gR YD (cX xl k0)) (bS (iK ak aH) gR aaC (cX xl k0)))
def OA (n : Nat) (ak : cu) (aH : dB) (k : mE) (v44 : Bool) (h : Heap) : CRes :=
 ifB v44
 (k 2 h)
 (k 0 h)
theorem alm (hk : jD k0 k) : Pp (aaS n ak aH k0 ) (OA n ak aH k ) := by
  obtain rfl := fx2 hk
  intro v44 h
  kernel_rfl
def aai : Q1 := aaS n ak aH k0
def Or : F9 := OA n ak aH k
theorem ajG (hk : jD k0 k) : Pp (aai n ak aH k0 ) (Or n ak aH k ) := alm n ak aH k0 k hk
def aaq (n : Nat) (ak : cu) (aH : dB) (k0 : Q0) (J2 : Q1) : Q1 := (bS (iK ak aH) gR Y3 (fun s => da ZJ s J2))
def Pq (n : Nat) (ak : cu) (aH : dB) (k : mE) (j2 : F9) (v3 : AV) (v38 : Bool) (h : Heap) : CRes :=
 ifB v38
 (j2 true h)
 (faK 3 v3 fun x19 =>
 ldI .i64 h x19 fun x20 =>
 aH x20 1 4096 h fun x21 h22 =>
 j2 (jk x21) h22)
theorem akR (hk : jD k0 k) {J2 : Q1} {j2 : F9} (h2 : Pp J2 j2) : NS (aaq n ak aH k0 J2) (Pq n ak aH k j2) := by
  obtain rfl := fx2 hk
  obtain rfl := fx2 h2
  intro v3 v38 h
  kernel_rfl
def Zh : Q1 := aaq n ak aH k0 (aai n ak aH k0 )
def Pa : E9 := Pq n ak aH k (Or n ak aH k )
theorem aj6 (hk : jD k0 k) : NS (Zh n ak aH k0 ) (Pa n ak aH k ) := akR n ak aH k0 k hk (ajG n ak aH k0 k hk )
def ZN (n : Nat) (ak : cu) (aH : dB) (k0 : Q0) (J1 : Q1) : Q1 := (bS (iK ak aH) gR aaY (fun s => da Z4 s J1))
def Ow (n : Nat) (ak : cu) (aH : dB) (k : mE) (j1 : E9) (v3 : AV) (v32 : Bool) (h : Heap) : CRes :=
 ifB v32
 (j1 v3 true h)
 (faK 2 v3 fun x14 =>
 ldI .i64 h x14 fun x15 =>
 aH x15 1 5120 h fun x16 h17 =>
 j1 v3 (jk x16) h17)
theorem akI (hk : jD k0 k) {J1 : Q1} {j1 : E9} (h1 : NS J1 j1) : NT (ZN n ak aH k0 J1) (Ow n ak aH k j1) := by
  obtain rfl := fx2 hk
  obtain rfl := fx3 h1
  intro v3 v32 h
  kernel_rfl
def aav : Q1 := ZN n ak aH k0 (Zh n ak aH k0 )
def Ou : FK := Ow n ak aH k (Pa n ak aH k )
theorem ajz (hk : jD k0 k) : NT (aav n ak aH k0 ) (Ou n ak aH k ) := akI n ak aH k0 k hk (aj6 n ak aH k0 k hk )
def YH (n : Nat) (ak : cu) (aH : dB) (k0 : Q0) (J0 : Q1) : Q1 := (bS (iK ak aH) gR YU (fun s => da YV s J0))
def O2 (n : Nat) (ak : cu) (aH : dB) (k : mE) (j0 : FK) (v3 : AV) (v6 : Bool) (h : Heap) : CRes :=
 ifB (jk v6)
 (j0 v3 true h)
 (faK 1 v3 fun x7 =>
 ldI .i64 h x7 fun x8 =>
 aH x8 2 4096 h fun x9 h10 =>
 j0 v3 (jk x9) h10)
theorem akB (hk : jD k0 k) {J0 : Q1} {j0 : FK} (h0 : NT J0 j0) : OV (YH n ak aH k0 J0) (O2 n ak aH k j0) := by
  obtain rfl := fx2 hk
  obtain rfl := fx3 h0
  intro v3 v6 h
  kernel_rfl
def ZD : Q1 := YH n ak aH k0 (aav n ak aH k0 )
def zN : EI := O2 n ak aH k (Ou n ak aH k )
theorem ajC (hk : jD k0 k) : OV (ZD n ak aH k0 ) (zN n ak aH k ) := akB n ak aH k0 k hk (ajz n ak aH k0 k hk )
def ZW (n : Nat) (ak : cu) (aH : dB) (k0 : Q0) (J4 : Q1) : Q1 := (bS (iK ak aH) gR aaH (bS (iK ak aH) gR aah (fun s => da O6 s J4)))
def OT (n : Nat) (ak : cu) (aH : dB) (k : mE) (j4 : nq) (v3 : AV) (v13 : Int) (v23 : Bool) (h : Heap) : CRes :=
 lU .i64 v13 1 fun x18 =>
 j4 v3 v23 x18 h
theorem alu (hk : jD k0 k) {J4 : Q1} {j4 : nq} (h4 : zS J4 j4) : NX (ZW n ak aH k0 J4) (OT n ak aH k j4) := by
  obtain rfl := fx2 hk
  obtain rfl := fx4 h4
  intro v3 v13 v23 h
  kernel_rfl
def Z6 (J4 : Q1) : Q1 := ZW n ak aH k0 J4
def EE (j4 : nq) : FD := OT n ak aH k j4
theorem akZ (hk : jD k0 k) {J4 : Q1} {j4 : nq} (h4 : zS J4 j4) : NX (Z6 n ak aH k0 J4) (EE n ak aH k j4) := alu n ak aH k0 k hk h4
def Zn (n : Nat) (ak : cu) (aH : dB) (k0 : Q0) (J3 : Q1) (J5 : Q1) : Q1 := (bS (iK ak aH) gR ZQ (fun s => eK (.t p14) s (bS (iK ak aH) gR aat (bS (iK ak aH) gR aaK (fun s => da aas s J5))) (fun s => da Zx s J3)))
def E8 (n : Nat) (ak : cu) (aH : dB) (k : mE) (j3 : EI) (j5 : FD) (v3 : AV) (v6 : Bool) (v13 : Int) (h : Heap) : CRes :=
 ifB (ltF v13 4)
 (ifB v6
 (j5 v3 v13 true h)
 (faK 0 v3 fun x11 =>
 ldI .i64 h x11 fun x12 =>
 aiv .i64 1 v13 fun x13 =>
 j5 v3 v13 (eqF x12 x13) h))
 (j3 v3 v6 h)
theorem alG (hk : jD k0 k) {J3 : Q1} {j3 : EI} (h3 : OV J3 j3) {J5 : Q1} {j5 : FD} (h5 : NX J5 j5) : zS (Zn n ak aH k0 J3 J5) (E8 n ak aH k j3 j5) := by
  obtain rfl := fx2 hk
  obtain rfl := fx3 h3
  obtain rfl := fx4 h5
  intro v3 v6 v13 h
  kernel_rfl
def ZI (m : Nat) : Q1 := Nat.rec (motive := fun _ => Q1) (fun _ => .err) (fun _ ih => Zn n ak aH k0 (ZD n ak aH k0 ) (Z6 n ak aH k0 ih)) m
def zh (m : Nat) : nq := Nat.rec (motive := fun _ => nq) (fun _ _ _ _ => .err) (fun _ ih => E8 n ak aH k (zN n ak aH k ) (EE n ak aH k ih)) m
theorem ako (m : Nat) : zh n ak aH k (m + 1) = E8 n ak aH k (zN n ak aH k ) (EE n ak aH k (zh n ak aH k m)) := rfl
theorem ajX (hk : jD k0 k) (m : Nat) : zS (ZI n ak aH k0 m) (zh n ak aH k m) := by
  induction m with
  | zero => intro v3 v6 v13 h; rfl
  | succ m ih => exact alG n ak aH k0 k hk (ajC n ak aH k0 k hk ) (akZ n ak aH k0 k hk ih)
def aem (n : Nat) (ak : cu) (aH : dB) (k0 : Q0) (J4 : Q1) : Q1 := (bS (iK ak aH) gR WM (bS (iK ak aH) gR WK (bS (iK ak aH) gR Xo (fun s => eK (.t p11) s (bS (iK ak aH) gR XR (cX xl k0)) (bS (iK ak aH) gR Xv (bS (iK ak aH) gR Xw (fun s => da O6 s J4)))))))
def VB (n : Nat) (ak : cu) (aH : dB) (k : mE) (j4 : nq) (a0 : AV) (a1 : AV) (h : Heap) : CRes :=
 zt h a0 fun x0 h1 =>
 zt h1 a1 fun x2 h3 =>
 gJ h3 (.ptr x0 0) 6 true fun x4 =>
 ak x4 h3 fun x5 h6 =>
 ifB (jk (eqF x5 0))
 (k x5 h6)
 (j4 (.ptr x2 0) false 0 h6)
theorem aoP (n : Nat) (ak : cu) (aH : dB) (k0 : Q0) (k : mE) (hk : jD k0 k) {J4 : Q1} {j4 : nq} (h4 : zS J4 j4) (a0 : AV) (a1 : AV) (h : Heap) : (aem n ak aH k0 J4) ⟨c8 [(p0, a0), (p1, a1)], h⟩ = (VB n ak aH k j4) a0 a1 h := by
  obtain rfl := fx2 hk
  obtain rfl := fx4 h4
  kernel_rfl
def ant : Q1 := aem n ak aH k0 (ZI n ak aH k0 n)
def U7 (n : Nat) (ak : cu) (aH : dB) (a0 : AV) (a1 : AV) (h : Heap) (k : mE) : CRes := VB n ak aH k (zh n ak aH k n) a0 a1 h
theorem anL (n : Nat) (ak : cu) (aH : dB) (k0 : Q0) (s : St) : D (eO [(jc, iw ak), (pi, nk aH)]) gR n Vg (cX xl k0) (fun _ _ => .err) (cX xl k0) s = ant n ak aH k0 s := by kernel_rfl
theorem aof (n : Nat) (ak : cu) (aH : dB) (a0 : AV) (a1 : AV) (h : Heap) (k0 : Q0) : W Vy xl [(jc, iw ak), (pi, nk aH)] gR n Vg [a0, a1] h k0 = U7 n ak aH a0 a1 h (fun u0 h => k0 (.int .i64 u0) h) := by
  let k : mE := fun u0 h => k0 (.int .i64 u0) h
  have hk : jD k0 k := fun _ _ => rfl
  have hb : ∀ F : Tr AV → CRes, gG Vy [a0, a1] .leaf F = F (c8 [(p0, a0), (p1, a1)]) := fun F => by kernel_rfl
  exact (mC hb).trans ((anL n ak aH k0 _).trans (aoP n ak aH k0 k hk (ajX n ak aH k0 k hk n) a0 a1 h))
end
def tZ (n : Nat) : lc := U7 n (gE n) (mA n)
/-! cofferdam/cost.bounds -/
abbrev jJ := AV → AV → Heap → (AV → Heap → CRes) → CRes
abbrev xU := AV → Heap → CRes
def yf (g : jJ) : Wr := fun l h k => lM l fun a0 l => lM l fun a1 l => mq l (g a0 a1 h fun u0 h => k u0 h)
def nC : dN := eO []
abbrev ZK (k0 : Q0) (k : xU) : Prop := ∀ u0 h, k0 u0 h = k u0 h
section
variable (n : Nat) (k0 : Q0) (k : xU)
def ac0 (n : Nat) (k0 : Q0) : Q1 := (bS (nC ) lH WX (bS (nC ) lH Xe (bS (nC ) lH V6 (bS (nC ) lH Wy (bS (nC ) lH Wk (bS (nC ) lH VW (bS (nC ) lH V2 (bS (nC ) lH Xx (bS (nC ) lH VM (cX BV k0))))))))))
def QZ (n : Nat) (k : xU) (a0 : AV) (a1 : AV) (h : Heap) : CRes :=
 zt h a0 fun x0 h1 =>
 zt h1 a1 fun x2 h3 =>
 yA h3 (.cells [.nilfunc, .nilfunc, .nilfunc, .nilfunc, .nilfunc, .nilfunc, .nilfunc, .nilfunc, .nilfunc, .nilfunc, .nilfunc] true 0) fun x4 h5 =>
 jO .u64 2 h5 (.ptr x0 0) fun x6 x7 =>
 yA h5 (.cells [(.int .u64 0)] true 0) fun x8 h9 =>
 lR h9 (.ptr x8 0) 1 (.int .u64 x7) fun h10 =>
 jO .u64 4 h10 (.ptr x0 0) fun x11 x12 =>
 ldI .u64 h10 (.ptr x8 0) fun x13 =>
 OL .u64 2 x13 fun x14 =>
 lU .u64 x12 x14 fun x15 =>
 yA h10 (.cells [(.int .u64 0)] true 0) fun x16 h17 =>
 lR h17 (.ptr x16 0) 1 (.int .u64 x15) fun h18 =>
 jO .i64 2 h18 (.ptr x2 0) fun x19 x20 =>
 BG .u64 x20 fun x21 =>
 ldI .u64 h18 (.ptr x16 0) fun x22 =>
 OL .u64 x21 x22 fun x23 =>
 yA h18 (.cells [(.int .u64 0)] true 0) fun x24 h25 =>
 lR h25 (.ptr x24 0) 1 (.int .u64 x23) fun h26 =>
 jO .i64 1 h26 (.ptr x2 0) fun x27 x28 =>
 BG .u64 x28 fun x29 =>
 OL .u64 2 x29 fun x30 =>
 lU .u64 x30 1 fun x31 =>
 jO .u64 4 h26 (.ptr x0 0) fun x32 x33 =>
 OL .u64 x31 x33 fun x34 =>
 jO .u64 5 h26 (.ptr x0 0) fun x35 x36 =>
 lU .u64 x34 x36 fun x37 =>
 yA h26 (.cells [(.int .u64 0)] true 0) fun x38 h39 =>
 lR h39 (.ptr x38 0) 1 (.int .u64 x37) fun h40 =>
 yA h40 (.cells [.nilfunc] true 0) fun x41 h42 =>
 lR h42 (.ptr x41 0) 1 (.func 119 [] [(.ptr x8 0)]) fun h43 =>
 yA h43 (.cells [.nilfunc] true 0) fun x44 h45 =>
 lR h45 (.ptr x44 0) 1 (.func 120 [] [(.ptr x16 0)]) fun h46 =>
 gJ h46 (.ptr x41 0) 1 false fun x47 =>
 gJ h46 (.ptr x44 0) 1 false fun x48 =>
 wa [.nilfunc, .nilfunc, .nilfunc, .nilfunc, .nilfunc, .nilfunc, .nilfunc, .nilfunc, .nilfunc, .nilfunc, .nilfunc] [(0, 1, (.func 121 [] [])), (1, 1, (.func 122 [] [(.ptr x8 0)])), (2, 1, (.func 123 [] [(.ptr x24 0), (.ptr x8 0)])), (3, 1, (.func 124 [] [(.ptr x8 0), (.ptr x2 0), (.ptr x24 0)])), (4, 1, x47), (5, 1, x48), (6, 1, (.func 125 [] [(.ptr x0 0), (.ptr x8 0)])), (7, 1, (.func 126 [] [(.ptr x41 0), (.ptr x44 0)])), (8, 1, (.func 127 [] [(.ptr x8 0), (.ptr x0 0), (.ptr x38 0)])), (9, 1, (.func 128 [] [(.ptr x8 0), (.ptr x0 0), (.ptr x38 0)])), (10, 1, (.func 121 [] []))] fun x49 =>
 lR h46 (.ptr x4 0) 11 x49 fun h50 =>
 gJ h50 (.ptr x4 0) 11 true fun x51 =>
 k x51 h50
theorem al9 (n : Nat) (k0 : Q0) (k : xU) (hk : ZK k0 k) (a0 : AV) (a1 : AV) (h : Heap) : (ac0 n k0 ) ⟨c8 [(p0, a0), (p1, a1)], h⟩ = (QZ n k ) a0 a1 h := by
  obtain rfl := fx2 hk
  kernel_rfl
def alQ : Q1 := ac0 n k0
def QK (n : Nat) (a0 : AV) (a1 : AV) (h : Heap) (k : xU) : CRes := QZ n k a0 a1 h
theorem amG (n : Nat) (k0 : Q0) (s : St) : D (eO []) lH n Q9 (cX BV k0) (fun _ _ => .err) (cX BV k0) s = alQ n k0 s := by kernel_rfl
theorem al8 (n : Nat) (a0 : AV) (a1 : AV) (h : Heap) (k0 : Q0) : W QO BV [] lH n Q9 [a0, a1] h k0 = QK n a0 a1 h (fun u0 h => k0 u0 h) := by
  let k : xU := fun u0 h => k0 u0 h
  have hk : ZK k0 k := fun _ _ => rfl
  have hb : ∀ F : Tr AV → CRes, gG QO [a0, a1] .leaf F = F (c8 [(p0, a0), (p1, a1)]) := fun F => by kernel_rfl
  exact (mC hb).trans ((amG n k0 _).trans (al9 n k0 k hk a0 a1 h))
end
def rp (n : Nat) : jJ := QK n
/-! cofferdam/cost.bounds$1 -/
abbrev dY := AV → Heap → (Int → Heap → CRes) → CRes
abbrev rx := Int → Heap → CRes
def kI (g : dY) : Wr := fun l h k => lM l fun a0 l => mq l (g a0 h fun u0 h => k (.int .u64 u0) h)
def Qt : dN := eO []
abbrev QI (k0 : Q0) (k : rx) : Prop := ∀ u0 h, k0 (.int .u64 u0) h = k u0 h
section
variable (n : Nat) (k0 : Q0) (k : rx)
def T5 (n : Nat) (k0 : Q0) : Q1 := (bS (Qt ) vr Oc (bS (Qt ) vr NP (cX wq k0)))
def IR (n : Nat) (k : rx) (a0 : AV) (h : Heap) : CRes :=
 ldI .u64 h a0 fun x0 =>
 OL .u64 113 x0 fun x1 =>
 k x1 h
theorem ahj (n : Nat) (k0 : Q0) (k : rx) (hk : QI k0 k) (a0 : AV) (h : Heap) : (T5 n k0 ) ⟨c8 [(p0, a0)], h⟩ = (IR n k ) a0 h := by
  obtain rfl := fx2 hk
  kernel_rfl
def ahy : Q1 := T5 n k0
def HB (n : Nat) (a0 : AV) (h : Heap) (k : rx) : CRes := IR n k a0 h
theorem ag3 (n : Nat) (k0 : Q0) (s : St) : D (eO []) vr n H5 (cX wq k0) (fun _ _ => .err) (cX wq k0) s = ahy n k0 s := by kernel_rfl
theorem agr (n : Nat) (a0 : AV) (h : Heap) (k0 : Q0) : W I4 wq [] vr n H5 [a0] h k0 = HB n a0 h (fun u0 h => k0 (.int .u64 u0) h) := by
  let k : rx := fun u0 h => k0 (.int .u64 u0) h
  have hk : QI k0 k := fun _ _ => rfl
  have hb : ∀ F : Tr AV → CRes, gG I4 [a0] .leaf F = F (c8 [(p0, a0)]) := fun F => by kernel_rfl
  exact (mC hb).trans ((ag3 n k0 _).trans (ahj n k0 k hk a0 h))
end
def gH (n : Nat) : dY := HB n
/-! cofferdam/cost.bounds$2 -/
abbrev dR := AV → Heap → (Int → Heap → CRes) → CRes
abbrev rC := Int → Heap → CRes
def kP (g : dR) : Wr := fun l h k => lM l fun a0 l => mq l (g a0 h fun u0 h => k (.int .u64 u0) h)
def PQ : dN := eO []
abbrev PT (k0 : Q0) (k : rC) : Prop := ∀ u0 h, k0 (.int .u64 u0) h = k u0 h
section
variable (n : Nat) (k0 : Q0) (k : rC)
def TL (n : Nat) (k0 : Q0) : Q1 := (bS (PQ ) wy Pu (bS (PQ ) wy OY (cX vB k0)))
def HU (n : Nat) (k : rC) (a0 : AV) (h : Heap) : CRes :=
 ldI .u64 h a0 fun x0 =>
 OL .u64 64 x0 fun x1 =>
 k x1 h
theorem ahE (n : Nat) (k0 : Q0) (k : rC) (hk : PT k0 k) (a0 : AV) (h : Heap) : (TL n k0 ) ⟨c8 [(p0, a0)], h⟩ = (HU n k ) a0 h := by
  obtain rfl := fx2 hk
  kernel_rfl
def aho : Q1 := TL n k0
def Jd (n : Nat) (a0 : AV) (h : Heap) (k : rC) : CRes := HU n k a0 h
theorem aha (n : Nat) (k0 : Q0) (s : St) : D (eO []) wy n IV (cX vB k0) (fun _ _ => .err) (cX vB k0) s = aho n k0 s := by kernel_rfl
theorem ag2 (n : Nat) (a0 : AV) (h : Heap) (k0 : Q0) : W HL vB [] wy n IV [a0] h k0 = Jd n a0 h (fun u0 h => k0 (.int .u64 u0) h) := by
  let k : rC := fun u0 h => k0 (.int .u64 u0) h
  have hk : PT k0 k := fun _ _ => rfl
  have hb : ∀ F : Tr AV → CRes, gG HL [a0] .leaf F = F (c8 [(p0, a0)]) := fun F => by kernel_rfl
  exact (mC hb).trans ((aha n k0 _).trans (ahE n k0 k hk a0 h))
end
def gu (n : Nat) : dR := Jd n
/-! cofferdam/cost.bounds$3 -/
abbrev dW := Heap → (Int → Heap → CRes) → CRes
abbrev rB := Int → Heap → CRes
def kT (g : dW) : Wr := fun l h k => mq l (g h fun u0 h => k (.int .u64 u0) h)
def Qq : dN := eO []
abbrev PY (k0 : Q0) (k : rB) : Prop := ∀ u0 h, k0 (.int .u64 u0) h = k u0 h
section
variable (n : Nat) (k0 : Q0) (k : rB)
def SH (n : Nat) (k0 : Q0) : Q1 := (bS (Qq ) vq Oa (bS (Qq ) vq Pj (cX wn k0)))
def SX (n : Nat) (k : rB) (h : Heap) : CRes :=
 k 0 h
theorem agl (n : Nat) (k0 : Q0) (k : rB) (hk : PY k0 k) (h : Heap) : (SH n k0 ) ⟨c8 [], h⟩ = (SX n k ) h := by
  obtain rfl := fx2 hk
  kernel_rfl
def agn : Q1 := SH n k0
def Tl (n : Nat) (h : Heap) (k : rB) : CRes := SX n k h
theorem ahI (n : Nat) (k0 : Q0) (s : St) : D (eO []) vq n Hw (cX wn k0) (fun _ _ => .err) (cX wn k0) s = agn n k0 s := by kernel_rfl
theorem ahm (n : Nat) (h : Heap) (k0 : Q0) : W HT wn [] vq n Hw [] h k0 = Tl n h (fun u0 h => k0 (.int .u64 u0) h) := by
  let k : rB := fun u0 h => k0 (.int .u64 u0) h
  have hk : PY k0 k := fun _ _ => rfl
  have hb : ∀ F : Tr AV → CRes, gG HT [] .leaf F = F (c8 []) := fun F => by kernel_rfl
  exact (mC hb).trans ((ahI n k0 _).trans (agl n k0 k hk h))
end
def jA (n : Nat) : dW := Tl n
/-! cofferdam/cost.bounds$4 -/
abbrev dX := AV → Heap → (Int → Heap → CRes) → CRes
abbrev rH := Int → Heap → CRes
def kG (g : dX) : Wr := fun l h k => lM l fun a0 l => mq l (g a0 h fun u0 h => k (.int .u64 u0) h)
def QH : dN := eO []
abbrev Qz (k0 : Q0) (k : rH) : Prop := ∀ u0 h, k0 (.int .u64 u0) h = k u0 h
section
variable (n : Nat) (k0 : Q0) (k : rH)
def Sj (n : Nat) (k0 : Q0) : Q1 := (bS (QH ) wk Py (bS (QH ) wk ON (cX vg k0)))
def Id (n : Nat) (k : rH) (a0 : AV) (h : Heap) : CRes :=
 ldI .u64 h a0 fun x0 =>
 OL .u64 17 x0 fun x1 =>
 k x1 h
theorem agX (n : Nat) (k0 : Q0) (k : rH) (hk : Qz k0 k) (a0 : AV) (h : Heap) : (Sj n k0 ) ⟨c8 [(p0, a0)], h⟩ = (Id n k ) a0 h := by
  obtain rfl := fx2 hk
  kernel_rfl
def agf : Q1 := Sj n k0
def HN (n : Nat) (a0 : AV) (h : Heap) (k : rH) : CRes := Id n k a0 h
theorem af0 (n : Nat) (k0 : Q0) (s : St) : D (eO []) wk n HR (cX vg k0) (fun _ _ => .err) (cX vg k0) s = agf n k0 s := by kernel_rfl
theorem ag0 (n : Nat) (a0 : AV) (h : Heap) (k0 : Q0) : W IJ vg [] wk n HR [a0] h k0 = HN n a0 h (fun u0 h => k0 (.int .u64 u0) h) := by
  let k : rH := fun u0 h => k0 (.int .u64 u0) h
  have hk : Qz k0 k := fun _ _ => rfl
  have hb : ∀ F : Tr AV → CRes, gG IJ [a0] .leaf F = F (c8 [(p0, a0)]) := fun F => by kernel_rfl
  exact (mC hb).trans ((af0 n k0 _).trans (agX n k0 k hk a0 h))
end
def g0 (n : Nat) : dX := HN n
/-! cofferdam/cost.bounds$5 -/
abbrev dU := AV → AV → Heap → (Int → Heap → CRes) → CRes
abbrev rJ := Int → Heap → CRes
def kH (g : dU) : Wr := fun l h k => lM l fun a0 l => lM l fun a1 l => mq l (g a0 a1 h fun u0 h => k (.int .u64 u0) h)
def Qy : dN := eO []
abbrev PO (k0 : Q0) (k : rJ) : Prop := ∀ u0 h, k0 (.int .u64 u0) h = k u0 h
section
variable (n : Nat) (k0 : Q0) (k : rJ)
def Si (n : Nat) (k0 : Q0) : Q1 := (bS (Qy ) vz Px (bS (Qy ) vz Oi (cX vQ k0)))
def Hv (n : Nat) (k : rJ) (a0 : AV) (a1 : AV) (h : Heap) : CRes :=
 ldI .u64 h a0 fun x0 =>
 ldI .u64 h a1 fun x1 =>
 lU .u64 x0 x1 fun x2 =>
 k x2 h
theorem ahq (n : Nat) (k0 : Q0) (k : rJ) (hk : PO k0 k) (a0 : AV) (a1 : AV) (h : Heap) : (Si n k0 ) ⟨c8 [(p0, a0), (p1, a1)], h⟩ = (Hv n k ) a0 a1 h := by
  obtain rfl := fx2 hk
  kernel_rfl
def agO : Q1 := Si n k0
def Jh (n : Nat) (a0 : AV) (a1 : AV) (h : Heap) (k : rJ) : CRes := Hv n k a0 a1 h
theorem afZ (n : Nat) (k0 : Q0) (s : St) : D (eO []) vz n H3 (cX vQ k0) (fun _ _ => .err) (cX vQ k0) s = agO n k0 s := by kernel_rfl
theorem ahe (n : Nat) (a0 : AV) (a1 : AV) (h : Heap) (k0 : Q0) : W HJ vQ [] vz n H3 [a0, a1] h k0 = Jh n a0 a1 h (fun u0 h => k0 (.int .u64 u0) h) := by
  let k : rJ := fun u0 h => k0 (.int .u64 u0) h
  have hk : PO k0 k := fun _ _ => rfl
  have hb : ∀ F : Tr AV → CRes, gG HJ [a0, a1] .leaf F = F (c8 [(p0, a0), (p1, a1)]) := fun F => by kernel_rfl
  exact (mC hb).trans ((afZ n k0 _).trans (ahq n k0 k hk a0 a1 h))
end
def hO (n : Nat) : dU := Jh n
/-! cofferdam/cost.bounds$6 -/
abbrev dT := AV → AV → AV → Heap → (Int → Heap → CRes) → CRes
abbrev rz := Int → Heap → CRes
def kJ (g : dT) : Wr := fun l h k => lM l fun a0 l => lM l fun a1 l => lM l fun a2 l => mq l (g a0 a1 a2 h fun u0 h => k (.int .u64 u0) h)
def P8 : dN := eO []
abbrev PU (k0 : Q0) (k : rz) : Prop := ∀ u0 h, k0 (.int .u64 u0) h = k u0 h
section
variable (n : Nat) (k0 : Q0) (k : rz)
def SE (n : Nat) (k0 : Q0) : Q1 := (bS (P8 ) vw Og (bS (P8 ) vw Of (cX wB k0)))
def IC (n : Nat) (k : rz) (a0 : AV) (a1 : AV) (a2 : AV) (h : Heap) : CRes :=
 ldI .u64 h a0 fun x0 =>
 jO .i64 3 h a1 fun x1 x2 =>
 BG .u64 x2 fun x3 =>
 OL .u64 16 x3 fun x4 =>
 ldI .u64 h a0 fun x5 =>
 OL .u64 x4 x5 fun x6 =>
 lU .u64 x0 x6 fun x7 =>
 ldI .u64 h a2 fun x8 =>
 lU .u64 x7 x8 fun x9 =>
 k x9 h
theorem ahi (n : Nat) (k0 : Q0) (k : rz) (hk : PU k0 k) (a0 : AV) (a1 : AV) (a2 : AV) (h : Heap) : (SE n k0 ) ⟨c8 [(p0, a0), (p1, a1), (p2, a2)], h⟩ = (IC n k ) a0 a1 a2 h := by
  obtain rfl := fx2 hk
  kernel_rfl
def agy : Q1 := SE n k0
def Hr (n : Nat) (a0 : AV) (a1 : AV) (a2 : AV) (h : Heap) (k : rz) : CRes := IC n k a0 a1 a2 h
theorem ahn (n : Nat) (k0 : Q0) (s : St) : D (eO []) vw n Io (cX wB k0) (fun _ _ => .err) (cX wB k0) s = agy n k0 s := by kernel_rfl
theorem aga (n : Nat) (a0 : AV) (a1 : AV) (a2 : AV) (h : Heap) (k0 : Q0) : W Iq wB [] vw n Io [a0, a1, a2] h k0 = Hr n a0 a1 a2 h (fun u0 h => k0 (.int .u64 u0) h) := by
  let k : rz := fun u0 h => k0 (.int .u64 u0) h
  have hk : PU k0 k := fun _ _ => rfl
  have hb : ∀ F : Tr AV → CRes, gG Iq [a0, a1, a2] .leaf F = F (c8 [(p0, a0), (p1, a1), (p2, a2)]) := fun F => by kernel_rfl
  exact (mC hb).trans ((ahn n k0 _).trans (ahi n k0 k hk a0 a1 a2 h))
end
def gW (n : Nat) : dT := Hr n
/-! cofferdam/cost.bounds$7 -/
abbrev dV := AV → AV → Heap → (Int → Heap → CRes) → CRes
abbrev rG := Int → Heap → CRes
def kM (g : dV) : Wr := fun l h k => lM l fun a0 l => lM l fun a1 l => mq l (g a0 a1 h fun u0 h => k (.int .u64 u0) h)
def PS : dN := eO []
abbrev P1 (k0 : Q0) (k : rG) : Prop := ∀ u0 h, k0 (.int .u64 u0) h = k u0 h
section
variable (n : Nat) (k0 : Q0) (k : rG)
def T8 (n : Nat) (k0 : Q0) : Q1 := (bS (PS ) vj Oy (bS (PS ) vj OP (cX vf k0)))
def Jl (n : Nat) (k : rG) (a0 : AV) (a1 : AV) (h : Heap) : CRes :=
 jO .u64 4 h a0 fun x0 x1 =>
 ldI .u64 h a1 fun x2 =>
 lU .u64 x1 x2 fun x3 =>
 OL .u64 64 x3 fun x4 =>
 ldI .u64 h a1 fun x5 =>
 lU .u64 x4 x5 fun x6 =>
 k x6 h
theorem ag1 (n : Nat) (k0 : Q0) (k : rG) (hk : P1 k0 k) (a0 : AV) (a1 : AV) (h : Heap) : (T8 n k0 ) ⟨c8 [(p0, a0), (p1, a1)], h⟩ = (Jl n k ) a0 a1 h := by
  obtain rfl := fx2 hk
  kernel_rfl
def agt : Q1 := T8 n k0
def IM (n : Nat) (a0 : AV) (a1 : AV) (h : Heap) (k : rG) : CRes := Jl n k a0 a1 h
theorem ahv (n : Nat) (k0 : Q0) (s : St) : D (eO []) vj n HK (cX vf k0) (fun _ _ => .err) (cX vf k0) s = agt n k0 s := by kernel_rfl
theorem agc (n : Nat) (a0 : AV) (a1 : AV) (h : Heap) (k0 : Q0) : W I1 vf [] vj n HK [a0, a1] h k0 = IM n a0 a1 h (fun u0 h => k0 (.int .u64 u0) h) := by
  let k : rG := fun u0 h => k0 (.int .u64 u0) h
  have hk : P1 k0 k := fun _ _ => rfl
  have hb : ∀ F : Tr AV → CRes, gG I1 [a0, a1] .leaf F = F (c8 [(p0, a0), (p1, a1)]) := fun F => by kernel_rfl
  exact (mC hb).trans ((ahv n k0 _).trans (ag1 n k0 k hk a0 a1 h))
end
def gX (n : Nat) : dV := IM n
/-! cofferdam/cost.bounds$9 -/
abbrev dS := AV → AV → AV → Heap → (Int → Heap → CRes) → CRes
abbrev ry := Int → Heap → CRes
def kS (g : dS) : Wr := fun l h k => lM l fun a0 l => lM l fun a1 l => lM l fun a2 l => mq l (g a0 a1 a2 h fun u0 h => k (.int .u64 u0) h)
def PX : dN := eO []
abbrev QD (k0 : Q0) (k : ry) : Prop := ∀ u0 h, k0 (.int .u64 u0) h = k u0 h
section
variable (n : Nat) (k0 : Q0) (k : ry)
def Tt (n : Nat) (k0 : Q0) : Q1 := (bS (PX ) vn Ov (bS (PX ) vn NR (cX vy k0)))
def Jk (n : Nat) (k : ry) (a0 : AV) (a1 : AV) (a2 : AV) (h : Heap) : CRes :=
 ldI .u64 h a0 fun x0 =>
 OL .u64 26 x0 fun x1 =>
 jO .u64 3 h a1 fun x2 x3 =>
 lU .u64 x1 x3 fun x4 =>
 ldI .u64 h a2 fun x5 =>
 lU .u64 x4 x5 fun x6 =>
 jO .u64 5 h a1 fun x7 x8 =>
 lU .u64 x6 x8 fun x9 =>
 k x9 h
theorem agW (n : Nat) (k0 : Q0) (k : ry) (hk : QD k0 k) (a0 : AV) (a1 : AV) (a2 : AV) (h : Heap) : (Tt n k0 ) ⟨c8 [(p0, a0), (p1, a1), (p2, a2)], h⟩ = (Jk n k ) a0 a1 a2 h := by
  obtain rfl := fx2 hk
  kernel_rfl
def ahN : Q1 := Tt n k0
def I9 (n : Nat) (a0 : AV) (a1 : AV) (a2 : AV) (h : Heap) (k : ry) : CRes := Jk n k a0 a1 a2 h
theorem af9 (n : Nat) (k0 : Q0) (s : St) : D (eO []) vn n Ij (cX vy k0) (fun _ _ => .err) (cX vy k0) s = ahN n k0 s := by kernel_rfl
theorem ahw (n : Nat) (a0 : AV) (a1 : AV) (a2 : AV) (h : Heap) (k0 : Q0) : W Jc vy [] vn n Ij [a0, a1, a2] h k0 = I9 n a0 a1 a2 h (fun u0 h => k0 (.int .u64 u0) h) := by
  let k : ry := fun u0 h => k0 (.int .u64 u0) h
  have hk : QD k0 k := fun _ _ => rfl
  have hb : ∀ F : Tr AV → CRes, gG Jc [a0, a1, a2] .leaf F = F (c8 [(p0, a0), (p1, a1), (p2, a2)]) := fun F => by kernel_rfl
  exact (mC hb).trans ((af9 n k0 _).trans (agW n k0 k hk a0 a1 a2 h))
end
def gY (n : Nat) : dS := I9 n
/-! cofferdam/cost.bounds$10 -/
abbrev dG := AV → AV → AV → Heap → (Int → Heap → CRes) → CRes
abbrev qe := Int → Heap → CRes
def jL (g : dG) : Wr := fun l h k => lM l fun a0 l => lM l fun a1 l => lM l fun a2 l => mq l (g a0 a1 a2 h fun u0 h => k (.int .u64 u0) h)
def N2 : dN := eO []
abbrev Pk (k0 : Q0) (k : qe) : Prop := ∀ u0 h, k0 (.int .u64 u0) h = k u0 h
section
variable (n : Nat) (k0 : Q0) (k : qe)
def Qp (n : Nat) (k0 : Q0) : Q1 := (bS (N2 ) ud Na (bS (N2 ) ud MO (cX tD k0)))
def FF (n : Nat) (k : qe) (a0 : AV) (a1 : AV) (a2 : AV) (h : Heap) : CRes :=
 ldI .u64 h a0 fun x0 =>
 OL .u64 64 x0 fun x1 =>
 jO .u64 3 h a1 fun x2 x3 =>
 OL .u64 2 x3 fun x4 =>
 lU .u64 x1 x4 fun x5 =>
 ldI .u64 h a2 fun x6 =>
 OL .u64 2 x6 fun x7 =>
 lU .u64 x5 x7 fun x8 =>
 jO .u64 5 h a1 fun x9 x10 =>
 lU .u64 x8 x10 fun x11 =>
 k x11 h
theorem afe (n : Nat) (k0 : Q0) (k : qe) (hk : Pk k0 k) (a0 : AV) (a1 : AV) (a2 : AV) (h : Heap) : (Qp n k0 ) ⟨c8 [(p0, a0), (p1, a1), (p2, a2)], h⟩ = (FF n k ) a0 a1 a2 h := by
  obtain rfl := fx2 hk
  kernel_rfl
def afQ : Q1 := Qp n k0
def Ff (n : Nat) (a0 : AV) (a1 : AV) (a2 : AV) (h : Heap) (k : qe) : CRes := FF n k a0 a1 a2 h
theorem aeu (n : Nat) (k0 : Q0) (s : St) : D (eO []) ud n Gb (cX tD k0) (fun _ _ => .err) (cX tD k0) s = afQ n k0 s := by kernel_rfl
theorem aeW (n : Nat) (a0 : AV) (a1 : AV) (a2 : AV) (h : Heap) (k0 : Q0) : W E0 tD [] ud n Gb [a0, a1, a2] h k0 = Ff n a0 a1 a2 h (fun u0 h => k0 (.int .u64 u0) h) := by
  let k : qe := fun u0 h => k0 (.int .u64 u0) h
  have hk : Pk k0 k := fun _ _ => rfl
  have hb : ∀ F : Tr AV → CRes, gG E0 [a0, a1, a2] .leaf F = F (c8 [(p0, a0), (p1, a1), (p2, a2)]) := fun F => by kernel_rfl
  exact (mC hb).trans ((aeu n k0 _).trans (afe n k0 k hk a0 a1 a2 h))
end
def gI (n : Nat) : dG := Ff n
/-! cofferdam/cost.bounds$8 -/
abbrev gD := AV → AV → Heap → (Int → Heap → CRes) → CRes
abbrev rL := Int → Heap → CRes
def rK (g : gD) : Wr := fun l h k => lM l fun a0 l => lM l fun a1 l => mq l (g a0 a1 h fun u0 h => k (.int .u64 u0) h)
def qh (bh : dY) (bo : dR) (bg : dW) (bl : dX) (bf : dU) (bj : dT) (bq : dV) (br : dS) (aX : dG) : dN := eO [(fZ, kI bh), (f0, kP bo), (jC, kT bg), (kL, kG bl), (kF, kH bf), (kO, kJ bj), (kK, kM bq), (kR, kS br), (jH, jL aX)]
abbrev Qw (k0 : Q0) (k : rL) : Prop := ∀ u0 h, k0 (.int .u64 u0) h = k u0 h
section
variable (n : Nat) (bh : dY) (bo : dR) (bg : dW) (bl : dX) (bf : dU) (bj : dT) (bq : dV) (br : dS) (aX : dG) (k0 : Q0) (k : rL)
def R4 (n : Nat) (bh : dY) (bo : dR) (bg : dW) (bl : dX) (bf : dU) (bj : dT) (bq : dV) (br : dS) (aX : dG) (k0 : Q0) : Q1 := (bS (qh bh bo bg bl bf bj bq br aX) wb O1 (bS (qh bh bo bg bl bf bj bq br aX) wb Pr (cX vA k0)))
def H0 (n : Nat) (bh : dY) (bo : dR) (bg : dW) (bl : dX) (bf : dU) (bj : dT) (bq : dV) (br : dS) (aX : dG) (k : rL) (a0 : AV) (a1 : AV) (h : Heap) : CRes :=
 gJ h a0 1 false fun x0 =>
 qh bh bo bg bl bf bj bq br aX x0 [] (h.shut true) fun x1 h2 =>
 UA .u64 x1 fun x3 =>
 gJ (h2.back h.ro) a1 1 false fun x4 =>
 qh bh bo bg bl bf bj bq br aX x4 [] (h2.back h.ro) fun x5 h6 =>
 UA .u64 x5 fun x7 =>
 Qd true [(.int .u64 x3), (.int .u64 x7)] fun x8 =>
 UA .u64 x8 fun x9 =>
 k x9 h6
theorem agB (n : Nat) (bh : dY) (bo : dR) (bg : dW) (bl : dX) (bf : dU) (bj : dT) (bq : dV) (br : dS) (aX : dG) (k0 : Q0) (k : rL) (hk : Qw k0 k) (a0 : AV) (a1 : AV) (h : Heap) : (R4 n bh bo bg bl bf bj bq br aX k0 ) ⟨c8 [(p0, a0), (p1, a1)], h⟩ = (H0 n bh bo bg bl bf bj bq br aX k ) a0 a1 h := by
  obtain rfl := fx2 hk
  kernel_rfl
def agw : Q1 := R4 n bh bo bg bl bf bj bq br aX k0
def HD (n : Nat) (bh : dY) (bo : dR) (bg : dW) (bl : dX) (bf : dU) (bj : dT) (bq : dV) (br : dS) (aX : dG) (a0 : AV) (a1 : AV) (h : Heap) (k : rL) : CRes := H0 n bh bo bg bl bf bj bq br aX k a0 a1 h
theorem agz (n : Nat) (bh : dY) (bo : dR) (bg : dW) (bl : dX) (bf : dU) (bj : dT) (bq : dV) (br : dS) (aX : dG) (k0 : Q0) (s : St) : D (eO [(fZ, kI bh), (f0, kP bo), (jC, kT bg), (kL, kG bl), (kF, kH bf), (kO, kJ bj), (kK, kM bq), (kR, kS br), (jH, jL aX)]) wb n Hu (cX vA k0) (fun _ _ => .err) (cX vA k0) s = agw n bh bo bg bl bf bj bq br aX k0 s := by kernel_rfl
theorem ag9 (n : Nat) (bh : dY) (bo : dR) (bg : dW) (bl : dX) (bf : dU) (bj : dT) (bq : dV) (br : dS) (aX : dG) (a0 : AV) (a1 : AV) (h : Heap) (k0 : Q0) : W Ih vA [(fZ, kI bh), (f0, kP bo), (jC, kT bg), (kL, kG bl), (kF, kH bf), (kO, kJ bj), (kK, kM bq), (kR, kS br), (jH, jL aX)] wb n Hu [a0, a1] h k0 = HD n bh bo bg bl bf bj bq br aX a0 a1 h (fun u0 h => k0 (.int .u64 u0) h) := by
  let k : rL := fun u0 h => k0 (.int .u64 u0) h
  have hk : Qw k0 k := fun _ _ => rfl
  have hb : ∀ F : Tr AV → CRes, gG Ih [a0, a1] .leaf F = F (c8 [(p0, a0), (p1, a1)]) := fun F => by kernel_rfl
  exact (mC hb).trans ((agz n bh bo bg bl bf bj bq br aX k0 _).trans (agB n bh bo bg bl bf bj bq br aX k0 k hk a0 a1 h))
end
def m7 (n : Nat) : gD := HD n (gH n) (gu n) (jA n) (g0 n) (hO n) (gW n) (gX n) (gY n) (gI n)
/-! cofferdam/cost.Most -/
abbrev eQ := AV → AV → Heap → (Int → Int → Heap → CRes) → CRes
abbrev wH := Int → Int → Heap → CRes
def En (g : eQ) : Wr := fun l h k => lM l fun a0 l => lM l fun a1 l => mq l (g a0 a1 h fun u0 u1 h => k (.tuple [(.int .u64 u0), (.int .i64 u1)]) h)
def lK (cM : lc) (cD : jJ) (bh : dY) (bo : dR) (bg : dW) (bl : dX) (bf : dU) (bj : dT) (bq : dV) (bZ : gD) (br : dS) (aX : dG) : dN := eO [(EU, AD cM), (Cf, yf cD), (fZ, kI bh), (f0, kP bo), (jC, kT bg), (kL, kG bl), (kF, kH bf), (kO, kJ bj), (kK, kM bq), (rM, rK bZ), (kR, kS br), (jH, jL aX)]
abbrev Ay (k0 : Q0) (k : wH) : Prop := ∀ u0 u1 h, k0 (.tuple [(.int .u64 u0), (.int .i64 u1)]) h = k u0 u1 h
abbrev Jt : Type := AV → AV → Int → Heap → CRes
abbrev RI (J : Q1) (j : Jt) : Prop := ∀ v2 v3 v7 h, J ⟨c8 [(p2, v2), (p3, v3), (p7, (.int .u64 v7))], h⟩ = j v2 v3 v7 h
abbrev uo : Type := AV → AV → Int → AV → Int → Heap → CRes
abbrev Ju (J : Q1) (j : uo) : Prop := ∀ v2 v3 v7 v18 v19 h, J ⟨c8 [(p2, v2), (p3, v3), (p7, (.int .u64 v7)), (p18, v18), (p19, (.int .i64 v19))], h⟩ = j v2 v3 v7 v18 v19 h
section
variable (n : Nat) (cM : lc) (cD : jJ) (bh : dY) (bo : dR) (bg : dW) (bl : dX) (bf : dU) (bj : dT) (bq : dV) (bZ : gD) (br : dS) (aX : dG) (k0 : Q0) (k : wH)
def acB (n : Nat) (cM : lc) (cD : jJ) (bh : dY) (bo : dR) (bg : dW) (bl : dX) (bf : dU) (bj : dT) (bq : dV) (bZ : gD) (br : dS) (aX : dG) (k0 : Q0) : Q1 := (bS (lK cM cD bh bo bg bl bf bj bq bZ br aX) md acO (cX DC k0))
def Q2 (n : Nat) (cM : lc) (cD : jJ) (bh : dY) (bo : dR) (bg : dW) (bl : dX) (bf : dU) (bj : dT) (bq : dV) (bZ : gD) (br : dS) (aX : dG) (k : wH) (v2 : AV) (v3 : AV) (v7 : Int) (h : Heap) : CRes :=
 jO .i64 0 h v3 fun x12 x13 =>
 BG .u64 x13 fun x14 =>
 jO .u64 2 h v2 fun x15 x16 =>
 OL .u64 x14 x16 fun x17 =>
 lU .u64 x17 v7 fun x18 =>
 k x18 0 h
theorem amp (hk : Ay k0 k) : RI (acB n cM cD bh bo bg bl bf bj bq bZ br aX k0 ) (Q2 n cM cD bh bo bg bl bf bj bq bZ br aX k ) := by
  obtain rfl := fx3 hk
  intro v2 v3 v7 h
  kernel_rfl
def ach : Q1 := acB n cM cD bh bo bg bl bf bj bq bZ br aX k0
def Jz : Jt := Q2 n cM cD bh bo bg bl bf bj bq bZ br aX k
theorem ame (hk : Ay k0 k) : RI (ach n cM cD bh bo bg bl bf bj bq bZ br aX k0 ) (Jz n cM cD bh bo bg bl bf bj bq bZ br aX k ) := amp n cM cD bh bo bg bl bf bj bq bZ br aX k0 k hk
def acE (n : Nat) (cM : lc) (cD : jJ) (bh : dY) (bo : dR) (bg : dW) (bl : dX) (bf : dU) (bj : dT) (bq : dV) (bZ : gD) (br : dS) (aX : dG) (k0 : Q0) (J0 : Q1) (J1 : Q1) : Q1 := (bS (lK cM cD bh bo bg bl bf bj bq bZ br aX) md acD (fun s => eK (.t p20) s (bS (lK cM cD bh bo bg bl bf bj bq bZ br aX) md acG (bS (lK cM cD bh bo bg bl bf bj bq bZ br aX) md adp (bS (lK cM cD bh bo bg bl bf bj bq bZ br aX) md acy (fun s => da RM s J1)))) (fun s => da acF s J0)))
def Jo (n : Nat) (cM : lc) (cD : jJ) (bh : dY) (bo : dR) (bg : dW) (bl : dX) (bf : dU) (bj : dT) (bq : dV) (bZ : gD) (br : dS) (aX : dG) (k : wH) (j0 : Jt) (j1 : uo) (v2 : AV) (v3 : AV) (v7 : Int) (v18 : AV) (v19 : Int) (h : Heap) : CRes :=
 ifB (ltF v19 11)
 (Xc 1 11 false v18 v19 fun x19 =>
 lK cM cD bh bo bg bl bf bj bq bZ br aX x19 [] h fun x20 h21 =>
 UA .u64 x20 fun x22 =>
 Qd true [(.int .u64 v7), (.int .u64 x22)] fun x23 =>
 UA .u64 x23 fun x24 =>
 lU .i64 v19 1 fun x25 =>
 j1 v2 v3 x24 v18 x25 h21)
 (j0 v2 v3 v7 h)
theorem al3 (hk : Ay k0 k) {J0 : Q1} {j0 : Jt} (h0 : RI J0 j0) {J1 : Q1} {j1 : uo} (h1 : Ju J1 j1) : Ju (acE n cM cD bh bo bg bl bf bj bq bZ br aX k0 J0 J1) (Jo n cM cD bh bo bg bl bf bj bq bZ br aX k j0 j1) := by
  obtain rfl := fx3 hk
  obtain rfl := fx4 h0
  obtain rfl := fx6 h1
  intro v2 v3 v7 v18 v19 h
  kernel_rfl
def acj (m : Nat) : Q1 := Nat.rec (motive := fun _ => Q1) (fun _ => .err) (fun _ ih => acE n cM cD bh bo bg bl bf bj bq bZ br aX k0 (ach n cM cD bh bo bg bl bf bj bq bZ br aX k0 ) ih) m
def Cr (m : Nat) : uo := Nat.rec (motive := fun _ => uo) (fun _ _ _ _ _ _ => .err) (fun _ ih => Jo n cM cD bh bo bg bl bf bj bq bZ br aX k (Jz n cM cD bh bo bg bl bf bj bq bZ br aX k ) ih) m
theorem amf (m : Nat) : Cr n cM cD bh bo bg bl bf bj bq bZ br aX k (m + 1) = Jo n cM cD bh bo bg bl bf bj bq bZ br aX k (Jz n cM cD bh bo bg bl bf bj bq bZ br aX k ) (Cr n cM cD bh bo bg bl bf bj bq bZ br aX k m) := rfl
theorem amA (hk : Ay k0 k) (m : Nat) : Ju (acj n cM cD bh bo bg bl bf bj bq bZ br aX k0 m) (Cr n cM cD bh bo bg bl bf bj bq bZ br aX k m) := by
  induction m with
  | zero => intro v2 v3 v7 v18 v19 h; rfl
  | succ m ih => exact al3 n cM cD bh bo bg bl bf bj bq bZ br aX k0 k hk (ame n cM cD bh bo bg bl bf bj bq bZ br aX k0 k hk ) ih
def ah0 (n : Nat) (cM : lc) (cD : jJ) (bh : dY) (bo : dR) (bg : dW) (bl : dX) (bf : dU) (bj : dT) (bq : dV) (bZ : gD) (br : dS) (aX : dG) (k0 : Q0) (J1 : Q1) : Q1 := (bS (lK cM cD bh bo bg bl bf bj bq bZ br aX) md ZE (bS (lK cM cD bh bo bg bl bf bj bq bZ br aX) md ac6 (bS (lK cM cD bh bo bg bl bf bj bq bZ br aX) md adn (fun s => eK (.t p14) s (bS (lK cM cD bh bo bg bl bf bj bq bZ br aX) md ac7 (cX DC k0)) (bS (lK cM cD bh bo bg bl bf bj bq bZ br aX) md ac5 (bS (lK cM cD bh bo bg bl bf bj bq bZ br aX) md ado (fun s => da RM s J1)))))))
def Z5 (n : Nat) (cM : lc) (cD : jJ) (bh : dY) (bo : dR) (bg : dW) (bl : dX) (bf : dU) (bj : dT) (bq : dV) (bZ : gD) (br : dS) (aX : dG) (k : wH) (j1 : uo) (a0 : AV) (a1 : AV) (h : Heap) : CRes :=
 zt h a0 fun x0 h1 =>
 zt h1 a1 fun x2 h3 =>
 gJ h3 (.ptr x0 0) 6 true fun x4 =>
 gJ h3 (.ptr x2 0) 4 true fun x5 =>
 cM x4 x5 h3 fun x6 h7 =>
 ifB (jk (eqF x6 0))
 (k 0 x6 h7)
 (gJ h7 (.ptr x0 0) 6 true fun x8 =>
 gJ h7 (.ptr x2 0) 4 true fun x9 =>
 cD x8 x9 h7 fun x10 h11 =>
 j1 (.ptr x0 0) (.ptr x2 0) 0 x10 0 h11)
theorem ao7 (n : Nat) (cM : lc) (cD : jJ) (bh : dY) (bo : dR) (bg : dW) (bl : dX) (bf : dU) (bj : dT) (bq : dV) (bZ : gD) (br : dS) (aX : dG) (k0 : Q0) (k : wH) (hk : Ay k0 k) {J1 : Q1} {j1 : uo} (h1 : Ju J1 j1) (a0 : AV) (a1 : AV) (h : Heap) : (ah0 n cM cD bh bo bg bl bf bj bq bZ br aX k0 J1) ⟨c8 [(p0, a0), (p1, a1)], h⟩ = (Z5 n cM cD bh bo bg bl bf bj bq bZ br aX k j1) a0 a1 h := by
  obtain rfl := fx3 hk
  obtain rfl := fx6 h1
  kernel_rfl
def aqa : Q1 := ah0 n cM cD bh bo bg bl bf bj bq bZ br aX k0 (acj n cM cD bh bo bg bl bf bj bq bZ br aX k0 n)
def aaz (n : Nat) (cM : lc) (cD : jJ) (bh : dY) (bo : dR) (bg : dW) (bl : dX) (bf : dU) (bj : dT) (bq : dV) (bZ : gD) (br : dS) (aX : dG) (a0 : AV) (a1 : AV) (h : Heap) (k : wH) : CRes := Z5 n cM cD bh bo bg bl bf bj bq bZ br aX k (Cr n cM cD bh bo bg bl bf bj bq bZ br aX k n) a0 a1 h
theorem aqm (n : Nat) (cM : lc) (cD : jJ) (bh : dY) (bo : dR) (bg : dW) (bl : dX) (bf : dU) (bj : dT) (bq : dV) (bZ : gD) (br : dS) (aX : dG) (k0 : Q0) (s : St) : D (eO [(EU, AD cM), (Cf, yf cD), (fZ, kI bh), (f0, kP bo), (jC, kT bg), (kL, kG bl), (kF, kH bf), (kO, kJ bj), (kK, kM bq), (rM, rK bZ), (kR, kS br), (jH, jL aX)]) md n ZG (cX DC k0) (fun _ _ => .err) (cX DC k0) s = aqa n cM cD bh bo bg bl bf bj bq bZ br aX k0 s := by kernel_rfl
theorem apP (n : Nat) (cM : lc) (cD : jJ) (bh : dY) (bo : dR) (bg : dW) (bl : dX) (bf : dU) (bj : dT) (bq : dV) (bZ : gD) (br : dS) (aX : dG) (a0 : AV) (a1 : AV) (h : Heap) (k0 : Q0) : W aaV DC [(EU, AD cM), (Cf, yf cD), (fZ, kI bh), (f0, kP bo), (jC, kT bg), (kL, kG bl), (kF, kH bf), (kO, kJ bj), (kK, kM bq), (rM, rK bZ), (kR, kS br), (jH, jL aX)] md n ZG [a0, a1] h k0 = aaz n cM cD bh bo bg bl bf bj bq bZ br aX a0 a1 h (fun u0 u1 h => k0 (.tuple [(.int .u64 u0), (.int .i64 u1)]) h) := by
  let k : wH := fun u0 u1 h => k0 (.tuple [(.int .u64 u0), (.int .i64 u1)]) h
  have hk : Ay k0 k := fun _ _ _ => rfl
  have hb : ∀ F : Tr AV → CRes, gG aaV [a0, a1] .leaf F = F (c8 [(p0, a0), (p1, a1)]) := fun F => by kernel_rfl
  exact (mC hb).trans ((aqm n cM cD bh bo bg bl bf bj bq bZ br aX k0 _).trans (ao7 n cM cD bh bo bg bl bf bj bq bZ br aX k0 k hk (amA n cM cD bh bo bg bl bf bj bq bZ br aX k0 k hk n) a0 a1 h))
end
def xa (n : Nat) : eQ := aaz n (tZ n) (rp n) (gH n) (gu n) (jA n) (g0 n) (hO n) (gW n) (gX n) (m7 n) (gY n) (gI n)
/-! cofferdam/plan.shape -/
abbrev eB := AV → Int → Heap → (AV → Heap → CRes) → CRes
abbrev Aw := AV → Heap → CRes
def AP (g : eB) : Wr := fun l h k => lM l fun a0 l => ph .i64 l fun a1 l => mq l (g a0 a1 h fun u0 h => k u0 h)
def JD : dN := eO []
abbrev acd (k0 : Q0) (k : Aw) : Prop := ∀ u0 h, k0 u0 h = k u0 h
section
variable (n : Nat) (k0 : Q0) (k : Aw)
def aeK (n : Nat) (k0 : Q0) : Q1 := (bS (JD ) xh aa2 (bS (JD ) xh aaT (bS (JD ) xh aa7 (bS (JD ) xh ZP (cX FP k0)))))
def US (n : Nat) (k : Aw) (a0 : AV) (a1 : Int) (h : Heap) : CRes :=
 zt h a0 fun x0 h1 =>
 yA h1 (.cells [(.int .i64 0), (.int .i64 0), (.int .i64 0), (.int .i64 0)] true 0) fun x2 h3 =>
 fld 16 h3 (.ptr x0 0) 1 false fun x4 x5 =>
 eld 8 h3 x5 a1 8 true fun x6 x7 =>
 yA h3 (.cells [.nilslice, (.int .i64 0), (.int .i64 0), (.int .i64 0), (.int .i64 0), (.int .i64 0), (.int .i64 0), (.int .i64 0)] true 0) fun x8 h9 =>
 lR h9 (.ptr x8 0) 8 x7 fun h10 =>
 jO .i64 1 h10 (.ptr x8 0) fun x11 x12 =>
 aiv .i64 1 x12 fun x13 =>
 jO .i64 2 h10 (.ptr x8 0) fun x14 x15 =>
 jO .i64 2 h10 (.ptr x8 0) fun x16 x17 =>
 jO .i64 7 h10 (.ptr x8 0) fun x18 x19 =>
 lU .i64 x17 x19 fun x20 =>
 Yl .i64 x20 1 fun x21 =>
 jO .i64 6 h10 (.ptr x8 0) fun x22 x23 =>
 OL .i64 16 x23 fun x24 =>
 Qd false [(.int .i64 x21), (.int .i64 x24)] fun x25 =>
 UA .i64 x25 fun x26 =>
 jO .i64 3 h10 (.ptr x8 0) fun x27 x28 =>
 wa [(.int .i64 0), (.int .i64 0), (.int .i64 0), (.int .i64 0)] [(0, 1, (.int .i64 x13)), (1, 1, (.int .i64 x15)), (2, 1, (.int .i64 x26)), (3, 1, (.int .i64 x28))] fun x29 =>
 lR h10 (.ptr x2 0) 4 x29 fun h30 =>
 gJ h30 (.ptr x2 0) 4 true fun x31 =>
 k x31 h30
theorem aoE (n : Nat) (k0 : Q0) (k : Aw) (hk : acd k0 k) (a0 : AV) (a1 : Int) (h : Heap) : (aeK n k0 ) ⟨c8 [(p0, a0), (p1, (.int .i64 a1))], h⟩ = (US n k ) a0 a1 h := by
  obtain rfl := fx2 hk
  kernel_rfl
def anW : Q1 := aeK n k0
def UZ (n : Nat) (a0 : AV) (a1 : Int) (h : Heap) (k : Aw) : CRes := US n k a0 a1 h
theorem aob (n : Nat) (k0 : Q0) (s : St) : D (eO []) xh n U2 (cX FP k0) (fun _ _ => .err) (cX FP k0) s = anW n k0 s := by kernel_rfl
theorem anH (n : Nat) (a0 : AV) (a1 : Int) (h : Heap) (k0 : Q0) : W UJ FP [] xh n U2 [a0, (.int .i64 a1)] h k0 = UZ n a0 a1 h (fun u0 h => k0 u0 h) := by
  let k : Aw := fun u0 h => k0 u0 h
  have hk : acd k0 k := fun _ _ => rfl
  have hb : ∀ F : Tr AV → CRes, gG UJ [a0, (.int .i64 a1)] .leaf F = F (c8 [(p0, a0), (p1, (.int .i64 a1))]) := fun F => by kernel_rfl
  exact (mC hb).trans ((aob n k0 _).trans (aoE n k0 k hk a0 a1 h))
end
def tY (n : Nat) : eB := UZ n
/-! cofferdam/plan.sliced -/
abbrev jK := AV → Heap → (Bool → Heap → CRes) → CRes
abbrev je := Bool → Heap → CRes
def yb (g : jK) : Wr := fun l h k => lM l fun a0 l => mq l (g a0 h fun u0 h => k (.bool u0) h)
def fN (ad : ck) (ak : cu) (az : dx) (aG : en) (aP : eQ) (aL : eB) : dN := eO [(jx, iU ad), (jc, iw ak), (tU, ru az), (B7, ya aG), (Ke, En aP), (EL, AP aL)]
abbrev fF (k0 : Q0) (k : je) : Prop := ∀ u0 h, k0 (.bool u0) h = k u0 h
abbrev CS : Type := Heap → CRes
abbrev Lo (J : Q1) (j : CS) : Prop := ∀ h, J ⟨c8 [], h⟩ = j h
abbrev tr : Type := AV → Int → Int → Heap → CRes
abbrev CU (J : Q1) (j : tr) : Prop := ∀ v1 v58 v59 h, J ⟨c8 [(p1, v1), (p58, (.int .i64 v58)), (p59, (.int .i64 v59))], h⟩ = j v1 v58 v59 h
abbrev C3 : Type := AV → Int → Int → Bool → Heap → CRes
abbrev LJ (J : Q1) (j : C3) : Prop := ∀ v1 v58 v59 v82 h, J ⟨c8 [(p1, v1), (p58, (.int .i64 v58)), (p59, (.int .i64 v59)), (p82, (.bool v82))], h⟩ = j v1 v58 v59 v82 h
abbrev kw : Type := AV → Int → Int → Heap → CRes
abbrev tj (J : Q1) (j : kw) : Prop := ∀ v1 v58 v59 h, J ⟨c8 [(p1, v1), (p58, (.int .i64 v58)), (p59, (.int .i64 v59))], h⟩ = j v1 v58 v59 h
abbrev CF : Type := AV → Bool → Heap → CRes
abbrev LD (J : Q1) (j : CF) : Prop := ∀ v1 v55 h, J ⟨c8 [(p1, v1), (p55, (.bool v55))], h⟩ = j v1 v55 h
abbrev CR : Type := AV → Bool → Heap → CRes
abbrev L3 (J : Q1) (j : CR) : Prop := ∀ v1 v34 h, J ⟨c8 [(p1, v1), (p34, (.bool v34))], h⟩ = j v1 v34 h
abbrev C1 : Type := AV → Bool → Heap → CRes
abbrev L0 (J : Q1) (j : C1) : Prop := ∀ v1 v25 h, J ⟨c8 [(p1, v1), (p25, (.bool v25))], h⟩ = j v1 v25 h
abbrev CD : Type := AV → Bool → Heap → CRes
abbrev Mt (J : Q1) (j : CD) : Prop := ∀ v1 v20 h, J ⟨c8 [(p1, v1), (p20, (.bool v20))], h⟩ = j v1 v20 h
abbrev CG : Type := AV → Bool → Heap → CRes
abbrev Mx (J : Q1) (j : CG) : Prop := ∀ v1 v15 h, J ⟨c8 [(p1, v1), (p15, (.bool v15))], h⟩ = j v1 v15 h
section
variable (n : Nat) (ad : ck) (ak : cu) (az : dx) (aG : en) (aP : eQ) (aL : eB) (k0 : Q0) (k : je)
def WS (n : Nat) (ad : ck) (ak : cu) (az : dx) (aG : en) (aP : eQ) (aL : eB) (k0 : Q0) : Q1 := (bS (fN ad ak az aG aP aL) fE Xy (cX oX k0))
def Lu (n : Nat) (ad : ck) (ak : cu) (az : dx) (aG : en) (aP : eQ) (aL : eB) (k : je) (h : Heap) : CRes :=
 k true h
theorem aji (hk : fF k0 k) : Lo (WS n ad ak az aG aP aL k0 ) (Lu n ad ak az aG aP aL k ) := by
  obtain rfl := fx2 hk
  intro h
  kernel_rfl
def Ww : Q1 := WS n ad ak az aG aP aL k0
def CB : CS := Lu n ad ak az aG aP aL k
theorem aiy (hk : fF k0 k) : Lo (Ww n ad ak az aG aP aL k0 ) (CB n ad ak az aG aP aL k ) := aji n ad ak az aG aP aL k0 k hk
def Xp (n : Nat) (ad : ck) (ak : cu) (az : dx) (aG : en) (aP : eQ) (aL : eB) (k0 : Q0) (J1 : Q1) : Q1 := (bS (fN ad ak az aG aP aL) fE Xr (fun s => da Mh s J1))
def Cx (n : Nat) (ad : ck) (ak : cu) (az : dx) (aG : en) (aP : eQ) (aL : eB) (k : je) (j1 : kw) (v1 : AV) (v58 : Int) (v59 : Int) (h : Heap) : CRes :=
 lU .i64 v59 1 fun x47 =>
 j1 v1 v58 x47 h
theorem ain (hk : fF k0 k) {J1 : Q1} {j1 : kw} (h1 : tj J1 j1) : CU (Xp n ad ak az aG aP aL k0 J1) (Cx n ad ak az aG aP aL k j1) := by
  obtain rfl := fx2 hk
  obtain rfl := fx4 h1
  intro v1 v58 v59 h
  kernel_rfl
def LU (J1 : Q1) : Q1 := Xp n ad ak az aG aP aL k0 J1
def tl (j1 : kw) : tr := Cx n ad ak az aG aP aL k j1
theorem Wg (hk : fF k0 k) {J1 : Q1} {j1 : kw} (h1 : tj J1 j1) : CU (LU n ad ak az aG aP aL k0 J1) (tl n ad ak az aG aP aL k j1) := ain n ad ak az aG aP aL k0 k hk h1
def WA (n : Nat) (ad : ck) (ak : cu) (az : dx) (aG : en) (aP : eQ) (aL : eB) (k0 : Q0) (J2 : Q1) : Q1 := (fun s => eK (.t p82) s (bS (fN ad ak az aG aP aL) fE Wo (cX oX k0)) (fun s => da LR s J2))
def Lm (n : Nat) (ad : ck) (ak : cu) (az : dx) (aG : en) (aP : eQ) (aL : eB) (k : je) (j2 : tr) (v1 : AV) (v58 : Int) (v59 : Int) (v82 : Bool) (h : Heap) : CRes :=
 ifB v82
 (k false h)
 (j2 v1 v58 v59 h)
theorem aiT (hk : fF k0 k) {J2 : Q1} {j2 : tr} (h2 : CU J2 j2) : LJ (WA n ad ak az aG aP aL k0 J2) (Lm n ad ak az aG aP aL k j2) := by
  obtain rfl := fx2 hk
  obtain rfl := fx4 h2
  intro v1 v58 v59 v82 h
  kernel_rfl
def Xi (J1 : Q1) : Q1 := WA n ad ak az aG aP aL k0 (LU n ad ak az aG aP aL k0 J1)
def CY (j1 : kw) : C3 := Lm n ad ak az aG aP aL k (tl n ad ak az aG aP aL k j1)
theorem aiu (hk : fF k0 k) {J1 : Q1} {j1 : kw} (h1 : tj J1 j1) : LJ (Xi n ad ak az aG aP aL k0 J1) (CY n ad ak az aG aP aL k j1) := aiT n ad ak az aG aP aL k0 k hk (Wg n ad ak az aG aP aL k0 k hk h1)
def VH (n : Nat) (ad : ck) (ak : cu) (az : dx) (aG : en) (aP : eQ) (aL : eB) (k0 : Q0) (J0 : Q1) (J2 : Q1) (J3 : Q1) : Q1 := (bS (fN ad ak az aG aP aL) fE V4 (fun s => eK (.t p60) s (bS (fN ad ak az aG aP aL) fE Wh (bS (fN ad ak az aG aP aL) fE VK (fun s => eK (.t p65) s (fun s => da LR s J2) (bS (fN ad ak az aG aP aL) fE Ws (bS (fN ad ak az aG aP aL) fE Xb (fun s => da V3 s J3)))))) (fun s => da XI s J0)))
def CH (n : Nat) (ad : ck) (ak : cu) (az : dx) (aG : en) (aP : eQ) (aL : eB) (k : je) (j0 : CS) (j2 : tr) (j3 : C3) (v1 : AV) (v58 : Int) (v59 : Int) (h : Heap) : CRes :=
 ifB (ltF v59 v58)
 (gJ h v1 17 true fun x34 =>
 az x34 v59 h fun x35 h36 =>
 ifB (jk (eqF x35 0))
 (j2 v1 v58 v59 h36)
 (fld 6 h36 v1 6 true fun x37 x38 =>
 gJ h36 v1 17 true fun x39 =>
 aL x39 v59 (h36.shut true) fun x40 h41 =>
 aP x38 x40 (h41.back h36.ro) fun x42 x43 h44 =>
 ifB (jk (eqF x43 0))
 (j3 v1 v58 v59 true h44)
 (faK 12 v1 fun x45 =>
 ldI .u64 h44 x45 fun x46 =>
 j3 v1 v58 v59 (ltF x46 x42) h44)))
 (j0 h)
theorem aiq (hk : fF k0 k) {J0 : Q1} {j0 : CS} (h0 : Lo J0 j0) {J2 : Q1} {j2 : tr} (h2 : CU J2 j2) {J3 : Q1} {j3 : C3} (h3 : LJ J3 j3) : tj (VH n ad ak az aG aP aL k0 J0 J2 J3) (CH n ad ak az aG aP aL k j0 j2 j3) := by
  obtain rfl := fx2 hk
  obtain rfl := fx1 h0
  obtain rfl := fx4 h2
  obtain rfl := fx5 h3
  intro v1 v58 v59 h
  kernel_rfl
def We (m : Nat) : Q1 := Nat.rec (motive := fun _ => Q1) (fun _ => .err) (fun _ ih => VH n ad ak az aG aP aL k0 (Ww n ad ak az aG aP aL k0 ) (LU n ad ak az aG aP aL k0 ih) (Xi n ad ak az aG aP aL k0 ih)) m
def qH (m : Nat) : kw := Nat.rec (motive := fun _ => kw) (fun _ _ _ _ => .err) (fun _ ih => CH n ad ak az aG aP aL k (CB n ad ak az aG aP aL k ) (tl n ad ak az aG aP aL k ih) (CY n ad ak az aG aP aL k ih)) m
theorem ajl (m : Nat) : qH n ad ak az aG aP aL k (m + 1) = CH n ad ak az aG aP aL k (CB n ad ak az aG aP aL k ) (tl n ad ak az aG aP aL k (qH n ad ak az aG aP aL k m)) (CY n ad ak az aG aP aL k (qH n ad ak az aG aP aL k m)) := rfl
theorem aiP (hk : fF k0 k) (m : Nat) : tj (We n ad ak az aG aP aL k0 m) (qH n ad ak az aG aP aL k m) := by
  induction m with
  | zero => intro v1 v58 v59 h; rfl
  | succ m ih => exact aiq n ad ak az aG aP aL k0 k hk (aiy n ad ak az aG aP aL k0 k hk ) (Wg n ad ak az aG aP aL k0 k hk ih) (aiu n ad ak az aG aP aL k0 k hk ih)
def WF (n : Nat) (ad : ck) (ak : cu) (az : dx) (aG : en) (aP : eQ) (aL : eB) (k0 : Q0) (J1 : Q1) : Q1 := (fun s => eK (.t p55) s (bS (fN ad ak az aG aP aL) fE W8 (cX oX k0)) (bS (fN ad ak az aG aP aL) fE VL (fun s => da Mh s J1)))
def LL (n : Nat) (ad : ck) (ak : cu) (az : dx) (aG : en) (aP : eQ) (aL : eB) (k : je) (j1 : kw) (v1 : AV) (v55 : Bool) (h : Heap) : CRes :=
 ifB v55
 (k false h)
 (fld 16 h v1 1 false fun x31 x32 =>
 jb x32 fun x33 =>
 j1 v1 x33 0 h)
theorem aiF (hk : fF k0 k) {J1 : Q1} {j1 : kw} (h1 : tj J1 j1) : LD (WF n ad ak az aG aP aL k0 J1) (LL n ad ak az aG aP aL k j1) := by
  obtain rfl := fx2 hk
  obtain rfl := fx4 h1
  intro v1 v55 h
  kernel_rfl
def VZ : Q1 := WF n ad ak az aG aP aL k0 (We n ad ak az aG aP aL k0 n)
def Ma : CF := LL n ad ak az aG aP aL k (qH n ad ak az aG aP aL k n)
theorem ajf (hk : fF k0 k) : LD (VZ n ad ak az aG aP aL k0 ) (Ma n ad ak az aG aP aL k ) := aiF n ad ak az aG aP aL k0 k hk (aiP n ad ak az aG aP aL k0 k hk n)
def Xh (n : Nat) (ad : ck) (ak : cu) (az : dx) (aG : en) (aP : eQ) (aL : eB) (k0 : Q0) (J4 : Q1) : Q1 := (fun s => eK (.t p34) s (bS (fN ad ak az aG aP aL) fE Tc (cX oX k0)) (bS (fN ad ak az aG aP aL) fE TC (bS (fN ad ak az aG aP aL) fE S2 (fun s => da Wq s J4))))
def LW (n : Nat) (ad : ck) (ak : cu) (az : dx) (aG : en) (aP : eQ) (aL : eB) (k : je) (j4 : CF) (v1 : AV) (v34 : Bool) (h : Heap) : CRes :=
 ifB v34
 (k true h)
 (fld 6 h v1 6 true fun x17 x18 =>
 jO .i64 3 h v1 fun x19 x20 =>
 jO .i64 4 h v1 fun x21 x22 =>
 OL .i64 x20 x22 fun x23 =>
 jO .i64 5 h v1 fun x24 x25 =>
 aG x18 x23 x25 h fun x26 x27 h28 =>
 ifB (jk (eqF x27 0))
 (j4 v1 true h28)
 (faK 13 v1 fun x29 =>
 ldI .u64 h28 x29 fun x30 =>
 j4 v1 (ltF x30 x26) h28))
theorem aio (hk : fF k0 k) {J4 : Q1} {j4 : CF} (h4 : LD J4 j4) : L3 (Xh n ad ak az aG aP aL k0 J4) (LW n ad ak az aG aP aL k j4) := by
  obtain rfl := fx2 hk
  obtain rfl := fx3 h4
  intro v1 v34 h
  kernel_rfl
def Xj : Q1 := Xh n ad ak az aG aP aL k0 (VZ n ad ak az aG aP aL k0 )
def Mk : CR := LW n ad ak az aG aP aL k (Ma n ad ak az aG aP aL k )
theorem ais (hk : fF k0 k) : L3 (Xj n ad ak az aG aP aL k0 ) (Mk n ad ak az aG aP aL k ) := aio n ad ak az aG aP aL k0 k hk (ajf n ad ak az aG aP aL k0 k hk )
def Xl (n : Nat) (ad : ck) (ak : cu) (az : dx) (aG : en) (aP : eQ) (aL : eB) (k0 : Q0) (J5 : Q1) : Q1 := (fun s => eK (.t p25) s (bS (fN ad ak az aG aP aL) fE Sc (cX oX k0)) (bS (fN ad ak az aG aP aL) fE Uo (fun s => da Wn s J5)))
def L9 (n : Nat) (ad : ck) (ak : cu) (az : dx) (aG : en) (aP : eQ) (aL : eB) (k : je) (j5 : CR) (v1 : AV) (v25 : Bool) (h : Heap) : CRes :=
 ifB v25
 (k false h)
 (gJ h v1 17 true fun x10 =>
 ad x10 h fun x11 h12 =>
 ifB (jk x11)
 (j5 v1 true h12)
 (faK 6 v1 fun x13 =>
 gJ h12 x13 6 true fun x14 =>
 ak x14 h12 fun x15 h16 =>
 j5 v1 (jk (eqF x15 0)) h16))
theorem aiz (hk : fF k0 k) {J5 : Q1} {j5 : CR} (h5 : L3 J5 j5) : L0 (Xl n ad ak az aG aP aL k0 J5) (L9 n ad ak az aG aP aL k j5) := by
  obtain rfl := fx2 hk
  obtain rfl := fx3 h5
  intro v1 v25 h
  kernel_rfl
def XH : Q1 := Xl n ad ak az aG aP aL k0 (Xj n ad ak az aG aP aL k0 )
def L8 : C1 := L9 n ad ak az aG aP aL k (Mk n ad ak az aG aP aL k )
theorem ai5 (hk : fF k0 k) : L0 (XH n ad ak az aG aP aL k0 ) (L8 n ad ak az aG aP aL k ) := aiz n ad ak az aG aP aL k0 k hk (ais n ad ak az aG aP aL k0 k hk )
def Xm (n : Nat) (ad : ck) (ak : cu) (az : dx) (aG : en) (aP : eQ) (aL : eB) (k0 : Q0) (J8 : Q1) : Q1 := (bS (fN ad ak az aG aP aL) fE S5 (fun s => da Xs s J8))
def Ms (n : Nat) (ad : ck) (ak : cu) (az : dx) (aG : en) (aP : eQ) (aL : eB) (k : je) (j8 : C1) (v1 : AV) (v20 : Bool) (h : Heap) : CRes :=
 ifB v20
 (j8 v1 true h)
 (faK 14 v1 fun x8 =>
 ldI .u64 h x8 fun x9 =>
 j8 v1 (jk (ltF x9 1099511627776)) h)
theorem aiC (hk : fF k0 k) {J8 : Q1} {j8 : C1} (h8 : L0 J8 j8) : Mt (Xm n ad ak az aG aP aL k0 J8) (Ms n ad ak az aG aP aL k j8) := by
  obtain rfl := fx2 hk
  obtain rfl := fx3 h8
  intro v1 v20 h
  kernel_rfl
def WQ : Q1 := Xm n ad ak az aG aP aL k0 (XH n ad ak az aG aP aL k0 )
def Me : CD := Ms n ad ak az aG aP aL k (L8 n ad ak az aG aP aL k )
theorem aje (hk : fF k0 k) : Mt (WQ n ad ak az aG aP aL k0 ) (Me n ad ak az aG aP aL k ) := aiC n ad ak az aG aP aL k0 k hk (ai5 n ad ak az aG aP aL k0 k hk )
def Wt (n : Nat) (ad : ck) (ak : cu) (az : dx) (aG : en) (aP : eQ) (aL : eB) (k0 : Q0) (J7 : Q1) : Q1 := (bS (fN ad ak az aG aP aL) fE Sl (fun s => da WD s J7))
def LK (n : Nat) (ad : ck) (ak : cu) (az : dx) (aG : en) (aP : eQ) (aL : eB) (k : je) (j7 : CD) (v1 : AV) (v15 : Bool) (h : Heap) : CRes :=
 ifB v15
 (j7 v1 true h)
 (faK 13 v1 fun x6 =>
 ldI .u64 h x6 fun x7 =>
 j7 v1 (ltF 4194304 x7) h)
theorem aiJ (hk : fF k0 k) {J7 : Q1} {j7 : CD} (h7 : Mt J7 j7) : Mx (Wt n ad ak az aG aP aL k0 J7) (LK n ad ak az aG aP aL k j7) := by
  obtain rfl := fx2 hk
  obtain rfl := fx3 h7
  intro v1 v15 h
  kernel_rfl
def WY : Q1 := Wt n ad ak az aG aP aL k0 (WQ n ad ak az aG aP aL k0 )
def Lq : CG := LK n ad ak az aG aP aL k (Me n ad ak az aG aP aL k )
theorem ajm (hk : fF k0 k) : Mx (WY n ad ak az aG aP aL k0 ) (Lq n ad ak az aG aP aL k ) := aiJ n ad ak az aG aP aL k0 k hk (aje n ad ak az aG aP aL k0 k hk )
def acv (n : Nat) (ad : ck) (ak : cu) (az : dx) (aG : en) (aP : eQ) (aL : eB) (k0 : Q0) (J6 : Q1) : Q1 := (bS (fN ad ak az aG aP aL) fE Us (bS (fN ad ak az aG aP aL) fE Sn (fun s => da Wj s J6)))
def Re (n : Nat) (ad : ck) (ak : cu) (az : dx) (aG : en) (aP : eQ) (aL : eB) (k : je) (j6 : CG) (a0 : AV) (h : Heap) : CRes :=
 zt h a0 fun x0 h1 =>
 jO .u64 12 h1 (.ptr x0 0) fun x2 x3 =>
 ifB (ltF x3 1)
 (j6 (.ptr x0 0) true h1)
 (faK 12 (.ptr x0 0) fun x4 =>
 ldI .u64 h1 x4 fun x5 =>
 j6 (.ptr x0 0) (ltF 4194304 x5) h1)
theorem alT (n : Nat) (ad : ck) (ak : cu) (az : dx) (aG : en) (aP : eQ) (aL : eB) (k0 : Q0) (k : je) (hk : fF k0 k) {J6 : Q1} {j6 : CG} (h6 : Mx J6 j6) (a0 : AV) (h : Heap) : (acv n ad ak az aG aP aL k0 J6) ⟨c8 [(p0, a0)], h⟩ = (Re n ad ak az aG aP aL k j6) a0 h := by
  obtain rfl := fx2 hk
  obtain rfl := fx3 h6
  kernel_rfl
def al6 : Q1 := acv n ad ak az aG aP aL k0 (WY n ad ak az aG aP aL k0 )
def Q5 (n : Nat) (ad : ck) (ak : cu) (az : dx) (aG : en) (aP : eQ) (aL : eB) (a0 : AV) (h : Heap) (k : je) : CRes := Re n ad ak az aG aP aL k (Lq n ad ak az aG aP aL k ) a0 h
theorem amo (n : Nat) (ad : ck) (ak : cu) (az : dx) (aG : en) (aP : eQ) (aL : eB) (k0 : Q0) (s : St) : D (eO [(jx, iU ad), (jc, iw ak), (tU, ru az), (B7, ya aG), (Ke, En aP), (EL, AP aL)]) fE n RG (cX oX k0) (fun _ _ => .err) (cX oX k0) s = al6 n ad ak az aG aP aL k0 s := by kernel_rfl
theorem al0 (n : Nat) (ad : ck) (ak : cu) (az : dx) (aG : en) (aP : eQ) (aL : eB) (a0 : AV) (h : Heap) (k0 : Q0) : W Rq oX [(jx, iU ad), (jc, iw ak), (tU, ru az), (B7, ya aG), (Ke, En aP), (EL, AP aL)] fE n RG [a0] h k0 = Q5 n ad ak az aG aP aL a0 h (fun u0 h => k0 (.bool u0) h) := by
  let k : je := fun u0 h => k0 (.bool u0) h
  have hk : fF k0 k := fun _ _ => rfl
  have hb : ∀ F : Tr AV → CRes, gG Rq [a0] .leaf F = F (c8 [(p0, a0)]) := fun F => by kernel_rfl
  exact (mC hb).trans ((amo n ad ak az aG aP aL k0 _).trans (alT n ad ak az aG aP aL k0 k hk (ajm n ad ak az aG aP aL k0 k hk ) a0 h))
end
def rv (n : Nat) : jK := Q5 n (gn n) (gE n) (m9 n) (rm n) (xa n) (tY n)
/-! cofferdam/plan.turned$1 -/
abbrev gt := Int → AV → Heap → (Bool → Heap → CRes) → CRes
abbrev rA := Bool → Heap → CRes
def rD (g : gt) : Wr := fun l h k => ph .i64 l fun a0 l => lM l fun a1 l => mq l (g a0 a1 h fun u0 h => k (.bool u0) h)
def QG (ah : bV) : dN := eO [(fM, fC ah)]
abbrev Qs (k0 : Q0) (k : rA) : Prop := ∀ u0 h, k0 (.bool u0) h = k u0 h
section
variable (n : Nat) (ah : bV) (k0 : Q0) (k : rA)
def SY (n : Nat) (ah : bV) (k0 : Q0) : Q1 := (bS (QG ah) wm Ph (bS (QG ah) wm N3 (cX wz k0)))
def IA (n : Nat) (ah : bV) (k : rA) (a0 : Int) (a1 : AV) (h : Heap) : CRes :=
 fld 16 h a1 1 false fun x0 x1 =>
 jb x1 fun x2 =>
 Yl .i64 x2 1 fun x3 =>
 ah a0 0 x3 h fun x4 h5 =>
 k (jk x4) h5
theorem age (n : Nat) (ah : bV) (k0 : Q0) (k : rA) (hk : Qs k0 k) (a0 : Int) (a1 : AV) (h : Heap) : (SY n ah k0 ) ⟨c8 [(p0, (.int .i64 a0)), (p1, a1)], h⟩ = (IA n ah k ) a0 a1 h := by
  obtain rfl := fx2 hk
  kernel_rfl
def afY : Q1 := SY n ah k0
def Ir (n : Nat) (ah : bV) (a0 : Int) (a1 : AV) (h : Heap) (k : rA) : CRes := IA n ah k a0 a1 h
theorem af4 (n : Nat) (ah : bV) (k0 : Q0) (s : St) : D (eO [(fM, fC ah)]) wm n HH (cX wz k0) (fun _ _ => .err) (cX wz k0) s = afY n ah k0 s := by kernel_rfl
theorem agC (n : Nat) (ah : bV) (a0 : Int) (a1 : AV) (h : Heap) (k0 : Q0) : W H7 wz [(fM, fC ah)] wm n HH [(.int .i64 a0), a1] h k0 = Ir n ah a0 a1 h (fun u0 h => k0 (.bool u0) h) := by
  let k : rA := fun u0 h => k0 (.bool u0) h
  have hk : Qs k0 k := fun _ _ => rfl
  have hb : ∀ F : Tr AV → CRes, gG H7 [(.int .i64 a0), a1] .leaf F = F (c8 [(p0, (.int .i64 a0)), (p1, a1)]) := fun F => by kernel_rfl
  exact (mC hb).trans ((af4 n ah k0 _).trans (age n ah k0 k hk a0 a1 h))
end
def lO (n : Nat) : gt := Ir n (fU n)
abbrev eA := AV → AV → Heap → (Int → Heap → CRes) → CRes
abbrev fL := Int → Heap → CRes
def iB (g : eA) : Wr := fun l h k => lM l fun a0 l => lM l fun a1 l => mq l (g a0 a1 h fun u0 h => k (.int .i64 u0) h)
def eu (cp : gt) : dN := eO [(oz, rD cp)]
abbrev gZ (k0 : Q0) (k : fL) : Prop := ∀ u0 h, k0 (.int .i64 u0) h = k u0 h
abbrev ll : Type := Heap → CRes
abbrev oc (J : Q1) (j : ll) : Prop := ∀ h, J ⟨c8 [], h⟩ = j h
abbrev fT : Type := AV → AV → Int → Int → Heap → CRes
abbrev lp (J : Q1) (j : fT) : Prop := ∀ v0 v1 v7 v8 h, J ⟨c8 [(p0, v0), (p1, v1), (p7, (.int .i64 v7)), (p8, (.int .i64 v8))], h⟩ = j v0 v1 v7 v8 h
section
variable (n : Nat) (cp : gt) (k0 : Q0) (k : fL)
def uK (n : Nat) (cp : gt) (k0 : Q0) : Q1 := (bS (eu cp) dP uF (cX iD k0))
def ob (n : Nat) (cp : gt) (k : fL) (h : Heap) : CRes :=
 k (-1) h
theorem Gi (hk : gZ k0 k) : oc (uK n cp k0 ) (ob n cp k ) := by
  obtain rfl := fx2 hk
  intro h
  kernel_rfl
def uA : Q1 := uK n cp k0
def li : ll := ob n cp k
theorem Gf (hk : gZ k0 k) : oc (uA n cp k0 ) (li n cp k ) := Gi n cp k0 k hk
def uB (n : Nat) (cp : gt) (k0 : Q0) (J0 : Q1) (J1 : Q1) : Q1 := (bS (eu cp) dP uM (fun s => eK (.t p9) s (bS (eu cp) dP uJ (bS (eu cp) dP uD (fun s => eK (.t p16) s (bS (eu cp) dP uC (cX iD k0)) (bS (eu cp) dP uG (fun s => da oe s J1))))) (fun s => da uE s J0)))
def lj (n : Nat) (cp : gt) (k : fL) (j0 : ll) (j1 : fT) (v0 : AV) (v1 : AV) (v7 : Int) (v8 : Int) (h : Heap) : CRes :=
 ifB (ltF v8 v7)
 (Q6 .i64 1 h v0 v8 fun x1 x2 =>
 eu cp v1 [(.int .i64 x2)] h fun x3 h4 =>
 Nf x3 fun x5 =>
 ifB x5
 (k v8 h4)
 (lU .i64 v8 1 fun x6 =>
 j1 v0 v1 v7 x6 h4))
 (j0 h)
theorem Gk (hk : gZ k0 k) {J0 : Q1} {j0 : ll} (h0 : oc J0 j0) {J1 : Q1} {j1 : fT} (h1 : lp J1 j1) : lp (uB n cp k0 J0 J1) (lj n cp k j0 j1) := by
  obtain rfl := fx2 hk
  obtain rfl := fx1 h0
  obtain rfl := fx5 h1
  intro v0 v1 v7 v8 h
  kernel_rfl
def uI (m : Nat) : Q1 := Nat.rec (motive := fun _ => Q1) (fun _ => .err) (fun _ ih => uB n cp k0 (uA n cp k0 ) ih) m
def jj (m : Nat) : fT := Nat.rec (motive := fun _ => fT) (fun _ _ _ _ _ => .err) (fun _ ih => lj n cp k (li n cp k ) ih) m
theorem Gg (m : Nat) : jj n cp k (m + 1) = lj n cp k (li n cp k ) (jj n cp k m) := rfl
theorem Gj (hk : gZ k0 k) (m : Nat) : lp (uI n cp k0 m) (jj n cp k m) := by
  induction m with
  | zero => intro v0 v1 v7 v8 h; rfl
  | succ m ih => exact Gk n cp k0 k hk (Gf n cp k0 k hk ) ih
def wU (n : Nat) (cp : gt) (k0 : Q0) (J1 : Q1) : Q1 := (bS (eu cp) dP uL (bS (eu cp) dP uH (fun s => da oe s J1)))
def pU (n : Nat) (cp : gt) (k : fL) (j1 : fT) (a0 : AV) (a1 : AV) (h : Heap) : CRes :=
 jb a0 fun x0 =>
 j1 a0 a1 x0 0 h
theorem JH (n : Nat) (cp : gt) (k0 : Q0) (k : fL) (hk : gZ k0 k) {J1 : Q1} {j1 : fT} (h1 : lp J1 j1) (a0 : AV) (a1 : AV) (h : Heap) : (wU n cp k0 J1) ⟨c8 [(p0, a0), (p1, a1)], h⟩ = (pU n cp k j1) a0 a1 h := by
  obtain rfl := fx2 hk
  obtain rfl := fx5 h1
  kernel_rfl
def KC : Q1 := wU n cp k0 (uI n cp k0 n)
def pP (n : Nat) (cp : gt) (a0 : AV) (a1 : AV) (h : Heap) (k : fL) : CRes := pU n cp k (jj n cp k n) a0 a1 h
theorem KD (n : Nat) (cp : gt) (k0 : Q0) (s : St) : D (eO [(oz, rD cp)]) dP n px (cX iD k0) (fun _ _ => .err) (cX iD k0) s = KC n cp k0 s := by kernel_rfl
theorem Kw (n : Nat) (cp : gt) (a0 : AV) (a1 : AV) (h : Heap) (k0 : Q0) : W py iD [(oz, rD cp)] dP n px [a0, a1] h k0 = pP n cp a0 a1 h (fun u0 h => k0 (.int .i64 u0) h) := by
  let k : fL := fun u0 h => k0 (.int .i64 u0) h
  have hk : gZ k0 k := fun _ _ => rfl
  have hb : ∀ F : Tr AV → CRes, gG py [a0, a1] .leaf F = F (c8 [(p0, a0), (p1, a1)]) := fun F => by kernel_rfl
  exact (mC hb).trans ((KD n cp k0 _).trans (JH n cp k0 k hk (Gj n cp k0 k hk n) a0 a1 h))
end
def jP (n : Nat) : eA := pP n (lO n)
abbrev dr := AV → AV → Heap → (Bool → Heap → CRes) → CRes
abbrev gA := Bool → Heap → CRes
def gw (g : dr) : Wr := fun l h k => lM l fun a0 l => lM l fun a1 l => mq l (g a0 a1 h fun u0 h => k (.bool u0) h)
def sX (cR : eA) : dN := eO [(jQ, iB cR)]
abbrev sW (k0 : Q0) (k : gA) : Prop := ∀ u0 h, k0 (.bool u0) h = k u0 h
section
variable (n : Nat) (cR : eA) (k0 : Q0) (k : gA)
def tu (n : Nat) (cR : eA) (k0 : Q0) : Q1 := (bS (sX cR) i5 rY (bS (sX cR) i5 sx (cX iY k0)))
def nA (n : Nat) (cR : eA) (k : gA) (a0 : AV) (a1 : AV) (h : Heap) : CRes :=
 cR a0 a1 h fun x0 h1 =>
 k (jk (ltF x0 0)) h1
theorem FB (n : Nat) (cR : eA) (k0 : Q0) (k : gA) (hk : sW k0 k) (a0 : AV) (a1 : AV) (h : Heap) : (tu n cR k0 ) ⟨c8 [(p0, a0), (p1, a1)], h⟩ = (nA n cR k ) a0 a1 h := by
  obtain rfl := fx2 hk
  kernel_rfl
def ET : Q1 := tu n cR k0
def nI (n : Nat) (cR : eA) (a0 : AV) (a1 : AV) (h : Heap) (k : gA) : CRes := nA n cR k a0 a1 h
theorem EJ (n : Nat) (cR : eA) (k0 : Q0) (s : St) : D (eO [(jQ, iB cR)]) i5 n ny (cX iY k0) (fun _ _ => .err) (cX iY k0) s = ET n cR k0 s := by kernel_rfl
theorem Ey (n : Nat) (cR : eA) (a0 : AV) (a1 : AV) (h : Heap) (k0 : Q0) : W nr iY [(jQ, iB cR)] i5 n ny [a0, a1] h k0 = nI n cR a0 a1 h (fun u0 h => k0 (.bool u0) h) := by
  let k : gA := fun u0 h => k0 (.bool u0) h
  have hk : sW k0 k := fun _ _ => rfl
  have hb : ∀ F : Tr AV → CRes, gG nr [a0, a1] .leaf F = F (c8 [(p0, a0), (p1, a1)]) := fun F => by kernel_rfl
  exact (mC hb).trans ((EJ n cR k0 _).trans (FB n cR k0 k hk a0 a1 h))
end
def iX (n : Nat) : dr := nI n (jP n)
/-! cofferdam/plan.turned -/
abbrev jF := AV → Heap → (Bool → Heap → CRes) → CRes
abbrev uh := Bool → Heap → CRes
def yi (g : jF) : Wr := fun l h k => lM l fun a0 l => mq l (g a0 h fun u0 h => k (.bool u0) h)
def N5 (ah : bV) (bE : dr) : dN := eO [(fM, fC ah), (iZ, gw bE)]
abbrev FH (k0 : Q0) (k : uh) : Prop := ∀ u0 h, k0 (.bool u0) h = k u0 h
abbrev CM : Type := Bool → Heap → CRes
abbrev LX (J : Q1) (j : CM) : Prop := ∀ v13 h, J ⟨c8 [(p13, (.bool v13))], h⟩ = j v13 h
section
variable (n : Nat) (ah : bV) (bE : dr) (k0 : Q0) (k : uh)
def WI (n : Nat) (ah : bV) (bE : dr) (k0 : Q0) : Q1 := (bS (N5 ah bE) yh W6 (cX B3 k0))
def LV (n : Nat) (ah : bV) (bE : dr) (k : uh) (v13 : Bool) (h : Heap) : CRes :=
 k v13 h
theorem aiS (hk : FH k0 k) : LX (WI n ah bE k0 ) (LV n ah bE k ) := by
  obtain rfl := fx2 hk
  intro v13 h
  kernel_rfl
def VV : Q1 := WI n ah bE k0
def LQ : CM := LV n ah bE k
theorem aiH (hk : FH k0 k) : LX (VV n ah bE k0 ) (LQ n ah bE k ) := aiS n ah bE k0 k hk
def acx (n : Nat) (ah : bV) (bE : dr) (k0 : Q0) (J0 : Q1) : Q1 := (bS (N5 ah bE) yh WO (bS (N5 ah bE) yh VI (fun s => da XV s J0)))
def Q7 (n : Nat) (ah : bV) (bE : dr) (k : uh) (j0 : CM) (a0 : AV) (h : Heap) : CRes :=
 zt h a0 fun x0 h1 =>
 fld 15 h1 (.ptr x0 0) 1 false fun x2 x3 =>
 jb x3 fun x4 =>
 ah x4 1 64 h1 fun x5 h6 =>
 ifB x5
 (faK 15 (.ptr x0 0) fun x7 =>
 gJ h6 x7 1 false fun x8 =>
 bE x8 (.func 88 [] [(.ptr x0 0)]) h6 fun x9 h10 =>
 j0 (jk x9) h10)
 (j0 false h6)
theorem alS (n : Nat) (ah : bV) (bE : dr) (k0 : Q0) (k : uh) (hk : FH k0 k) {J0 : Q1} {j0 : CM} (h0 : LX J0 j0) (a0 : AV) (h : Heap) : (acx n ah bE k0 J0) ⟨c8 [(p0, a0)], h⟩ = (Q7 n ah bE k j0) a0 h := by
  obtain rfl := fx2 hk
  obtain rfl := fx2 h0
  kernel_rfl
def amm : Q1 := acx n ah bE k0 (VV n ah bE k0 )
def QJ (n : Nat) (ah : bV) (bE : dr) (a0 : AV) (h : Heap) (k : uh) : CRes := Q7 n ah bE k (LQ n ah bE k ) a0 h
theorem alO (n : Nat) (ah : bV) (bE : dr) (k0 : Q0) (s : St) : D (eO [(fM, fC ah), (iZ, gw bE)]) yh n Rm (cX B3 k0) (fun _ _ => .err) (cX B3 k0) s = amm n ah bE k0 s := by kernel_rfl
theorem amw (n : Nat) (ah : bV) (bE : dr) (a0 : AV) (h : Heap) (k0 : Q0) : W RE B3 [(fM, fC ah), (iZ, gw bE)] yh n Rm [a0] h k0 = QJ n ah bE a0 h (fun u0 h => k0 (.bool u0) h) := by
  let k : uh := fun u0 h => k0 (.bool u0) h
  have hk : FH k0 k := fun _ _ => rfl
  have hb : ∀ F : Tr AV → CRes, gG RE [a0] .leaf F = F (c8 [(p0, a0)]) := fun F => by kernel_rfl
  exact (mC hb).trans ((alO n ah bE k0 _).trans (alS n ah bE k0 k hk (aiH n ah bE k0 k hk ) a0 h))
end
def rn (n : Nat) : jF := QJ n (fU n) (iX n)
/-! cofferdam/plan.Check -/
abbrev oN := AV → Heap → (AV → Heap → CRes) → CRes
abbrev tz := AV → Heap → CRes
def AG (g : oN) : Wr := fun l h k => lM l fun a0 l => mq l (g a0 h fun u0 h => k u0 h)
def iE (bW : ie) (ad : ck) (ak : cu) (cw : jK) (cx : jF) (az : dx) : dN := eO [(qJ, tk bW), (jx, iU ad), (jc, iw ak), (BT, yb cw), (Ck, yi cx), (tU, ru az)]
abbrev xV (k0 : Q0) (k : tz) : Prop := ∀ u0 h, k0 u0 h = k u0 h
abbrev Fl : Type := AV → Heap → CRes
abbrev OF (J : Q1) (j : Fl) : Prop := ∀ v3 h, J ⟨c8 [(p3, v3)], h⟩ = j v3 h
abbrev sr : Type := AV → AV → AV → Int → Int → Heap → CRes
abbrev EO (J : Q1) (j : sr) : Prop := ∀ v1 v3 v4 v29 v30 h, J ⟨c8 [(p1, v1), (p3, v3), (p4, v4), (p29, (.int .i64 v29)), (p30, (.int .i64 v30))], h⟩ = j v1 v3 v4 v29 v30 h
section
variable (n : Nat) (bW : ie) (ad : ck) (ak : cu) (cw : jK) (cx : jF) (az : dx) (k0 : Q0) (k : tz)
def Yw (n : Nat) (bW : ie) (ad : ck) (ak : cu) (cw : jK) (cx : jF) (az : dx) (k0 : Q0) : Q1 := (bS (iE bW ad ak cw cx az) iV YK (cX EG k0))
def Ol (n : Nat) (bW : ie) (ad : ck) (ak : cu) (cw : jK) (cx : jF) (az : dx) (k : tz) (v3 : AV) (h : Heap) : CRes :=
 gJ h v3 1 false fun x26 =>
 k x26 h
theorem akY (hk : xV k0 k) : OF (Yw n bW ad ak cw cx az k0 ) (Ol n bW ad ak cw cx az k ) := by
  obtain rfl := fx2 hk
  intro v3 h
  kernel_rfl
def Zm : Q1 := Yw n bW ad ak cw cx az k0
def Fr : Fl := Ol n bW ad ak cw cx az k
theorem aks (hk : xV k0 k) : OF (Zm n bW ad ak cw cx az k0 ) (Fr n bW ad ak cw cx az k ) := akY n bW ad ak cw cx az k0 k hk
def YT (n : Nat) (bW : ie) (ad : ck) (ak : cu) (cw : jK) (cx : jF) (az : dx) (k0 : Q0) (J0 : Q1) (J1 : Q1) : Q1 := (bS (iE bW ad ak cw cx az) iV Yv (fun s => eK (.t p31) s (bS (iE bW ad ak cw cx az) iV Zv (bS (iE bW ad ak cw cx az) iV aaM (bS (iE bW ad ak cw cx az) iV ZB (bS (iE bW ad ak cw cx az) iV aar (fun s => da O7 s J1))))) (fun s => da ZC s J0)))
def FM (n : Nat) (bW : ie) (ad : ck) (ak : cu) (cw : jK) (cx : jF) (az : dx) (k : tz) (j0 : Fl) (j1 : sr) (v1 : AV) (v3 : AV) (v4 : AV) (v29 : Int) (v30 : Int) (h : Heap) : CRes :=
 ifB (ltF v30 v29)
 (gJ h v1 17 true fun x27 =>
 az x27 v30 h fun x28 h29 =>
 lU .i64 4 v30 fun x30 =>
 iE bW ad ak cw cx az v4 [(.bool (eqF x28 0)), (.int .i64 x28), (.int .i64 x30)] h29 fun x31 h32 =>
 lU .i64 v30 1 fun x33 =>
 j1 v1 v3 v4 v29 x33 h32)
 (j0 v3 h)
theorem alI (hk : xV k0 k) {J0 : Q1} {j0 : Fl} (h0 : OF J0 j0) {J1 : Q1} {j1 : sr} (h1 : EO J1 j1) : EO (YT n bW ad ak cw cx az k0 J0 J1) (FM n bW ad ak cw cx az k j0 j1) := by
  obtain rfl := fx2 hk
  obtain rfl := fx2 h0
  obtain rfl := fx6 h1
  intro v1 v3 v4 v29 v30 h
  kernel_rfl
def YY (m : Nat) : Q1 := Nat.rec (motive := fun _ => Q1) (fun _ => .err) (fun _ ih => YT n bW ad ak cw cx az k0 (Zm n bW ad ak cw cx az k0 ) ih) m
def zC (m : Nat) : sr := Nat.rec (motive := fun _ => sr) (fun _ _ _ _ _ _ => .err) (fun _ ih => FM n bW ad ak cw cx az k (Fr n bW ad ak cw cx az k ) ih) m
theorem akv (m : Nat) : zC n bW ad ak cw cx az k (m + 1) = FM n bW ad ak cw cx az k (Fr n bW ad ak cw cx az k ) (zC n bW ad ak cw cx az k m) := rfl
theorem als (hk : xV k0 k) (m : Nat) : EO (YY n bW ad ak cw cx az k0 m) (zC n bW ad ak cw cx az k m) := by
  induction m with
  | zero => intro v1 v3 v4 v29 v30 h; rfl
  | succ m ih => exact alI n bW ad ak cw cx az k0 k hk (aks n bW ad ak cw cx az k0 k hk ) ih
def aeP (n : Nat) (bW : ie) (ad : ck) (ak : cu) (cw : jK) (cx : jF) (az : dx) (k0 : Q0) (J1 : Q1) : Q1 := (bS (iE bW ad ak cw cx az) iV VN (bS (iE bW ad ak cw cx az) iV WR (bS (iE bW ad ak cw cx az) iV WB (bS (iE bW ad ak cw cx az) iV VQ (bS (iE bW ad ak cw cx az) iV Z7 (bS (iE bW ad ak cw cx az) iV Zq (bS (iE bW ad ak cw cx az) iV ZY (bS (iE bW ad ak cw cx az) iV YX (fun s => da O7 s J1)))))))))
def UE (n : Nat) (bW : ie) (ad : ck) (ak : cu) (cw : jK) (cx : jF) (az : dx) (k : tz) (j1 : sr) (a0 : AV) (h : Heap) : CRes :=
 zt h a0 fun x0 h1 =>
 yA h1 (.cells [.nilslice] true 0) fun x2 h3 =>
 gJ h3 (.ptr x0 0) 17 true fun x4 =>
 ad x4 h3 fun x5 h6 =>
 bW x5 114 0 (.ptr x2 0) h6 fun h7 =>
 fld 6 h7 (.ptr x0 0) 6 true fun x8 x9 =>
 ak x9 h7 fun x10 h11 =>
 bW (eqF x10 0) 100 1 (.ptr x2 0) h11 fun h12 =>
 gJ h12 (.ptr x0 0) 17 true fun x13 =>
 cw x13 h12 fun x14 h15 =>
 bW x14 113 2 (.ptr x2 0) h15 fun h16 =>
 gJ h16 (.ptr x0 0) 17 true fun x17 =>
 cx x17 h16 fun x18 h19 =>
 bW x18 112 3 (.ptr x2 0) h19 fun h20 =>
 fld 16 h20 (.ptr x0 0) 1 false fun x21 x22 =>
 jb x22 fun x23 =>
 Qd false [(.int .i64 x23), (.int .i64 8)] fun x24 =>
 UA .i64 x24 fun x25 =>
 j1 (.ptr x0 0) (.ptr x2 0) (.func 67 [] [(.ptr x2 0)]) x25 0 h20
theorem aon (n : Nat) (bW : ie) (ad : ck) (ak : cu) (cw : jK) (cx : jF) (az : dx) (k0 : Q0) (k : tz) (hk : xV k0 k) {J1 : Q1} {j1 : sr} (h1 : EO J1 j1) (a0 : AV) (h : Heap) : (aeP n bW ad ak cw cx az k0 J1) ⟨c8 [(p0, a0)], h⟩ = (UE n bW ad ak cw cx az k j1) a0 h := by
  obtain rfl := fx2 hk
  obtain rfl := fx6 h1
  kernel_rfl
def an8 : Q1 := aeP n bW ad ak cw cx az k0 (YY n bW ad ak cw cx az k0 n)
def UF (n : Nat) (bW : ie) (ad : ck) (ak : cu) (cw : jK) (cx : jF) (az : dx) (a0 : AV) (h : Heap) (k : tz) : CRes := UE n bW ad ak cw cx az k (zC n bW ad ak cw cx az k n) a0 h
theorem anG (n : Nat) (bW : ie) (ad : ck) (ak : cu) (cw : jK) (cx : jF) (az : dx) (k0 : Q0) (s : St) : D (eO [(qJ, tk bW), (jx, iU ad), (jc, iw ak), (BT, yb cw), (Ck, yi cx), (tU, ru az)]) iV n UY (cX EG k0) (fun _ _ => .err) (cX EG k0) s = an8 n bW ad ak cw cx az k0 s := by kernel_rfl
theorem an3 (n : Nat) (bW : ie) (ad : ck) (ak : cu) (cw : jK) (cx : jF) (az : dx) (a0 : AV) (h : Heap) (k0 : Q0) : W VA EG [(qJ, tk bW), (jx, iU ad), (jc, iw ak), (BT, yb cw), (Ck, yi cx), (tU, ru az)] iV n UY [a0] h k0 = UF n bW ad ak cw cx az a0 h (fun u0 h => k0 u0 h) := by
  let k : tz := fun u0 h => k0 u0 h
  have hk : xV k0 k := fun _ _ => rfl
  have hb : ∀ F : Tr AV → CRes, gG VA [a0] .leaf F = F (c8 [(p0, a0)]) := fun F => by kernel_rfl
  exact (mC hb).trans ((anG n bW ad ak cw cx az k0 _).trans (aon n bW ad ak cw cx az k0 k hk (als n bW ad ak cw cx az k0 k hk n) a0 h))
end
def Ad (n : Nat) : oN := UF n (mG n) (gn n) (gE n) (rv n) (rn n) (m9 n)
/-! cofferdam/plan.May -/
abbrev qz := AV → Heap → (Bool → Heap → CRes) → CRes
abbrev Jj := Bool → Heap → CRes
def Jb (g : qz) : Wr := fun l h k => lM l fun a0 l => mq l (g a0 h fun u0 h => k (.bool u0) h)
def aim (gj : oN) : dN := eO [(FZ, AG gj)]
abbrev ahU (k0 : Q0) (k : Jj) : Prop := ∀ u0 h, k0 (.bool u0) h = k u0 h
section
variable (n : Nat) (gj : oN) (k0 : Q0) (k : Jj)
def aku (n : Nat) (gj : oN) (k0 : Q0) : Q1 := (bS (aim gj) OM ae5 (bS (aim gj) OM aeA (cX N9 k0)))
def adX (n : Nat) (gj : oN) (k : Jj) (a0 : AV) (h : Heap) : CRes :=
 zt h a0 fun x0 h1 =>
 gJ h1 (.ptr x0 0) 17 true fun x2 =>
 gj x2 h1 fun x3 h4 =>
 jb x3 fun x5 =>
 k (eqF x5 0) h4
theorem arf (n : Nat) (gj : oN) (k0 : Q0) (k : Jj) (hk : ahU k0 k) (a0 : AV) (h : Heap) : (aku n gj k0 ) ⟨c8 [(p0, a0)], h⟩ = (adX n gj k ) a0 h := by
  obtain rfl := fx2 hk
  kernel_rfl
def aqz : Q1 := aku n gj k0
def adD (n : Nat) (gj : oN) (a0 : AV) (h : Heap) (k : Jj) : CRes := adX n gj k a0 h
theorem aqV (n : Nat) (gj : oN) (k0 : Q0) (s : St) : D (eO [(FZ, AG gj)]) OM n adF (cX N9 k0) (fun _ _ => .err) (cX N9 k0) s = aqz n gj k0 s := by kernel_rfl
theorem aqy (n : Nat) (gj : oN) (a0 : AV) (h : Heap) (k0 : Q0) : W ads N9 [(FZ, AG gj)] OM n adF [a0] h k0 = adD n gj a0 h (fun u0 h => k0 (.bool u0) h) := by
  let k : Jj := fun u0 h => k0 (.bool u0) h
  have hk : ahU k0 k := fun _ _ => rfl
  have hb : ∀ F : Tr AV → CRes, gG ads [a0] .leaf F = F (c8 [(p0, a0)]) := fun F => by kernel_rfl
  exact (mC hb).trans ((aqV n gj k0 _).trans (arf n gj k0 k hk a0 h))
end
def Hx (n : Nat) : qz := adD n (Ad n)
/-! cofferdam/plan.there -/
abbrev pd := AV → Int → Heap → (Int → Heap → CRes) → CRes
abbrev xy := Int → Heap → CRes
def Af (g : pd) : Wr := fun l h k => lM l fun a0 l => ph .i64 l fun a1 l => mq l (g a0 a1 h fun u0 h => k (.int .i64 u0) h)
def uj (ep : qz) : dN := eO [(Ox, Jb ep)]
abbrev Js (k0 : Q0) (k : xy) : Prop := ∀ u0 h, k0 (.int .i64 u0) h = k u0 h
abbrev EK : Type := Bool → Heap → CRes
abbrev Ok (J : Q1) (j : EK) : Prop := ∀ v18 h, J ⟨c8 [(p18, (.bool v18))], h⟩ = j v18 h
section
variable (n : Nat) (ep : qz) (k0 : Q0) (k : xy)
def YC (n : Nat) (ep : qz) (k0 : Q0) : Q1 := (bS (uj ep) pj aaZ (fun s => eK (.t p9) s (bS (uj ep) pj aad (cX xm k0)) (bS (uj ep) pj aa4 (cX xm k0))))
def O0 (n : Nat) (ep : qz) (k : xy) (v18 : Bool) (h : Heap) : CRes :=
 ifB v18
 (k 270 h)
 (k 0 h)
theorem aka (hk : Js k0 k) : Ok (YC n ep k0 ) (O0 n ep k ) := by
  obtain rfl := fx2 hk
  intro v18 h
  kernel_rfl
def YG : Q1 := YC n ep k0
def Pb : EK := O0 n ep k
theorem akV (hk : Js k0 k) : Ok (YG n ep k0 ) (Pb n ep k ) := aka n ep k0 k hk
def aeF (n : Nat) (ep : qz) (k0 : Q0) (J0 : Q1) : Q1 := (bS (uj ep) pj ZS (bS (uj ep) pj YW (fun s => eK (.t p5) s (bS (uj ep) pj ZU (cX xm k0)) (bS (uj ep) pj Y1 (fun s => da aaR s J0)))))
def Vb (n : Nat) (ep : qz) (k : xy) (j0 : EK) (a0 : AV) (a1 : Int) (h : Heap) : CRes :=
 zt h a0 fun x0 h1 =>
 gJ h1 (.ptr x0 0) 17 true fun x2 =>
 ep x2 h1 fun x3 h4 =>
 ifB (jk x3)
 (k 5 h4)
 (ifB (ltF a1 0)
 (j0 true h4)
 (fld 16 h4 (.ptr x0 0) 1 false fun x5 x6 =>
 jb x6 fun x7 =>
 j0 (jk (ltF a1 x7)) h4))
theorem aoI (n : Nat) (ep : qz) (k0 : Q0) (k : xy) (hk : Js k0 k) {J0 : Q1} {j0 : EK} (h0 : Ok J0 j0) (a0 : AV) (a1 : Int) (h : Heap) : (aeF n ep k0 J0) ⟨c8 [(p0, a0), (p1, (.int .i64 a1))], h⟩ = (Vb n ep k j0) a0 a1 h := by
  obtain rfl := fx2 hk
  obtain rfl := fx2 h0
  kernel_rfl
def anw : Q1 := aeF n ep k0 (YG n ep k0 )
def Vt (n : Nat) (ep : qz) (a0 : AV) (a1 : Int) (h : Heap) (k : xy) : CRes := Vb n ep k (Pb n ep k ) a0 a1 h
theorem aoJ (n : Nat) (ep : qz) (k0 : Q0) (s : St) : D (eO [(Ox, Jb ep)]) pj n Vm (cX xm k0) (fun _ _ => .err) (cX xm k0) s = anw n ep k0 s := by kernel_rfl
theorem anI (n : Nat) (ep : qz) (a0 : AV) (a1 : Int) (h : Heap) (k0 : Q0) : W UK xm [(Ox, Jb ep)] pj n Vm [a0, (.int .i64 a1)] h k0 = Vt n ep a0 a1 h (fun u0 h => k0 (.int .i64 u0) h) := by
  let k : xy := fun u0 h => k0 (.int .i64 u0) h
  have hk : Js k0 k := fun _ _ => rfl
  have hb : ∀ F : Tr AV → CRes, gG UK [a0, (.int .i64 a1)] .leaf F = F (c8 [(p0, a0), (p1, (.int .i64 a1))]) := fun F => by kernel_rfl
  exact (mC hb).trans ((aoJ n ep k0 _).trans (aoI n ep k0 k hk (akV n ep k0 k hk ) a0 a1 h))
end
def Al (n : Nat) : pd := Vt n (Hx n)
/-! cofferdam/plan.Total -/
abbrev cU := AV → Int → Heap → (Int → Int → Heap → CRes) → CRes
abbrev Ar := Int → Int → Heap → CRes
def oZ (g : cU) : Wr := fun l h k => lM l fun a0 l => ph .i64 l fun a1 l => mq l (g a0 a1 h fun u0 u1 h => k (.tuple [(.int .i64 u0), (.int .i64 u1)]) h)
def BZ (fK : pd) (aE : dw) : dN := eO [(F4, Af fK), (ri, pg aE)]
abbrev acM (k0 : Q0) (k : Ar) : Prop := ∀ u0 u1 h, k0 (.tuple [(.int .i64 u0), (.int .i64 u1)]) h = k u0 u1 h
section
variable (n : Nat) (fK : pd) (aE : dw) (k0 : Q0) (k : Ar)
def afw (n : Nat) (fK : pd) (aE : dw) (k0 : Q0) : Q1 := (bS (BZ fK aE) tv aaJ (bS (BZ fK aE) tv aay (bS (BZ fK aE) tv YN (fun s => eK (.t p11) s (bS (BZ fK aE) tv YL (cX Ap k0)) (bS (BZ fK aE) tv Zf (cX Ap k0))))))
def Vi (n : Nat) (fK : pd) (aE : dw) (k : Ar) (a0 : AV) (a1 : Int) (h : Heap) : CRes :=
 zt h a0 fun x0 h1 =>
 gJ h1 (.ptr x0 0) 17 true fun x2 =>
 fK x2 a1 h1 fun x3 h4 =>
 ifB (jk (eqF x3 0))
 (k 0 x3 h4)
 (gJ h4 (.ptr x0 0) 17 true fun x5 =>
 aE x5 a1 h4 fun x6 h7 =>
 k x6 0 h7)
theorem aog (n : Nat) (fK : pd) (aE : dw) (k0 : Q0) (k : Ar) (hk : acM k0 k) (a0 : AV) (a1 : Int) (h : Heap) : (afw n fK aE k0 ) ⟨c8 [(p0, a0), (p1, (.int .i64 a1))], h⟩ = (Vi n fK aE k ) a0 a1 h := by
  obtain rfl := fx3 hk
  kernel_rfl
def aoq : Q1 := afw n fK aE k0
def VD (n : Nat) (fK : pd) (aE : dw) (a0 : AV) (a1 : Int) (h : Heap) (k : Ar) : CRes := Vi n fK aE k a0 a1 h
theorem an4 (n : Nat) (fK : pd) (aE : dw) (k0 : Q0) (s : St) : D (eO [(F4, Af fK), (ri, pg aE)]) tv n UM (cX Ap k0) (fun _ _ => .err) (cX Ap k0) s = aoq n fK aE k0 s := by kernel_rfl
theorem an5 (n : Nat) (fK : pd) (aE : dw) (a0 : AV) (a1 : Int) (h : Heap) (k0 : Q0) : W UW Ap [(F4, Af fK), (ri, pg aE)] tv n UM [a0, (.int .i64 a1)] h k0 = VD n fK aE a0 a1 h (fun u0 u1 h => k0 (.tuple [(.int .i64 u0), (.int .i64 u1)]) h) := by
  let k : Ar := fun u0 u1 h => k0 (.tuple [(.int .i64 u0), (.int .i64 u1)]) h
  have hk : acM k0 k := fun _ _ _ => rfl
  have hb : ∀ F : Tr AV → CRes, gG UW [a0, (.int .i64 a1)] .leaf F = F (c8 [(p0, a0), (p1, (.int .i64 a1))]) := fun F => by kernel_rfl
  exact (mC hb).trans ((an4 n fK aE k0 _).trans (aog n fK aE k0 k hk a0 a1 h))
end
def oY (n : Nat) : cU := VD n (Al n) (pe n)
abbrev dH := AV → Heap → (AV → Heap → CRes) → CRes
abbrev jV := AV → Heap → CRes
def jT (g : dH) : Wr := fun l h k => lM l fun a0 l => mq l (g a0 h fun u0 h => k u0 h)
def np : dN := eO []
abbrev zD (k0 : Q0) (k : jV) : Prop := ∀ u0 h, k0 u0 h = k u0 h
section
variable (n : Nat) (k0 : Q0) (k : jV)
def AR (n : Nat) (k0 : Q0) : Q1 := (bS (np ) iM y6 (bS (np ) iM yJ (fun s => eK (.t p4) s (bS (np ) iM yN (cX jU k0)) (bS (np ) iM yM (cX jU k0)))))
def tf (n : Nat) (k : jV) (a0 : AV) (h : Heap) : CRes :=
 X0 (.nil .sl) a0 .nilslice fun x0 =>
 ifB (X7 false x0)
 (k .nilslice h)
 (pR h 0 [] [] fun x1 h2 =>
 qk h2 1 x1 a0 fun x3 h4 =>
 k x3 h4)
theorem PC (n : Nat) (k0 : Q0) (k : jV) (hk : zD k0 k) (a0 : AV) (h : Heap) : (AR n k0 ) ⟨c8 [(p0, a0)], h⟩ = (tf n k ) a0 h := by
  obtain rfl := fx2 hk
  kernel_rfl
def PA : Q1 := AR n k0
def tc (n : Nat) (a0 : AV) (h : Heap) (k : jV) : CRes := tf n k a0 h
theorem PF (n : Nat) (k0 : Q0) (s : St) : D (eO []) iM n td (cX jU k0) (fun _ _ => .err) (cX jU k0) s = PA n k0 s := by kernel_rfl
theorem PI (n : Nat) (a0 : AV) (h : Heap) (k0 : Q0) : W te jU [] iM n td [a0] h k0 = tc n a0 h (fun u0 h => k0 u0 h) := by
  let k : jV := fun u0 h => k0 u0 h
  have hk : zD k0 k := fun _ _ => rfl
  have hb : ∀ F : Tr AV → CRes, gG te [a0] .leaf F = F (c8 [(p0, a0)]) := fun F => by kernel_rfl
  exact (mC hb).trans ((PF n k0 _).trans (PC n k0 k hk a0 h))
end
def jS (n : Nat) : dH := tc n
/-! cofferdam/colour.within -/
abbrev de := Int → Int → Int → Heap → (Bool → Heap → CRes) → CRes
abbrev qA := Bool → Heap → CRes
def ic (g : de) : Wr := fun l h k => ph .i64 l fun a0 l => ph .i64 l fun a1 l => ph .i64 l fun a2 l => mq l (g a0 a1 a2 h fun u0 h => k (.bool u0) h)
def IT : dN := eO []
abbrev Aj (k0 : Q0) (k : qA) : Prop := ∀ u0 h, k0 (.bool u0) h = k u0 h
abbrev y4 : Type := Bool → Heap → CRes
abbrev Ge (J : Q1) (j : y4) : Prop := ∀ v14 h, J ⟨c8 [(p14, (.bool v14))], h⟩ = j v14 h
section
variable (n : Nat) (k0 : Q0) (k : qA)
def Qh (n : Nat) (k0 : Q0) : Q1 := (bS (IT ) th PN (cX xB k0))
def FE (n : Nat) (k : qA) (v14 : Bool) (h : Heap) : CRes :=
 k v14 h
theorem aen (hk : Aj k0 k) : Ge (Qh n k0 ) (FE n k ) := by
  obtain rfl := fx2 hk
  intro v14 h
  kernel_rfl
def Ql : Q1 := Qh n k0
def FC : y4 := FE n k
theorem afo (hk : Aj k0 k) : Ge (Ql n k0 ) (FC n k ) := aen n k0 k hk
def Wb (n : Nat) (k0 : Q0) (J0 : Q1) : Q1 := (bS (IT ) th Qg (bS (IT ) th PV (fun s => da P2 s J0)))
def Lv (n : Nat) (k : qA) (j0 : y4) (a0 : Int) (a1 : Int) (a2 : Int) (h : Heap) : CRes :=
 ifB (jk (ltF a0 a1))
 (j0 (jk (ltF a2 a0)) h)
 (j0 false h)
theorem aiY (n : Nat) (k0 : Q0) (k : qA) (hk : Aj k0 k) {J0 : Q1} {j0 : y4} (h0 : Ge J0 j0) (a0 : Int) (a1 : Int) (a2 : Int) (h : Heap) : (Wb n k0 J0) ⟨c8 [(p0, (.int .i64 a0)), (p1, (.int .i64 a1)), (p2, (.int .i64 a2))], h⟩ = (Lv n k j0) a0 a1 a2 h := by
  obtain rfl := fx2 hk
  obtain rfl := fx2 h0
  kernel_rfl
def aiQ : Q1 := Wb n k0 (Ql n k0 )
def LB (n : Nat) (a0 : Int) (a1 : Int) (a2 : Int) (h : Heap) (k : qA) : CRes := Lv n k (FC n k ) a0 a1 a2 h
theorem aiX (n : Nat) (k0 : Q0) (s : St) : D (eO []) th n Lt (cX xB k0) (fun _ _ => .err) (cX xB k0) s = aiQ n k0 s := by kernel_rfl
theorem ai0 (n : Nat) (a0 : Int) (a1 : Int) (a2 : Int) (h : Heap) (k0 : Q0) : W Lk xB [] th n Lt [(.int .i64 a0), (.int .i64 a1), (.int .i64 a2)] h k0 = LB n a0 a1 a2 h (fun u0 h => k0 (.bool u0) h) := by
  let k : qA := fun u0 h => k0 (.bool u0) h
  have hk : Aj k0 k := fun _ _ => rfl
  have hb : ∀ F : Tr AV → CRes, gG Lk [(.int .i64 a0), (.int .i64 a1), (.int .i64 a2)] .leaf F = F (c8 [(p0, (.int .i64 a0)), (p1, (.int .i64 a1)), (p2, (.int .i64 a2))]) := fun F => by kernel_rfl
  exact (mC hb).trans ((aiX n k0 _).trans (aiY n k0 k hk (afo n k0 k hk ) a0 a1 a2 h))
end
def js (n : Nat) : de := LB n
/-! cofferdam/colour.may -/
abbrev eM := Int → Heap → (Bool → Heap → CRes) → CRes
abbrev Ag := Bool → Heap → CRes
def oV (g : eM) : Wr := fun l h k => ph .i64 l fun a0 l => mq l (g a0 h fun u0 h => k (.bool u0) h)
def acg (aJ : de) : dN := eO [(iR, ic aJ)]
abbrev acS (k0 : Q0) (k : Ag) : Prop := ∀ u0 h, k0 (.bool u0) h = k u0 h
section
variable (n : Nat) (aJ : de) (k0 : Q0) (k : Ag)
def afp (n : Nat) (aJ : de) (k0 : Q0) : Q1 := (bS (acg aJ) FG Yx (bS (acg aJ) FG ZA (cX Ga k0)))
def Vw (n : Nat) (aJ : de) (k : Ag) (a0 : Int) (h : Heap) : CRes :=
 aJ a0 1 16 h fun x0 h1 =>
 k x0 h1
theorem aoF (n : Nat) (aJ : de) (k0 : Q0) (k : Ag) (hk : acS k0 k) (a0 : Int) (h : Heap) : (afp n aJ k0 ) ⟨c8 [(p0, (.int .i64 a0))], h⟩ = (Vw n aJ k ) a0 h := by
  obtain rfl := fx2 hk
  kernel_rfl
def anM : Q1 := afp n aJ k0
def VE (n : Nat) (aJ : de) (a0 : Int) (h : Heap) (k : Ag) : CRes := Vw n aJ k a0 h
theorem aoa (n : Nat) (aJ : de) (k0 : Q0) (s : St) : D (eO [(iR, ic aJ)]) FG n U0 (cX Ga k0) (fun _ _ => .err) (cX Ga k0) s = anM n aJ k0 s := by kernel_rfl
theorem anY (n : Nat) (aJ : de) (a0 : Int) (h : Heap) (k0 : Q0) : W Vx Ga [(iR, ic aJ)] FG n U0 [(.int .i64 a0)] h k0 = VE n aJ a0 h (fun u0 h => k0 (.bool u0) h) := by
  let k : Ag := fun u0 h => k0 (.bool u0) h
  have hk : acS k0 k := fun _ _ => rfl
  have hb : ∀ F : Tr AV → CRes, gG Vx [(.int .i64 a0)] .leaf F = F (c8 [(p0, (.int .i64 a0))]) := fun F => by kernel_rfl
  exact (mC hb).trans ((aoa n aJ k0 _).trans (aoF n aJ k0 k hk a0 h))
end
def q8 (n : Nat) : eM := VE n (js n)
/-! cofferdam/colour.Count -/
abbrev i9 := Int → Int → Int → Heap → (Int → Int → Heap → CRes) → CRes
abbrev pz := Int → Int → Heap → CRes
def vN (g : i9) : Wr := fun l h k => ph .i64 l fun a0 l => ph .i64 l fun a1 l => ph .i64 l fun a2 l => mq l (g a0 a1 a2 h fun u0 u1 h => k (.tuple [(.int .i64 u0), (.int .i64 u1)]) h)
def xP (aJ : de) (bJ : eM) : dN := eO [(iR, ic aJ), (qX, oV bJ)]
abbrev tg (k0 : Q0) (k : pz) : Prop := ∀ u0 u1 h, k0 (.tuple [(.int .i64 u0), (.int .i64 u1)]) h = k u0 u1 h
abbrev Am : Type := Int → Int → Int → Bool → Heap → CRes
abbrev I6 (J : Q1) (j : Am) : Prop := ∀ v0 v1 v2 v22 h, J ⟨c8 [(p0, (.int .i64 v0)), (p1, (.int .i64 v1)), (p2, (.int .i64 v2)), (p22, (.bool v22))], h⟩ = j v0 v1 v2 v22 h
abbrev Av : Type := Int → Int → Int → Bool → Heap → CRes
abbrev IZ (J : Q1) (j : Av) : Prop := ∀ v0 v1 v2 v15 h, J ⟨c8 [(p0, (.int .i64 v0)), (p1, (.int .i64 v1)), (p2, (.int .i64 v2)), (p15, (.bool v15))], h⟩ = j v0 v1 v2 v15 h
section
variable (n : Nat) (aJ : de) (bJ : eM) (k0 : Q0) (k : pz)
def Tf (n : Nat) (aJ : de) (bJ : eM) (k0 : Q0) : Q1 := (fun s => eK (.t p22) s (bS (xP aJ bJ) pK RR (cX vi k0)) (bS (xP aJ bJ) pK Sx (cX vi k0)))
def Je (n : Nat) (aJ : de) (bJ : eM) (k : pz) (v0 : Int) (v1 : Int) (v2 : Int) (v22 : Bool) (h : Heap) : CRes :=
 ifB v22
 (k 0 2 h)
 (Yl .i64 v0 v2 fun x7 =>
 lU .i64 x7 v1 fun x8 =>
 Yl .i64 x8 1 fun x9 =>
 quoK .i64 x9 v1 fun x10 =>
 k x10 0 h)
theorem ahD (hk : tg k0 k) : I6 (Tf n aJ bJ k0 ) (Je n aJ bJ k ) := by
  obtain rfl := fx3 hk
  intro v0 v1 v2 v22 h
  kernel_rfl
def TK : Q1 := Tf n aJ bJ k0
def Hs : Am := Je n aJ bJ k
theorem agS (hk : tg k0 k) : I6 (TK n aJ bJ k0 ) (Hs n aJ bJ k ) := ahD n aJ bJ k0 k hk
def Tn (n : Nat) (aJ : de) (bJ : eM) (k0 : Q0) (J1 : Q1) : Q1 := (bS (xP aJ bJ) pK TN (fun s => da Ue s J1))
def It (n : Nat) (aJ : de) (bJ : eM) (k : pz) (j1 : Am) (v0 : Int) (v1 : Int) (v2 : Int) (v15 : Bool) (h : Heap) : CRes :=
 ifB v15
 (j1 v0 v1 v2 true h)
 (Yl .i64 v1 1 fun x4 =>
 aJ v2 0 x4 h fun x5 h6 =>
 j1 v0 v1 v2 (jk x5) h6)
theorem ahO (hk : tg k0 k) {J1 : Q1} {j1 : Am} (h1 : I6 J1 j1) : IZ (Tn n aJ bJ k0 J1) (It n aJ bJ k j1) := by
  obtain rfl := fx3 hk
  obtain rfl := fx5 h1
  intro v0 v1 v2 v15 h
  kernel_rfl
def S7 : Q1 := Tn n aJ bJ k0 (TK n aJ bJ k0 )
def Ix : Av := It n aJ bJ k (Hs n aJ bJ k )
theorem ahL (hk : tg k0 k) : IZ (S7 n aJ bJ k0 ) (Ix n aJ bJ k ) := ahO n aJ bJ k0 k hk (agS n aJ bJ k0 k hk )
def aao (n : Nat) (aJ : de) (bJ : eM) (k0 : Q0) (J0 : Q1) : Q1 := (bS (xP aJ bJ) pK Sg (bS (xP aJ bJ) pK Tw (fun s => da Ux s J0)))
def Om (n : Nat) (aJ : de) (bJ : eM) (k : pz) (j0 : Av) (a0 : Int) (a1 : Int) (a2 : Int) (h : Heap) : CRes :=
 aJ a0 1 4096 h fun x0 h1 =>
 ifB (jk x0)
 (j0 a0 a1 a2 true h1)
 (bJ a1 h1 fun x2 h3 =>
 j0 a0 a1 a2 (jk x2) h3)
theorem alv (n : Nat) (aJ : de) (bJ : eM) (k0 : Q0) (k : pz) (hk : tg k0 k) {J0 : Q1} {j0 : Av} (h0 : IZ J0 j0) (a0 : Int) (a1 : Int) (a2 : Int) (h : Heap) : (aao n aJ bJ k0 J0) ⟨c8 [(p0, (.int .i64 a0)), (p1, (.int .i64 a1)), (p2, (.int .i64 a2))], h⟩ = (Om n aJ bJ k j0) a0 a1 a2 h := by
  obtain rfl := fx3 hk
  obtain rfl := fx5 h0
  kernel_rfl
def akT : Q1 := aao n aJ bJ k0 (S7 n aJ bJ k0 )
def OB (n : Nat) (aJ : de) (bJ : eM) (a0 : Int) (a1 : Int) (a2 : Int) (h : Heap) (k : pz) : CRes := Om n aJ bJ k (Ix n aJ bJ k ) a0 a1 a2 h
theorem akq (n : Nat) (aJ : de) (bJ : eM) (k0 : Q0) (s : St) : D (eO [(iR, ic aJ), (qX, oV bJ)]) pK n OW (cX vi k0) (fun _ _ => .err) (cX vi k0) s = akT n aJ bJ k0 s := by kernel_rfl
theorem akr (n : Nat) (aJ : de) (bJ : eM) (a0 : Int) (a1 : Int) (a2 : Int) (h : Heap) (k0 : Q0) : W O8 vi [(iR, ic aJ), (qX, oV bJ)] pK n OW [(.int .i64 a0), (.int .i64 a1), (.int .i64 a2)] h k0 = OB n aJ bJ a0 a1 a2 h (fun u0 u1 h => k0 (.tuple [(.int .i64 u0), (.int .i64 u1)]) h) := by
  let k : pz := fun u0 u1 h => k0 (.tuple [(.int .i64 u0), (.int .i64 u1)]) h
  have hk : tg k0 k := fun _ _ _ => rfl
  have hb : ∀ F : Tr AV → CRes, gG O8 [(.int .i64 a0), (.int .i64 a1), (.int .i64 a2)] .leaf F = F (c8 [(p0, (.int .i64 a0)), (p1, (.int .i64 a1)), (p2, (.int .i64 a2))]) := fun F => by kernel_rfl
  exact (mC hb).trans ((akq n aJ bJ k0 _).trans (alv n aJ bJ k0 k hk (ahL n aJ bJ k0 k hk ) a0 a1 a2 h))
end
def sd (n : Nat) : i9 := OB n (js n) (q8 n)
/-! cofferdam/buddy.New -/
abbrev mg := Int → Heap → (AV → Int → Heap → CRes) → CRes
abbrev mW := AV → Int → Heap → CRes
def D5 (g : mg) : Wr := fun l h k => ph .i64 l fun a0 l => mq l (g a0 h fun u0 u1 h => k (.tuple [u0, (.int .i64 u1)]) h)
def nE : dN := eO []
abbrev mF (k0 : Q0) (k : mW) : Prop := ∀ u0 u1 h, k0 (.tuple [u0, (.int .i64 u1)]) h = k u0 u1 h
abbrev JE : Type := AV → Heap → CRes
abbrev QU (J : Q1) (j : JE) : Prop := ∀ v4 h, J ⟨c8 [(p4, v4)], h⟩ = j v4 h
abbrev JB : Type := Int → AV → Int → Int → Heap → CRes
abbrev RJ (J : Q1) (j : JB) : Prop := ∀ v0 v4 v5 v6 h, J ⟨c8 [(p0, (.int .i64 v0)), (p4, v4), (p5, (.int .i64 v5)), (p6, (.int .i64 v6))], h⟩ = j v0 v4 v5 v6 h
abbrev um : Type := Int → AV → Int → Int → Heap → CRes
abbrev Jx (J : Q1) (j : um) : Prop := ∀ v0 v4 v5 v6 h, J ⟨c8 [(p0, (.int .i64 v0)), (p4, v4), (p5, (.int .i64 v5)), (p6, (.int .i64 v6))], h⟩ = j v0 v4 v5 v6 h
abbrev lG : Type := Int → AV → Int → Int → Heap → CRes
abbrev xX (J : Q1) (j : lG) : Prop := ∀ v0 v4 v5 v6 h, J ⟨c8 [(p0, (.int .i64 v0)), (p4, v4), (p5, (.int .i64 v5)), (p6, (.int .i64 v6))], h⟩ = j v0 v4 v5 v6 h
abbrev Jn : Type := Int → Bool → Heap → CRes
abbrev RC (J : Q1) (j : Jn) : Prop := ∀ v0 v12 h, J ⟨c8 [(p0, (.int .i64 v0)), (p12, (.bool v12))], h⟩ = j v0 v12 h
section
variable (n : Nat) (k0 : Q0) (k : mW)
def acw (n : Nat) (k0 : Q0) : Q1 := (bS (nE ) me adr (cX DK k0))
def RF (n : Nat) (k : mW) (v4 : AV) (h : Heap) : CRes :=
 k v4 0 h
theorem alM (hk : mF k0 k) : QU (acw n k0 ) (RF n k ) := by
  obtain rfl := fx3 hk
  intro v4 h
  kernel_rfl
def ac8 : Q1 := acw n k0
def Jq : JE := RF n k
theorem alV (hk : mF k0 k) : QU (ac8 n k0 ) (Jq n k ) := alM n k0 k hk
def acm (n : Nat) (k0 : Q0) (J1 : Q1) : Q1 := (bS (nE ) me adf (bS (nE ) me ac9 (fun s => da Ra s J1)))
def Rj (n : Nat) (k : mW) (j1 : lG) (v0 : Int) (v4 : AV) (v5 : Int) (v6 : Int) (h : Heap) : CRes :=
 nfa 2 v4 fun x5 =>
 KG 1 7 x5 v6 fun x6 =>
 gJ h x6 1 false fun x7 =>
 pR h 1 [(.int .i64 0)] [(0, 1, (.int .i64 v5))] fun x8 h9 =>
 qk h9 1 x7 x8 fun x10 h11 =>
 nfa 2 v4 fun x12 =>
 KG 1 7 x12 v6 fun x13 =>
 lR h11 x13 1 x10 fun h14 =>
 aiv .i64 1 v6 fun x15 =>
 lU .i64 v5 x15 fun x16 =>
 j1 v0 v4 x16 v6 h14
theorem amg (hk : mF k0 k) {J1 : Q1} {j1 : lG} (h1 : xX J1 j1) : RJ (acm n k0 J1) (Rj n k j1) := by
  obtain rfl := fx3 hk
  obtain rfl := fx5 h1
  intro v0 v4 v5 v6 h
  kernel_rfl
def acA (J1 : Q1) : Q1 := acm n k0 J1
def Jp (j1 : lG) : JB := Rj n k j1
theorem al1 (hk : mF k0 k) {J1 : Q1} {j1 : lG} (h1 : xX J1 j1) : RJ (acA n k0 J1) (Jp n k j1) := amg n k0 k hk h1
def adk (n : Nat) (k0 : Q0) (J2 : Q1) (J3 : Q1) : Q1 := (bS (nE ) me acP (fun s => eK (.t p29) s (bS (nE ) me acX (fun s => da QY s J3)) (fun s => da acL s J2)))
def Jw (n : Nat) (k : mW) (j2 : JB) (j3 : um) (v0 : Int) (v4 : AV) (v5 : Int) (v6 : Int) (h : Heap) : CRes :=
 aiv .i64 1 v6 fun x17 =>
 lU .i64 v5 x17 fun x18 =>
 ifB (ltF v0 x18)
 (Yl .i64 v6 1 fun x19 =>
 j3 v0 v4 v5 x19 h)
 (j2 v0 v4 v5 v6 h)
theorem amB (hk : mF k0 k) {J2 : Q1} {j2 : JB} (h2 : RJ J2 j2) {J3 : Q1} {j3 : um} (h3 : Jx J3 j3) : Jx (adk n k0 J2 J3) (Jw n k j2 j3) := by
  obtain rfl := fx3 hk
  obtain rfl := fx5 h2
  obtain rfl := fx5 h3
  intro v0 v4 v5 v6 h
  kernel_rfl
def ac2 (J1 : Q1) (m : Nat) : Q1 := Nat.rec (motive := fun _ => Q1) (fun _ => .err) (fun _ ih => adk n k0 (acA n k0 J1) ih) m
def xY (j1 : lG) (m : Nat) : um := Nat.rec (motive := fun _ => um) (fun _ _ _ _ _ => .err) (fun _ ih => Jw n k (Jp n k j1) ih) m
theorem amF (j1 : lG) (m : Nat) : xY n k j1 (m + 1) = Jw n k (Jp n k j1) (xY n k j1 m) := rfl
theorem amu (hk : mF k0 k) {J1 : Q1} {j1 : lG} (h1 : xX J1 j1) (m : Nat) : Jx (ac2 n k0 J1 m) (xY n k j1 m) := by
  induction m with
  | zero => intro v0 v4 v5 v6 h; rfl
  | succ m ih => exact amB n k0 k hk (al1 n k0 k hk h1) ih
def ace (n : Nat) (k0 : Q0) (J0 : Q1) (J3 : Q1) : Q1 := (bS (nE ) me adh (fun s => eK (.t p19) s (fun s => da QY s J3) (fun s => da acT s J0)))
def JF (n : Nat) (k : mW) (j0 : JE) (j3 : um) (v0 : Int) (v4 : AV) (v5 : Int) (v6 : Int) (h : Heap) : CRes :=
 ifB (ltF v5 v0)
 (j3 v0 v4 v5 v6 h)
 (j0 v4 h)
theorem alU (hk : mF k0 k) {J0 : Q1} {j0 : JE} (h0 : QU J0 j0) {J3 : Q1} {j3 : um} (h3 : Jx J3 j3) : xX (ace n k0 J0 J3) (JF n k j0 j3) := by
  obtain rfl := fx3 hk
  obtain rfl := fx2 h0
  obtain rfl := fx5 h3
  intro v0 v4 v5 v6 h
  kernel_rfl
def adc (m : Nat) : Q1 := Nat.rec (motive := fun _ => Q1) (fun _ => .err) (fun _ ih => ace n k0 (ac8 n k0 ) (ac2 n k0 ih n)) m
def xW (m : Nat) : lG := Nat.rec (motive := fun _ => lG) (fun _ _ _ _ _ => .err) (fun _ ih => JF n k (Jq n k ) (xY n k ih n)) m
theorem amq (m : Nat) : xW n k (m + 1) = JF n k (Jq n k ) (xY n k (xW n k m) n) := rfl
theorem alY (hk : mF k0 k) (m : Nat) : xX (adc n k0 m) (xW n k m) := by
  induction m with
  | zero => intro v0 v4 v5 v6 h; rfl
  | succ m ih => exact alU n k0 k hk (alV n k0 k hk ) (amu n k0 k hk ih n)
def ac3 (n : Nat) (k0 : Q0) (J1 : Q1) : Q1 := (fun s => eK (.t p12) s (bS (nE ) me acZ (cX DK k0)) (bS (nE ) me ac4 (bS (nE ) me acY (fun s => da Ra s J1))))
def Rp (n : Nat) (k : mW) (j1 : lG) (v0 : Int) (v12 : Bool) (h : Heap) : CRes :=
 ifB v12
 (k .nilptr 2 h)
 (yA h (.mp []) fun x0 h1 =>
 wa [(.bool false), (.int .i64 0), .nilslice, .nilslice, .nilslice, .nilslice, .nilslice, .nilslice, .nilslice, .nilmap] [(0, 1, (.bool true)), (1, 1, (.int .i64 v0)), (9, 1, (.map x0))] fun x2 =>
 zt h1 x2 fun x3 h4 =>
 j1 v0 (.ptr x3 0) 0 6 h4)
theorem alX (hk : mF k0 k) {J1 : Q1} {j1 : lG} (h1 : xX J1 j1) : RC (ac3 n k0 J1) (Rp n k j1) := by
  obtain rfl := fx3 hk
  obtain rfl := fx5 h1
  intro v0 v12 h
  kernel_rfl
def acl : Q1 := ac3 n k0 (adc n k0 n)
def Rd : Jn := Rp n k (xW n k n)
theorem al2 (hk : mF k0 k) : RC (acl n k0 ) (Rd n k ) := alX n k0 k hk (alY n k0 k hk n)
def ah4 (n : Nat) (k0 : Q0) (J4 : Q1) : Q1 := (bS (nE ) me Y8 (bS (nE ) me acz (fun s => da adj s J4)))
def Zz (n : Nat) (k : mW) (j4 : Jn) (a0 : Int) (h : Heap) : CRes :=
 ifB (ltF a0 0)
 (j4 a0 true h)
 (j4 a0 (ltF 4096 a0) h)
theorem apw (n : Nat) (k0 : Q0) (k : mW) (hk : mF k0 k) {J4 : Q1} {j4 : Jn} (h4 : RC J4 j4) (a0 : Int) (h : Heap) : (ah4 n k0 J4) ⟨c8 [(p0, (.int .i64 a0))], h⟩ = (Zz n k j4) a0 h := by
  obtain rfl := fx3 hk
  obtain rfl := fx3 h4
  kernel_rfl
def ao9 : Q1 := ah4 n k0 (acl n k0 )
def aax (n : Nat) (a0 : Int) (h : Heap) (k : mW) : CRes := Zz n k (Rd n k ) a0 h
theorem ap4 (n : Nat) (k0 : Q0) (s : St) : D (eO []) me n YQ (cX DK k0) (fun _ _ => .err) (cX DK k0) s = ao9 n k0 s := by kernel_rfl
theorem aqk (n : Nat) (a0 : Int) (h : Heap) (k0 : Q0) : W ZL DK [] me n YQ [(.int .i64 a0)] h k0 = aax n a0 h (fun u0 u1 h => k0 (.tuple [u0, (.int .i64 u1)]) h) := by
  let k : mW := fun u0 u1 h => k0 (.tuple [u0, (.int .i64 u1)]) h
  have hk : mF k0 k := fun _ _ _ => rfl
  have hb : ∀ F : Tr AV → CRes, gG ZL [(.int .i64 a0)] .leaf F = F (c8 [(p0, (.int .i64 a0))]) := fun F => by kernel_rfl
  exact (mC hb).trans ((ap4 n k0 _).trans (apw n k0 k hk (al2 n k0 k hk ) a0 h))
end
def zT (n : Nat) : mg := aax n
/-! cofferdam/pool.New -/
abbrev iO := AV → Int → Heap → (AV → Int → Heap → CRes) → CRes
abbrev zy := AV → Int → Heap → CRes
def HA (g : iO) : Wr := fun l h k => lM l fun a0 l => ph .i64 l fun a1 l => mq l (g a0 a1 h fun u0 u1 h => k (.tuple [u0, (.int .i64 u1)]) h)
def ja (al : cU) (aM : dH) (cj : i9) (cJ : mg) : dN := eO [(qZ, oZ al), (lP, jT aM), (zk, vN cj), (Ki, D5 cJ)]
abbrev Es (k0 : Q0) (k : zy) : Prop := ∀ u0 u1 h, k0 (.tuple [u0, (.int .i64 u1)]) h = k u0 u1 h
abbrev NH : Type := AV → Heap → CRes
abbrev U6 (J : Q1) (j : NH) : Prop := ∀ v9 h, J ⟨c8 [(p9, v9)], h⟩ = j v9 h
abbrev xk : Type := AV → AV → AV → Int → Int → Heap → CRes
abbrev NJ (J : Q1) (j : xk) : Prop := ∀ v2 v9 v57 v58 v59 h, J ⟨c8 [(p2, v2), (p9, v9), (p57, v57), (p58, (.int .i64 v58)), (p59, (.int .i64 v59))], h⟩ = j v2 v9 v57 v58 v59 h
section
variable (n : Nat) (al : cU) (aM : dH) (cj : i9) (cJ : mg) (k0 : Q0) (k : zy)
def afH (n : Nat) (al : cU) (aM : dH) (cj : i9) (cJ : mg) (k0 : Q0) : Q1 := (bS (ja al aM cj cJ) iP ae2 (cX zF k0))
def UB (n : Nat) (al : cU) (aM : dH) (cj : i9) (cJ : mg) (k : zy) (v9 : AV) (h : Heap) : CRes :=
 k v9 0 h
theorem anx (hk : Es k0 k) : U6 (afH n al aM cj cJ k0 ) (UB n al aM cj cJ k ) := by
  obtain rfl := fx3 hk
  intro v9 h
  kernel_rfl
def afi : Q1 := afH n al aM cj cJ k0
def NF : NH := UB n al aM cj cJ k
theorem aox (hk : Es k0 k) : U6 (afi n al aM cj cJ k0 ) (NF n al aM cj cJ k ) := anx n al aM cj cJ k0 k hk
def aeQ (n : Nat) (al : cU) (aM : dH) (cj : i9) (cJ : mg) (k0 : Q0) (J0 : Q1) (J1 : Q1) : Q1 := (bS (ja al aM cj cJ) iP acf (fun s => eK (.t p60) s (bS (ja al aM cj cJ) iP aeE (bS (ja al aM cj cJ) iP aev (bS (ja al aM cj cJ) iP afy (fun s => eK (.t p73) s (bS (ja al aM cj cJ) iP aeH (cX zF k0)) (bS (ja al aM cj cJ) iP aff (bS (ja al aM cj cJ) iP afl (fun s => eK (.t p81) s (bS (ja al aM cj cJ) iP afg (cX zF k0)) (bS (ja al aM cj cJ) iP aeJ (bS (ja al aM cj cJ) iP ae0 (fun s => da UL s J1)))))))))) (fun s => da ae6 s J0)))
def Nx (n : Nat) (al : cU) (aM : dH) (cj : i9) (cJ : mg) (k : zy) (j0 : NH) (j1 : xk) (v2 : AV) (v9 : AV) (v57 : AV) (v58 : Int) (v59 : Int) (h : Heap) : CRes :=
 ifB (ltF v59 v58)
 (Q6 .i64 1 h v57 v59 fun x42 x43 =>
 jO .i64 0 h v2 fun x44 x45 =>
 jO .i64 1 h v2 fun x46 x47 =>
 cj x45 x47 x43 h fun x48 x49 h50 =>
 ifB (jk (eqF x49 0))
 (k .nilptr x49 h50)
 (cJ x48 h50 fun x51 x52 h53 =>
 ifB (jk (eqF x52 0))
 (k .nilptr x52 h53)
 (Z3 11 h53 v9 1 false fun x54 x55 =>
 pR h53 1 [.nilptr] [(0, 1, x51)] fun x56 h57 =>
 qk h57 1 x55 x56 fun x58 h59 =>
 nfst 11 h59 v9 1 x58 fun x60 h61 =>
 lU .i64 v59 1 fun x62 =>
 j1 v2 v9 v57 v58 x62 h61)))
 (j0 v9 h)
theorem aoy (hk : Es k0 k) {J0 : Q1} {j0 : NH} (h0 : U6 J0 j0) {J1 : Q1} {j1 : xk} (h1 : NJ J1 j1) : NJ (aeQ n al aM cj cJ k0 J0 J1) (Nx n al aM cj cJ k j0 j1) := by
  obtain rfl := fx3 hk
  obtain rfl := fx2 h0
  obtain rfl := fx6 h1
  intro v2 v9 v57 v58 v59 h
  kernel_rfl
def aer (m : Nat) : Q1 := Nat.rec (motive := fun _ => Q1) (fun _ => .err) (fun _ ih => aeQ n al aM cj cJ k0 (afi n al aM cj cJ k0 ) ih) m
def E5 (m : Nat) : xk := Nat.rec (motive := fun _ => xk) (fun _ _ _ _ _ _ => .err) (fun _ ih => Nx n al aM cj cJ k (NF n al aM cj cJ k ) ih) m
theorem aoL (m : Nat) : E5 n al aM cj cJ k (m + 1) = Nx n al aM cj cJ k (NF n al aM cj cJ k ) (E5 n al aM cj cJ k m) := rfl
theorem aoQ (hk : Es k0 k) (m : Nat) : NJ (aer n al aM cj cJ k0 m) (E5 n al aM cj cJ k m) := by
  induction m with
  | zero => intro v2 v9 v57 v58 v59 h; rfl
  | succ m ih => exact aoy n al aM cj cJ k0 k hk (aox n al aM cj cJ k0 k hk ) ih
def akQ (n : Nat) (al : cU) (aM : dH) (cj : i9) (cJ : mg) (k0 : Q0) (J1 : Q1) : Q1 := (bS (ja al aM cj cJ) iP adb (bS (ja al aM cj cJ) iP acU (bS (ja al aM cj cJ) iP acs (fun s => eK (.t p22) s (bS (ja al aM cj cJ) iP acq (cX zF k0)) (bS (ja al aM cj cJ) iP ada (bS (ja al aM cj cJ) iP ade (bS (ja al aM cj cJ) iP acJ (bS (ja al aM cj cJ) iP acn (fun s => da UL s J1)))))))))
def adA (n : Nat) (al : cU) (aM : dH) (cj : i9) (cJ : mg) (k : zy) (j1 : xk) (a0 : AV) (a1 : Int) (h : Heap) : CRes :=
 zt h a0 fun x0 h1 =>
 gJ h1 (.ptr x0 0) 17 true fun x2 =>
 al x2 a1 h1 fun x3 x4 h5 =>
 ifB (jk (eqF x4 0))
 (k .nilptr x4 h5)
 (fld 16 h5 (.ptr x0 0) 1 false fun x6 x7 =>
 eld 8 h5 x7 a1 8 true fun x8 x9 =>
 yA h5 (.cells [.nilslice, (.int .i64 0), (.int .i64 0), (.int .i64 0), (.int .i64 0), (.int .i64 0), (.int .i64 0), (.int .i64 0)] true 0) fun x10 h11 =>
 lR h11 (.ptr x10 0) 8 x9 fun h12 =>
 jO .i64 1 h12 (.ptr x0 0) fun x13 x14 =>
 fld 0 h12 (.ptr x10 0) 1 false fun x15 x16 =>
 aM x16 (h12.shut true) fun x17 h18 =>
 jO .i64 1 (h18.back h12.ro) (.ptr x10 0) fun x19 x20 =>
 yA (h18.back h12.ro) (.mp []) fun x21 h22 =>
 wa [(.int .i64 0), .nilslice, (.int .i64 0), (.int .i64 0), (.int .i64 0), (.int .i64 0), (.int .i64 0), (.int .i64 0), (.int .i64 0), (.int .i64 0), (.int .i64 0), .nilslice, .nilmap, (.int .i64 0), (.int .i64 0), (.int .i64 0), (.int .i64 0), (.int .i64 0), (.int .i64 0), (.int .i64 0)] [(0, 1, (.int .i64 x14)), (1, 1, x17), (2, 1, (.int .i64 x20)), (10, 1, (.int .i64 x3)), (12, 1, (.map x21))] fun x23 =>
 zt h22 x23 fun x24 h25 =>
 jO .i64 2 h25 (.ptr x10 0) fun x26 x27 =>
 jO .i64 3 h25 (.ptr x10 0) fun x28 x29 =>
 jO .i64 4 h25 (.ptr x10 0) fun x30 x31 =>
 jO .i64 5 h25 (.ptr x10 0) fun x32 x33 =>
 jO .i64 6 h25 (.ptr x10 0) fun x34 x35 =>
 wa [(.int .i64 0), (.int .i64 0), (.int .i64 0), (.int .i64 0), (.int .i64 0), (.int .i64 0), (.int .i64 0)] [(2, 1, (.int .i64 x27)), (3, 1, (.int .i64 x29)), (4, 1, (.int .i64 x31)), (5, 1, (.int .i64 x33)), (6, 1, (.int .i64 x35))] fun x36 =>
 nfst 3 h25 (.ptr x24 0) 7 x36 fun x37 h38 =>
 Z3 1 h38 (.ptr x24 0) 1 false fun x39 x40 =>
 jb x40 fun x41 =>
 j1 (.ptr x0 0) (.ptr x24 0) x40 x41 0 h38)
theorem aq9 (n : Nat) (al : cU) (aM : dH) (cj : i9) (cJ : mg) (k0 : Q0) (k : zy) (hk : Es k0 k) {J1 : Q1} {j1 : xk} (h1 : NJ J1 j1) (a0 : AV) (a1 : Int) (h : Heap) : (akQ n al aM cj cJ k0 J1) ⟨c8 [(p0, a0), (p1, (.int .i64 a1))], h⟩ = (adA n al aM cj cJ k j1) a0 a1 h := by
  obtain rfl := fx3 hk
  obtain rfl := fx6 h1
  kernel_rfl
def aqr : Q1 := akQ n al aM cj cJ k0 (aer n al aM cj cJ k0 n)
def ad1 (n : Nat) (al : cU) (aM : dH) (cj : i9) (cJ : mg) (a0 : AV) (a1 : Int) (h : Heap) (k : zy) : CRes := adA n al aM cj cJ k (E5 n al aM cj cJ k n) a0 a1 h
theorem aqB (n : Nat) (al : cU) (aM : dH) (cj : i9) (cJ : mg) (k0 : Q0) (s : St) : D (eO [(qZ, oZ al), (lP, jT aM), (zk, vN cj), (Ki, D5 cJ)]) iP n adS (cX zF k0) (fun _ _ => .err) (cX zF k0) s = aqr n al aM cj cJ k0 s := by kernel_rfl
theorem aq5 (n : Nat) (al : cU) (aM : dH) (cj : i9) (cJ : mg) (a0 : AV) (a1 : Int) (h : Heap) (k0 : Q0) : W aed zF [(qZ, oZ al), (lP, jT aM), (zk, vN cj), (Ki, D5 cJ)] iP n adS [a0, (.int .i64 a1)] h k0 = ad1 n al aM cj cJ a0 a1 h (fun u0 u1 h => k0 (.tuple [u0, (.int .i64 u1)]) h) := by
  let k : zy := fun u0 u1 h => k0 (.tuple [u0, (.int .i64 u1)]) h
  have hk : Es k0 k := fun _ _ _ => rfl
  have hb : ∀ F : Tr AV → CRes, gG aed [a0, (.int .i64 a1)] .leaf F = F (c8 [(p0, a0), (p1, (.int .i64 a1))]) := fun F => by kernel_rfl
  exact (mC hb).trans ((aqB n al aM cj cJ k0 _).trans (aq9 n al aM cj cJ k0 k hk (aoQ n al aM cj cJ k0 k hk n) a0 a1 h))
end
def I5 (n : Nat) : iO := ad1 n (oY n) (jS n) (sd n) (zT n)
abbrev bR := AV → Heap → (Bool → Heap → CRes) → CRes
abbrev mK := Bool → Heap → CRes
def dy (g : bR) : Wr := fun l h k => lM l fun a0 l => mq l (g a0 h fun u0 h => k (.bool u0) h)
def Bz : dN := eO []
abbrev uP (k0 : Q0) (k : mK) : Prop := ∀ u0 h, k0 (.bool u0) h = k u0 h
abbrev ub : Type := Bool → Heap → CRes
abbrev zL (J : Q1) (j : ub) : Prop := ∀ v11 h, J ⟨c8 [(p11, (.bool v11))], h⟩ = j v11 h
section
variable (n : Nat) (k0 : Q0) (k : mK)
def Kc (n : Nat) (k0 : Q0) : Q1 := (bS (Bz ) oJ Kt (cX r7 k0))
def zx (n : Nat) (k : mK) (v11 : Bool) (h : Heap) : CRes :=
 k v11 h
theorem aa6 (hk : uP k0 k) : zL (Kc n k0 ) (zx n k ) := by
  obtain rfl := fx2 hk
  intro v11 h
  kernel_rfl
def Ka : Q1 := Kc n k0
def zE : ub := zx n k
theorem Za (hk : uP k0 k) : zL (Ka n k0 ) (zE n k ) := aa6 n k0 k hk
def OI (n : Nat) (k0 : Q0) (J0 : Q1) : Q1 := (bS (Bz ) oJ K6 (bS (Bz ) oJ JV (fun s => da KU s J0)))
def Di (n : Nat) (k : mK) (j0 : ub) (a0 : AV) (h : Heap) : CRes :=
 X0 (.nil .ptr) a0 .nilptr fun x0 =>
 ifB (X7 true x0)
 (Z3 12 h a0 1 false fun x1 x2 =>
 X0 (.nil .mp) x2 .nilmap fun x3 =>
 j0 (X7 true x3) h)
 (j0 false h)
theorem aeh (n : Nat) (k0 : Q0) (k : mK) (hk : uP k0 k) {J0 : Q1} {j0 : ub} (h0 : zL J0 j0) (a0 : AV) (h : Heap) : (OI n k0 J0) ⟨c8 [(p0, a0)], h⟩ = (Di n k j0) a0 h := by
  obtain rfl := fx2 hk
  obtain rfl := fx2 h0
  kernel_rfl
def adE : Q1 := OI n k0 (Ka n k0 )
def Dr (n : Nat) (a0 : AV) (h : Heap) (k : mK) : CRes := Di n k (zE n k ) a0 h
theorem adV (n : Nat) (k0 : Q0) (s : St) : D (eO []) oJ n Dl (cX r7 k0) (fun _ _ => .err) (cX r7 k0) s = adE n k0 s := by kernel_rfl
theorem adR (n : Nat) (a0 : AV) (h : Heap) (k0 : Q0) : W C6 r7 [] oJ n Dl [a0] h k0 = Dr n a0 h (fun u0 h => k0 (.bool u0) h) := by
  let k : mK := fun u0 h => k0 (.bool u0) h
  have hk : uP k0 k := fun _ _ => rfl
  have hb : ∀ F : Tr AV → CRes, gG C6 [a0] .leaf F = F (c8 [(p0, a0)]) := fun F => by kernel_rfl
  exact (mC hb).trans ((adV n k0 _).trans (aeh n k0 k hk (Za n k0 k hk ) a0 h))
end
def ew (n : Nat) : bR := Dr n
abbrev cQ := AV → Heap → (Bool → Heap → CRes) → CRes
abbrev l6 := Bool → Heap → CRes
def iL (g : cQ) : Wr := fun l h k => lM l fun a0 l => mq l (g a0 h fun u0 h => k (.bool u0) h)
def zl : dN := eO []
abbrev tQ (k0 : Q0) (k : l6) : Prop := ∀ u0 h, k0 (.bool u0) h = k u0 h
abbrev sP : Type := Bool → Heap → CRes
abbrev yH (J : Q1) (j : sP) : Prop := ∀ v11 h, J ⟨c8 [(p11, (.bool v11))], h⟩ = j v11 h
section
variable (n : Nat) (k0 : Q0) (k : l6)
def G0 (n : Nat) (k0 : Q0) : Q1 := (bS (zl ) nW G7 (cX qM k0))
def yu (n : Nat) (k : l6) (v11 : Bool) (h : Heap) : CRes :=
 k v11 h
theorem X8 (hk : tQ k0 k) : yH (G0 n k0 ) (yu n k ) := by
  obtain rfl := fx2 hk
  intro v11 h
  kernel_rfl
def Gw : Q1 := G0 n k0
def yw : sP := yu n k
theorem X1 (hk : tQ k0 k) : yH (Gw n k0 ) (yw n k ) := X8 n k0 k hk
def Nd (n : Nat) (k0 : Q0) (J0 : Q1) : Q1 := (bS (zl ) nW G6 (bS (zl ) nW Hh (fun s => da Hp s J0)))
def Bk (n : Nat) (k : l6) (j0 : sP) (a0 : AV) (h : Heap) : CRes :=
 X0 (.nil .ptr) a0 .nilptr fun x0 =>
 ifB (X7 false x0)
 (j0 true h)
 (nfldB 0 h a0 fun x1 x2 =>
 j0 (jk x2) h)
theorem abZ (n : Nat) (k0 : Q0) (k : l6) (hk : tQ k0 k) {J0 : Q1} {j0 : sP} (h0 : yH J0 j0) (a0 : AV) (h : Heap) : (Nd n k0 J0) ⟨c8 [(p0, a0)], h⟩ = (Bk n k j0) a0 h := by
  obtain rfl := fx2 hk
  obtain rfl := fx2 h0
  kernel_rfl
def abP : Q1 := Nd n k0 (Gw n k0 )
def A5 (n : Nat) (a0 : AV) (h : Heap) (k : l6) : CRes := Bk n k (yw n k ) a0 h
theorem abT (n : Nat) (k0 : Q0) (s : St) : D (eO []) nW n A8 (cX qM k0) (fun _ _ => .err) (cX qM k0) s = abP n k0 s := by kernel_rfl
theorem ab8 (n : Nat) (a0 : AV) (h : Heap) (k0 : Q0) : W Bw qM [] nW n A8 [a0] h k0 = A5 n a0 h (fun u0 h => k0 (.bool u0) h) := by
  let k : l6 := fun u0 h => k0 (.bool u0) h
  have hk : tQ k0 k := fun _ _ => rfl
  have hb : ∀ F : Tr AV → CRes, gG Bw [a0] .leaf F = F (c8 [(p0, a0)]) := fun F => by kernel_rfl
  exact (mC hb).trans ((abT n k0 _).trans (abZ n k0 k hk (X1 n k0 k hk ) a0 h))
end
def jo (n : Nat) : cQ := A5 n
abbrev cT := AV → Int → Int → Heap → (AV → Heap → CRes) → CRes
abbrev jt := AV → Heap → CRes
def jz (g : cT) : Wr := fun l h k => lM l fun a0 l => ph .i64 l fun a1 l => ph .i64 l fun a2 l => mq l (g a0 a1 a2 h fun u0 h => k u0 h)
def fX : dN := eO []
abbrev yK (k0 : Q0) (k : jt) : Prop := ∀ u0 h, k0 u0 h = k u0 h
section
variable (n : Nat) (k0 : Q0) (k : jt)
def zB (n : Nat) (k0 : Q0) : Q1 := (bS (fX ) eE xS (bS (fX ) eE xE (bS (fX ) eE xK (fun s => eK (.t p16) s (bS (fX ) eE xG (cX ju k0)) (bS (fX ) eE xz (bS (fX ) eE xA (bS (fX ) eE xQ (bS (fX ) eE xN (cX ju k0)))))))))
def rR (n : Nat) (k : jt) (a0 : AV) (a1 : Int) (a2 : Int) (h : Heap) : CRes :=
 jb a0 fun x0 =>
 slK (.sl 1) a0 (some (.int .i64 a1)) (some (.int .i64 a2)) (some (.int .i64 x0)) fun x1 =>
 ifB (eqF a1 a2)
 (k a0 h)
 (jb a0 fun x2 =>
 slK (.sl 1) a0 none (some (.int .i64 a1)) none fun x3 =>
 slK (.sl 1) a0 (some (.int .i64 a2)) none none fun x4 =>
 qk h 1 x3 x4 fun x5 h6 =>
 jb x5 fun x7 =>
 slK (.sl 1) x5 (some (.int .i64 x7)) (some (.int .i64 x2)) none fun x8 =>
 ajK h6 [(.int .i64 0)] x8 fun h9 =>
 k x5 h9)
theorem Oh (n : Nat) (k0 : Q0) (k : jt) (hk : yK k0 k) (a0 : AV) (a1 : Int) (a2 : Int) (h : Heap) : (zB n k0 ) ⟨c8 [(p0, a0), (p1, (.int .i64 a1)), (p2, (.int .i64 a2))], h⟩ = (rR n k ) a0 a1 a2 h := by
  obtain rfl := fx2 hk
  kernel_rfl
def OO : Q1 := zB n k0
def se (n : Nat) (a0 : AV) (a1 : Int) (a2 : Int) (h : Heap) (k : jt) : CRes := rR n k a0 a1 a2 h
theorem NV (n : Nat) (k0 : Q0) (s : St) : D (eO []) eE n sc (cX ju k0) (fun _ _ => .err) (cX ju k0) s = OO n k0 s := by kernel_rfl
theorem N1 (n : Nat) (a0 : AV) (a1 : Int) (a2 : Int) (h : Heap) (k0 : Q0) : W rW ju [] eE n sc [a0, (.int .i64 a1), (.int .i64 a2)] h k0 = se n a0 a1 a2 h (fun u0 h => k0 u0 h) := by
  let k : jt := fun u0 h => k0 u0 h
  have hk : yK k0 k := fun _ _ => rfl
  have hb : ∀ F : Tr AV → CRes, gG rW [a0, (.int .i64 a1), (.int .i64 a2)] .leaf F = F (c8 [(p0, a0), (p1, (.int .i64 a1)), (p2, (.int .i64 a2))]) := fun F => by kernel_rfl
  exact (mC hb).trans ((NV n k0 _).trans (Oh n k0 k hk a0 a1 a2 h))
end
def gp (n : Nat) : cT := se n
abbrev gz := Int → Heap → (Bool → Heap → CRes) → CRes
abbrev rF := Bool → Heap → CRes
def rN (g : gz) : Wr := fun l h k => ph .i64 l fun a0 l => mq l (g a0 h fun u0 h => k (.bool u0) h)
def P6 : dN := eO []
abbrev Qe (k0 : Q0) (k : rF) : Prop := ∀ u0 h, k0 (.bool u0) h = k u0 h
section
variable (n : Nat) (k0 : Q0) (k : rF)
def Tp (n : Nat) (k0 : Q0) : Q1 := (bS (P6 ) vX Od (bS (P6 ) vX Pn (cX vp k0)))
def IO (n : Nat) (k : rF) (a0 : Int) (h : Heap) : CRes :=
 k (jk (eqF a0 a0)) h
theorem ahF (n : Nat) (k0 : Q0) (k : rF) (hk : Qe k0 k) (a0 : Int) (h : Heap) : (Tp n k0 ) ⟨c8 [(p0, (.int .i64 a0))], h⟩ = (IO n k ) a0 h := by
  obtain rfl := fx2 hk
  kernel_rfl
def ahh : Q1 := Tp n k0
def Ig (n : Nat) (a0 : Int) (h : Heap) (k : rF) : CRes := IO n k a0 h
theorem ahJ (n : Nat) (k0 : Q0) (s : St) : D (eO []) vX n ID (cX vp k0) (fun _ _ => .err) (cX vp k0) s = ahh n k0 s := by kernel_rfl
theorem ahr (n : Nat) (a0 : Int) (h : Heap) (k0 : Q0) : W IQ vp [] vX n ID [(.int .i64 a0)] h k0 = Ig n a0 h (fun u0 h => k0 (.bool u0) h) := by
  let k : rF := fun u0 h => k0 (.bool u0) h
  have hk : Qe k0 k := fun _ _ => rfl
  have hb : ∀ F : Tr AV → CRes, gG IQ [(.int .i64 a0)] .leaf F = F (c8 [(p0, (.int .i64 a0))]) := fun F => by kernel_rfl
  exact (mC hb).trans ((ahJ n k0 _).trans (ahF n k0 k hk a0 h))
end
def vu (n : Nat) : gz := Ig n
abbrev gh := Int → Int → Heap → (Bool → Heap → CRes) → CRes
abbrev oa := Bool → Heap → CRes
def tt (g : gh) : Wr := fun l h k => ph .i64 l fun a0 l => ph .i64 l fun a1 l => mq l (g a0 a1 h fun u0 h => k (.bool u0) h)
def Ax (cA : gz) : dN := eO [(vF, rN cA)]
abbrev rI (k0 : Q0) (k : oa) : Prop := ∀ u0 h, k0 (.bool u0) h = k u0 h
abbrev zd : Type := Bool → Heap → CRes
abbrev FO (J : Q1) (j : zd) : Prop := ∀ v16 h, J ⟨c8 [(p16, (.bool v16))], h⟩ = j v16 h
abbrev yR : Type := Int → Int → Bool → Heap → CRes
abbrev ES (J : Q1) (j : yR) : Prop := ∀ v0 v1 v11 h, J ⟨c8 [(p0, (.int .i64 v0)), (p1, (.int .i64 v1)), (p11, (.bool v11))], h⟩ = j v0 v1 v11 h
section
variable (n : Nat) (cA : gz) (k0 : Q0) (k : oa)
def Qc (n : Nat) (cA : gz) (k0 : Q0) : Q1 := (bS (Ax cA) qD QE (cX xO k0))
def Gc (n : Nat) (cA : gz) (k : oa) (v16 : Bool) (h : Heap) : CRes :=
 k v16 h
theorem afr (hk : rI k0 k) : FO (Qc n cA k0 ) (Gc n cA k ) := by
  obtain rfl := fx2 hk
  intro v16 h
  kernel_rfl
def Qm : Q1 := Qc n cA k0
def FQ : zd := Gc n cA k
theorem afu (hk : rI k0 k) : FO (Qm n cA k0 ) (FQ n cA k ) := afr n cA k0 k hk
def QB (n : Nat) (cA : gz) (k0 : Q0) (J1 : Q1) : Q1 := (bS (Ax cA) qD Qu (fun s => da Qf s J1))
def Fm (n : Nat) (cA : gz) (k : oa) (j1 : zd) (v0 : Int) (v1 : Int) (v11 : Bool) (h : Heap) : CRes :=
 ifB v11
 (j1 true h)
 (j1 (ltF v0 v1) h)
theorem afI (hk : rI k0 k) {J1 : Q1} {j1 : zd} (h1 : FO J1 j1) : ES (QB n cA k0 J1) (Fm n cA k j1) := by
  obtain rfl := fx2 hk
  obtain rfl := fx2 h1
  intro v0 v1 v11 h
  kernel_rfl
def PP : Q1 := QB n cA k0 (Qm n cA k0 )
def Eu : yR := Fm n cA k (FQ n cA k )
theorem aeR (hk : rI k0 k) : ES (PP n cA k0 ) (Eu n cA k ) := afI n cA k0 k hk (afu n cA k0 k hk )
def WJ (n : Nat) (cA : gz) (k0 : Q0) (J0 : Q1) : Q1 := (bS (Ax cA) qD P5 (bS (Ax cA) qD Qx (fun s => da PK s J0)))
def L5 (n : Nat) (cA : gz) (k : oa) (j0 : yR) (a0 : Int) (a1 : Int) (h : Heap) : CRes :=
 cA a0 h fun x0 h1 =>
 ifB x0
 (cA a1 h1 fun x2 h3 =>
 j0 a0 a1 (jk x2) h3)
 (j0 a0 a1 false h1)
theorem ai3 (n : Nat) (cA : gz) (k0 : Q0) (k : oa) (hk : rI k0 k) {J0 : Q1} {j0 : yR} (h0 : ES J0 j0) (a0 : Int) (a1 : Int) (h : Heap) : (WJ n cA k0 J0) ⟨c8 [(p0, (.int .i64 a0)), (p1, (.int .i64 a1))], h⟩ = (L5 n cA k j0) a0 a1 h := by
  obtain rfl := fx2 hk
  obtain rfl := fx4 h0
  kernel_rfl
def aiL : Q1 := WJ n cA k0 (PP n cA k0 )
def LP (n : Nat) (cA : gz) (a0 : Int) (a1 : Int) (h : Heap) (k : oa) : CRes := L5 n cA k (Eu n cA k ) a0 a1 h
theorem ajp (n : Nat) (cA : gz) (k0 : Q0) (s : St) : D (eO [(vF, rN cA)]) qD n Ln (cX xO k0) (fun _ _ => .err) (cX xO k0) s = aiL n cA k0 s := by kernel_rfl
theorem aiE (n : Nat) (cA : gz) (a0 : Int) (a1 : Int) (h : Heap) (k0 : Q0) : W Lr xO [(vF, rN cA)] qD n Ln [(.int .i64 a0), (.int .i64 a1)] h k0 = LP n cA a0 a1 h (fun u0 h => k0 (.bool u0) h) := by
  let k : oa := fun u0 h => k0 (.bool u0) h
  have hk : rI k0 k := fun _ _ => rfl
  have hb : ∀ F : Tr AV → CRes, gG Lr [(.int .i64 a0), (.int .i64 a1)] .leaf F = F (c8 [(p0, (.int .i64 a0)), (p1, (.int .i64 a1))]) := fun F => by kernel_rfl
  exact (mC hb).trans ((ajp n cA k0 _).trans (ai3 n cA k0 k hk (aeR n cA k0 k hk ) a0 a1 h))
end
def qI (n : Nat) : gh := LP n (vu n)
abbrev eD := Int → Heap → (Bool → Heap → CRes) → CRes
abbrev nX := Bool → Heap → CRes
def nV (g : eD) : Wr := fun l h k => ph .i64 l fun a0 l => mq l (g a0 h fun u0 h => k (.bool u0) h)
def JG : dN := eO []
abbrev Ky (k0 : Q0) (k : nX) : Prop := ∀ u0 h, k0 (.bool u0) h = k u0 h
section
variable (n : Nat) (k0 : Q0) (k : nX)
def M7 (n : Nat) (k0 : Q0) : Q1 := (bS (JG ) qT GO (bS (JG ) qT Gs (cX qN k0)))
def Be (n : Nat) (k : nX) (a0 : Int) (h : Heap) : CRes :=
 k (jk (eqF a0 a0)) h
theorem abU (n : Nat) (k0 : Q0) (k : nX) (hk : Ky k0 k) (a0 : Int) (h : Heap) : (M7 n k0 ) ⟨c8 [(p0, (.int .i64 a0))], h⟩ = (Be n k ) a0 h := by
  obtain rfl := fx2 hk
  kernel_rfl
def abW : Q1 := M7 n k0
def Bl (n : Nat) (a0 : Int) (h : Heap) (k : nX) : CRes := Be n k a0 h
theorem abI (n : Nat) (k0 : Q0) (s : St) : D (eO []) qT n A4 (cX qN k0) (fun _ _ => .err) (cX qN k0) s = abW n k0 s := by kernel_rfl
theorem abC (n : Nat) (a0 : Int) (h : Heap) (k0 : Q0) : W A2 qN [] qT n A4 [(.int .i64 a0)] h k0 = Bl n a0 h (fun u0 h => k0 (.bool u0) h) := by
  let k : nX := fun u0 h => k0 (.bool u0) h
  have hk : Ky k0 k := fun _ _ => rfl
  have hb : ∀ F : Tr AV → CRes, gG A2 [(.int .i64 a0)] .leaf F = F (c8 [(p0, (.int .i64 a0))]) := fun F => by kernel_rfl
  exact (mC hb).trans ((abI n k0 _).trans (abU n k0 k hk a0 h))
end
def lZ (n : Nat) : eD := Bl n
abbrev dM := AV → Int → Heap → (Int → Bool → Heap → CRes) → CRes
abbrev ez := Int → Bool → Heap → CRes
def gy (g : dM) : Wr := fun l h k => lM l fun a0 l => ph .i64 l fun a1 l => mq l (g a0 a1 h fun u0 u1 h => k (.tuple [(.int .i64 u0), (.bool u1)]) h)
def dJ (bT : gh) (aZ : eD) : dN := eO [(xM, tt bT), (qR, nV aZ)]
abbrev eH (k0 : Q0) (k : ez) : Prop := ∀ u0 u1 h, k0 (.tuple [(.int .i64 u0), (.bool u1)]) h = k u0 u1 h
abbrev kp : Type := Int → Bool → Heap → CRes
abbrev mP (J : Q1) (j : kp) : Prop := ∀ v31 v53 h, J ⟨c8 [(p31, (.int .i64 v31)), (p53, (.bool v53))], h⟩ = j v31 v53 h
abbrev kg : Type := AV → Int → Int → Int → Heap → CRes
abbrev mS (J : Q1) (j : kg) : Prop := ∀ v0 v1 v6 v7 h, J ⟨c8 [(p0, v0), (p1, (.int .i64 v1)), (p6, (.int .i64 v6)), (p7, (.int .i64 v7))], h⟩ = j v0 v1 v6 v7 h
abbrev eX : Type := AV → Int → Int → Int → Int → Heap → CRes
abbrev kh (J : Q1) (j : eX) : Prop := ∀ v0 v1 v6 v7 v8 h, J ⟨c8 [(p0, v0), (p1, (.int .i64 v1)), (p6, (.int .i64 v6)), (p7, (.int .i64 v7)), (p8, (.int .i64 v8))], h⟩ = j v0 v1 v6 v7 v8 h
section
variable (n : Nat) (bT : gh) (aZ : eD) (k0 : Q0) (k : ez)
def su (n : Nat) (bT : gh) (aZ : eD) (k0 : Q0) : Q1 := (bS (dJ bT aZ) dl sB (cX jd k0))
def mQ (n : Nat) (bT : gh) (aZ : eD) (k : ez) (v31 : Int) (v53 : Bool) (h : Heap) : CRes :=
 k v31 v53 h
theorem Dp (hk : eH k0 k) : mP (su n bT aZ k0 ) (mQ n bT aZ k ) := by
  obtain rfl := fx3 hk
  intro v31 v53 h
  kernel_rfl
def sE : Q1 := su n bT aZ k0
def mO : kp := mQ n bT aZ k
theorem Dj (hk : eH k0 k) : mP (sE n bT aZ k0 ) (mO n bT aZ k ) := Dp n bT aZ k0 k hk
def so (n : Nat) (bT : gh) (aZ : eD) (k0 : Q0) (J0 : Q1) : Q1 := (bS (dJ bT aZ) dl sy (fun s => da rO s J0))
def mL (n : Nat) (bT : gh) (aZ : eD) (k : ez) (j0 : kp) (v0 : AV) (v1 : Int) (v6 : Int) (v7 : Int) (h : Heap) : CRes :=
 ifB (ltF v7 v6)
 (Q6 .i64 1 h v0 v7 fun x1 x2 =>
 ifB (eqF x2 v1)
 (j0 v7 true h)
 (Q6 .i64 1 h v0 v7 fun x3 x4 =>
 aZ x4 h fun x5 h6 =>
 ifB x5
 (aZ v1 h6 fun x7 h8 =>
 j0 v7 x7 h8)
 (j0 v7 false h6)))
 (j0 v7 false h)
theorem Dd (hk : eH k0 k) {J0 : Q1} {j0 : kp} (h0 : mP J0 j0) : mS (so n bT aZ k0 J0) (mL n bT aZ k j0) := by
  obtain rfl := fx3 hk
  obtain rfl := fx3 h0
  intro v0 v1 v6 v7 h
  kernel_rfl
def rU : Q1 := so n bT aZ k0 (sE n bT aZ k0 )
def jZ : kg := mL n bT aZ k (mO n bT aZ k )
theorem Dw (hk : eH k0 k) : mS (rU n bT aZ k0 ) (jZ n bT aZ k ) := Dd n bT aZ k0 k hk (Dj n bT aZ k0 k hk )
def rT (n : Nat) (bT : gh) (aZ : eD) (k0 : Q0) (J1 : Q1) (J2 : Q1) : Q1 := (bS (dJ bT aZ) dl sA (fun s => eK (.t p15) s (bS (dJ bT aZ) dl sw (bS (dJ bT aZ) dl si (fun s => eK (.t p27) s (bS (dJ bT aZ) dl r8 (fun s => da kd s J2)) (bS (dJ bT aZ) dl r9 (fun s => da kd s J2))))) (fun s => da sg s J1)))
def ki (n : Nat) (bT : gh) (aZ : eD) (k : ez) (j1 : kg) (j2 : eX) (v0 : AV) (v1 : Int) (v6 : Int) (v7 : Int) (v8 : Int) (h : Heap) : CRes :=
 ifB (ltF v7 v8)
 (lU .i64 v7 v8 fun x9 =>
 BG .u64 x9 fun x10 =>
 shrK .u64 x10 1 fun x11 =>
 BG .i64 x11 fun x12 =>
 Q6 .i64 1 h v0 x12 fun x13 x14 =>
 bT x14 v1 h fun x15 h16 =>
 ifB x15
 (lU .i64 x12 1 fun x17 =>
 j2 v0 v1 v6 x17 v8 h16)
 (j2 v0 v1 v6 v7 x12 h16))
 (j1 v0 v1 v6 v7 h)
theorem Dk (hk : eH k0 k) {J1 : Q1} {j1 : kg} (h1 : mS J1 j1) {J2 : Q1} {j2 : eX} (h2 : kh J2 j2) : kh (rT n bT aZ k0 J1 J2) (ki n bT aZ k j1 j2) := by
  obtain rfl := fx3 hk
  obtain rfl := fx5 h1
  obtain rfl := fx6 h2
  intro v0 v1 v6 v7 v8 h
  kernel_rfl
def sa (m : Nat) : Q1 := Nat.rec (motive := fun _ => Q1) (fun _ => .err) (fun _ ih => rT n bT aZ k0 (rU n bT aZ k0 ) ih) m
def ig (m : Nat) : eX := Nat.rec (motive := fun _ => eX) (fun _ _ _ _ _ _ => .err) (fun _ ih => ki n bT aZ k (jZ n bT aZ k ) ih) m
theorem Db (m : Nat) : ig n bT aZ k (m + 1) = ki n bT aZ k (jZ n bT aZ k ) (ig n bT aZ k m) := rfl
theorem Dm (hk : eH k0 k) (m : Nat) : kh (sa n bT aZ k0 m) (ig n bT aZ k m) := by
  induction m with
  | zero => intro v0 v1 v6 v7 v8 h; rfl
  | succ m ih => exact Dk n bT aZ k0 k hk (Dw n bT aZ k0 k hk ) ih
def tF (n : Nat) (bT : gh) (aZ : eD) (k0 : Q0) (J2 : Q1) : Q1 := (bS (dJ bT aZ) dl sj (bS (dJ bT aZ) dl sh (bS (dJ bT aZ) dl sF (fun s => da kd s J2))))
def nK (n : Nat) (bT : gh) (aZ : eD) (k : ez) (j2 : eX) (a0 : AV) (a1 : Int) (h : Heap) : CRes :=
 jb a0 fun x0 =>
 j2 a0 a1 x0 0 x0 h
theorem F3 (n : Nat) (bT : gh) (aZ : eD) (k0 : Q0) (k : ez) (hk : eH k0 k) {J2 : Q1} {j2 : eX} (h2 : kh J2 j2) (a0 : AV) (a1 : Int) (h : Heap) : (tF n bT aZ k0 J2) ⟨c8 [(p0, a0), (p1, (.int .i64 a1))], h⟩ = (nK n bT aZ k j2) a0 a1 h := by
  obtain rfl := fx3 hk
  obtain rfl := fx6 h2
  kernel_rfl
def FR : Q1 := tF n bT aZ k0 (sa n bT aZ k0 n)
def nm (n : Nat) (bT : gh) (aZ : eD) (a0 : AV) (a1 : Int) (h : Heap) (k : ez) : CRes := nK n bT aZ k (ig n bT aZ k n) a0 a1 h
theorem Fn (n : Nat) (bT : gh) (aZ : eD) (k0 : Q0) (s : St) : D (eO [(xM, tt bT), (qR, nV aZ)]) dl n nu (cX jd k0) (fun _ _ => .err) (cX jd k0) s = FR n bT aZ k0 s := by kernel_rfl
theorem EB (n : Nat) (bT : gh) (aZ : eD) (a0 : AV) (a1 : Int) (h : Heap) (k0 : Q0) : W nL jd [(xM, tt bT), (qR, nV aZ)] dl n nu [a0, (.int .i64 a1)] h k0 = nm n bT aZ a0 a1 h (fun u0 u1 h => k0 (.tuple [(.int .i64 u0), (.bool u1)]) h) := by
  let k : ez := fun u0 u1 h => k0 (.tuple [(.int .i64 u0), (.bool u1)]) h
  have hk : eH k0 k := fun _ _ _ => rfl
  have hb : ∀ F : Tr AV → CRes, gG nL [a0, (.int .i64 a1)] .leaf F = F (c8 [(p0, a0), (p1, (.int .i64 a1))]) := fun F => by kernel_rfl
  exact (mC hb).trans ((Fn n bT aZ k0 _).trans (F3 n bT aZ k0 k hk (Dm n bT aZ k0 k hk n) a0 a1 h))
end
def gF (n : Nat) : dM := nm n (qI n) (lZ n)
abbrev dA := AV → Int → Int → Heap → (Heap → CRes) → CRes
abbrev ot := Heap → CRes
def ov (g : dA) : Wr := fun l h k => lM l fun a0 l => ph .i64 l fun a1 l => ph .i64 l fun a2 l => mq l (g a0 a1 a2 h fun h => k (.tuple []) h)
def MV (cE : dM) (cV : Wr) : dN := eO [(i6, gy cE), (lE, cV)]
abbrev MM (k0 : Q0) (k : ot) : Prop := ∀ h, k0 (.tuple []) h = k h
section
variable (n : Nat) (cE : dM) (cV : Wr) (k0 : Q0) (k : ot)
def Ob (n : Nat) (cE : dM) (cV : Wr) (k0 : Q0) : Q1 := (bS (MV cE cV) sq JY (bS (MV cE cV) sq KM (cX rZ k0)))
def Da (n : Nat) (cE : dM) (cV : Wr) (k : ot) (a0 : AV) (a1 : Int) (a2 : Int) (h : Heap) : CRes :=
 nfa 2 a0 fun x0 =>
 KG 1 7 x0 a2 fun x1 =>
 gJ h x1 1 false fun x2 =>
 cE x2 a1 h fun x3 x4 h5 =>
 nfa 2 a0 fun x6 =>
 KG 1 7 x6 a2 fun x7 =>
 gJ h5 x7 1 false fun x8 =>
 pR h5 1 [(.int .i64 0)] [(0, 1, (.int .i64 a1))] fun x9 h10 =>
 cV [x8, (.int .i64 x3), x9] h10 fun x11 h12 =>
 nfa 2 a0 fun x13 =>
 KG 1 7 x13 a2 fun x14 =>
 lR h12 x14 1 x11 fun h15 =>
 k h15
theorem adK (n : Nat) (cE : dM) (cV : Wr) (k0 : Q0) (k : ot) (hk : MM k0 k) (a0 : AV) (a1 : Int) (a2 : Int) (h : Heap) : (Ob n cE cV k0 ) ⟨c8 [(p0, a0), (p1, (.int .i64 a1)), (p2, (.int .i64 a2))], h⟩ = (Da n cE cV k ) a0 a1 a2 h := by
  obtain rfl := fx1 hk
  kernel_rfl
def aeg : Q1 := Ob n cE cV k0
def Dg (n : Nat) (cE : dM) (cV : Wr) (a0 : AV) (a1 : Int) (a2 : Int) (h : Heap) (k : ot) : CRes := Da n cE cV k a0 a1 a2 h
theorem ad9 (n : Nat) (cE : dM) (cV : Wr) (k0 : Q0) (s : St) : D (eO [(i6, gy cE), (lE, cV)]) sq n C8 (cX rZ k0) (fun _ _ => .err) (cX rZ k0) s = aeg n cE cV k0 s := by kernel_rfl
theorem adQ (n : Nat) (cE : dM) (cV : Wr) (a0 : AV) (a1 : Int) (a2 : Int) (h : Heap) (k0 : Q0) : W Dc rZ [(i6, gy cE), (lE, cV)] sq n C8 [a0, (.int .i64 a1), (.int .i64 a2)] h k0 = Dg n cE cV a0 a1 a2 h (fun h => k0 (.tuple []) h) := by
  let k : ot := fun h => k0 (.tuple []) h
  have hk : MM k0 k := fun _ => rfl
  have hb : ∀ F : Tr AV → CRes, gG Dc [a0, (.int .i64 a1), (.int .i64 a2)] .leaf F = F (c8 [(p0, a0), (p1, (.int .i64 a1)), (p2, (.int .i64 a2))]) := fun F => by kernel_rfl
  exact (mC hb).trans ((ad9 n cE cV k0 _).trans (adK n cE cV k0 k hk a0 a1 a2 h))
end
def lD (n : Nat) : dA := Dg n (gF n) (B5 nM)
abbrev fB := AV → Int → Heap → (Int → Int → Heap → CRes) → CRes
abbrev ge := Int → Int → Heap → CRes
def nU (g : fB) : Wr := fun l h k => lM l fun a0 l => ph .i64 l fun a1 l => mq l (g a0 a1 h fun u0 u1 h => k (.tuple [(.int .i64 u0), (.int .i64 u1)]) h)
def dI (am : cQ) (aq : cT) (aD : dA) : dN := eO [(jr, iL am), (ly, jz aq), (rV, ov aD)]
abbrev eL (k0 : Q0) (k : ge) : Prop := ∀ u0 u1 h, k0 (.tuple [(.int .i64 u0), (.int .i64 u1)]) h = k u0 u1 h
abbrev sM : Type := AV → Int → Int → Heap → CRes
abbrev yI (J : Q1) (j : sM) : Prop := ∀ v0 v1 v7 h, J ⟨c8 [(p0, v0), (p1, (.int .i64 v1)), (p7, (.int .i64 v7))], h⟩ = j v0 v1 v7 h
abbrev kX : Type := AV → Int → Int → Int → Heap → CRes
abbrev sH (J : Q1) (j : kX) : Prop := ∀ v0 v1 v6 v7 h, J ⟨c8 [(p0, v0), (p1, (.int .i64 v1)), (p6, (.int .i64 v6)), (p7, (.int .i64 v7))], h⟩ = j v0 v1 v6 v7 h
abbrev sR : Type := AV → Int → Int → Heap → CRes
abbrev yk (J : Q1) (j : sR) : Prop := ∀ v0 v1 v6 h, J ⟨c8 [(p0, v0), (p1, (.int .i64 v1)), (p6, (.int .i64 v6))], h⟩ = j v0 v1 v6 h
abbrev sG : Type := AV → Int → Int → Bool → Heap → CRes
abbrev yr (J : Q1) (j : sG) : Prop := ∀ v0 v1 v6 v30 h, J ⟨c8 [(p0, v0), (p1, (.int .i64 v1)), (p6, (.int .i64 v6)), (p30, (.bool v30))], h⟩ = j v0 v1 v6 v30 h
abbrev iv : Type := AV → Int → Int → Heap → CRes
abbrev om (J : Q1) (j : iv) : Prop := ∀ v0 v1 v6 h, J ⟨c8 [(p0, v0), (p1, (.int .i64 v1)), (p6, (.int .i64 v6))], h⟩ = j v0 v1 v6 h
abbrev sQ : Type := AV → Int → Bool → Heap → CRes
abbrev ym (J : Q1) (j : sQ) : Prop := ∀ v0 v1 v17 h, J ⟨c8 [(p0, v0), (p1, (.int .i64 v1)), (p17, (.bool v17))], h⟩ = j v0 v1 v17 h
section
variable (n : Nat) (am : cQ) (aq : cT) (aD : dA) (k0 : Q0) (k : ge)
def Gu (n : Nat) (am : cQ) (aq : cT) (aD : dA) (k0 : Q0) : Q1 := (bS (dI am aq aD) dv GH (bS (dI am aq aD) dv GZ (cX kV k0)))
def ys (n : Nat) (am : cQ) (aq : cT) (aD : dA) (k : ge) (v0 : AV) (v1 : Int) (v7 : Int) (h : Heap) : CRes :=
 Z3 9 h v0 1 false fun x19 x20 =>
 abm h (.cell .int) x20 (.int .i64 v7) (.int .i64 v1) fun h21 =>
 k v7 0 h21
theorem Ya (hk : eL k0 k) : yI (Gu n am aq aD k0 ) (ys n am aq aD k ) := by
  obtain rfl := fx3 hk
  intro v0 v1 v7 h
  kernel_rfl
def GX : Q1 := Gu n am aq aD k0
def sK : sM := ys n am aq aD k
theorem Ym (hk : eL k0 k) : yI (GX n am aq aD k0 ) (sK n am aq aD k ) := Ya n am aq aD k0 k hk
def Hn (n : Nat) (am : cQ) (aq : cT) (aD : dA) (k0 : Q0) (J0 : Q1) (J1 : Q1) : Q1 := (bS (dI am aq aD) dv Hj (fun s => eK (.t p57) s (bS (dI am aq aD) dv GM (bS (dI am aq aD) dv GY (fun s => da yz s J1))) (fun s => da G4 s J0)))
def sN (n : Nat) (am : cQ) (aq : cT) (aD : dA) (k : ge) (j0 : sM) (j1 : kX) (v0 : AV) (v1 : Int) (v6 : Int) (v7 : Int) (h : Heap) : CRes :=
 ifB (ltF v1 v6)
 (Yl .i64 v6 1 fun x22 =>
 aiv .i64 1 x22 fun x23 =>
 lU .i64 v7 x23 fun x24 =>
 aD v0 x24 x22 h fun h25 =>
 j1 v0 v1 x22 v7 h25)
 (j0 v0 v1 v7 h)
theorem Yb (hk : eL k0 k) {J0 : Q1} {j0 : sM} (h0 : yI J0 j0) {J1 : Q1} {j1 : kX} (h1 : sH J1 j1) : sH (Hn n am aq aD k0 J0 J1) (sN n am aq aD k j0 j1) := by
  obtain rfl := fx3 hk
  obtain rfl := fx4 h0
  obtain rfl := fx5 h1
  intro v0 v1 v6 v7 h
  kernel_rfl
def G9 (m : Nat) : Q1 := Nat.rec (motive := fun _ => Q1) (fun _ => .err) (fun _ ih => Hn n am aq aD k0 (GX n am aq aD k0 ) ih) m
def ol (m : Nat) : kX := Nat.rec (motive := fun _ => kX) (fun _ _ _ _ _ => .err) (fun _ ih => sN n am aq aD k (sK n am aq aD k ) ih) m
theorem Yc (m : Nat) : ol n am aq aD k (m + 1) = sN n am aq aD k (sK n am aq aD k ) (ol n am aq aD k m) := rfl
theorem Yf (hk : eL k0 k) (m : Nat) : sH (G9 n am aq aD k0 m) (ol n am aq aD k m) := by
  induction m with
  | zero => intro v0 v1 v6 v7 h; rfl
  | succ m ih => exact Yb n am aq aD k0 k hk (Ym n am aq aD k0 k hk ) ih
def Hc (n : Nat) (am : cQ) (aq : cT) (aD : dA) (k0 : Q0) (J1 : Q1) : Q1 := (bS (dI am aq aD) dv Hq (fun s => eK (.t p34) s (bS (dI am aq aD) dv Ho (cX kV k0)) (bS (dI am aq aD) dv Hf (bS (dI am aq aD) dv G2 (fun s => da yz s J1)))))
def yE (n : Nat) (am : cQ) (aq : cT) (aD : dA) (k : ge) (j1 : kX) (v0 : AV) (v1 : Int) (v6 : Int) (h : Heap) : CRes :=
 ifB (ltF 6 v6)
 (k 0 90 h)
 (nfa 2 v0 fun x2 =>
 KG 1 7 x2 v6 fun x3 =>
 gJ h x3 1 false fun x4 =>
 Q6 .i64 1 h x4 0 fun x5 x6 =>
 nfa 2 v0 fun x7 =>
 KG 1 7 x7 v6 fun x8 =>
 gJ h x8 1 false fun x9 =>
 aq x9 0 1 h fun x10 h11 =>
 nfa 2 v0 fun x12 =>
 KG 1 7 x12 v6 fun x13 =>
 lR h11 x13 1 x10 fun h14 =>
 j1 v0 v1 v6 x6 h14)
theorem X9 (hk : eL k0 k) {J1 : Q1} {j1 : kX} (h1 : sH J1 j1) : yk (Hc n am aq aD k0 J1) (yE n am aq aD k j1) := by
  obtain rfl := fx3 hk
  obtain rfl := fx5 h1
  intro v0 v1 v6 h
  kernel_rfl
def G3 : Q1 := Hc n am aq aD k0 (G9 n am aq aD k0 n)
def yF : sR := yE n am aq aD k (ol n am aq aD k n)
theorem Yd (hk : eL k0 k) : yk (G3 n am aq aD k0 ) (yF n am aq aD k ) := X9 n am aq aD k0 k hk (Yf n am aq aD k0 k hk n)
def Hm (n : Nat) (am : cQ) (aq : cT) (aD : dA) (k0 : Q0) (J2 : Q1) (J3 : Q1) : Q1 := (fun s => eK (.t p30) s (bS (dI am aq aD) dv GC (fun s => da yq s J3)) (fun s => da GG s J2))
def yt (n : Nat) (am : cQ) (aq : cT) (aD : dA) (k : ge) (j2 : sR) (j3 : iv) (v0 : AV) (v1 : Int) (v6 : Int) (v30 : Bool) (h : Heap) : CRes :=
 ifB v30
 (lU .i64 v6 1 fun x26 =>
 j3 v0 v1 x26 h)
 (j2 v0 v1 v6 h)
theorem Yk (hk : eL k0 k) {J2 : Q1} {j2 : sR} (h2 : yk J2 j2) {J3 : Q1} {j3 : iv} (h3 : om J3 j3) : yr (Hm n am aq aD k0 J2 J3) (yt n am aq aD k j2 j3) := by
  obtain rfl := fx3 hk
  obtain rfl := fx4 h2
  obtain rfl := fx4 h3
  intro v0 v1 v6 v30 h
  kernel_rfl
def GA (J3 : Q1) : Q1 := Hm n am aq aD k0 (G3 n am aq aD k0 ) J3
def sT (j3 : iv) : sG := yt n am aq aD k (yF n am aq aD k ) j3
theorem X2 (hk : eL k0 k) {J3 : Q1} {j3 : iv} (h3 : om J3 j3) : yr (GA n am aq aD k0 J3) (sT n am aq aD k j3) := Yk n am aq aD k0 k hk (Yd n am aq aD k0 k hk ) h3
def Hl (n : Nat) (am : cQ) (aq : cT) (aD : dA) (k0 : Q0) (J4 : Q1) : Q1 := (bS (dI am aq aD) dv FU (fun s => da He s J4))
def sS (n : Nat) (am : cQ) (aq : cT) (aD : dA) (k : ge) (j4 : sG) (v0 : AV) (v1 : Int) (v6 : Int) (h : Heap) : CRes :=
 ifB (jk (ltF 6 v6))
 (nfa 2 v0 fun x15 =>
 KG 1 7 x15 v6 fun x16 =>
 gJ h x16 1 false fun x17 =>
 jb x17 fun x18 =>
 j4 v0 v1 v6 (eqF x18 0) h)
 (j4 v0 v1 v6 false h)
theorem Ye (hk : eL k0 k) {J4 : Q1} {j4 : sG} (h4 : yr J4 j4) : om (Hl n am aq aD k0 J4) (sS n am aq aD k j4) := by
  obtain rfl := fx3 hk
  obtain rfl := fx5 h4
  intro v0 v1 v6 h
  kernel_rfl
def Gv (m : Nat) : Q1 := Nat.rec (motive := fun _ => Q1) (fun _ => .err) (fun _ ih => Hl n am aq aD k0 (GA n am aq aD k0 ih)) m
def oj (m : Nat) : iv := Nat.rec (motive := fun _ => iv) (fun _ _ _ _ => .err) (fun _ ih => sS n am aq aD k (sT n am aq aD k ih)) m
theorem Yh (m : Nat) : oj n am aq aD k (m + 1) = sS n am aq aD k (sT n am aq aD k (oj n am aq aD k m)) := rfl
theorem Yg (hk : eL k0 k) (m : Nat) : om (Gv n am aq aD k0 m) (oj n am aq aD k m) := by
  induction m with
  | zero => intro v0 v1 v6 h; rfl
  | succ m ih => exact Ye n am aq aD k0 k hk (X2 n am aq aD k0 k hk ih)
def GF (n : Nat) (am : cQ) (aq : cT) (aD : dA) (k0 : Q0) (J3 : Q1) : Q1 := (bS (dI am aq aD) dv EQ (fun s => eK (.t p11) s (bS (dI am aq aD) dv F0 (cX kV k0)) (bS (dI am aq aD) dv EA (fun s => da yq s J3))))
def yx (n : Nat) (am : cQ) (aq : cT) (aD : dA) (k : ge) (j3 : iv) (v0 : AV) (v1 : Int) (v17 : Bool) (h : Heap) : CRes :=
 ifB v17
 (k 0 2 h)
 (j3 v0 v1 v1 h)
theorem Yo (hk : eL k0 k) {J3 : Q1} {j3 : iv} (h3 : om J3 j3) : ym (GF n am aq aD k0 J3) (yx n am aq aD k j3) := by
  obtain rfl := fx3 hk
  obtain rfl := fx4 h3
  intro v0 v1 v17 h
  kernel_rfl
def Gq : Q1 := GF n am aq aD k0 (Gv n am aq aD k0 n)
def yD : sQ := yx n am aq aD k (oj n am aq aD k n)
theorem X3 (hk : eL k0 k) : ym (Gq n am aq aD k0 ) (yD n am aq aD k ) := Yo n am aq aD k0 k hk (Yg n am aq aD k0 k hk n)
def MN (n : Nat) (am : cQ) (aq : cT) (aD : dA) (k0 : Q0) (J5 : Q1) : Q1 := (bS (dI am aq aD) dv ED (bS (dI am aq aD) dv Fu (fun s => eK (.t p8) s (bS (dI am aq aD) dv FY (cX kV k0)) (bS (dI am aq aD) dv EC (fun s => da G8 s J5)))))
def A1 (n : Nat) (am : cQ) (aq : cT) (aD : dA) (k : ge) (j5 : sQ) (a0 : AV) (a1 : Int) (h : Heap) : CRes :=
 am a0 h fun x0 h1 =>
 ifB x0
 (k 0 1 h1)
 (ifB (ltF a1 0)
 (j5 a0 a1 true h1)
 (j5 a0 a1 (ltF 6 a1) h1))
theorem ab1 (n : Nat) (am : cQ) (aq : cT) (aD : dA) (k0 : Q0) (k : ge) (hk : eL k0 k) {J5 : Q1} {j5 : sQ} (h5 : ym J5 j5) (a0 : AV) (a1 : Int) (h : Heap) : (MN n am aq aD k0 J5) ⟨c8 [(p0, a0), (p1, (.int .i64 a1))], h⟩ = (A1 n am aq aD k j5) a0 a1 h := by
  obtain rfl := fx3 hk
  obtain rfl := fx4 h5
  kernel_rfl
def abG : Q1 := MN n am aq aD k0 (Gq n am aq aD k0 )
def Bu (n : Nat) (am : cQ) (aq : cT) (aD : dA) (a0 : AV) (a1 : Int) (h : Heap) (k : ge) : CRes := A1 n am aq aD k (yD n am aq aD k ) a0 a1 h
theorem abB (n : Nat) (am : cQ) (aq : cT) (aD : dA) (k0 : Q0) (s : St) : D (eO [(jr, iL am), (ly, jz aq), (rV, ov aD)]) dv n Bq (cX kV k0) (fun _ _ => .err) (cX kV k0) s = abG n am aq aD k0 s := by kernel_rfl
theorem ab9 (n : Nat) (am : cQ) (aq : cT) (aD : dA) (a0 : AV) (a1 : Int) (h : Heap) (k0 : Q0) : W Bv kV [(jr, iL am), (ly, jz aq), (rV, ov aD)] dv n Bq [a0, (.int .i64 a1)] h k0 = Bu n am aq aD a0 a1 h (fun u0 u1 h => k0 (.tuple [(.int .i64 u0), (.int .i64 u1)]) h) := by
  let k : ge := fun u0 u1 h => k0 (.tuple [(.int .i64 u0), (.int .i64 u1)]) h
  have hk : eL k0 k := fun _ _ _ => rfl
  have hb : ∀ F : Tr AV → CRes, gG Bv [a0, (.int .i64 a1)] .leaf F = F (c8 [(p0, a0), (p1, (.int .i64 a1))]) := fun F => by kernel_rfl
  exact (mC hb).trans ((abB n am aq aD k0 _).trans (ab1 n am aq aD k0 k hk (X3 n am aq aD k0 k hk ) a0 a1 h))
end
def lY (n : Nat) : fB := Bu n (jo n) (gp n) (lD n)
/-! cofferdam/colour.Frame -/
abbrev i8 := Int → Int → Int → Heap → (Int → Int → Heap → CRes) → CRes
abbrev pW := Int → Int → Heap → CRes
def vO (g : i8) : Wr := fun l h k => ph .i64 l fun a0 l => ph .i64 l fun a1 l => ph .i64 l fun a2 l => mq l (g a0 a1 a2 h fun u0 u1 h => k (.tuple [(.int .i64 u0), (.int .i64 u1)]) h)
def xR (aJ : de) (bJ : eM) : dN := eO [(iR, ic aJ), (qX, oV bJ)]
abbrev tp (k0 : Q0) (k : pW) : Prop := ∀ u0 u1 h, k0 (.tuple [(.int .i64 u0), (.int .i64 u1)]) h = k u0 u1 h
abbrev z8 : Type := Int → Int → Int → Bool → Heap → CRes
abbrev Ht (J : Q1) (j : z8) : Prop := ∀ v0 v1 v2 v26 h, J ⟨c8 [(p0, (.int .i64 v0)), (p1, (.int .i64 v1)), (p2, (.int .i64 v2)), (p26, (.bool v26))], h⟩ = j v0 v1 v2 v26 h
abbrev AJ : Type := Int → Int → Int → Bool → Heap → CRes
abbrev Iu (J : Q1) (j : AJ) : Prop := ∀ v0 v1 v2 v17 h, J ⟨c8 [(p0, (.int .i64 v0)), (p1, (.int .i64 v1)), (p2, (.int .i64 v2)), (p17, (.bool v17))], h⟩ = j v0 v1 v2 v17 h
section
variable (n : Nat) (aJ : de) (bJ : eM) (k0 : Q0) (k : pW)
def Um (n : Nat) (aJ : de) (bJ : eM) (k0 : Q0) : Q1 := (fun s => eK (.t p26) s (bS (xR aJ bJ) pL Sa (cX vR k0)) (bS (xR aJ bJ) pL TU (cX vR k0)))
def IE (n : Nat) (aJ : de) (bJ : eM) (k : pW) (v0 : Int) (v1 : Int) (v2 : Int) (v26 : Bool) (h : Heap) : CRes :=
 ifB v26
 (k 0 2 h)
 (OL .i64 v1 v2 fun x9 =>
 lU .i64 x9 v0 fun x10 =>
 k x10 0 h)
theorem agE (hk : tp k0 k) : Ht (Um n aJ bJ k0 ) (IE n aJ bJ k ) := by
  obtain rfl := fx3 hk
  intro v0 v1 v2 v26 h
  kernel_rfl
def TW : Q1 := Um n aJ bJ k0
def IB : z8 := IE n aJ bJ k
theorem ahc (hk : tp k0 k) : Ht (TW n aJ bJ k0 ) (IB n aJ bJ k ) := agE n aJ bJ k0 k hk
def SL (n : Nat) (aJ : de) (bJ : eM) (k0 : Q0) (J1 : Q1) : Q1 := (bS (xR aJ bJ) pL SR (fun s => da SG s J1))
def I3 (n : Nat) (aJ : de) (bJ : eM) (k : pW) (j1 : z8) (v0 : Int) (v1 : Int) (v2 : Int) (v17 : Bool) (h : Heap) : CRes :=
 ifB v17
 (j1 v0 v1 v2 true h)
 (Yl .i64 4095 v0 fun x5 =>
 quoK .i64 x5 v2 fun x6 =>
 aJ v1 0 x6 h fun x7 h8 =>
 j1 v0 v1 v2 (jk x7) h8)
theorem agF (hk : tp k0 k) {J1 : Q1} {j1 : z8} (h1 : Ht J1 j1) : Iu (SL n aJ bJ k0 J1) (I3 n aJ bJ k j1) := by
  obtain rfl := fx3 hk
  obtain rfl := fx5 h1
  intro v0 v1 v2 v17 h
  kernel_rfl
def Uv : Q1 := SL n aJ bJ k0 (TW n aJ bJ k0 )
def H2 : AJ := I3 n aJ bJ k (IB n aJ bJ k )
theorem agY (hk : tp k0 k) : Iu (Uv n aJ bJ k0 ) (H2 n aJ bJ k ) := agF n aJ bJ k0 k hk (ahc n aJ bJ k0 k hk )
def Zj (n : Nat) (aJ : de) (bJ : eM) (k0 : Q0) (J0 : Q1) : Q1 := (bS (xR aJ bJ) pL SS (bS (xR aJ bJ) pL T3 (fun s => da SQ s J0)))
def O3 (n : Nat) (aJ : de) (bJ : eM) (k : pW) (j0 : AJ) (a0 : Int) (a1 : Int) (a2 : Int) (h : Heap) : CRes :=
 bJ a2 h fun x0 h1 =>
 ifB (jk x0)
 (j0 a0 a1 a2 true h1)
 (Yl .i64 a2 1 fun x2 =>
 aJ a0 0 x2 h1 fun x3 h4 =>
 j0 a0 a1 a2 (jk x3) h4)
theorem ajU (n : Nat) (aJ : de) (bJ : eM) (k0 : Q0) (k : pW) (hk : tp k0 k) {J0 : Q1} {j0 : AJ} (h0 : Iu J0 j0) (a0 : Int) (a1 : Int) (a2 : Int) (h : Heap) : (Zj n aJ bJ k0 J0) ⟨c8 [(p0, (.int .i64 a0)), (p1, (.int .i64 a1)), (p2, (.int .i64 a2))], h⟩ = (O3 n aJ bJ k j0) a0 a1 a2 h := by
  obtain rfl := fx3 hk
  obtain rfl := fx5 h0
  kernel_rfl
def ak4 : Q1 := Zj n aJ bJ k0 (Uv n aJ bJ k0 )
def OR (n : Nat) (aJ : de) (bJ : eM) (a0 : Int) (a1 : Int) (a2 : Int) (h : Heap) (k : pW) : CRes := O3 n aJ bJ k (H2 n aJ bJ k ) a0 a1 a2 h
theorem akf (n : Nat) (aJ : de) (bJ : eM) (k0 : Q0) (s : St) : D (eO [(iR, ic aJ), (qX, oV bJ)]) pL n Pe (cX vR k0) (fun _ _ => .err) (cX vR k0) s = ak4 n aJ bJ k0 s := by kernel_rfl
theorem ajE (n : Nat) (aJ : de) (bJ : eM) (a0 : Int) (a1 : Int) (a2 : Int) (h : Heap) (k0 : Q0) : W NN vR [(iR, ic aJ), (qX, oV bJ)] pL n Pe [(.int .i64 a0), (.int .i64 a1), (.int .i64 a2)] h k0 = OR n aJ bJ a0 a1 a2 h (fun u0 u1 h => k0 (.tuple [(.int .i64 u0), (.int .i64 u1)]) h) := by
  let k : pW := fun u0 u1 h => k0 (.tuple [(.int .i64 u0), (.int .i64 u1)]) h
  have hk : tp k0 k := fun _ _ _ => rfl
  have hb : ∀ F : Tr AV → CRes, gG NN [(.int .i64 a0), (.int .i64 a1), (.int .i64 a2)] .leaf F = F (c8 [(p0, (.int .i64 a0)), (p1, (.int .i64 a1)), (p2, (.int .i64 a2))]) := fun F => by kernel_rfl
  exact (mC hb).trans ((akf n aJ bJ k0 _).trans (ajU n aJ bJ k0 k hk (agY n aJ bJ k0 k hk ) a0 a1 a2 h))
end
def rQ (n : Nat) : i8 := OR n (js n) (q8 n)
abbrev dj := AV → Int → Int → Int → Heap → (AV → Int → Heap → CRes) → CRes
abbrev lw := AV → Int → Heap → CRes
def jh (g : dj) : Wr := fun l h k => lM l fun a0 l => ph .i64 l fun a1 l => ph .i64 l fun a2 l => ph .u8 l fun a3 l => mq l (g a0 a1 a2 a3 h fun u0 u1 h => k (.tuple [u0, (.int .i64 u1)]) h)
def eC (bD : fB) (cr : i8) : dN := eO [(qK, nU bD), (zu, vO cr)]
abbrev nT (k0 : Q0) (k : lw) : Prop := ∀ u0 u1 h, k0 (.tuple [u0, (.int .i64 u1)]) h = k u0 u1 h
abbrev tP : Type := AV → Heap → CRes
abbrev zH (J : Q1) (j : tP) : Prop := ∀ v12 h, J ⟨c8 [(p12, v12)], h⟩ = j v12 h
abbrev lr : Type := AV → Int → Int → Int → AV → Int → Int → Heap → CRes
abbrev tL (J : Q1) (j : lr) : Prop := ∀ v0 v1 v3 v10 v12 v31 v32 h, J ⟨c8 [(p0, v0), (p1, (.int .i64 v1)), (p3, (.int .u8 v3)), (p10, (.int .i64 v10)), (p12, v12), (p31, (.int .i64 v31)), (p32, (.int .i64 v32))], h⟩ = j v0 v1 v3 v10 v12 v31 v32 h
section
variable (n : Nat) (bD : fB) (cr : i8) (k0 : Q0) (k : lw)
def Kr (n : Nat) (bD : fB) (cr : i8) (k0 : Q0) : Q1 := (bS (eC bD cr) ec JT (cX mJ k0))
def zJ (n : Nat) (bD : fB) (cr : i8) (k : lw) (v12 : AV) (h : Heap) : CRes :=
 k v12 0 h
theorem Zt (hk : nT k0 k) : zH (Kr n bD cr k0 ) (zJ n bD cr k ) := by
  obtain rfl := fx3 hk
  intro v12 h
  kernel_rfl
def K2 : Q1 := Kr n bD cr k0
def tE : tP := zJ n bD cr k
theorem Zc (hk : nT k0 k) : zH (K2 n bD cr k0 ) (tE n bD cr k ) := Zt n bD cr k0 k hk
def JK (n : Nat) (bD : fB) (cr : i8) (k0 : Q0) (J0 : Q1) (J1 : Q1) : Q1 := (bS (eC bD cr) ec K4 (fun s => eK (.t p33) s (bS (eC bD cr) ec K1 (bS (eC bD cr) ec Kd (bS (eC bD cr) ec JO (fun s => eK (.t p54) s (bS (eC bD cr) ec JM (cX mJ k0)) (bS (eC bD cr) ec Ld (bS (eC bD cr) ec Kq (bS (eC bD cr) ec Kj (bS (eC bD cr) ec Lb (fun s => da zX s J1))))))))) (fun s => da Kx s J0)))
def tR (n : Nat) (bD : fB) (cr : i8) (k : lw) (j0 : tP) (j1 : lr) (v0 : AV) (v1 : Int) (v3 : Int) (v10 : Int) (v12 : AV) (v31 : Int) (v32 : Int) (h : Heap) : CRes :=
 ifB (ltF v32 v31)
 (Z3 1 h v0 1 false fun x8 x9 =>
 Q6 .i64 1 h x9 v1 fun x10 x11 =>
 lU .i64 v10 v32 fun x12 =>
 apt .i64 0 h v0 fun x13 x14 =>
 cr x11 x12 x14 h fun x15 x16 h17 =>
 ifB (jk (eqF x16 0))
 (k .nilslice x16 h17)
 (Z3 12 h17 v0 1 false fun x18 x19 =>
 abm h17 (.cell .int) x19 (.int .i64 x15) (.int .u8 v3) fun h20 =>
 nfa 13 v0 fun x21 =>
 KG 1 7 x21 v3 fun x22 =>
 ldI .i64 h20 x22 fun x23 =>
 lU .i64 x23 1 fun x24 =>
 nfa 13 v0 fun x25 =>
 KG 1 7 x25 v3 fun x26 =>
 lR h20 x26 1 (.int .i64 x24) fun h27 =>
 pR h27 1 [(.int .i64 0)] [(0, 1, (.int .i64 x15))] fun x28 h29 =>
 qk h29 1 v12 x28 fun x30 h31 =>
 lU .i64 v32 1 fun x32 =>
 j1 v0 v1 v3 v10 x30 v31 x32 h31))
 (j0 v12 h)
theorem Zd (hk : nT k0 k) {J0 : Q1} {j0 : tP} (h0 : zH J0 j0) {J1 : Q1} {j1 : lr} (h1 : tL J1 j1) : tL (JK n bD cr k0 J0 J1) (tR n bD cr k j0 j1) := by
  obtain rfl := fx3 hk
  obtain rfl := fx2 h0
  obtain rfl := fx8 h1
  intro v0 v1 v3 v10 v12 v31 v32 h
  kernel_rfl
def K9 (m : Nat) : Q1 := Nat.rec (motive := fun _ => Q1) (fun _ => .err) (fun _ ih => JK n bD cr k0 (K2 n bD cr k0 ) ih) m
def pq (m : Nat) : lr := Nat.rec (motive := fun _ => lr) (fun _ _ _ _ _ _ _ _ => .err) (fun _ ih => tR n bD cr k (tE n bD cr k ) ih) m
theorem Y0 (m : Nat) : pq n bD cr k (m + 1) = tR n bD cr k (tE n bD cr k ) (pq n bD cr k m) := rfl
theorem ZV (hk : nT k0 k) (m : Nat) : tL (K9 n bD cr k0 m) (pq n bD cr k m) := by
  induction m with
  | zero => intro v0 v1 v3 v10 v12 v31 v32 h; rfl
  | succ m ih => exact Zd n bD cr k0 k hk (Zc n bD cr k0 k hk ) ih
def N8 (n : Nat) (bD : fB) (cr : i8) (k0 : Q0) (J1 : Q1) : Q1 := (bS (eC bD cr) ec GJ (bS (eC bD cr) ec Gn (bS (eC bD cr) ec Gt (fun s => eK (.t p29) s (bS (eC bD cr) ec GI (cX mJ k0)) (bS (eC bD cr) ec GT (bS (eC bD cr) ec GQ (fun s => da zX s J1)))))))
def Dv (n : Nat) (bD : fB) (cr : i8) (k : lw) (j1 : lr) (a0 : AV) (a1 : Int) (a2 : Int) (a3 : Int) (h : Heap) : CRes :=
 Z3 11 h a0 1 false fun x0 x1 =>
 eld 1 h x1 a1 1 false fun x2 x3 =>
 bD x3 a2 h fun x4 x5 h6 =>
 ifB (jk (eqF x5 0))
 (k .nilslice 4 h6)
 (aiv .i64 1 a2 fun x7 =>
 j1 a0 a1 a3 x4 .nilslice x7 0 h6)
theorem adM (n : Nat) (bD : fB) (cr : i8) (k0 : Q0) (k : lw) (hk : nT k0 k) {J1 : Q1} {j1 : lr} (h1 : tL J1 j1) (a0 : AV) (a1 : Int) (a2 : Int) (a3 : Int) (h : Heap) : (N8 n bD cr k0 J1) ⟨c8 [(p0, a0), (p1, (.int .i64 a1)), (p2, (.int .i64 a2)), (p3, (.int .u8 a3))], h⟩ = (Dv n bD cr k j1) a0 a1 a2 a3 h := by
  obtain rfl := fx3 hk
  obtain rfl := fx8 h1
  kernel_rfl
def adI : Q1 := N8 n bD cr k0 (K9 n bD cr k0 n)
def Dq (n : Nat) (bD : fB) (cr : i8) (a0 : AV) (a1 : Int) (a2 : Int) (a3 : Int) (h : Heap) (k : lw) : CRes := Dv n bD cr k (pq n bD cr k n) a0 a1 a2 a3 h
theorem aec (n : Nat) (bD : fB) (cr : i8) (k0 : Q0) (s : St) : D (eO [(qK, nU bD), (zu, vO cr)]) ec n Du (cX mJ k0) (fun _ _ => .err) (cX mJ k0) s = adI n bD cr k0 s := by kernel_rfl
theorem ad5 (n : Nat) (bD : fB) (cr : i8) (a0 : AV) (a1 : Int) (a2 : Int) (a3 : Int) (h : Heap) (k0 : Q0) : W Dn mJ [(qK, nU bD), (zu, vO cr)] ec n Du [a0, (.int .i64 a1), (.int .i64 a2), (.int .u8 a3)] h k0 = Dq n bD cr a0 a1 a2 a3 h (fun u0 u1 h => k0 (.tuple [u0, (.int .i64 u1)]) h) := by
  let k : lw := fun u0 u1 h => k0 (.tuple [u0, (.int .i64 u1)]) h
  have hk : nT k0 k := fun _ _ _ => rfl
  have hb : ∀ F : Tr AV → CRes, gG Dn [a0, (.int .i64 a1), (.int .i64 a2), (.int .u8 a3)] .leaf F = F (c8 [(p0, a0), (p1, (.int .i64 a1)), (p2, (.int .i64 a2)), (p3, (.int .u8 a3))]) := fun F => by kernel_rfl
  exact (mC hb).trans ((aec n bD cr k0 _).trans (adM n bD cr k0 k hk (ZV n bD cr k0 k hk n) a0 a1 a2 a3 h))
end
def kq (n : Nat) : dj := Dq n (lY n) (rQ n)
abbrev dz := AV → Heap → (AV → Int → Heap → CRes) → CRes
abbrev oI := AV → Int → Heap → CRes
def oG (g : dz) : Wr := fun l h k => lM l fun a0 l => mq l (g a0 h fun u0 u1 h => k (.tuple [u0, (.int .i64 u1)]) h)
def nY (af : bR) (aC : dj) : dN := eO [(dC, dy af), (ku, jh aC)]
abbrev Nj (k0 : Q0) (k : oI) : Prop := ∀ u0 u1 h, k0 (.tuple [u0, (.int .i64 u1)]) h = k u0 u1 h
section
variable (n : Nat) (af : bR) (aC : dj) (k0 : Q0) (k : oI)
def Pv (n : Nat) (af : bR) (aC : dj) (k0 : Q0) : Q1 := (bS (nY af aC) kj Ku (bS (nY af aC) kj KH (fun s => eK (.t p6) s (bS (nY af aC) kj JU (cX mR k0)) (bS (nY af aC) kj KK (fun s => eK (.t p12) s (bS (nY af aC) kj Kn (cX mR k0)) (bS (nY af aC) kj K5 (cX mR k0)))))))
def Dt (n : Nat) (af : bR) (aC : dj) (k : oI) (a0 : AV) (h : Heap) : CRes :=
 af a0 h fun x0 h1 =>
 ifB (jk x0)
 (k .nilslice 1 h1)
 (nfa 13 a0 fun x2 =>
 KG 1 7 x2 1 fun x3 =>
 ldI .i64 h1 x3 fun x4 =>
 ifB (ltF 0 x4)
 (k .nilslice 91 h1)
 (apt .i64 2 h1 a0 fun x5 x6 =>
 aC a0 0 x6 1 h1 fun x7 x8 h9 =>
 k x7 x8 h9))
theorem adT (n : Nat) (af : bR) (aC : dj) (k0 : Q0) (k : oI) (hk : Nj k0 k) (a0 : AV) (h : Heap) : (Pv n af aC k0 ) ⟨c8 [(p0, a0)], h⟩ = (Dt n af aC k ) a0 h := by
  obtain rfl := fx3 hk
  kernel_rfl
def ad3 : Q1 := Pv n af aC k0
def Df (n : Nat) (af : bR) (aC : dj) (a0 : AV) (h : Heap) (k : oI) : CRes := Dt n af aC k a0 h
theorem aee (n : Nat) (af : bR) (aC : dj) (k0 : Q0) (s : St) : D (eO [(dC, dy af), (ku, jh aC)]) kj n De (cX mR k0) (fun _ _ => .err) (cX mR k0) s = ad3 n af aC k0 s := by kernel_rfl
theorem adN (n : Nat) (af : bR) (aC : dj) (a0 : AV) (h : Heap) (k0 : Q0) : W C5 mR [(dC, dy af), (ku, jh aC)] kj n De [a0] h k0 = Df n af aC a0 h (fun u0 u1 h => k0 (.tuple [u0, (.int .i64 u1)]) h) := by
  let k : oI := fun u0 u1 h => k0 (.tuple [u0, (.int .i64 u1)]) h
  have hk : Nj k0 k := fun _ _ _ => rfl
  have hb : ∀ F : Tr AV → CRes, gG C5 [a0] .leaf F = F (c8 [(p0, a0)]) := fun F => by kernel_rfl
  exact (mC hb).trans ((aee n af aC k0 _).trans (adT n af aC k0 k hk a0 h))
end
def oE (n : Nat) : dz := Df n (ew n) (kq n)
/-! cofferdam/cofferdamlaw12.quota -/
abbrev aW := AV → Int → Heap → (Int → Heap → CRes) → CRes
abbrev lL := Int → Heap → CRes
def gi (g : aW) : Wr := fun l h k => lM l fun a0 l => ph .u8 l fun a1 l => mq l (g a0 a1 h fun u0 h => k (.int .i64 u0) h)
def DD : dN := eO []
abbrev DR (k0 : Q0) (k : lL) : Prop := ∀ u0 h, k0 (.int .i64 u0) h = k u0 h
section
variable (n : Nat) (k0 : Q0) (k : lL)
def EY (n : Nat) (k0 : Q0) : Q1 := (bS (DD ) nF BO (bS (DD ) nF BJ (cX nG k0)))
def xu (n : Nat) (k : lL) (a0 : AV) (a1 : Int) (h : Heap) : CRes :=
 zt h a0 fun x0 h1 =>
 jO .i64 2 h1 (.ptr x0 0) fun x2 x3 =>
 jO .i64 3 h1 (.ptr x0 0) fun x4 x5 =>
 jO .i64 4 h1 (.ptr x0 0) fun x6 x7 =>
 jO .i64 5 h1 (.ptr x0 0) fun x8 x9 =>
 jO .i64 6 h1 (.ptr x0 0) fun x10 x11 =>
 wa [(.int .i64 0), (.int .i64 0), (.int .i64 0), (.int .i64 0), (.int .i64 0), (.int .i64 0), (.int .i64 0)] [(1, 1, (.int .i64 8)), (2, 1, (.int .i64 x3)), (3, 1, (.int .i64 x5)), (4, 1, (.int .i64 x7)), (5, 1, (.int .i64 x9)), (6, 1, (.int .i64 x11))] fun x12 =>
 Xc 1 7 false x12 a1 fun x13 =>
 UA .i64 x13 fun x14 =>
 k x14 h1
theorem Vc (n : Nat) (k0 : Q0) (k : lL) (hk : DR k0 k) (a0 : AV) (a1 : Int) (h : Heap) : (EY n k0 ) ⟨c8 [(p0, a0), (p1, (.int .u8 a1))], h⟩ = (xu n k ) a0 a1 h := by
  obtain rfl := fx2 hk
  kernel_rfl
def U8 : Q1 := EY n k0
def xj (n : Nat) (a0 : AV) (a1 : Int) (h : Heap) (k : lL) : CRes := xu n k a0 a1 h
theorem UQ (n : Nat) (k0 : Q0) (s : St) : D (eO []) nF n xv (cX nG k0) (fun _ _ => .err) (cX nG k0) s = U8 n k0 s := by kernel_rfl
theorem Vd (n : Nat) (a0 : AV) (a1 : Int) (h : Heap) (k0 : Q0) : W xr nG [] nF n xv [a0, (.int .u8 a1)] h k0 = xj n a0 a1 h (fun u0 h => k0 (.int .i64 u0) h) := by
  let k : lL := fun u0 h => k0 (.int .i64 u0) h
  have hk : DR k0 k := fun _ _ => rfl
  have hb : ∀ F : Tr AV → CRes, gG xr [a0, (.int .u8 a1)] .leaf F = F (c8 [(p0, a0), (p1, (.int .u8 a1))]) := fun F => by kernel_rfl
  exact (mC hb).trans ((UQ n k0 _).trans (Vc n k0 k hk a0 a1 h))
end
def d6 (n : Nat) : aW := xj n
abbrev cW := AV → Heap → (Int → Heap → CRes) → CRes
abbrev kU := Int → Heap → CRes
def iJ (g : cW) : Wr := fun l h k => lM l fun a0 l => mq l (g a0 h fun u0 h => k (.int .i64 u0) h)
def gV (am : cQ) : dN := eO [(jr, iL am)]
abbrev na (k0 : Q0) (k : kU) : Prop := ∀ u0 h, k0 (.int .i64 u0) h = k u0 h
abbrev sL : Type := Int → Heap → CRes
abbrev yl (J : Q1) (j : sL) : Prop := ∀ v3 h, J ⟨c8 [(p3, (.int .i64 v3))], h⟩ = j v3 h
abbrev kY : Type := Int → AV → Int → Heap → CRes
abbrev sJ (J : Q1) (j : kY) : Prop := ∀ v3 v11 v12 h, J ⟨c8 [(p3, (.int .i64 v3)), (p11, v11), (p12, (.int .i64 v12))], h⟩ = j v3 v11 v12 h
section
variable (n : Nat) (am : cQ) (k0 : Q0) (k : kU)
def GD (n : Nat) (am : cQ) (k0 : Q0) : Q1 := (bS (gV am) fQ GW (cX nQ k0))
def yo (n : Nat) (am : cQ) (k : kU) (v3 : Int) (h : Heap) : CRes :=
 k v3 h
theorem Yp (hk : na k0 k) : yl (GD n am k0 ) (yo n am k ) := by
  obtain rfl := fx2 hk
  intro v3 h
  kernel_rfl
def GK : Q1 := GD n am k0
def sU : sL := yo n am k
theorem XZ (hk : na k0 k) : yl (GK n am k0 ) (sU n am k ) := Yp n am k0 k hk
def GR (n : Nat) (am : cQ) (k0 : Q0) (J0 : Q1) (J1 : Q1) : Q1 := (bS (gV am) fQ GV (fun s => eK (.t p13) s (bS (gV am) fQ GB (bS (gV am) fQ GL (bS (gV am) fQ Gr (fun s => da yG s J1)))) (fun s => da GU s J0)))
def sI (n : Nat) (am : cQ) (k : kU) (j0 : sL) (j1 : kY) (v3 : Int) (v11 : AV) (v12 : Int) (h : Heap) : CRes :=
 ifB (ltF v12 7)
 (Xc 1 7 false v11 v12 fun x4 =>
 jb x4 fun x5 =>
 aiv .i64 x5 v12 fun x6 =>
 lU .i64 v3 x6 fun x7 =>
 lU .i64 v12 1 fun x8 =>
 j1 x7 v11 x8 h)
 (j0 v3 h)
theorem Yq (hk : na k0 k) {J0 : Q1} {j0 : sL} (h0 : yl J0 j0) {J1 : Q1} {j1 : kY} (h1 : sJ J1 j1) : sJ (GR n am k0 J0 J1) (sI n am k j0 j1) := by
  obtain rfl := fx2 hk
  obtain rfl := fx2 h0
  obtain rfl := fx4 h1
  intro v3 v11 v12 h
  kernel_rfl
def Gl (m : Nat) : Q1 := Nat.rec (motive := fun _ => Q1) (fun _ => .err) (fun _ ih => GR n am k0 (GK n am k0 ) ih) m
def oi (m : Nat) : kY := Nat.rec (motive := fun _ => kY) (fun _ _ _ _ => .err) (fun _ ih => sI n am k (sU n am k ) ih) m
theorem Yn (m : Nat) : oi n am k (m + 1) = sI n am k (sU n am k ) (oi n am k m) := rfl
theorem XY (hk : na k0 k) (m : Nat) : sJ (Gl n am k0 m) (oi n am k m) := by
  induction m with
  | zero => intro v3 v11 v12 h; rfl
  | succ m ih => exact Yq n am k0 k hk (XZ n am k0 k hk ) ih
def MF (n : Nat) (am : cQ) (k0 : Q0) (J1 : Q1) : Q1 := (bS (gV am) fQ G1 (bS (gV am) fQ Gm (fun s => eK (.t p7) s (bS (gV am) fQ Gp (cX nQ k0)) (bS (gV am) fQ Hi (bS (gV am) fQ Hk (fun s => da yG s J1))))))
def Bd (n : Nat) (am : cQ) (k : kU) (j1 : kY) (a0 : AV) (h : Heap) : CRes :=
 am a0 h fun x0 h1 =>
 ifB x0
 (k 0 h1)
 (Z3 2 h1 a0 7 true fun x2 x3 =>
 j1 0 x3 0 h1)
theorem ab5 (n : Nat) (am : cQ) (k0 : Q0) (k : kU) (hk : na k0 k) {J1 : Q1} {j1 : kY} (h1 : sJ J1 j1) (a0 : AV) (h : Heap) : (MF n am k0 J1) ⟨c8 [(p0, a0)], h⟩ = (Bd n am k j1) a0 h := by
  obtain rfl := fx2 hk
  obtain rfl := fx4 h1
  kernel_rfl
def abX : Q1 := MF n am k0 (Gl n am k0 n)
def Bc (n : Nat) (am : cQ) (a0 : AV) (h : Heap) (k : kU) : CRes := Bd n am k (oi n am k n) a0 h
theorem abA (n : Nat) (am : cQ) (k0 : Q0) (s : St) : D (eO [(jr, iL am)]) fQ n Bf (cX nQ k0) (fun _ _ => .err) (cX nQ k0) s = abX n am k0 s := by kernel_rfl
theorem abN (n : Nat) (am : cQ) (a0 : AV) (h : Heap) (k0 : Q0) : W Bb nQ [(jr, iL am)] fQ n Bf [a0] h k0 = Bc n am a0 h (fun u0 h => k0 (.int .i64 u0) h) := by
  let k : kU := fun u0 h => k0 (.int .i64 u0) h
  have hk : na k0 k := fun _ _ => rfl
  have hb : ∀ F : Tr AV → CRes, gG Bb [a0] .leaf F = F (c8 [(p0, a0)]) := fun F => by kernel_rfl
  exact (mC hb).trans ((abA n am k0 _).trans (ab5 n am k0 k hk (XY n am k0 k hk n) a0 h))
end
def gf (n : Nat) : cW := Bc n (jo n)
abbrev dE := AV → Int → Heap → (Int → Int → Heap → CRes) → CRes
abbrev i7 := Int → Int → Heap → CRes
def qq (g : dE) : Wr := fun l h k => lM l fun a0 l => ph .u8 l fun a1 l => mq l (g a0 a1 h fun u0 u1 h => k (.tuple [(.int .i64 u0), (.int .i64 u1)]) h)
def dZ (af : bR) (aC : dj) (au : cW) : dN := eO [(dC, dy af), (ku, jh aC), (jm, iJ au)]
abbrev jf (k0 : Q0) (k : i7) : Prop := ∀ u0 u1 h, k0 (.tuple [(.int .i64 u0), (.int .i64 u1)]) h = k u0 u1 h
abbrev uT : Type := AV → Int → Int → Heap → CRes
abbrev AU (J : Q1) (j : uT) : Prop := ∀ v0 v1 v6 h, J ⟨c8 [(p0, v0), (p1, (.int .u8 v1)), (p6, (.int .i64 v6))], h⟩ = j v0 v1 v6 h
abbrev uQ : Type := AV → Int → Int → AV → Int → Int → Heap → CRes
abbrev AZ (J : Q1) (j : uQ) : Prop := ∀ v0 v1 v6 v39 v40 v41 h, J ⟨c8 [(p0, v0), (p1, (.int .u8 v1)), (p6, (.int .i64 v6)), (p39, v39), (p40, (.int .i64 v40)), (p41, (.int .i64 v41))], h⟩ = j v0 v1 v6 v39 v40 v41 h
abbrev jq : Type := AV → Int → Int → AV → Int → Int → Heap → CRes
abbrev qO (J : Q1) (j : jq) : Prop := ∀ v0 v1 v6 v39 v40 v41 h, J ⟨c8 [(p0, v0), (p1, (.int .u8 v1)), (p6, (.int .i64 v6)), (p39, v39), (p40, (.int .i64 v40)), (p41, (.int .i64 v41))], h⟩ = j v0 v1 v6 v39 v40 v41 h
abbrev uY : Type := AV → Int → Bool → Heap → CRes
abbrev Bj (J : Q1) (j : uY) : Prop := ∀ v0 v1 v21 h, J ⟨c8 [(p0, v0), (p1, (.int .u8 v1)), (p21, (.bool v21))], h⟩ = j v0 v1 v21 h
section
variable (n : Nat) (af : bR) (aC : dj) (au : cW) (k0 : Q0) (k : i7)
def Nn (n : Nat) (af : bR) (aC : dj) (au : cW) (k0 : Q0) : Q1 := (bS (dZ af aC au) dF M2 (bS (dZ af aC au) dF MU (fun s => eK (.t p67) s (bS (dZ af aC au) dF M9 (cX lg k0)) (bS (dZ af aC au) dF Nl (cX lg k0)))))
def AX (n : Nat) (af : bR) (aC : dj) (au : cW) (k : i7) (v0 : AV) (v1 : Int) (v6 : Int) (h : Heap) : CRes :=
 aC v0 v6 0 v1 h fun x11 x12 h13 =>
 ifB (jk (eqF x12 0))
 (k 0 x12 h13)
 (Q6 .i64 1 h13 x11 0 fun x14 x15 =>
 k x15 0 h13)
theorem abD (hk : jf k0 k) : AU (Nn n af aC au k0 ) (AX n af aC au k ) := by
  obtain rfl := fx3 hk
  intro v0 v1 v6 h
  kernel_rfl
def Mz : Q1 := Nn n af aC au k0
def qP : uT := AX n af aC au k
theorem abV (hk : jf k0 k) : AU (Mz n af aC au k0 ) (qP n af aC au k ) := abD n af aC au k0 k hk
def MC (n : Nat) (af : bR) (aC : dj) (au : cW) (k0 : Q0) (J1 : Q1) : Q1 := (bS (dZ af aC au) dF MK (fun s => da Br s J1))
def AY (n : Nat) (af : bR) (aC : dj) (au : cW) (k : i7) (j1 : jq) (v0 : AV) (v1 : Int) (v6 : Int) (v39 : AV) (v40 : Int) (v41 : Int) (h : Heap) : CRes :=
 lU .i64 v41 1 fun x26 =>
 j1 v0 v1 v6 v39 v40 x26 h
theorem abS (hk : jf k0 k) {J1 : Q1} {j1 : jq} (h1 : qO J1 j1) : AZ (MC n af aC au k0 J1) (AY n af aC au k j1) := by
  obtain rfl := fx3 hk
  obtain rfl := fx7 h1
  intro v0 v1 v6 v39 v40 v41 h
  kernel_rfl
def Nh (J1 : Q1) : Q1 := MC n af aC au k0 J1
def uS (j1 : jq) : uQ := AY n af aC au k j1
theorem ab3 (hk : jf k0 k) {J1 : Q1} {j1 : jq} (h1 : qO J1 j1) : AZ (Nh n af aC au k0 J1) (uS n af aC au k j1) := abS n af aC au k0 k hk h1
def ML (n : Nat) (af : bR) (aC : dj) (au : cW) (k0 : Q0) (J0 : Q1) (J2 : Q1) : Q1 := (bS (dZ af aC au) dF Nm (fun s => eK (.t p42) s (bS (dZ af aC au) dF Ng (bS (dZ af aC au) dF MW (fun s => eK (.t p56) s (bS (dZ af aC au) dF MR (fun s => da Bh s J2)) (fun s => da Bh s J2)))) (fun s => da MH s J0)))
def uR (n : Nat) (af : bR) (aC : dj) (au : cW) (k : i7) (j0 : uT) (j2 : uQ) (v0 : AV) (v1 : Int) (v6 : Int) (v39 : AV) (v40 : Int) (v41 : Int) (h : Heap) : CRes :=
 ifB (ltF v41 v40)
 (eld 1 h v39 v41 1 false fun x16 x17 =>
 au x17 (h.shut true) fun x18 h19 =>
 Z3 11 (h19.back h.ro) v0 1 false fun x20 x21 =>
 eld 1 (h19.back h.ro) x21 v6 1 false fun x22 x23 =>
 au x23 (h19.back h.ro) fun x24 h25 =>
 ifB (ltF x24 x18)
 (j2 v0 v1 v41 v39 v40 v41 h25)
 (j2 v0 v1 v6 v39 v40 v41 h25))
 (j0 v0 v1 v6 h)
theorem abL (hk : jf k0 k) {J0 : Q1} {j0 : uT} (h0 : AU J0 j0) {J2 : Q1} {j2 : uQ} (h2 : AZ J2 j2) : qO (ML n af aC au k0 J0 J2) (uR n af aC au k j0 j2) := by
  obtain rfl := fx3 hk
  obtain rfl := fx4 h0
  obtain rfl := fx7 h2
  intro v0 v1 v6 v39 v40 v41 h
  kernel_rfl
def M6 (m : Nat) : Q1 := Nat.rec (motive := fun _ => Q1) (fun _ => .err) (fun _ ih => ML n af aC au k0 (Mz n af aC au k0 ) (Nh n af aC au k0 ih)) m
def qV (m : Nat) : jq := Nat.rec (motive := fun _ => jq) (fun _ _ _ _ _ _ _ => .err) (fun _ ih => uR n af aC au k (qP n af aC au k ) (uS n af aC au k ih)) m
theorem abJ (m : Nat) : qV n af aC au k (m + 1) = uR n af aC au k (qP n af aC au k ) (uS n af aC au k (qV n af aC au k m)) := rfl
theorem abY (hk : jf k0 k) (m : Nat) : qO (M6 n af aC au k0 m) (qV n af aC au k m) := by
  induction m with
  | zero => intro v0 v1 v6 v39 v40 v41 h; rfl
  | succ m ih => exact abL n af aC au k0 k hk (abV n af aC au k0 k hk ) (ab3 n af aC au k0 k hk ih)
def My (n : Nat) (af : bR) (aC : dj) (au : cW) (k0 : Q0) (J1 : Q1) : Q1 := (bS (dZ af aC au) dF KZ (fun s => eK (.t p15) s (bS (dZ af aC au) dF K0 (cX lg k0)) (bS (dZ af aC au) dF KT (fun s => eK (.t p22) s (bS (dZ af aC au) dF JL (cX lg k0)) (bS (dZ af aC au) dF KF (bS (dZ af aC au) dF ME (fun s => da Br s J1)))))))
def A3 (n : Nat) (af : bR) (aC : dj) (au : cW) (k : i7) (j1 : jq) (v0 : AV) (v1 : Int) (v21 : Bool) (h : Heap) : CRes :=
 ifB v21
 (k 0 2 h)
 (nfa 13 v0 fun x2 =>
 KG 1 7 x2 v1 fun x3 =>
 ldI .i64 h x3 fun x4 =>
 nfa 3 v0 fun x5 =>
 KG 1 7 x5 v1 fun x6 =>
 ldI .i64 h x6 fun x7 =>
 ifB (jk (ltF x4 x7))
 (k 0 4 h)
 (Z3 11 h v0 1 false fun x8 x9 =>
 jb x9 fun x10 =>
 j1 v0 v1 0 x9 x10 0 h))
theorem abM (hk : jf k0 k) {J1 : Q1} {j1 : jq} (h1 : qO J1 j1) : Bj (My n af aC au k0 J1) (A3 n af aC au k j1) := by
  obtain rfl := fx3 hk
  obtain rfl := fx7 h1
  intro v0 v1 v21 h
  kernel_rfl
def Nb : Q1 := My n af aC au k0 (M6 n af aC au k0 n)
def A0 : uY := A3 n af aC au k (qV n af aC au k n)
theorem ab7 (hk : jf k0 k) : Bj (Nb n af aC au k0 ) (A0 n af aC au k ) := abM n af aC au k0 k hk (abY n af aC au k0 k hk n)
def PZ (n : Nat) (af : bR) (aC : dj) (au : cW) (k0 : Q0) (J3 : Q1) : Q1 := (bS (dZ af aC au) dF K3 (bS (dZ af aC au) dF KB (fun s => eK (.t p11) s (bS (dZ af aC au) dF Kh (cX lg k0)) (bS (dZ af aC au) dF JJ (fun s => da MQ s J3)))))
def Fj (n : Nat) (af : bR) (aC : dj) (au : cW) (k : i7) (j3 : uY) (a0 : AV) (a1 : Int) (h : Heap) : CRes :=
 af a0 h fun x0 h1 =>
 ifB (jk x0)
 (k 0 1 h1)
 (ifB (ltF a1 2)
 (j3 a0 a1 true h1)
 (j3 a0 a1 (ltF 6 a1) h1))
theorem afW (n : Nat) (af : bR) (aC : dj) (au : cW) (k0 : Q0) (k : i7) (hk : jf k0 k) {J3 : Q1} {j3 : uY} (h3 : Bj J3 j3) (a0 : AV) (a1 : Int) (h : Heap) : (PZ n af aC au k0 J3) ⟨c8 [(p0, a0), (p1, (.int .u8 a1))], h⟩ = (Fj n af aC au k j3) a0 a1 h := by
  obtain rfl := fx3 hk
  obtain rfl := fx4 h3
  kernel_rfl
def afS : Q1 := PZ n af aC au k0 (Nb n af aC au k0 )
def Fo (n : Nat) (af : bR) (aC : dj) (au : cW) (a0 : AV) (a1 : Int) (h : Heap) (k : i7) : CRes := Fj n af aC au k (A0 n af aC au k ) a0 a1 h
theorem afa (n : Nat) (af : bR) (aC : dj) (au : cW) (k0 : Q0) (s : St) : D (eO [(dC, dy af), (ku, jh aC), (jm, iJ au)]) dF n FN (cX lg k0) (fun _ _ => .err) (cX lg k0) s = afS n af aC au k0 s := by kernel_rfl
theorem ae9 (n : Nat) (af : bR) (aC : dj) (au : cW) (a0 : AV) (a1 : Int) (h : Heap) (k0 : Q0) : W Fd lg [(dC, dy af), (ku, jh aC), (jm, iJ au)] dF n FN [a0, (.int .u8 a1)] h k0 = Fo n af aC au a0 a1 h (fun u0 u1 h => k0 (.tuple [(.int .i64 u0), (.int .i64 u1)]) h) := by
  let k : i7 := fun u0 u1 h => k0 (.tuple [(.int .i64 u0), (.int .i64 u1)]) h
  have hk : jf k0 k := fun _ _ _ => rfl
  have hb : ∀ F : Tr AV → CRes, gG Fd [a0, (.int .u8 a1)] .leaf F = F (c8 [(p0, a0), (p1, (.int .u8 a1))]) := fun F => by kernel_rfl
  exact (mC hb).trans ((afa n af aC au k0 _).trans (afW n af aC au k0 k hk (ab7 n af aC au k0 k hk ) a0 a1 h))
end
def jI (n : Nat) : dE := Fo n (ew n) (kq n) (gf n)
abbrev cG := AV → Heap → (AV → Heap → CRes) → CRes
abbrev mi := AV → Heap → CRes
def qg (g : cG) : Wr := fun l h k => lM l fun a0 l => mq l (g a0 h fun u0 h => k u0 h)
def ji (af : bR) (au : cW) : dN := eO [(dC, dy af), (jm, iJ au)]
abbrev ou (k0 : Q0) (k : mi) : Prop := ∀ u0 h, k0 u0 h = k u0 h
abbrev uU : Type := AV → Heap → CRes
abbrev Bn (J : Q1) (j : uU) : Prop := ∀ v3 h, J ⟨c8 [(p3, v3)], h⟩ = j v3 h
abbrev lS : Type := AV → AV → Int → Int → Heap → CRes
abbrev uO (J : Q1) (j : lS) : Prop := ∀ v3 v12 v13 v14 h, J ⟨c8 [(p3, v3), (p12, v12), (p13, (.int .i64 v13)), (p14, (.int .i64 v14))], h⟩ = j v3 v12 v13 v14 h
section
variable (n : Nat) (af : bR) (au : cW) (k0 : Q0) (k : mi)
def Ne (n : Nat) (af : bR) (au : cW) (k0 : Q0) : Q1 := (bS (ji af au) gr M5 (cX qv k0))
def Bp (n : Nat) (af : bR) (au : cW) (k : mi) (v3 : AV) (h : Heap) : CRes :=
 k v3 h
theorem aca (hk : ou k0 k) : Bn (Ne n af au k0 ) (Bp n af au k ) := by
  obtain rfl := fx2 hk
  intro v3 h
  kernel_rfl
def M4 : Q1 := Ne n af au k0
def uW : uU := Bp n af au k
theorem ab4 (hk : ou k0 k) : Bn (M4 n af au k0 ) (uW n af au k ) := aca n af au k0 k hk
def Ni (n : Nat) (af : bR) (au : cW) (k0 : Q0) (J0 : Q1) (J1 : Q1) : Q1 := (bS (ji af au) gr MY (fun s => eK (.t p15) s (bS (ji af au) gr MG (bS (ji af au) gr Nc (bS (ji af au) gr Nk (fun s => da AW s J1)))) (fun s => da MB s J0)))
def uV (n : Nat) (af : bR) (au : cW) (k : mi) (j0 : uU) (j1 : lS) (v3 : AV) (v12 : AV) (v13 : Int) (v14 : Int) (h : Heap) : CRes :=
 ifB (ltF v14 v13)
 (eld 1 h v12 v14 1 false fun x5 x6 =>
 au x6 h fun x7 h8 =>
 pR h8 1 [(.int .i64 0)] [(0, 1, (.int .i64 x7))] fun x9 h10 =>
 qk h10 1 v3 x9 fun x11 h12 =>
 lU .i64 v14 1 fun x13 =>
 j1 x11 v12 v13 x13 h12)
 (j0 v3 h)
theorem abO (hk : ou k0 k) {J0 : Q1} {j0 : uU} (h0 : Bn J0 j0) {J1 : Q1} {j1 : lS} (h1 : uO J1 j1) : uO (Ni n af au k0 J0 J1) (uV n af au k j0 j1) := by
  obtain rfl := fx2 hk
  obtain rfl := fx2 h0
  obtain rfl := fx5 h1
  intro v3 v12 v13 v14 h
  kernel_rfl
def MA (m : Nat) : Q1 := Nat.rec (motive := fun _ => Q1) (fun _ => .err) (fun _ ih => Ni n af au k0 (M4 n af au k0 ) ih) m
def qU (m : Nat) : lS := Nat.rec (motive := fun _ => lS) (fun _ _ _ _ _ => .err) (fun _ ih => uV n af au k (uW n af au k ) ih) m
theorem abE (m : Nat) : qU n af au k (m + 1) = uV n af au k (uW n af au k ) (qU n af au k m) := rfl
theorem abR (hk : ou k0 k) (m : Nat) : uO (MA n af au k0 m) (qU n af au k m) := by
  induction m with
  | zero => intro v3 v12 v13 v14 h; rfl
  | succ m ih => exact abO n af au k0 k hk (ab4 n af au k0 k hk ) ih
def PM (n : Nat) (af : bR) (au : cW) (k0 : Q0) (J1 : Q1) : Q1 := (bS (ji af au) gr MS (bS (ji af au) gr No (fun s => eK (.t p8) s (bS (ji af au) gr M0 (cX qv k0)) (bS (ji af au) gr MZ (bS (ji af au) gr MJ (fun s => da AW s J1))))))
def F7 (n : Nat) (af : bR) (au : cW) (k : mi) (j1 : lS) (a0 : AV) (h : Heap) : CRes :=
 af a0 h fun x0 h1 =>
 ifB (jk x0)
 (k .nilslice h1)
 (Z3 11 h1 a0 1 false fun x2 x3 =>
 jb x3 fun x4 =>
 j1 .nilslice x3 x4 0 h1)
theorem afb (n : Nat) (af : bR) (au : cW) (k0 : Q0) (k : mi) (hk : ou k0 k) {J1 : Q1} {j1 : lS} (h1 : uO J1 j1) (a0 : AV) (h : Heap) : (PM n af au k0 J1) ⟨c8 [(p0, a0)], h⟩ = (F7 n af au k j1) a0 h := by
  obtain rfl := fx2 hk
  obtain rfl := fx5 h1
  kernel_rfl
def aek : Q1 := PM n af au k0 (MA n af au k0 n)
def Fs (n : Nat) (af : bR) (au : cW) (a0 : AV) (h : Heap) (k : mi) : CRes := F7 n af au k (qU n af au k n) a0 h
theorem afF (n : Nat) (af : bR) (au : cW) (k0 : Q0) (s : St) : D (eO [(dC, dy af), (jm, iJ au)]) gr n E1 (cX qv k0) (fun _ _ => .err) (cX qv k0) s = aek n af au k0 s := by kernel_rfl
theorem afA (n : Nat) (af : bR) (au : cW) (a0 : AV) (h : Heap) (k0 : Q0) : W EF qv [(dC, dy af), (jm, iJ au)] gr n E1 [a0] h k0 = Fs n af au a0 h (fun u0 h => k0 u0 h) := by
  let k : mi := fun u0 h => k0 u0 h
  have hk : ou k0 k := fun _ _ => rfl
  have hb : ∀ F : Tr AV → CRes, gG EF [a0] .leaf F = F (c8 [(p0, a0)]) := fun F => by kernel_rfl
  exact (mC hb).trans ((afF n af au k0 _).trans (afb n af au k0 k hk (abR n af au k0 k hk n) a0 h))
end
def ml (n : Nat) : cG := Fs n (ew n) (gf n)
abbrev ct := AV → Heap → (AV → Heap → CRes) → CRes
abbrev nS := AV → Heap → CRes
def nZ (g : ct) : Wr := fun l h k => lM l fun a0 l => mq l (g a0 h fun u0 h => k u0 h)
def mX (af : bR) : dN := eO [(dC, dy af)]
abbrev JQ (k0 : Q0) (k : nS) : Prop := ∀ u0 h, k0 u0 h = k u0 h
section
variable (n : Nat) (af : bR) (k0 : Q0) (k : nS)
def MP (n : Nat) (af : bR) (k0 : Q0) : Q1 := (bS (mX af) jp GE (bS (mX af) jp GN (fun s => eK (.t p6) s (bS (mX af) jp Gy (cX nR k0)) (bS (mX af) jp Gz (bS (mX af) jp GP (bS (mX af) jp Gx (cX nR k0)))))))
def A9 (n : Nat) (af : bR) (k : nS) (a0 : AV) (h : Heap) : CRes :=
 yA h (.cells [(.int .i64 0), (.int .i64 0), (.int .i64 0), (.int .i64 0), (.int .i64 0), (.int .i64 0), (.int .i64 0)] true 0) fun x0 h1 =>
 af a0 h1 fun x2 h3 =>
 ifB (jk x2)
 (wa [(.int .i64 0), (.int .i64 0), (.int .i64 0), (.int .i64 0), (.int .i64 0), (.int .i64 0), (.int .i64 0)] [] fun x4 =>
 lR h3 (.ptr x0 0) 7 x4 fun h5 =>
 gJ h5 (.ptr x0 0) 7 true fun x6 =>
 k x6 h5)
 (Z3 13 h3 a0 7 true fun x7 x8 =>
 yA h3 (.cells [(.int .i64 0), (.int .i64 0), (.int .i64 0), (.int .i64 0), (.int .i64 0), (.int .i64 0), (.int .i64 0)] true 0) fun x9 h10 =>
 lR h10 (.ptr x9 0) 7 x8 fun h11 =>
 apt .i64 10 h11 a0 fun x12 x13 =>
 Z3 12 h11 a0 1 false fun x14 x15 =>
 akg h11 x15 fun x16 =>
 Yl .i64 x13 x16 fun x17 =>
 KG 1 7 (.ptr x9 0) 0 fun x18 =>
 lR h11 x18 1 (.int .i64 x17) fun h19 =>
 gJ h19 (.ptr x9 0) 7 true fun x20 =>
 lR h19 (.ptr x0 0) 7 x20 fun h21 =>
 gJ h21 (.ptr x0 0) 7 true fun x22 =>
 k x22 h21)
theorem abH (n : Nat) (af : bR) (k0 : Q0) (k : nS) (hk : JQ k0 k) (a0 : AV) (h : Heap) : (MP n af k0 ) ⟨c8 [(p0, a0)], h⟩ = (A9 n af k ) a0 h := by
  obtain rfl := fx2 hk
  kernel_rfl
def ab2 : Q1 := MP n af k0
def Bg (n : Nat) (af : bR) (a0 : AV) (h : Heap) (k : nS) : CRes := A9 n af k a0 h
theorem acb (n : Nat) (af : bR) (k0 : Q0) (s : St) : D (eO [(dC, dy af)]) jp n Bi (cX nR k0) (fun _ _ => .err) (cX nR k0) s = ab2 n af k0 s := by kernel_rfl
theorem abK (n : Nat) (af : bR) (a0 : AV) (h : Heap) (k0 : Q0) : W Bx nR [(dC, dy af)] jp n Bi [a0] h k0 = Bg n af a0 h (fun u0 h => k0 u0 h) := by
  let k : nS := fun u0 h => k0 u0 h
  have hk : JQ k0 k := fun _ _ => rfl
  have hb : ∀ F : Tr AV → CRes, gG Bx [a0] .leaf F = F (c8 [(p0, a0)]) := fun F => by kernel_rfl
  exact (mC hb).trans ((acb n af k0 _).trans (abH n af k0 k hk a0 h))
end
def lV (n : Nat) : ct := Bg n (ew n)
abbrev cY := AV → Heap → (AV → Heap → CRes) → CRes
abbrev fP := AV → Heap → CRes
def fR (g : cY) : Wr := fun l h k => lM l fun a0 l => mq l (g a0 h fun u0 h => k u0 h)
def qx : dN := eO []
abbrev qw (k0 : Q0) (k : fP) : Prop := ∀ u0 h, k0 u0 h = k u0 h
section
variable (n : Nat) (k0 : Q0) (k : fP)
def qQ (n : Nat) (k0 : Q0) : Q1 := (bS (qx ) gO pA (bS (qx ) gO pI (cX gL k0)))
def lT (n : Nat) (k : fP) (a0 : AV) (h : Heap) : CRes :=
 zt h a0 fun x0 h1 =>
 k (.func 76 [] [(.ptr x0 0)]) h1
theorem A6 (n : Nat) (k0 : Q0) (k : fP) (hk : qw k0 k) (a0 : AV) (h : Heap) : (qQ n k0 ) ⟨c8 [(p0, a0)], h⟩ = (lT n k ) a0 h := by
  obtain rfl := fx2 hk
  kernel_rfl
def Bt : Q1 := qQ n k0
def l8 (n : Nat) (a0 : AV) (h : Heap) (k : fP) : CRes := lT n k a0 h
theorem A7 (n : Nat) (k0 : Q0) (s : St) : D (eO []) gO n lW (cX gL k0) (fun _ _ => .err) (cX gL k0) s = Bt n k0 s := by kernel_rfl
theorem Ba (n : Nat) (a0 : AV) (h : Heap) (k0 : Q0) : W lX gL [] gO n lW [a0] h k0 = l8 n a0 h (fun u0 h => k0 u0 h) := by
  let k : fP := fun u0 h => k0 u0 h
  have hk : qw k0 k := fun _ _ => rfl
  have hb : ∀ F : Tr AV → CRes, gG lX [a0] .leaf F = F (c8 [(p0, a0)]) := fun F => by kernel_rfl
  exact (mC hb).trans ((A7 n k0 _).trans (A6 n k0 k hk a0 h))
end
def gM (n : Nat) : cY := l8 n
abbrev cz := AV → Heap → (AV → Heap → CRes) → CRes
abbrev lA := AV → Heap → CRes
def oH (g : cz) : Wr := fun l h k => lM l fun a0 l => mq l (g a0 h fun u0 h => k u0 h)
def iI (af : bR) (bF : Wr) (aA : cY) : dN := eO [(dC, dy af), (pG, bF), (gN, fR aA)]
abbrev n0 (k0 : Q0) (k : lA) : Prop := ∀ u0 h, k0 u0 h = k u0 h
abbrev tG : Type := AV → Heap → CRes
abbrev zw (J : Q1) (j : tG) : Prop := ∀ v3 h, J ⟨c8 [(p3, v3)], h⟩ = j v3 h
abbrev lu : Type := AV → AV → AV → Int → Int → Heap → CRes
abbrev tS (J : Q1) (j : lu) : Prop := ∀ v0 v3 v14 v15 v16 h, J ⟨c8 [(p0, v0), (p3, v3), (p14, v14), (p15, (.int .i64 v15)), (p16, (.int .i64 v16))], h⟩ = j v0 v3 v14 v15 v16 h
section
variable (n : Nat) (af : bR) (bF : Wr) (aA : cY) (k0 : Q0) (k : lA)
def KV (n : Nat) (af : bR) (bF : Wr) (aA : cY) (k0 : Q0) : Q1 := (bS (iI af bF aA) fY Lc (cX oF k0))
def zO (n : Nat) (af : bR) (bF : Wr) (aA : cY) (k : lA) (v3 : AV) (h : Heap) : CRes :=
 k v3 h
theorem YF (hk : n0 k0 k) : zw (KV n af bF aA k0 ) (zO n af bF aA k ) := by
  obtain rfl := fx2 hk
  intro v3 h
  kernel_rfl
def Lg : Q1 := KV n af bF aA k0
def tH : tG := zO n af bF aA k
theorem ZH (hk : n0 k0 k) : zw (Lg n af bF aA k0 ) (tH n af bF aA k ) := YF n af bF aA k0 k hk
def JS (n : Nat) (af : bR) (bF : Wr) (aA : cY) (k0 : Q0) (J0 : Q1) (J1 : Q1) : Q1 := (bS (iI af bF aA) fY KQ (fun s => eK (.t p17) s (bS (iI af bF aA) fY KP (bS (iI af bF aA) fY KY (bS (iI af bF aA) fY JR (fun s => da zM s J1)))) (fun s => da KR s J0)))
def tT (n : Nat) (af : bR) (bF : Wr) (aA : cY) (k : lA) (j0 : tG) (j1 : lu) (v0 : AV) (v3 : AV) (v14 : AV) (v15 : Int) (v16 : Int) (h : Heap) : CRes :=
 ifB (ltF v16 v15)
 (Q6 .i64 1 h v14 v16 fun x9 x10 =>
 Z3 12 h v0 1 false fun x11 x12 =>
 afG h (.cell .int) (.int .u8 0) x12 (.int .i64 x10) fun x13 b14 =>
 UA .u8 x13 fun x15 =>
 wa [(.int .i64 0), (.int .u8 0)] [(0, 1, (.int .i64 x10)), (1, 1, (.int .u8 x15))] fun x16 =>
 pR h 1 [(.int .i64 0), (.int .u8 0)] [(0, 2, x16)] fun x17 h18 =>
 qk h18 2 v3 x17 fun x19 h20 =>
 lU .i64 v16 1 fun x21 =>
 j1 v0 x19 v14 v15 x21 h20)
 (j0 v3 h)
theorem aa9 (hk : n0 k0 k) {J0 : Q1} {j0 : tG} (h0 : zw J0 j0) {J1 : Q1} {j1 : lu} (h1 : tS J1 j1) : tS (JS n af bF aA k0 J0 J1) (tT n af bF aA k j0 j1) := by
  obtain rfl := fx2 hk
  obtain rfl := fx2 h0
  obtain rfl := fx6 h1
  intro v0 v3 v14 v15 v16 h
  kernel_rfl
def JW (m : Nat) : Q1 := Nat.rec (motive := fun _ => Q1) (fun _ => .err) (fun _ ih => JS n af bF aA k0 (Lg n af bF aA k0 ) ih) m
def pu (m : Nat) : lu := Nat.rec (motive := fun _ => lu) (fun _ _ _ _ _ _ => .err) (fun _ ih => tT n af bF aA k (tH n af bF aA k ) ih) m
theorem aam (m : Nat) : pu n af bF aA k (m + 1) = tT n af bF aA k (tH n af bF aA k ) (pu n af bF aA k m) := rfl
theorem aaW (hk : n0 k0 k) (m : Nat) : tS (JW n af bF aA k0 m) (pu n af bF aA k m) := by
  induction m with
  | zero => intro v0 v3 v14 v15 v16 h; rfl
  | succ m ih => exact aa9 n af bF aA k0 k hk (ZH n af bF aA k0 k hk ) ih
def NZ (n : Nat) (af : bR) (bF : Wr) (aA : cY) (k0 : Q0) (J1 : Q1) : Q1 := (bS (iI af bF aA) fY JZ (bS (iI af bF aA) fY Kv (fun s => eK (.t p8) s (bS (iI af bF aA) fY Kb (cX oF k0)) (bS (iI af bF aA) fY Ko (bS (iI af bF aA) fY JX (fun s => da zM s J1))))))
def Ds (n : Nat) (af : bR) (bF : Wr) (aA : cY) (k : lA) (j1 : lu) (a0 : AV) (h : Heap) : CRes :=
 af a0 h fun x0 h1 =>
 ifB (jk x0)
 (k .nilslice h1)
 (Z3 12 h1 a0 1 false fun x2 x3 =>
 aA x3 h1 fun x4 h5 =>
 bF [x4] h5 fun x6 h7 =>
 jb x6 fun x8 =>
 j1 a0 .nilslice x6 x8 0 h7)
theorem adu (n : Nat) (af : bR) (bF : Wr) (aA : cY) (k0 : Q0) (k : lA) (hk : n0 k0 k) {J1 : Q1} {j1 : lu} (h1 : tS J1 j1) (a0 : AV) (h : Heap) : (NZ n af bF aA k0 J1) ⟨c8 [(p0, a0)], h⟩ = (Ds n af bF aA k j1) a0 h := by
  obtain rfl := fx2 hk
  obtain rfl := fx6 h1
  kernel_rfl
def adw : Q1 := NZ n af bF aA k0 (JW n af bF aA k0 n)
def Dx (n : Nat) (af : bR) (bF : Wr) (aA : cY) (a0 : AV) (h : Heap) (k : lA) : CRes := Ds n af bF aA k (pu n af bF aA k n) a0 h
theorem adt (n : Nat) (af : bR) (bF : Wr) (aA : cY) (k0 : Q0) (s : St) : D (eO [(dC, dy af), (pG, bF), (gN, fR aA)]) fY n C7 (cX oF k0) (fun _ _ => .err) (cX oF k0) s = adw n af bF aA k0 s := by kernel_rfl
theorem adY (n : Nat) (af : bR) (bF : Wr) (aA : cY) (a0 : AV) (h : Heap) (k0 : Q0) : W C4 oF [(dC, dy af), (pG, bF), (gN, fR aA)] fY n C7 [a0] h k0 = Dx n af bF aA a0 h (fun u0 h => k0 u0 h) := by
  let k : lA := fun u0 h => k0 u0 h
  have hk : n0 k0 k := fun _ _ => rfl
  have hb : ∀ F : Tr AV → CRes, gG C4 [a0] .leaf F = F (c8 [(p0, a0)]) := fun F => by kernel_rfl
  exact (mC hb).trans ((adt n af bF aA k0 _).trans (adu n af bF aA k0 k hk (aaW n af bF aA k0 k hk n) a0 h))
end
def km (n : Nat) : cz := Dx n (ew n) (B5 lq) (gM n)
/-! cofferdam/cofferdamlaw12.has -/
abbrev cq := AV → Int → Heap → (Bool → Heap → CRes) → CRes
abbrev jR := Bool → Heap → CRes
def mV (g : cq) : Wr := fun l h k => lM l fun a0 l => ph .i64 l fun a1 l => mq l (g a0 a1 h fun u0 h => k (.bool u0) h)
def k8 : dN := eO []
abbrev mr (k0 : Q0) (k : jR) : Prop := ∀ u0 h, k0 (.bool u0) h = k u0 h
abbrev rk : Type := Heap → CRes
abbrev xo (J : Q1) (j : rk) : Prop := ∀ h, J ⟨c8 [], h⟩ = j h
abbrev kc : Type := AV → Int → Int → Heap → CRes
abbrev re (J : Q1) (j : kc) : Prop := ∀ v0 v1 v5 h, J ⟨c8 [(p0, v0), (p1, (.int .i64 v1)), (p5, (.int .i64 v5))], h⟩ = j v0 v1 v5 h
section
variable (n : Nat) (k0 : Q0) (k : jR)
def Fq (n : Nat) (k0 : Q0) : Q1 := (bS (k8 ) gU Fb (cX mT k0))
def Fp (n : Nat) (k : jR) (h : Heap) : CRes :=
 k false h
theorem Vv (hk : mr k0 k) : xo (Fq n k0 ) (Fp n k ) := by
  obtain rfl := fx2 hk
  intro h
  kernel_rfl
def EZ : Q1 := Fq n k0
def xq : rk := Fp n k
theorem Vj (hk : mr k0 k) : xo (EZ n k0 ) (xq n k ) := Vv n k0 k hk
def FS (n : Nat) (k0 : Q0) (J0 : Q1) (J1 : Q1) : Q1 := (bS (k8 ) gU EW (fun s => eK (.t p9) s (bS (k8 ) gU Ez (fun s => eK (.t p17) s (bS (k8 ) gU EH (cX mT k0)) (bS (k8 ) gU EN (fun s => da xx s J1)))) (fun s => da FX s J0)))
def rf (n : Nat) (k : jR) (j0 : rk) (j1 : kc) (v0 : AV) (v1 : Int) (v5 : Int) (h : Heap) : CRes :=
 jb v0 fun x0 =>
 ifB (ltF v5 x0)
 (Q6 .i64 1 h v0 v5 fun x1 x2 =>
 ifB (eqF x2 v1)
 (k true h)
 (lU .i64 v5 1 fun x3 =>
 j1 v0 v1 x3 h))
 (j0 h)
theorem Vs (hk : mr k0 k) {J0 : Q1} {j0 : rk} (h0 : xo J0 j0) {J1 : Q1} {j1 : kc} (h1 : re J1 j1) : re (FS n k0 J0 J1) (rf n k j0 j1) := by
  obtain rfl := fx2 hk
  obtain rfl := fx1 h0
  obtain rfl := fx4 h1
  intro v0 v1 v5 h
  kernel_rfl
def E3 (m : Nat) : Q1 := Nat.rec (motive := fun _ => Q1) (fun _ => .err) (fun _ ih => FS n k0 (EZ n k0 ) ih) m
def nO (m : Nat) : kc := Nat.rec (motive := fun _ => kc) (fun _ _ _ _ => .err) (fun _ ih => rf n k (xq n k ) ih) m
theorem Vn (m : Nat) : nO n k (m + 1) = rf n k (xq n k ) (nO n k m) := rfl
theorem UU (hk : mr k0 k) (m : Nat) : re (E3 n k0 m) (nO n k m) := by
  induction m with
  | zero => intro v0 v1 v5 h; rfl
  | succ m ih => exact Vs n k0 k hk (Vj n k0 k hk ) ih
def Ks (n : Nat) (k0 : Q0) (J1 : Q1) : Q1 := (bS (k8 ) gU Ew (bS (k8 ) gU F8 (fun s => da xx s J1)))
def zi (n : Nat) (k : jR) (j1 : kc) (a0 : AV) (a1 : Int) (h : Heap) : CRes :=
 j1 a0 a1 0 h
theorem ZX (n : Nat) (k0 : Q0) (k : jR) (hk : mr k0 k) {J1 : Q1} {j1 : kc} (h1 : re J1 j1) (a0 : AV) (a1 : Int) (h : Heap) : (Ks n k0 J1) ⟨c8 [(p0, a0), (p1, (.int .i64 a1))], h⟩ = (zi n k j1) a0 a1 h := by
  obtain rfl := fx2 hk
  obtain rfl := fx4 h1
  kernel_rfl
def Zy : Q1 := Ks n k0 (E3 n k0 n)
def zr (n : Nat) (a0 : AV) (a1 : Int) (h : Heap) (k : jR) : CRes := zi n k (nO n k n) a0 a1 h
theorem abc (n : Nat) (k0 : Q0) (s : St) : D (eO []) gU n zW (cX mT k0) (fun _ _ => .err) (cX mT k0) s = Zy n k0 s := by kernel_rfl
theorem Yt (n : Nat) (a0 : AV) (a1 : Int) (h : Heap) (k0 : Q0) : W zz mT [] gU n zW [a0, (.int .i64 a1)] h k0 = zr n a0 a1 h (fun u0 h => k0 (.bool u0) h) := by
  let k : jR := fun u0 h => k0 (.bool u0) h
  have hk : mr k0 k := fun _ _ => rfl
  have hb : ∀ F : Tr AV → CRes, gG zz [a0, (.int .i64 a1)] .leaf F = F (c8 [(p0, a0), (p1, (.int .i64 a1))]) := fun F => by kernel_rfl
  exact (mC hb).trans ((abc n k0 _).trans (ZX n k0 k hk (UU n k0 k hk n) a0 a1 h))
end
def dm (n : Nat) : cq := zr n
/-! cofferdam/cofferdamlaw12.adds -/
abbrev di := AV → Int → AV → Heap → (Bool → Heap → CRes) → CRes
abbrev dc := Bool → Heap → CRes
def mt (g : di) : Wr := fun l h k => lM l fun a0 l => ph .i64 l fun a1 l => lM l fun a2 l => mq l (g a0 a1 a2 h fun u0 h => k (.bool u0) h)
def cH (aa : aW) (aj : cG) (al : cU) (ae : ct) (ai : cz) (ab : cq) : dN := eO [(gP, gi aa), (tx, qg aj), (qZ, oZ al), (qS, nZ ae), (rX, oH ai), (pO, mV ab)]
abbrev cv (k0 : Q0) (k : dc) : Prop := ∀ u0 h, k0 (.bool u0) h = k u0 h
abbrev qr : Type := Bool → Heap → CRes
abbrev wo (J : Q1) (j : qr) : Prop := ∀ v156 h, J ⟨c8 [(p156, (.bool v156))], h⟩ = j v156 h
abbrev qp : Type := Int → Int → AV → Bool → Heap → CRes
abbrev vP (J : Q1) (j : qp) : Prop := ∀ v7 v12 v15 v148 h, J ⟨c8 [(p7, (.int .i64 v7)), (p12, (.int .i64 v12)), (p15, v15), (p148, (.bool v148))], h⟩ = j v7 v12 v15 v148 h
abbrev ql : Type := Int → AV → Int → AV → Bool → Heap → CRes
abbrev vS (J : Q1) (j : ql) : Prop := ∀ v7 v9 v12 v15 v142 h, J ⟨c8 [(p7, (.int .i64 v7)), (p9, v9), (p12, (.int .i64 v12)), (p15, v15), (p142, (.bool v142))], h⟩ = j v7 v9 v12 v15 v142 h
abbrev qb : Type := Int → Int → AV → Int → Int → AV → Heap → CRes
abbrev wu (J : Q1) (j : qb) : Prop := ∀ v7 v8 v9 v10 v12 v15 h, J ⟨c8 [(p7, (.int .i64 v7)), (p8, (.int .i64 v8)), (p9, v9), (p10, (.int .i64 v10)), (p12, (.int .i64 v12)), (p15, v15)], h⟩ = j v7 v8 v9 v10 v12 v15 h
abbrev oL : Type := Int → AV → Int → Int → AV → Int → Int → AV → Int → Bool → Heap → CRes
abbrev ug (J : Q1) (j : oL) : Prop := ∀ v1 v3 v7 v8 v9 v10 v12 v15 v16 v135 h, J ⟨c8 [(p1, (.int .i64 v1)), (p3, v3), (p7, (.int .i64 v7)), (p8, (.int .i64 v8)), (p9, v9), (p10, (.int .i64 v10)), (p12, (.int .i64 v12)), (p15, v15), (p16, (.int .i64 v16)), (p135, (.bool v135))], h⟩ = j v1 v3 v7 v8 v9 v10 v12 v15 v16 v135 h
abbrev qn : Type := Int → AV → Int → Int → AV → Int → Int → AV → Int → Bool → Heap → CRes
abbrev vK (J : Q1) (j : qn) : Prop := ∀ v1 v3 v7 v8 v9 v10 v12 v15 v16 v127 h, J ⟨c8 [(p1, (.int .i64 v1)), (p3, v3), (p7, (.int .i64 v7)), (p8, (.int .i64 v8)), (p9, v9), (p10, (.int .i64 v10)), (p12, (.int .i64 v12)), (p15, v15), (p16, (.int .i64 v16)), (p127, (.bool v127))], h⟩ = j v1 v3 v7 v8 v9 v10 v12 v15 v16 v127 h
abbrev pY : Type := Int → AV → Int → Int → AV → Int → Int → AV → Int → Bool → Heap → CRes
abbrev vk (J : Q1) (j : pY) : Prop := ∀ v1 v3 v7 v8 v9 v10 v12 v15 v16 v119 h, J ⟨c8 [(p1, (.int .i64 v1)), (p3, v3), (p7, (.int .i64 v7)), (p8, (.int .i64 v8)), (p9, v9), (p10, (.int .i64 v10)), (p12, (.int .i64 v12)), (p15, v15), (p16, (.int .i64 v16)), (p119, (.bool v119))], h⟩ = j v1 v3 v7 v8 v9 v10 v12 v15 v16 v119 h
abbrev qu : Type := Int → AV → Int → Int → AV → Int → Int → AV → Int → Bool → Heap → CRes
abbrev wj (J : Q1) (j : qu) : Prop := ∀ v1 v3 v7 v8 v9 v10 v12 v15 v16 v101 h, J ⟨c8 [(p1, (.int .i64 v1)), (p3, v3), (p7, (.int .i64 v7)), (p8, (.int .i64 v8)), (p9, v9), (p10, (.int .i64 v10)), (p12, (.int .i64 v12)), (p15, v15), (p16, (.int .i64 v16)), (p101, (.bool v101))], h⟩ = j v1 v3 v7 v8 v9 v10 v12 v15 v16 v101 h
abbrev qc : Type := Int → AV → Int → Int → AV → Int → Int → AV → Int → Bool → Heap → CRes
abbrev vv (J : Q1) (j : qc) : Prop := ∀ v1 v3 v7 v8 v9 v10 v12 v15 v16 v91 h, J ⟨c8 [(p1, (.int .i64 v1)), (p3, v3), (p7, (.int .i64 v7)), (p8, (.int .i64 v8)), (p9, v9), (p10, (.int .i64 v10)), (p12, (.int .i64 v12)), (p15, v15), (p16, (.int .i64 v16)), (p91, (.bool v91))], h⟩ = j v1 v3 v7 v8 v9 v10 v12 v15 v16 v91 h
abbrev qi : Type := Int → AV → Int → Int → AV → Int → Int → AV → Int → Bool → Heap → CRes
abbrev wd (J : Q1) (j : qi) : Prop := ∀ v1 v3 v7 v8 v9 v10 v12 v15 v16 v83 h, J ⟨c8 [(p1, (.int .i64 v1)), (p3, v3), (p7, (.int .i64 v7)), (p8, (.int .i64 v8)), (p9, v9), (p10, (.int .i64 v10)), (p12, (.int .i64 v12)), (p15, v15), (p16, (.int .i64 v16)), (p83, (.bool v83))], h⟩ = j v1 v3 v7 v8 v9 v10 v12 v15 v16 v83 h
abbrev dk : Type := Int → AV → Int → Int → AV → Int → Int → AV → Int → Heap → CRes
abbrev fV (J : Q1) (j : dk) : Prop := ∀ v1 v3 v7 v8 v9 v10 v12 v15 v16 h, J ⟨c8 [(p1, (.int .i64 v1)), (p3, v3), (p7, (.int .i64 v7)), (p8, (.int .i64 v8)), (p9, v9), (p10, (.int .i64 v10)), (p12, (.int .i64 v12)), (p15, v15), (p16, (.int .i64 v16))], h⟩ = j v1 v3 v7 v8 v9 v10 v12 v15 v16 h
abbrev oU : Type := Int → AV → AV → Int → Int → AV → Int → Int → Heap → CRes
abbrev uq (J : Q1) (j : oU) : Prop := ∀ v1 v2 v3 v7 v8 v9 v10 v12 h, J ⟨c8 [(p1, (.int .i64 v1)), (p2, v2), (p3, v3), (p7, (.int .i64 v7)), (p8, (.int .i64 v8)), (p9, v9), (p10, (.int .i64 v10)), (p12, (.int .i64 v12))], h⟩ = j v1 v2 v3 v7 v8 v9 v10 v12 h
abbrev jg : Type := Int → AV → AV → Int → Int → AV → Int → Int → AV → Int → Int → Heap → CRes
abbrev oR (J : Q1) (j : jg) : Prop := ∀ v1 v2 v3 v7 v8 v9 v10 v12 v50 v51 v52 h, J ⟨c8 [(p1, (.int .i64 v1)), (p2, v2), (p3, v3), (p7, (.int .i64 v7)), (p8, (.int .i64 v8)), (p9, v9), (p10, (.int .i64 v10)), (p12, (.int .i64 v12)), (p50, v50), (p51, (.int .i64 v51)), (p52, (.int .i64 v52))], h⟩ = j v1 v2 v3 v7 v8 v9 v10 v12 v50 v51 v52 h
abbrev oM : Type := Int → AV → AV → Int → Int → AV → Int → Heap → CRes
abbrev ux (J : Q1) (j : oM) : Prop := ∀ v1 v2 v3 v7 v8 v9 v10 h, J ⟨c8 [(p1, (.int .i64 v1)), (p2, v2), (p3, v3), (p7, (.int .i64 v7)), (p8, (.int .i64 v8)), (p9, v9), (p10, (.int .i64 v10))], h⟩ = j v1 v2 v3 v7 v8 v9 v10 h
abbrev oK : Type := Int → AV → AV → Int → Int → AV → Int → Int → Bool → Heap → CRes
abbrev uf (J : Q1) (j : oK) : Prop := ∀ v1 v2 v3 v7 v8 v9 v10 v11 v48 h, J ⟨c8 [(p1, (.int .i64 v1)), (p2, v2), (p3, v3), (p7, (.int .i64 v7)), (p8, (.int .i64 v8)), (p9, v9), (p10, (.int .i64 v10)), (p11, (.int .u8 v11)), (p48, (.bool v48))], h⟩ = j v1 v2 v3 v7 v8 v9 v10 v11 v48 h
abbrev gk : Type := Int → AV → AV → Int → Int → AV → Int → Int → Heap → CRes
abbrev mz (J : Q1) (j : gk) : Prop := ∀ v1 v2 v3 v7 v8 v9 v10 v11 h, J ⟨c8 [(p1, (.int .i64 v1)), (p2, v2), (p3, v3), (p7, (.int .i64 v7)), (p8, (.int .i64 v8)), (p9, v9), (p10, (.int .i64 v10)), (p11, (.int .u8 v11))], h⟩ = j v1 v2 v3 v7 v8 v9 v10 v11 h
section
variable (n : Nat) (aa : aW) (aj : cG) (al : cU) (ae : ct) (ai : cz) (ab : cq) (k0 : Q0) (k : dc)
def DL (n : Nat) (aa : aW) (aj : cG) (al : cU) (ae : ct) (ai : cz) (ab : cq) (k0 : Q0) : Q1 := (bS (cH aa aj al ae ai ab) cC DS (cX k9 k0))
def wv (n : Nat) (aa : aW) (aj : cG) (al : cU) (ae : ct) (ai : cz) (ab : cq) (k : dc) (v156 : Bool) (h : Heap) : CRes :=
 k v156 h
theorem SK (hk : cv k0 k) : wo (DL n aa aj al ae ai ab k0 ) (wv n aa aj al ae ai ab k ) := by
  obtain rfl := fx2 hk
  intro v156 h
  kernel_rfl
def DI : Q1 := DL n aa aj al ae ai ab k0
def vG : qr := wv n aa aj al ae ai ab k
theorem T2 (hk : cv k0 k) : wo (DI n aa aj al ae ai ab k0 ) (vG n aa aj al ae ai ab k ) := SK n aa aj al ae ai ab k0 k hk
def D4 (n : Nat) (aa : aW) (aj : cG) (al : cU) (ae : ct) (ai : cz) (ab : cq) (k0 : Q0) (J2 : Q1) : Q1 := (bS (cH aa aj al ae ai ab) cC Ee (fun s => da DA s J2))
def vH (n : Nat) (aa : aW) (aj : cG) (al : cU) (ae : ct) (ai : cz) (ab : cq) (k : dc) (j2 : qr) (v7 : Int) (v12 : Int) (v15 : AV) (v148 : Bool) (h : Heap) : CRes :=
 ifB v148
 (jb v15 fun x45 =>
 Yl .i64 v7 v12 fun x46 =>
 j2 (eqF x45 x46) h)
 (j2 false h)
theorem R5 (hk : cv k0 k) {J2 : Q1} {j2 : qr} (h2 : wo J2 j2) : vP (D4 n aa aj al ae ai ab k0 J2) (vH n aa aj al ae ai ab k j2) := by
  obtain rfl := fx2 hk
  obtain rfl := fx2 h2
  intro v7 v12 v15 v148 h
  kernel_rfl
def Ec : Q1 := D4 n aa aj al ae ai ab k0 (DI n aa aj al ae ai ab k0 )
def vc : qp := vH n aa aj al ae ai ab k (vG n aa aj al ae ai ab k )
theorem SB (hk : cv k0 k) : vP (Ec n aa aj al ae ai ab k0 ) (vc n aa aj al ae ai ab k ) := R5 n aa aj al ae ai ab k0 k hk (T2 n aa aj al ae ai ab k0 k hk )
def DG (n : Nat) (aa : aW) (aj : cG) (al : cU) (ae : ct) (ai : cz) (ab : cq) (k0 : Q0) (J1 : Q1) : Q1 := (bS (cH aa aj al ae ai ab) cC Ep (fun s => da Ek s J1))
def vU (n : Nat) (aa : aW) (aj : cG) (al : cU) (ae : ct) (ai : cz) (ab : cq) (k : dc) (j1 : qp) (v7 : Int) (v9 : AV) (v12 : Int) (v15 : AV) (v142 : Bool) (h : Heap) : CRes :=
 ifB v142
 (KG 1 7 v9 0 fun x40 =>
 ldI .i64 h x40 fun x41 =>
 j1 v7 v12 v15 (eqF v12 x41) h)
 (j1 v7 v12 v15 false h)
theorem TD (hk : cv k0 k) {J1 : Q1} {j1 : qp} (h1 : vP J1 j1) : vS (DG n aa aj al ae ai ab k0 J1) (vU n aa aj al ae ai ab k j1) := by
  obtain rfl := fx2 hk
  obtain rfl := fx5 h1
  intro v7 v9 v12 v15 v142 h
  kernel_rfl
def D8 : Q1 := DG n aa aj al ae ai ab k0 (Ec n aa aj al ae ai ab k0 )
def vY : ql := vU n aa aj al ae ai ab k (vc n aa aj al ae ai ab k )
theorem Tb (hk : cv k0 k) : vS (D8 n aa aj al ae ai ab k0 ) (vY n aa aj al ae ai ab k ) := TD n aa aj al ae ai ab k0 k hk (SB n aa aj al ae ai ab k0 k hk )
def DE (n : Nat) (aa : aW) (aj : cG) (al : cU) (ae : ct) (ai : cz) (ab : cq) (k0 : Q0) (J0 : Q1) : Q1 := (bS (cH aa aj al ae ai ab) cC DU (fun s => da Eg s J0))
def vx (n : Nat) (aa : aW) (aj : cG) (al : cU) (ae : ct) (ai : cz) (ab : cq) (k : dc) (j0 : ql) (v7 : Int) (v8 : Int) (v9 : AV) (v10 : Int) (v12 : Int) (v15 : AV) (h : Heap) : CRes :=
 ifB (eqF v8 0)
 (j0 v7 v9 v12 v15 (eqF v10 v7) h)
 (j0 v7 v9 v12 v15 false h)
theorem TJ (hk : cv k0 k) {J0 : Q1} {j0 : ql} (h0 : vS J0 j0) : wu (DE n aa aj al ae ai ab k0 J0) (vx n aa aj al ae ai ab k j0) := by
  obtain rfl := fx2 hk
  obtain rfl := fx6 h0
  intro v7 v8 v9 v10 v12 v15 h
  kernel_rfl
def DX : Q1 := DE n aa aj al ae ai ab k0 (D8 n aa aj al ae ai ab k0 )
def qm : qb := vx n aa aj al ae ai ab k (vY n aa aj al ae ai ab k )
theorem SF (hk : cv k0 k) : wu (DX n aa aj al ae ai ab k0 ) (qm n aa aj al ae ai ab k ) := TJ n aa aj al ae ai ab k0 k hk (Tb n aa aj al ae ai ab k0 k hk )
def BP (n : Nat) (aa : aW) (aj : cG) (al : cU) (ae : ct) (ai : cz) (ab : cq) (k0 : Q0) (J4 : Q1) : Q1 := (fun s => eK (.t p135) s (bS (cH aa aj al ae ai ab) cC DJ (cX k9 k0)) (bS (cH aa aj al ae ai ab) cC Em (fun s => da vt s J4)))
def uy (n : Nat) (aa : aW) (aj : cG) (al : cU) (ae : ct) (ai : cz) (ab : cq) (k : dc) (j4 : dk) (v1 : Int) (v3 : AV) (v7 : Int) (v8 : Int) (v9 : AV) (v10 : Int) (v12 : Int) (v15 : AV) (v16 : Int) (v135 : Bool) (h : Heap) : CRes :=
 ifB v135
 (k false h)
 (lU .i64 v16 1 fun x71 =>
 j4 v1 v3 v7 v8 v9 v10 v12 v15 x71 h)
theorem QT (hk : cv k0 k) {J4 : Q1} {j4 : dk} (h4 : fV J4 j4) : ug (BP n aa aj al ae ai ab k0 J4) (uy n aa aj al ae ai ab k j4) := by
  obtain rfl := fx2 hk
  obtain rfl := fx10 h4
  intro v1 v3 v7 v8 v9 v10 v12 v15 v16 v135 h
  kernel_rfl
def B8 (J4 : Q1) : Q1 := BP n aa aj al ae ai ab k0 J4
def oO (j4 : dk) : oL := uy n aa aj al ae ai ab k j4
theorem Q3 (hk : cv k0 k) {J4 : Q1} {j4 : dk} (h4 : fV J4 j4) : ug (B8 n aa aj al ae ai ab k0 J4) (oO n aa aj al ae ai ab k j4) := QT n aa aj al ae ai ab k0 k hk h4
def Ed (n : Nat) (aa : aW) (aj : cG) (al : cU) (ae : ct) (ai : cz) (ab : cq) (k0 : Q0) (J10 : Q1) : Q1 := (bS (cH aa aj al ae ai ab) cC Cq (fun s => da Cs s J10))
def vC (n : Nat) (aa : aW) (aj : cG) (al : cU) (ae : ct) (ai : cz) (ab : cq) (k : dc) (j10 : oL) (v1 : Int) (v3 : AV) (v7 : Int) (v8 : Int) (v9 : AV) (v10 : Int) (v12 : Int) (v15 : AV) (v16 : Int) (v127 : Bool) (h : Heap) : CRes :=
 ifB v127
 (j10 v1 v3 v7 v8 v9 v10 v12 v15 v16 true h)
 (SM 2 v15 v16 fun x68 =>
 jO .u8 1 h x68 fun x69 x70 =>
 j10 v1 v3 v7 v8 v9 v10 v12 v15 v16 (ltF 6 x70) h)
theorem Ul (hk : cv k0 k) {J10 : Q1} {j10 : oL} (h10 : ug J10 j10) : vK (Ed n aa aj al ae ai ab k0 J10) (vC n aa aj al ae ai ab k j10) := by
  obtain rfl := fx2 hk
  obtain rfl := fx11 h10
  intro v1 v3 v7 v8 v9 v10 v12 v15 v16 v127 h
  kernel_rfl
def Ej (J4 : Q1) : Q1 := Ed n aa aj al ae ai ab k0 (B8 n aa aj al ae ai ab k0 J4)
def qd (j4 : dk) : qn := vC n aa aj al ae ai ab k (oO n aa aj al ae ai ab k j4)
theorem R6 (hk : cv k0 k) {J4 : Q1} {j4 : dk} (h4 : fV J4 j4) : vK (Ej n aa aj al ae ai ab k0 J4) (qd n aa aj al ae ai ab k j4) := Ul n aa aj al ae ai ab k0 k hk (Q3 n aa aj al ae ai ab k0 k hk h4)
def DN (n : Nat) (aa : aW) (aj : cG) (al : cU) (ae : ct) (ai : cz) (ab : cq) (k0 : Q0) (J9 : Q1) : Q1 := (bS (cH aa aj al ae ai ab) cC BX (fun s => da Eb s J9))
def vW (n : Nat) (aa : aW) (aj : cG) (al : cU) (ae : ct) (ai : cz) (ab : cq) (k : dc) (j9 : qn) (v1 : Int) (v3 : AV) (v7 : Int) (v8 : Int) (v9 : AV) (v10 : Int) (v12 : Int) (v15 : AV) (v16 : Int) (v119 : Bool) (h : Heap) : CRes :=
 ifB v119
 (j9 v1 v3 v7 v8 v9 v10 v12 v15 v16 true h)
 (SM 2 v15 v16 fun x65 =>
 jO .u8 1 h x65 fun x66 x67 =>
 j9 v1 v3 v7 v8 v9 v10 v12 v15 v16 (ltF x67 1) h)
theorem TV (hk : cv k0 k) {J9 : Q1} {j9 : qn} (h9 : vK J9 j9) : vk (DN n aa aj al ae ai ab k0 J9) (vW n aa aj al ae ai ab k j9) := by
  obtain rfl := fx2 hk
  obtain rfl := fx11 h9
  intro v1 v3 v7 v8 v9 v10 v12 v15 v16 v119 h
  kernel_rfl
def Ei (J4 : Q1) : Q1 := DN n aa aj al ae ai ab k0 (Ej n aa aj al ae ai ab k0 J4)
def qa (j4 : dk) : pY := vW n aa aj al ae ai ab k (qd n aa aj al ae ai ab k j4)
theorem TO (hk : cv k0 k) {J4 : Q1} {j4 : dk} (h4 : fV J4 j4) : vk (Ei n aa aj al ae ai ab k0 J4) (qa n aa aj al ae ai ab k j4) := TV n aa aj al ae ai ab k0 k hk (R6 n aa aj al ae ai ab k0 k hk h4)
def DQ (n : Nat) (aa : aW) (aj : cG) (al : cU) (ae : ct) (ai : cz) (ab : cq) (k0 : Q0) (J8 : Q1) : Q1 := (bS (cH aa aj al ae ai ab) cC D6 (fun s => da Eo s J8))
def wg (n : Nat) (aa : aW) (aj : cG) (al : cU) (ae : ct) (ai : cz) (ab : cq) (k : dc) (j8 : pY) (v1 : Int) (v3 : AV) (v7 : Int) (v8 : Int) (v9 : AV) (v10 : Int) (v12 : Int) (v15 : AV) (v16 : Int) (v101 : Bool) (h : Heap) : CRes :=
 ifB v101
 (j8 v1 v3 v7 v8 v9 v10 v12 v15 v16 true h)
 (faK 16 v3 fun x52 =>
 gJ h x52 1 false fun x53 =>
 SM 8 x53 v1 fun x54 =>
 fld 0 h x54 1 false fun x55 x56 =>
 SM 2 v15 v16 fun x57 =>
 jO .i64 0 h x57 fun x58 x59 =>
 jO .i64 1 h v3 fun x60 x61 =>
 remK .i64 x59 x61 fun x62 =>
 ab x56 x62 h fun x63 h64 =>
 j8 v1 v3 v7 v8 v9 v10 v12 v15 v16 (jk x63) h64)
theorem TF (hk : cv k0 k) {J8 : Q1} {j8 : pY} (h8 : vk J8 j8) : wj (DQ n aa aj al ae ai ab k0 J8) (wg n aa aj al ae ai ab k j8) := by
  obtain rfl := fx2 hk
  obtain rfl := fx11 h8
  intro v1 v3 v7 v8 v9 v10 v12 v15 v16 v101 h
  kernel_rfl
def Eh (J4 : Q1) : Q1 := DQ n aa aj al ae ai ab k0 (Ei n aa aj al ae ai ab k0 J4)
def qt (j4 : dk) : qu := wg n aa aj al ae ai ab k (qa n aa aj al ae ai ab k j4)
theorem RO (hk : cv k0 k) {J4 : Q1} {j4 : dk} (h4 : fV J4 j4) : wj (Eh n aa aj al ae ai ab k0 J4) (qt n aa aj al ae ai ab k j4) := TF n aa aj al ae ai ab k0 k hk (TO n aa aj al ae ai ab k0 k hk h4)
def DW (n : Nat) (aa : aW) (aj : cG) (al : cU) (ae : ct) (ai : cz) (ab : cq) (k0 : Q0) (J7 : Q1) : Q1 := (bS (cH aa aj al ae ai ab) cC D3 (fun s => da DY s J7))
def ww (n : Nat) (aa : aW) (aj : cG) (al : cU) (ae : ct) (ai : cz) (ab : cq) (k : dc) (j7 : qu) (v1 : Int) (v3 : AV) (v7 : Int) (v8 : Int) (v9 : AV) (v10 : Int) (v12 : Int) (v15 : AV) (v16 : Int) (v91 : Bool) (h : Heap) : CRes :=
 ifB v91
 (j7 v1 v3 v7 v8 v9 v10 v12 v15 v16 true h)
 (SM 2 v15 v16 fun x47 =>
 jO .i64 0 h x47 fun x48 x49 =>
 jO .i64 0 h v3 fun x50 x51 =>
 j7 v1 v3 v7 v8 v9 v10 v12 v15 v16 (jk (ltF x49 x51)) h)
theorem SA (hk : cv k0 k) {J7 : Q1} {j7 : qu} (h7 : wj J7 j7) : vv (DW n aa aj al ae ai ab k0 J7) (ww n aa aj al ae ai ab k j7) := by
  obtain rfl := fx2 hk
  obtain rfl := fx11 h7
  intro v1 v3 v7 v8 v9 v10 v12 v15 v16 v91 h
  kernel_rfl
def DV (J4 : Q1) : Q1 := DW n aa aj al ae ai ab k0 (Eh n aa aj al ae ai ab k0 J4)
def qj (j4 : dk) : qc := ww n aa aj al ae ai ab k (qt n aa aj al ae ai ab k j4)
theorem S3 (hk : cv k0 k) {J4 : Q1} {j4 : dk} (h4 : fV J4 j4) : vv (DV n aa aj al ae ai ab k0 J4) (qj n aa aj al ae ai ab k j4) := SA n aa aj al ae ai ab k0 k hk (RO n aa aj al ae ai ab k0 k hk h4)
def DP (n : Nat) (aa : aW) (aj : cG) (al : cU) (ae : ct) (ai : cz) (ab : cq) (k0 : Q0) (J6 : Q1) : Q1 := (bS (cH aa aj al ae ai ab) cC DF (fun s => da Dz s J6))
def vJ (n : Nat) (aa : aW) (aj : cG) (al : cU) (ae : ct) (ai : cz) (ab : cq) (k : dc) (j6 : qc) (v1 : Int) (v3 : AV) (v7 : Int) (v8 : Int) (v9 : AV) (v10 : Int) (v12 : Int) (v15 : AV) (v16 : Int) (v83 : Bool) (h : Heap) : CRes :=
 ifB v83
 (j6 v1 v3 v7 v8 v9 v10 v12 v15 v16 true h)
 (SM 2 v15 v16 fun x42 =>
 jO .i64 0 h x42 fun x43 x44 =>
 j6 v1 v3 v7 v8 v9 v10 v12 v15 v16 (ltF x44 0) h)
theorem RP (hk : cv k0 k) {J6 : Q1} {j6 : qc} (h6 : vv J6 j6) : wd (DP n aa aj al ae ai ab k0 J6) (vJ n aa aj al ae ai ab k j6) := by
  obtain rfl := fx2 hk
  obtain rfl := fx11 h6
  intro v1 v3 v7 v8 v9 v10 v12 v15 v16 v83 h
  kernel_rfl
def D7 (J4 : Q1) : Q1 := DP n aa aj al ae ai ab k0 (DV n aa aj al ae ai ab k0 J4)
def mY (j4 : dk) : qi := vJ n aa aj al ae ai ab k (qj n aa aj al ae ai ab k j4)
theorem R1 (hk : cv k0 k) {J4 : Q1} {j4 : dk} (h4 : fV J4 j4) : wd (D7 n aa aj al ae ai ab k0 J4) (mY n aa aj al ae ai ab k j4) := RP n aa aj al ae ai ab k0 k hk (S3 n aa aj al ae ai ab k0 k hk h4)
def DT (n : Nat) (aa : aW) (aj : cG) (al : cU) (ae : ct) (ai : cz) (ab : cq) (k0 : Q0) (J3 : Q1) (J5 : Q1) : Q1 := (bS (cH aa aj al ae ai ab) cC Cd (fun s => eK (.t p65) s (bS (cH aa aj al ae ai ab) cC D9 (fun s => da Er s J5)) (fun s => da DB s J3)))
def pZ (n : Nat) (aa : aW) (aj : cG) (al : cU) (ae : ct) (ai : cz) (ab : cq) (k : dc) (j3 : qb) (j5 : qi) (v1 : Int) (v3 : AV) (v7 : Int) (v8 : Int) (v9 : AV) (v10 : Int) (v12 : Int) (v15 : AV) (v16 : Int) (h : Heap) : CRes :=
 jb v15 fun x32 =>
 ifB (ltF v16 x32)
 (ifB (ltF 0 v16)
 (SM 2 v15 v16 fun x33 =>
 jO .i64 0 h x33 fun x34 x35 =>
 Yl .i64 v16 1 fun x36 =>
 SM 2 v15 x36 fun x37 =>
 jO .i64 0 h x37 fun x38 x39 =>
 j5 v1 v3 v7 v8 v9 v10 v12 v15 v16 (jk (ltF x39 x35)) h)
 (j5 v1 v3 v7 v8 v9 v10 v12 v15 v16 false h))
 (j3 v7 v8 v9 v10 v12 v15 h)
theorem RZ (hk : cv k0 k) {J3 : Q1} {j3 : qb} (h3 : wu J3 j3) {J5 : Q1} {j5 : qi} (h5 : wd J5 j5) : fV (DT n aa aj al ae ai ab k0 J3 J5) (pZ n aa aj al ae ai ab k j3 j5) := by
  obtain rfl := fx2 hk
  obtain rfl := fx7 h3
  obtain rfl := fx11 h5
  intro v1 v3 v7 v8 v9 v10 v12 v15 v16 h
  kernel_rfl
def El (m : Nat) : Q1 := Nat.rec (motive := fun _ => Q1) (fun _ => .err) (fun _ ih => DT n aa aj al ae ai ab k0 (DX n aa aj al ae ai ab k0 ) (D7 n aa aj al ae ai ab k0 ih)) m
def fG (m : Nat) : dk := Nat.rec (motive := fun _ => dk) (fun _ _ _ _ _ _ _ _ _ _ => .err) (fun _ ih => pZ n aa aj al ae ai ab k (qm n aa aj al ae ai ab k ) (mY n aa aj al ae ai ab k ih)) m
theorem SN (m : Nat) : fG n aa aj al ae ai ab k (m + 1) = pZ n aa aj al ae ai ab k (qm n aa aj al ae ai ab k ) (mY n aa aj al ae ai ab k (fG n aa aj al ae ai ab k m)) := rfl
theorem S0 (hk : cv k0 k) (m : Nat) : fV (El n aa aj al ae ai ab k0 m) (fG n aa aj al ae ai ab k m) := by
  induction m with
  | zero => intro v1 v3 v7 v8 v9 v10 v12 v15 v16 h; rfl
  | succ m ih => exact RZ n aa aj al ae ai ab k0 k hk (SF n aa aj al ae ai ab k0 k hk ) (R1 n aa aj al ae ai ab k0 k hk ih)
def Cg (n : Nat) (aa : aW) (aj : cG) (al : cU) (ae : ct) (ai : cz) (ab : cq) (k0 : Q0) (J4 : Q1) : Q1 := (bS (cH aa aj al ae ai ab) cC Ct (bS (cH aa aj al ae ai ab) cC Cv (fun s => da vt s J4)))
def uz (n : Nat) (aa : aW) (aj : cG) (al : cU) (ae : ct) (ai : cz) (ab : cq) (k : dc) (j4 : dk) (v1 : Int) (v2 : AV) (v3 : AV) (v7 : Int) (v8 : Int) (v9 : AV) (v10 : Int) (v12 : Int) (h : Heap) : CRes :=
 ai v2 h fun x25 h26 =>
 j4 v1 v3 v7 v8 v9 v10 v12 x25 0 h26
theorem Rh (hk : cv k0 k) {J4 : Q1} {j4 : dk} (h4 : fV J4 j4) : uq (Cg n aa aj al ae ai ab k0 J4) (uz n aa aj al ae ai ab k j4) := by
  obtain rfl := fx2 hk
  obtain rfl := fx10 h4
  intro v1 v2 v3 v7 v8 v9 v10 v12 h
  kernel_rfl
def Cu : Q1 := Cg n aa aj al ae ai ab k0 (El n aa aj al ae ai ab k0 n)
def oT : oU := uz n aa aj al ae ai ab k (fG n aa aj al ae ai ab k n)
theorem Rb (hk : cv k0 k) : uq (Cu n aa aj al ae ai ab k0 ) (oT n aa aj al ae ai ab k ) := Rh n aa aj al ae ai ab k0 k hk (S0 n aa aj al ae ai ab k0 k hk n)
def BS (n : Nat) (aa : aW) (aj : cG) (al : cU) (ae : ct) (ai : cz) (ab : cq) (k0 : Q0) (J11 : Q1) (J12 : Q1) : Q1 := (bS (cH aa aj al ae ai ab) cC Ch (fun s => eK (.t p53) s (bS (cH aa aj al ae ai ab) cC BD (bS (cH aa aj al ae ai ab) cC BW (bS (cH aa aj al ae ai ab) cC BU (fun s => da ut s J12)))) (fun s => da Cp s J11)))
def oS (n : Nat) (aa : aW) (aj : cG) (al : cU) (ae : ct) (ai : cz) (ab : cq) (k : dc) (j11 : oU) (j12 : jg) (v1 : Int) (v2 : AV) (v3 : AV) (v7 : Int) (v8 : Int) (v9 : AV) (v10 : Int) (v12 : Int) (v50 : AV) (v51 : Int) (v52 : Int) (h : Heap) : CRes :=
 ifB (ltF v52 v51)
 (Q6 .i64 1 h v50 v52 fun x27 x28 =>
 lU .i64 v12 x28 fun x29 =>
 lU .i64 v52 1 fun x30 =>
 j12 v1 v2 v3 v7 v8 v9 v10 x29 v50 v51 x30 h)
 (j11 v1 v2 v3 v7 v8 v9 v10 v12 h)
theorem Q4 (hk : cv k0 k) {J11 : Q1} {j11 : oU} (h11 : uq J11 j11) {J12 : Q1} {j12 : jg} (h12 : oR J12 j12) : oR (BS n aa aj al ae ai ab k0 J11 J12) (oS n aa aj al ae ai ab k j11 j12) := by
  obtain rfl := fx2 hk
  obtain rfl := fx9 h11
  obtain rfl := fx12 h12
  intro v1 v2 v3 v7 v8 v9 v10 v12 v50 v51 v52 h
  kernel_rfl
def BQ (m : Nat) : Q1 := Nat.rec (motive := fun _ => Q1) (fun _ => .err) (fun _ ih => BS n aa aj al ae ai ab k0 (Cu n aa aj al ae ai ab k0 ) ih) m
def mw (m : Nat) : jg := Nat.rec (motive := fun _ => jg) (fun _ _ _ _ _ _ _ _ _ _ _ _ => .err) (fun _ ih => oS n aa aj al ae ai ab k (oT n aa aj al ae ai ab k ) ih) m
theorem Rw (m : Nat) : mw n aa aj al ae ai ab k (m + 1) = oS n aa aj al ae ai ab k (oT n aa aj al ae ai ab k ) (mw n aa aj al ae ai ab k m) := rfl
theorem RD (hk : cv k0 k) (m : Nat) : oR (BQ n aa aj al ae ai ab k0 m) (mw n aa aj al ae ai ab k m) := by
  induction m with
  | zero => intro v1 v2 v3 v7 v8 v9 v10 v12 v50 v51 v52 h; rfl
  | succ m ih => exact Q4 n aa aj al ae ai ab k0 k hk (Rb n aa aj al ae ai ab k0 k hk ) ih
def BE (n : Nat) (aa : aW) (aj : cG) (al : cU) (ae : ct) (ai : cz) (ab : cq) (k0 : Q0) (J12 : Q1) : Q1 := (bS (cH aa aj al ae ai ab) cC BF (bS (cH aa aj al ae ai ab) cC Cn (fun s => da ut s J12)))
def ur (n : Nat) (aa : aW) (aj : cG) (al : cU) (ae : ct) (ai : cz) (ab : cq) (k : dc) (j12 : jg) (v1 : Int) (v2 : AV) (v3 : AV) (v7 : Int) (v8 : Int) (v9 : AV) (v10 : Int) (h : Heap) : CRes :=
 aj v2 h fun x11 h12 =>
 jb x11 fun x13 =>
 j12 v1 v2 v3 v7 v8 v9 v10 0 x11 x13 0 h12
theorem RA (hk : cv k0 k) {J12 : Q1} {j12 : jg} (h12 : oR J12 j12) : ux (BE n aa aj al ae ai ab k0 J12) (ur n aa aj al ae ai ab k j12) := by
  obtain rfl := fx2 hk
  obtain rfl := fx12 h12
  intro v1 v2 v3 v7 v8 v9 v10 h
  kernel_rfl
def BL : Q1 := BE n aa aj al ae ai ab k0 (BQ n aa aj al ae ai ab k0 n)
def pk : oM := ur n aa aj al ae ai ab k (mw n aa aj al ae ai ab k n)
theorem RH (hk : cv k0 k) : ux (BL n aa aj al ae ai ab k0 ) (pk n aa aj al ae ai ab k ) := RA n aa aj al ae ai ab k0 k hk (RD n aa aj al ae ai ab k0 k hk n)
def Co (n : Nat) (aa : aW) (aj : cG) (al : cU) (ae : ct) (ai : cz) (ab : cq) (k0 : Q0) (J14 : Q1) : Q1 := (fun s => eK (.t p48) s (bS (cH aa aj al ae ai ab) cC BC (cX k9 k0)) (bS (cH aa aj al ae ai ab) cC Cm (fun s => da ul s J14)))
def uv (n : Nat) (aa : aW) (aj : cG) (al : cU) (ae : ct) (ai : cz) (ab : cq) (k : dc) (j14 : gk) (v1 : Int) (v2 : AV) (v3 : AV) (v7 : Int) (v8 : Int) (v9 : AV) (v10 : Int) (v11 : Int) (v48 : Bool) (h : Heap) : CRes :=
 ifB v48
 (k false h)
 (lU .u8 v11 1 fun x31 =>
 j14 v1 v2 v3 v7 v8 v9 v10 x31 h)
theorem Rl (hk : cv k0 k) {J14 : Q1} {j14 : gk} (h14 : mz J14 j14) : uf (Co n aa aj al ae ai ab k0 J14) (uv n aa aj al ae ai ab k j14) := by
  obtain rfl := fx2 hk
  obtain rfl := fx9 h14
  intro v1 v2 v3 v7 v8 v9 v10 v11 v48 h
  kernel_rfl
def B1 (J14 : Q1) : Q1 := Co n aa aj al ae ai ab k0 J14
def oP (j14 : gk) : oK := uv n aa aj al ae ai ab k j14
theorem QS (hk : cv k0 k) {J14 : Q1} {j14 : gk} (h14 : mz J14 j14) : uf (B1 n aa aj al ae ai ab k0 J14) (oP n aa aj al ae ai ab k j14) := Rl n aa aj al ae ai ab k0 k hk h14
def Ce (n : Nat) (aa : aW) (aj : cG) (al : cU) (ae : ct) (ai : cz) (ab : cq) (k0 : Q0) (J13 : Q1) (J15 : Q1) : Q1 := (bS (cH aa aj al ae ai ab) cC B9 (fun s => eK (.t p26) s (bS (cH aa aj al ae ai ab) cC BB (bS (cH aa aj al ae ai ab) cC B2 (fun s => da B0 s J15))) (fun s => da Cc s J13)))
def oQ (n : Nat) (aa : aW) (aj : cG) (al : cU) (ae : ct) (ai : cz) (ab : cq) (k : dc) (j13 : oM) (j15 : oK) (v1 : Int) (v2 : AV) (v3 : AV) (v7 : Int) (v8 : Int) (v9 : AV) (v10 : Int) (v11 : Int) (h : Heap) : CRes :=
 ifB (ltF v11 7)
 (KG 1 7 v9 v11 fun x14 =>
 ldI .i64 h x14 fun x15 =>
 lU .i64 v10 x15 fun x16 =>
 ifB (ltF 1 v11)
 (KG 1 7 v9 v11 fun x17 =>
 ldI .i64 h x17 fun x18 =>
 fld 16 h v3 1 false fun x19 x20 =>
 eld 8 h x20 v1 8 true fun x21 x22 =>
 aa x22 v11 (h.shut true) fun x23 h24 =>
 j15 v1 v2 v3 v7 v8 v9 x16 v11 (ltF x23 x18) (h24.back h.ro))
 (j15 v1 v2 v3 v7 v8 v9 x16 v11 false h))
 (j13 v1 v2 v3 v7 v8 v9 v10 h)
theorem QX (hk : cv k0 k) {J13 : Q1} {j13 : oM} (h13 : ux J13 j13) {J15 : Q1} {j15 : oK} (h15 : uf J15 j15) : mz (Ce n aa aj al ae ai ab k0 J13 J15) (oQ n aa aj al ae ai ab k j13 j15) := by
  obtain rfl := fx2 hk
  obtain rfl := fx8 h13
  obtain rfl := fx10 h15
  intro v1 v2 v3 v7 v8 v9 v10 v11 h
  kernel_rfl
def Cb (m : Nat) : Q1 := Nat.rec (motive := fun _ => Q1) (fun _ => .err) (fun _ ih => Ce n aa aj al ae ai ab k0 (BL n aa aj al ae ai ab k0 ) (B1 n aa aj al ae ai ab k0 ih)) m
def kN (m : Nat) : gk := Nat.rec (motive := fun _ => gk) (fun _ _ _ _ _ _ _ _ _ => .err) (fun _ ih => oQ n aa aj al ae ai ab k (pk n aa aj al ae ai ab k ) (oP n aa aj al ae ai ab k ih)) m
theorem Rc (m : Nat) : kN n aa aj al ae ai ab k (m + 1) = oQ n aa aj al ae ai ab k (pk n aa aj al ae ai ab k ) (oP n aa aj al ae ai ab k (kN n aa aj al ae ai ab k m)) := rfl
theorem RK (hk : cv k0 k) (m : Nat) : mz (Cb n aa aj al ae ai ab k0 m) (kN n aa aj al ae ai ab k m) := by
  induction m with
  | zero => intro v1 v2 v3 v7 v8 v9 v10 v11 h; rfl
  | succ m ih => exact QX n aa aj al ae ai ab k0 k hk (RH n aa aj al ae ai ab k0 k hk ) (QS n aa aj al ae ai ab k0 k hk ih)
def G5 (n : Nat) (aa : aW) (aj : cG) (al : cU) (ae : ct) (ai : cz) (ab : cq) (k0 : Q0) (J14 : Q1) : Q1 := (bS (cH aa aj al ae ai ab) cC Cw (bS (cH aa aj al ae ai ab) cC Cj (bS (cH aa aj al ae ai ab) cC BH (bS (cH aa aj al ae ai ab) cC BR (bS (cH aa aj al ae ai ab) cC BK (fun s => da ul s J14))))))
def yn (n : Nat) (aa : aW) (aj : cG) (al : cU) (ae : ct) (ai : cz) (ab : cq) (k : dc) (j14 : gk) (a0 : AV) (a1 : Int) (a2 : AV) (h : Heap) : CRes :=
 zt h a0 fun x0 h1 =>
 gJ h1 (.ptr x0 0) 17 true fun x2 =>
 al x2 a1 h1 fun x3 x4 h5 =>
 ae a2 h5 fun x6 h7 =>
 yA h7 (.cells [(.int .i64 0), (.int .i64 0), (.int .i64 0), (.int .i64 0), (.int .i64 0), (.int .i64 0), (.int .i64 0)] true 0) fun x8 h9 =>
 lR h9 (.ptr x8 0) 7 x6 fun h10 =>
 j14 a1 a2 (.ptr x0 0) x3 x4 (.ptr x8 0) 0 0 h10
theorem X4 (n : Nat) (aa : aW) (aj : cG) (al : cU) (ae : ct) (ai : cz) (ab : cq) (k0 : Q0) (k : dc) (hk : cv k0 k) {J14 : Q1} {j14 : gk} (h14 : mz J14 j14) (a0 : AV) (a1 : Int) (a2 : AV) (h : Heap) : (G5 n aa aj al ae ai ab k0 J14) ⟨c8 [(p0, a0), (p1, (.int .i64 a1)), (p2, a2)], h⟩ = (yn n aa aj al ae ai ab k j14) a0 a1 a2 h := by
  obtain rfl := fx2 hk
  obtain rfl := fx9 h14
  kernel_rfl
def XW : Q1 := G5 n aa aj al ae ai ab k0 (Cb n aa aj al ae ai ab k0 n)
def yC (n : Nat) (aa : aW) (aj : cG) (al : cU) (ae : ct) (ai : cz) (ab : cq) (a0 : AV) (a1 : Int) (a2 : AV) (h : Heap) (k : dc) : CRes := yn n aa aj al ae ai ab k (kN n aa aj al ae ai ab k n) a0 a1 a2 h
theorem X6 (n : Nat) (aa : aW) (aj : cG) (al : cU) (ae : ct) (ai : cz) (ab : cq) (k0 : Q0) (s : St) : D (eO [(gP, gi aa), (tx, qg aj), (qZ, oZ al), (qS, nZ ae), (rX, oH ai), (pO, mV ab)]) cC n yv (cX k9 k0) (fun _ _ => .err) (cX k9 k0) s = XW n aa aj al ae ai ab k0 s := by kernel_rfl
theorem Yi (n : Nat) (aa : aW) (aj : cG) (al : cU) (ae : ct) (ai : cz) (ab : cq) (a0 : AV) (a1 : Int) (a2 : AV) (h : Heap) (k0 : Q0) : W yy k9 [(gP, gi aa), (tx, qg aj), (qZ, oZ al), (qS, nZ ae), (rX, oH ai), (pO, mV ab)] cC n yv [a0, (.int .i64 a1), a2] h k0 = yC n aa aj al ae ai ab a0 a1 a2 h (fun u0 h => k0 (.bool u0) h) := by
  let k : dc := fun u0 h => k0 (.bool u0) h
  have hk : cv k0 k := fun _ _ => rfl
  have hb : ∀ F : Tr AV → CRes, gG yy [a0, (.int .i64 a1), a2] .leaf F = F (c8 [(p0, a0), (p1, (.int .i64 a1)), (p2, a2)]) := fun F => by kernel_rfl
  exact (mC hb).trans ((X6 n aa aj al ae ai ab k0 _).trans (X4 n aa aj al ae ai ab k0 k hk (RK n aa aj al ae ai ab k0 k hk n) a0 a1 a2 h))
end
def jl (n : Nat) : di := yC n (d6 n) (ml n) (oY n) (lV n) (km n) (dm n)
/-! cofferdam/cofferdamlaw12.PoolQuotas -/
abbrev yY := AV → Int → Int → Heap → (Bool → Heap → CRes) → CRes
abbrev dD := Bool → Heap → CRes
def y7 (g : yY) : Wr := fun l h k => lM l fun a0 l => ph .i64 l fun a1 l => ph .u8 l fun a2 l => mq l (g a0 a1 a2 h fun u0 h => k (.bool u0) h)
def cP (av : Wr) (bI : iO) (aB : dz) (aa : aW) (aF : dE) (aw : di) : dN := eO [(nw, av), (O9, HA bI), (sC, oG aB), (gP, gi aa), (tK, qq aF), (oh, mt aw)]
abbrev dt (k0 : Q0) (k : dD) : Prop := ∀ u0 h, k0 (.bool u0) h = k u0 h
abbrev mm : Type := Bool → Heap → CRes
abbrev pr (J : Q1) (j : mm) : Prop := ∀ v81 h, J ⟨c8 [(p81, (.bool v81))], h⟩ = j v81 h
abbrev mh : Type := Int → AV → AV → Int → Heap → CRes
abbrev pN (J : Q1) (j : mh) : Prop := ∀ v1 v3 v7 v8 h, J ⟨c8 [(p1, (.int .i64 v1)), (p3, v3), (p7, v7), (p8, (.int .i64 v8))], h⟩ = j v1 v3 v7 v8 h
abbrev l9 : Type := Int → Int → AV → AV → Int → Int → Int → Heap → CRes
abbrev pC (J : Q1) (j : l9) : Prop := ∀ v1 v2 v3 v7 v8 v9 v10 h, J ⟨c8 [(p1, (.int .i64 v1)), (p2, (.int .u8 v2)), (p3, v3), (p7, v7), (p8, (.int .i64 v8)), (p9, (.int .u8 v9)), (p10, (.int .u8 v10))], h⟩ = j v1 v2 v3 v7 v8 v9 v10 h
abbrev mj : Type := Int → Int → AV → AV → Int → Int → Int → Int → Bool → Heap → CRes
abbrev pS (J : Q1) (j : mj) : Prop := ∀ v1 v2 v3 v7 v8 v9 v10 v11 v55 h, J ⟨c8 [(p1, (.int .i64 v1)), (p2, (.int .u8 v2)), (p3, v3), (p7, v7), (p8, (.int .i64 v8)), (p9, (.int .u8 v9)), (p10, (.int .u8 v10)), (p11, (.int .i64 v11)), (p55, (.bool v55))], h⟩ = j v1 v2 v3 v7 v8 v9 v10 v11 v55 h
abbrev eN : Type := Int → Int → AV → AV → Int → Int → Int → Int → Heap → CRes
abbrev jN (J : Q1) (j : eN) : Prop := ∀ v1 v2 v3 v7 v8 v9 v10 v11 h, J ⟨c8 [(p1, (.int .i64 v1)), (p2, (.int .u8 v2)), (p3, v3), (p7, v7), (p8, (.int .i64 v8)), (p9, (.int .u8 v9)), (p10, (.int .u8 v10)), (p11, (.int .i64 v11))], h⟩ = j v1 v2 v3 v7 v8 v9 v10 v11 h
abbrev dp : Type := Int → Int → AV → AV → Int → Int → Heap → CRes
abbrev gl (J : Q1) (j : dp) : Prop := ∀ v1 v2 v3 v7 v8 v9 h, J ⟨c8 [(p1, (.int .i64 v1)), (p2, (.int .u8 v2)), (p3, v3), (p7, v7), (p8, (.int .i64 v8)), (p9, (.int .u8 v9))], h⟩ = j v1 v2 v3 v7 v8 v9 h
section
variable (n : Nat) (av : Wr) (bI : iO) (aB : dz) (aa : aW) (aF : dE) (aw : di) (k0 : Q0) (k : dD)
def wG (n : Nat) (av : Wr) (bI : iO) (aB : dz) (aa : aW) (aF : dE) (aw : di) (k0 : Q0) : Q1 := (bS (cP av bI aB aa aF aw) cF xe (cX fI k0))
def pJ (n : Nat) (av : Wr) (bI : iO) (aB : dz) (aa : aW) (aF : dE) (aw : di) (k : dD) (v81 : Bool) (h : Heap) : CRes :=
 k v81 h
theorem Kk (hk : dt k0 k) : pr (wG n av bI aB aa aF aw k0 ) (pJ n av bI aB aa aF aw k ) := by
  obtain rfl := fx2 hk
  intro v81 h
  kernel_rfl
def w9 : Q1 := wG n av bI aB aa aF aw k0
def pT : mm := pJ n av bI aB aa aF aw k
theorem Kf (hk : dt k0 k) : pr (w9 n av bI aB aa aF aw k0 ) (pT n av bI aB aa aF aw k ) := Kk n av bI aB aa aF aw k0 k hk
def wO (n : Nat) (av : Wr) (bI : iO) (aB : dz) (aa : aW) (aF : dE) (aw : di) (k0 : Q0) (J0 : Q1) : Q1 := (bS (cP av bI aB aa aF aw) cF wP (fun s => da wY s J0))
def pt (n : Nat) (av : Wr) (bI : iO) (aB : dz) (aa : aW) (aF : dE) (aw : di) (k : dD) (j0 : mm) (v1 : Int) (v3 : AV) (v7 : AV) (v8 : Int) (h : Heap) : CRes :=
 ifB (eqF v8 0)
 (gJ h v3 17 true fun x13 =>
 aw x13 v1 v7 h fun x14 h15 =>
 j0 x14 h15)
 (j0 false h)
theorem Kl (hk : dt k0 k) {J0 : Q1} {j0 : mm} (h0 : pr J0 j0) : pN (wO n av bI aB aa aF aw k0 J0) (pt n av bI aB aa aF aw k j0) := by
  obtain rfl := fx2 hk
  obtain rfl := fx2 h0
  intro v1 v3 v7 v8 h
  kernel_rfl
def wT : Q1 := wO n av bI aB aa aF aw k0 (w9 n av bI aB aa aF aw k0 )
def mf : mh := pt n av bI aB aa aF aw k (pT n av bI aB aa aF aw k )
theorem K7 (hk : dt k0 k) : pN (wT n av bI aB aa aF aw k0 ) (mf n av bI aB aa aF aw k ) := Kl n av bI aB aa aF aw k0 k hk (Kf n av bI aB aa aF aw k0 k hk )
def wI (n : Nat) (av : Wr) (bI : iO) (aB : dz) (aa : aW) (aF : dE) (aw : di) (k0 : Q0) (J2 : Q1) : Q1 := (bS (cP av bI aB aa aF aw) cF xd (bS (cP av bI aB aa aF aw) cF wX (fun s => eK (.t p73) s (bS (cP av bI aB aa aF aw) cF wK (cX fI k0)) (bS (cP av bI aB aa aF aw) cF wL (fun s => da pH s J2)))))
def pE (n : Nat) (av : Wr) (bI : iO) (aB : dz) (aa : aW) (aF : dE) (aw : di) (k : dD) (j2 : dp) (v1 : Int) (v2 : Int) (v3 : AV) (v7 : AV) (v8 : Int) (v9 : Int) (v10 : Int) (h : Heap) : CRes :=
 aF v7 v10 h fun x20 x21 h22 =>
 ifB (jk (eqF x21 4))
 (k false h22)
 (lU .u8 v9 1 fun x23 =>
 j2 v1 v2 v3 v7 v8 x23 h22)
theorem Kz (hk : dt k0 k) {J2 : Q1} {j2 : dp} (h2 : gl J2 j2) : pC (wI n av bI aB aa aF aw k0 J2) (pE n av bI aB aa aF aw k j2) := by
  obtain rfl := fx2 hk
  obtain rfl := fx7 h2
  intro v1 v2 v3 v7 v8 v9 v10 h
  kernel_rfl
def wS (J2 : Q1) : Q1 := wI n av bI aB aa aF aw k0 J2
def mb (j2 : dp) : l9 := pE n av bI aB aa aF aw k j2
theorem JP (hk : dt k0 k) {J2 : Q1} {j2 : dp} (h2 : gl J2 j2) : pC (wS n av bI aB aa aF aw k0 J2) (mb n av bI aB aa aF aw k j2) := Kz n av bI aB aa aF aw k0 k hk h2
def wV (n : Nat) (av : Wr) (bI : iO) (aB : dz) (aa : aW) (aF : dE) (aw : di) (k0 : Q0) (J3 : Q1) (J4 : Q1) : Q1 := (fun s => eK (.t p55) s (bS (cP av bI aB aa aF aw) cF w7 (bS (cP av bI aB aa aF aw) cF wN (fun s => eK (.t p65) s (bS (cP av bI aB aa aF aw) cF wF (cX fI k0)) (bS (cP av bI aB aa aF aw) cF xc (fun s => da pQ s J4))))) (fun s => da xb s J3))
def pF (n : Nat) (av : Wr) (bI : iO) (aB : dz) (aa : aW) (aF : dE) (aw : di) (k : dD) (j3 : l9) (j4 : eN) (v1 : Int) (v2 : Int) (v3 : AV) (v7 : AV) (v8 : Int) (v9 : Int) (v10 : Int) (v11 : Int) (v55 : Bool) (h : Heap) : CRes :=
 ifB v55
 (aF v7 v10 h fun x30 x31 h32 =>
 ifB (jk (eqF x31 0))
 (k false h32)
 (lU .i64 v11 1 fun x33 =>
 j4 v1 v2 v3 v7 v8 v9 v10 x33 h32))
 (j3 v1 v2 v3 v7 v8 v9 v10 h)
theorem KN (hk : dt k0 k) {J3 : Q1} {j3 : l9} (h3 : pC J3 j3) {J4 : Q1} {j4 : eN} (h4 : jN J4 j4) : pS (wV n av bI aB aa aF aw k0 J3 J4) (pF n av bI aB aa aF aw k j3 j4) := by
  obtain rfl := fx2 hk
  obtain rfl := fx8 h3
  obtain rfl := fx9 h4
  intro v1 v2 v3 v7 v8 v9 v10 v11 v55 h
  kernel_rfl
def wR (J2 : Q1) (J4 : Q1) : Q1 := wV n av bI aB aa aF aw k0 (wS n av bI aB aa aF aw k0 J2) J4
def mn (j2 : dp) (j4 : eN) : mj := pF n av bI aB aa aF aw k (mb n av bI aB aa aF aw k j2) j4
theorem JI (hk : dt k0 k) {J2 : Q1} {j2 : dp} (h2 : gl J2 j2) {J4 : Q1} {j4 : eN} (h4 : jN J4 j4) : pS (wR n av bI aB aa aF aw k0 J2 J4) (mn n av bI aB aa aF aw k j2 j4) := KN n av bI aB aa aF aw k0 k hk (JP n av bI aB aa aF aw k0 k hk h2) h4
def wZ (n : Nat) (av : Wr) (bI : iO) (aB : dz) (aa : aW) (aF : dE) (aw : di) (k0 : Q0) (J5 : Q1) : Q1 := (bS (cP av bI aB aa aF aw) cF vI (fun s => da wW s J5))
def ma (n : Nat) (av : Wr) (bI : iO) (aB : dz) (aa : aW) (aF : dE) (aw : di) (k : dD) (j5 : mj) (v1 : Int) (v2 : Int) (v3 : AV) (v7 : AV) (v8 : Int) (v9 : Int) (v10 : Int) (v11 : Int) (h : Heap) : CRes :=
 fld 16 h v3 1 false fun x24 x25 =>
 eld 8 h x25 v1 8 true fun x26 x27 =>
 aa x27 v10 h fun x28 h29 =>
 ifB (ltF v11 x28)
 (j5 v1 v2 v3 v7 v8 v9 v10 v11 (ltF v11 5000) h29)
 (j5 v1 v2 v3 v7 v8 v9 v10 v11 false h29)
theorem KO (hk : dt k0 k) {J5 : Q1} {j5 : mj} (h5 : pS J5 j5) : jN (wZ n av bI aB aa aF aw k0 J5) (ma n av bI aB aa aF aw k j5) := by
  obtain rfl := fx2 hk
  obtain rfl := fx10 h5
  intro v1 v2 v3 v7 v8 v9 v10 v11 h
  kernel_rfl
def w8 (J2 : Q1) (m : Nat) : Q1 := Nat.rec (motive := fun _ => Q1) (fun _ => .err) (fun _ ih => wZ n av bI aB aa aF aw k0 (wR n av bI aB aa aF aw k0 J2 ih)) m
def iz (j2 : dp) (m : Nat) : eN := Nat.rec (motive := fun _ => eN) (fun _ _ _ _ _ _ _ _ _ => .err) (fun _ ih => ma n av bI aB aa aF aw k (mn n av bI aB aa aF aw k j2 ih)) m
theorem KL (j2 : dp) (m : Nat) : iz n av bI aB aa aF aw k j2 (m + 1) = ma n av bI aB aa aF aw k (mn n av bI aB aa aF aw k j2 (iz n av bI aB aa aF aw k j2 m)) := rfl
theorem KA (hk : dt k0 k) {J2 : Q1} {j2 : dp} (h2 : gl J2 j2) (m : Nat) : jN (w8 n av bI aB aa aF aw k0 J2 m) (iz n av bI aB aa aF aw k j2 m) := by
  induction m with
  | zero => intro v1 v2 v3 v7 v8 v9 v10 v11 h; rfl
  | succ m ih => exact KO n av bI aB aa aF aw k0 k hk (JI n av bI aB aa aF aw k0 k hk h2 ih)
def w6 (n : Nat) (av : Wr) (bI : iO) (aB : dz) (aa : aW) (aF : dE) (aw : di) (k0 : Q0) (J1 : Q1) (J4 : Q1) : Q1 := (bS (cP av bI aB aa aF aw) cF we (fun s => eK (.t p34) s (bS (cP av bI aB aa aF aw) cF wA (bS (cP av bI aB aa aF aw) cF wc (fun s => da pQ s J4))) (fun s => da xf s J1)))
def mc (n : Nat) (av : Wr) (bI : iO) (aB : dz) (aa : aW) (aF : dE) (aw : di) (k : dD) (j1 : mh) (j4 : eN) (v1 : Int) (v2 : Int) (v3 : AV) (v7 : AV) (v8 : Int) (v9 : Int) (h : Heap) : CRes :=
 ifB (ltF v9 5)
 (remK .u8 v2 5 fun x16 =>
 lU .u8 x16 v9 fun x17 =>
 remK .u8 x17 5 fun x18 =>
 lU .u8 2 x18 fun x19 =>
 j4 v1 v2 v3 v7 v8 v9 x19 0 h)
 (j1 v1 v3 v7 v8 h)
theorem KI (hk : dt k0 k) {J1 : Q1} {j1 : mh} (h1 : pN J1 j1) {J4 : Q1} {j4 : eN} (h4 : jN J4 j4) : gl (w6 n av bI aB aa aF aw k0 J1 J4) (mc n av bI aB aa aF aw k j1 j4) := by
  obtain rfl := fx2 hk
  obtain rfl := fx5 h1
  obtain rfl := fx9 h4
  intro v1 v2 v3 v7 v8 v9 h
  kernel_rfl
def w5 (m : Nat) : Q1 := Nat.rec (motive := fun _ => Q1) (fun _ => .err) (fun _ ih => w6 n av bI aB aa aF aw k0 (wT n av bI aB aa aF aw k0 ) (w8 n av bI aB aa aF aw k0 ih n)) m
def iy (m : Nat) : dp := Nat.rec (motive := fun _ => dp) (fun _ _ _ _ _ _ _ => .err) (fun _ ih => mc n av bI aB aa aF aw k (mf n av bI aB aa aF aw k ) (iz n av bI aB aa aF aw k ih n)) m
theorem Lf (m : Nat) : iy n av bI aB aa aF aw k (m + 1) = mc n av bI aB aa aF aw k (mf n av bI aB aa aF aw k ) (iz n av bI aB aa aF aw k (iy n av bI aB aa aF aw k m) n) := rfl
theorem K8 (hk : dt k0 k) (m : Nat) : gl (w5 n av bI aB aa aF aw k0 m) (iy n av bI aB aa aF aw k m) := by
  induction m with
  | zero => intro v1 v2 v3 v7 v8 v9 h; rfl
  | succ m ih => exact KI n av bI aB aa aF aw k0 k hk (K7 n av bI aB aa aF aw k0 k hk ) (KA n av bI aB aa aF aw k0 k hk ih n)
def y0 (n : Nat) (av : Wr) (bI : iO) (aB : dz) (aa : aW) (aF : dE) (aw : di) (k0 : Q0) (J2 : Q1) : Q1 := (bS (cP av bI aB aa aF aw) cF wl (bS (cP av bI aB aa aF aw) cF vL (fun s => eK (.t p17) s (bS (cP av bI aB aa aF aw) cF vE (cX fI k0)) (bS (cP av bI aB aa aF aw) cF wC (bS (cP av bI aB aa aF aw) cF ws (fun s => eK (.t p25) s (bS (cP av bI aB aa aF aw) cF wh (cX fI k0)) (bS (cP av bI aB aa aF aw) cF wt (bS (cP av bI aB aa aF aw) cF vZ (fun s => da pH s J2)))))))))
def rl (n : Nat) (av : Wr) (bI : iO) (aB : dz) (aa : aW) (aF : dE) (aw : di) (k : dD) (j2 : dp) (a0 : AV) (a1 : Int) (a2 : Int) (h : Heap) : CRes :=
 zt h a0 fun x0 h1 =>
 av [] h1 fun x2 h3 =>
 Nf x2 fun x4 =>
 ifB (jk x4)
 (k false h3)
 (gJ h3 (.ptr x0 0) 17 true fun x5 =>
 bI x5 a1 h3 fun x6 x7 h8 =>
 ifB (jk (eqF x7 0))
 (X0 (.nil .ptr) x6 .nilptr fun x9 =>
 k (X7 false x9) h8)
 (aB x6 h8 fun x10 x11 h12 =>
 j2 a1 a2 (.ptr x0 0) x6 x11 0 h12))
theorem NE (n : Nat) (av : Wr) (bI : iO) (aB : dz) (aa : aW) (aF : dE) (aw : di) (k0 : Q0) (k : dD) (hk : dt k0 k) {J2 : Q1} {j2 : dp} (h2 : gl J2 j2) (a0 : AV) (a1 : Int) (a2 : Int) (h : Heap) : (y0 n av bI aB aa aF aw k0 J2) ⟨c8 [(p0, a0), (p1, (.int .i64 a1)), (p2, (.int .u8 a2))], h⟩ = (rl n av bI aB aa aF aw k j2) a0 a1 a2 h := by
  obtain rfl := fx2 hk
  obtain rfl := fx7 h2
  kernel_rfl
def Nu : Q1 := y0 n av bI aB aa aF aw k0 (w5 n av bI aB aa aF aw k0 n)
def rj (n : Nat) (av : Wr) (bI : iO) (aB : dz) (aa : aW) (aF : dE) (aw : di) (a0 : AV) (a1 : Int) (a2 : Int) (h : Heap) (k : dD) : CRes := rl n av bI aB aa aF aw k (iy n av bI aB aa aF aw k n) a0 a1 a2 h
theorem Ns (n : Nat) (av : Wr) (bI : iO) (aB : dz) (aa : aW) (aF : dE) (aw : di) (k0 : Q0) (s : St) : D (eO [(nw, av), (O9, HA bI), (sC, oG aB), (gP, gi aa), (tK, qq aF), (oh, mt aw)]) cF n rb (cX fI k0) (fun _ _ => .err) (cX fI k0) s = Nu n av bI aB aa aF aw k0 s := by kernel_rfl
theorem NG (n : Nat) (av : Wr) (bI : iO) (aB : dz) (aa : aW) (aF : dE) (aw : di) (a0 : AV) (a1 : Int) (a2 : Int) (h : Heap) (k0 : Q0) : W qY fI [(nw, av), (O9, HA bI), (sC, oG aB), (gP, gi aa), (tK, qq aF), (oh, mt aw)] cF n rb [a0, (.int .i64 a1), (.int .u8 a2)] h k0 = rj n av bI aB aa aF aw a0 a1 a2 h (fun u0 h => k0 (.bool u0) h) := by
  let k : dD := fun u0 h => k0 (.bool u0) h
  have hk : dt k0 k := fun _ _ => rfl
  have hb : ∀ F : Tr AV → CRes, gG qY [a0, (.int .i64 a1), (.int .u8 a2)] .leaf F = F (c8 [(p0, a0), (p1, (.int .i64 a1)), (p2, (.int .u8 a2))]) := fun F => by kernel_rfl
  exact (mC hb).trans ((Ns n av bI aB aa aF aw k0 _).trans (NE n av bI aB aa aF aw k0 k hk (K8 n av bI aB aa aF aw k0 k hk n) a0 a1 a2 h))
end
def q7 (n : Nat) : yY := rj n (B5 nD) (I5 n) (oE n) (d6 n) (jI n) (jl n)
/-! cofferdam/cofferdamref00.Within -/
abbrev amX := Int → Int → Heap → (Int → Heap → CRes) → CRes
abbrev am2 := Int → Heap → CRes
/-! cofferdam/colour.Of -/
abbrev T_colour_Of := Int → Int → Heap → (Int → Int → Heap → CRes) → CRes
abbrev K_colour_Of := Int → Int → Heap → CRes
/-! cofferdam/colour.Index -/
abbrev T_colour_Index := Int → Int → Heap → (Int → Int → Heap → CRes) → CRes
abbrev K_colour_Index := Int → Int → Heap → CRes
abbrev aqp := AV → Int → Int → Heap → (Int → Heap → CRes) → CRes
abbrev aqq := Int → Heap → CRes
abbrev arY := AV → Int → Heap → (Int → Heap → CRes) → CRes
abbrev arS := Int → Heap → CRes
/-! cofferdam/cofferdamref00.EqInts -/
abbrev amU := AV → AV → Heap → (Bool → Heap → CRes) → CRes
abbrev anm := Bool → Heap → CRes
/-! cofferdam/cofferdamref00.CopyInts -/
abbrev alK := AV → Heap → (AV → Heap → CRes) → CRes
abbrev alJ := AV → Heap → CRes
abbrev aqD := AV → Heap → (Bool → Heap → CRes) → CRes
abbrev arn := Bool → Heap → CRes
/-! cofferdam/cofferdamlaw12.PoolAdds -/
abbrev alL := Bool → Heap → CRes
end
end Go.Proofs.YtnlbfbiogfilfaaGreat.Sh
