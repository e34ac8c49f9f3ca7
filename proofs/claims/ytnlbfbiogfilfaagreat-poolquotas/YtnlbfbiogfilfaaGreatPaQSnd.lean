/- The printed functions at the program's table: each is sound. -/
import Derived.Test.YtnlbfbiogfilfaaGreatPaQText
import Derived.Test.YtnlbfbiogfilfaaGreatQSortedPaQTb
set_option linter.all false
namespace Go.Proofs.YtnlbfbiogfilfaaGreat.Sh
open Go.Ai Go.Proofs
set_option maxRecDepth 100000
section
theorem aiG (n : Nat) : Sound tb qJ (tk (mG n)) := by
  refine Sound.of (dL tb_ok.mono (ps := Mo) (rs := ti) (l := []) (ty := xL) (n := n) (c := Mr) (eP (by kernel_rfl) (by kernel_rfl)) trivial) fun args H k r H' h => ?_
  unfold tk at h
  obtain ⟨a0, l0, e0, h0⟩ := asJ h
  subst e0
  obtain ⟨a1, l1, e1, h1⟩ := dQ h0
  subst e1
  obtain ⟨a2, l2, e2, h2⟩ := dQ h1
  subst e2
  obtain ⟨a3, l3, e3, h3⟩ := dn h2
  subst e3
  obtain ⟨e9, h9⟩ := dq h3
  subst e9
  exact (aiZ n a0 a1 a2 a3 H k).trans h9
theorem BN (n : Nat) : Sound tb fM (fC (fU n)) := by
  refine Sound.of (dL tb_ok.mono (ps := RL) (rs := BI) (l := []) (ty := ye) (n := n) (c := QR) (eP (by kernel_rfl) (by kernel_rfl)) trivial) fun args H k r H' h => ?_
  unfold fC at h
  obtain ⟨a0, l0, e0, h0⟩ := dQ h
  subst e0
  obtain ⟨a1, l1, e1, h1⟩ := dQ h0
  subst e1
  obtain ⟨a2, l2, e2, h2⟩ := dQ h1
  subst e2
  obtain ⟨e9, h9⟩ := dq h2
  subst e9
  exact (al4 n a0 a1 a2 H k).trans h9
theorem anC (n : Nat) : Sound tb F6 (AI (Aq n)) := by
  refine Sound.of (dL tb_ok.mono (ps := Uz) (rs := Fa) (l := [(fM, fC (fU n))]) (ty := Au) (n := n) (c := Vk) (eP (by kernel_rfl) (by kernel_rfl)) ⟨BN n, trivial⟩) fun args H k r H' h => ?_
  unfold AI at h
  obtain ⟨a0, l0, e0, h0⟩ := dQ h
  subst e0
  obtain ⟨a1, l1, e1, h1⟩ := dQ h0
  subst e1
  obtain ⟨e9, h9⟩ := dq h1
  subst e9
  exact (aoS n (fU n) a0 a1 H k).trans h9
theorem Oo (n : Nat) : Sound tb jx (iU (gn n)) := by
  refine Sound.of (dL tb_ok.mono (ps := O5) (rs := zQ) (l := [(F6, AI (Aq n)), (fM, fC (fU n))]) (ty := kx) (n := n) (c := Pf) (eP (by kernel_rfl) (by kernel_rfl)) ⟨anC n, BN n, trivial⟩) fun args H k r H' h => ?_
  unfold iU at h
  obtain ⟨a0, l0, e0, h0⟩ := dn h
  subst e0
  obtain ⟨e9, h9⟩ := dq h0
  subst e9
  exact (ajQ n (Aq n) (fU n) a0 H k).trans h9
theorem Nv (n : Nat) : Sound tb jc (iw (gE n)) := by
  refine Sound.of (dL tb_ok.mono (ps := VC) (rs := xi) (l := []) (ty := gQ) (n := n) (c := UN) (eP (by kernel_rfl) (by kernel_rfl)) trivial) fun args H k r H' h => ?_
  unfold iw at h
  obtain ⟨a0, l0, e0, h0⟩ := dn h
  subst e0
  obtain ⟨e9, h9⟩ := dq h0
  subst e9
  exact (aos n a0 H k).trans h9
theorem PD (n : Nat) : Sound tb lQ (jY (jX n)) := by
  refine Sound.of (dL tb_ok.mono (ps := sY) (rs := jW) (l := []) (ty := eJ) (n := n) (c := sZ) (eP (by kernel_rfl) (by kernel_rfl)) trivial) fun args H k r H' h => ?_
  unfold jY at h
  obtain ⟨a0, l0, e0, h0⟩ := dn h
  subst e0
  obtain ⟨a1, l1, e1, h1⟩ := dQ h0
  subst e1
  obtain ⟨e9, h9⟩ := dq h1
  subst e9
  exact (PH n a0 a1 H k).trans h9
theorem Lj (n : Nat) : Sound tb kE (iQ (c9 n)) := by
  refine Sound.of (dL tb_ok.mono (ps := qB) (rs := kz) (l := [(lQ, jY (jX n))]) (ty := kC) (n := n) (c := qC) (eP (by kernel_rfl) (by kernel_rfl)) ⟨PD n, trivial⟩) fun args H k r H' h => ?_
  unfold iQ at h
  obtain ⟨a0, l0, e0, h0⟩ := dn h
  subst e0
  obtain ⟨a1, l1, e1, h1⟩ := dQ h0
  subst e1
  obtain ⟨e9, h9⟩ := dq h1
  subst e9
  exact (LC n (jX n) a0 a1 H k).trans h9
theorem alb (n : Nat) : Sound tb zP (wD (vV n)) := by
  refine Sound.of (dL tb_ok.mono (ps := OC) (rs := rP) (l := [(kE, iQ (c9 n))]) (ty := fO) (n := n) (c := Oq) (eP (by kernel_rfl) (by kernel_rfl)) ⟨Lj n, trivial⟩) fun args H k r H' h => ?_
  unfold wD at h
  obtain ⟨a0, l0, e0, h0⟩ := dn h
  subst e0
  obtain ⟨a1, l1, e1, h1⟩ := dQ h0
  subst e1
  obtain ⟨e9, h9⟩ := dq h1
  subst e9
  exact (alj n (c9 n) a0 a1 H k).trans h9
theorem ah5 (n : Nat) : Sound tb tO (rr (rq n)) := by
  refine Sound.of (dL tb_ok.mono (ps := Zk) (rs := KE) (l := []) (ty := KX) (n := n) (c := aa3) (eP (by kernel_rfl) (by kernel_rfl)) trivial) fun args H k r H' h => ?_
  unfold rr at h
  obtain ⟨a0, l0, e0, h0⟩ := dn h
  subst e0
  obtain ⟨e9, h9⟩ := dq h0
  subst e9
  exact (apm n a0 H k).trans h9
theorem aew (n : Nat) : Sound tb ri (pg (pe n)) := by
  refine Sound.of (dL tb_ok.mono (ps := VG) (rs := FV) (l := [(tO, rr (rq n))]) (ty := E7) (n := n) (c := UX) (eP (by kernel_rfl) (by kernel_rfl)) ⟨ah5 n, trivial⟩) fun args H k r H' h => ?_
  unfold pg at h
  obtain ⟨a0, l0, e0, h0⟩ := dn h
  subst e0
  obtain ⟨a1, l1, e1, h1⟩ := dQ h0
  subst e1
  obtain ⟨e9, h9⟩ := dq h1
  subst e9
  exact (aom n (rq n) a0 a1 H k).trans h9
theorem ams (n : Nat) : Sound tb B4 (yg (yj n)) := by
  refine Sound.of (dL tb_ok.mono (ps := QQ) (rs := pl) (l := [(ri, pg (pe n)), (jx, iU (gn n)), (tO, rr (rq n)), (fM, fC (fU n))]) (ty := ef) (n := n) (c := QL) (eP (by kernel_rfl) (by kernel_rfl)) ⟨aew n, Oo n, ah5 n, BN n, trivial⟩) fun args H k r H' h => ?_
  unfold yg at h
  obtain ⟨a0, l0, e0, h0⟩ := dn h
  subst e0
  obtain ⟨a1, l1, e1, h1⟩ := dQ h0
  subst e1
  obtain ⟨e9, h9⟩ := dq h1
  subst e9
  exact (amk n (pe n) (gn n) (rq n) (fU n) a0 a1 H k).trans h9
theorem ah1 (n : Nat) : Sound tb tU (ru (m9 n)) := by
  refine Sound.of (dL tb_ok.mono (ps := Zw) (rs := zv) (l := [(zP, wD (vV n)), (B4, yg (yj n))]) (ty := tW) (n := n) (c := aac) (eP (by kernel_rfl) (by kernel_rfl)) ⟨alb n, ams n, trivial⟩) fun args H k r H' h => ?_
  unfold ru at h
  obtain ⟨a0, l0, e0, h0⟩ := dn h
  subst e0
  obtain ⟨a1, l1, e1, h1⟩ := dQ h0
  subst e1
  obtain ⟨e9, h9⟩ := dq h1
  subst e9
  exact (apd n (vV n) (yj n) a0 a1 H k).trans h9
theorem aco (n : Nat) : Sound tb pi (nk (mA n)) := by
  refine Sound.of (dL tb_ok.mono (ps := Ro) (rs := BM) (l := []) (ty := xZ) (n := n) (c := Rn) (eP (by kernel_rfl) (by kernel_rfl)) trivial) fun args H k r H' h => ?_
  unfold nk at h
  obtain ⟨a0, l0, e0, h0⟩ := dQ h
  subst e0
  obtain ⟨a1, l1, e1, h1⟩ := dQ h0
  subst e1
  obtain ⟨a2, l2, e2, h2⟩ := dQ h1
  subst e2
  obtain ⟨e9, h9⟩ := dq h2
  subst e9
  exact (amn n a0 a1 a2 H k).trans h9
theorem al5 (n : Nat) : Sound tb B7 (ya (rm n)) := by
  refine Sound.of (dL tb_ok.mono (ps := Rk) (rs := uw) (l := [(jc, iw (gE n)), (pi, nk (mA n))]) (ty := nj) (n := n) (c := Rr) (eP (by kernel_rfl) (by kernel_rfl)) ⟨Nv n, aco n, trivial⟩) fun args H k r H' h => ?_
  unfold ya at h
  obtain ⟨a0, l0, e0, h0⟩ := dn h
  subst e0
  obtain ⟨a1, l1, e1, h1⟩ := dQ h0
  subst e1
  obtain ⟨a2, l2, e2, h2⟩ := dQ h1
  subst e2
  obtain ⟨e9, h9⟩ := dq h2
  subst e9
  exact (amE n (gE n) (mA n) a0 a1 a2 H k).trans h9
theorem aoC (n : Nat) : Sound tb EU (AD (tZ n)) := by
  refine Sound.of (dL tb_ok.mono (ps := Vy) (rs := xl) (l := [(jc, iw (gE n)), (pi, nk (mA n))]) (ty := gR) (n := n) (c := Vg) (eP (by kernel_rfl) (by kernel_rfl)) ⟨Nv n, aco n, trivial⟩) fun args H k r H' h => ?_
  unfold AD at h
  obtain ⟨a0, l0, e0, h0⟩ := dn h
  subst e0
  obtain ⟨a1, l1, e1, h1⟩ := dn h0
  subst e1
  obtain ⟨e9, h9⟩ := dq h1
  subst e9
  exact (aof n (gE n) (mA n) a0 a1 H k).trans h9
theorem amC (n : Nat) : Sound tb Cf (yf (rp n)) := by
  refine Sound.of (dL tb_ok.mono (ps := QO) (rs := BV) (l := []) (ty := lH) (n := n) (c := Q9) (eP (by kernel_rfl) (by kernel_rfl)) trivial) fun args H k r H' h => ?_
  unfold yf at h
  obtain ⟨a0, l0, e0, h0⟩ := dn h
  subst e0
  obtain ⟨a1, l1, e1, h1⟩ := dn h0
  subst e1
  obtain ⟨e9, h9⟩ := dq h1
  subst e9
  exact (al8 n a0 a1 H k).trans h9
theorem TM (n : Nat) : Sound tb fZ (kI (gH n)) := by
  refine Sound.of (dL tb_ok.mono (ps := I4) (rs := wq) (l := []) (ty := vr) (n := n) (c := H5) (eP (by kernel_rfl) (by kernel_rfl)) trivial) fun args H k r H' h => ?_
  unfold kI at h
  obtain ⟨a0, l0, e0, h0⟩ := dn h
  subst e0
  obtain ⟨e9, h9⟩ := dq h0
  subst e9
  exact (agr n a0 H k).trans h9
theorem Tk (n : Nat) : Sound tb f0 (kP (gu n)) := by
  refine Sound.of (dL tb_ok.mono (ps := HL) (rs := vB) (l := []) (ty := wy) (n := n) (c := IV) (eP (by kernel_rfl) (by kernel_rfl)) trivial) fun args H k r H' h => ?_
  unfold kP at h
  obtain ⟨a0, l0, e0, h0⟩ := dn h
  subst e0
  obtain ⟨e9, h9⟩ := dq h0
  subst e9
  exact (ag2 n a0 H k).trans h9
theorem Uc (n : Nat) : Sound tb jC (kT (jA n)) := by
  refine Sound.of (dL tb_ok.mono (ps := HT) (rs := wn) (l := []) (ty := vq) (n := n) (c := Hw) (eP (by kernel_rfl) (by kernel_rfl)) trivial) fun args H k r H' h => ?_
  unfold kT at h
  obtain ⟨e9, h9⟩ := dq h
  subst e9
  exact (ahm n H k).trans h9
theorem RQ (n : Nat) : Sound tb kL (kG (g0 n)) := by
  refine Sound.of (dL tb_ok.mono (ps := IJ) (rs := vg) (l := []) (ty := wk) (n := n) (c := HR) (eP (by kernel_rfl) (by kernel_rfl)) trivial) fun args H k r H' h => ?_
  unfold kG at h
  obtain ⟨a0, l0, e0, h0⟩ := dn h
  subst e0
  obtain ⟨e9, h9⟩ := dq h0
  subst e9
  exact (ag0 n a0 H k).trans h9
theorem R9 (n : Nat) : Sound tb kF (kH (hO n)) := by
  refine Sound.of (dL tb_ok.mono (ps := HJ) (rs := vQ) (l := []) (ty := vz) (n := n) (c := H3) (eP (by kernel_rfl) (by kernel_rfl)) trivial) fun args H k r H' h => ?_
  unfold kH at h
  obtain ⟨a0, l0, e0, h0⟩ := dn h
  subst e0
  obtain ⟨a1, l1, e1, h1⟩ := dn h0
  subst e1
  obtain ⟨e9, h9⟩ := dq h1
  subst e9
  exact (ahe n a0 a1 H k).trans h9
theorem S8 (n : Nat) : Sound tb kO (kJ (gW n)) := by
  refine Sound.of (dL tb_ok.mono (ps := Iq) (rs := wB) (l := []) (ty := vw) (n := n) (c := Io) (eP (by kernel_rfl) (by kernel_rfl)) trivial) fun args H k r H' h => ?_
  unfold kJ at h
  obtain ⟨a0, l0, e0, h0⟩ := dn h
  subst e0
  obtain ⟨a1, l1, e1, h1⟩ := dn h0
  subst e1
  obtain ⟨a2, l2, e2, h2⟩ := dn h1
  subst e2
  obtain ⟨e9, h9⟩ := dq h2
  subst e9
  exact (aga n a0 a1 a2 H k).trans h9
theorem Tj (n : Nat) : Sound tb kK (kM (gX n)) := by
  refine Sound.of (dL tb_ok.mono (ps := I1) (rs := vf) (l := []) (ty := vj) (n := n) (c := HK) (eP (by kernel_rfl) (by kernel_rfl)) trivial) fun args H k r H' h => ?_
  unfold kM at h
  obtain ⟨a0, l0, e0, h0⟩ := dn h
  subst e0
  obtain ⟨a1, l1, e1, h1⟩ := dn h0
  subst e1
  obtain ⟨e9, h9⟩ := dq h1
  subst e9
  exact (agc n a0 a1 H k).trans h9
theorem Ua (n : Nat) : Sound tb kR (kS (gY n)) := by
  refine Sound.of (dL tb_ok.mono (ps := Jc) (rs := vy) (l := []) (ty := vn) (n := n) (c := Ij) (eP (by kernel_rfl) (by kernel_rfl)) trivial) fun args H k r H' h => ?_
  unfold kS at h
  obtain ⟨a0, l0, e0, h0⟩ := dn h
  subst e0
  obtain ⟨a1, l1, e1, h1⟩ := dn h0
  subst e1
  obtain ⟨a2, l2, e2, h2⟩ := dn h1
  subst e2
  obtain ⟨e9, h9⟩ := dq h2
  subst e9
  exact (ahw n a0 a1 a2 H k).trans h9
theorem QA (n : Nat) : Sound tb jH (jL (gI n)) := by
  refine Sound.of (dL tb_ok.mono (ps := E0) (rs := tD) (l := []) (ty := ud) (n := n) (c := Gb) (eP (by kernel_rfl) (by kernel_rfl)) trivial) fun args H k r H' h => ?_
  unfold jL at h
  obtain ⟨a0, l0, e0, h0⟩ := dn h
  subst e0
  obtain ⟨a1, l1, e1, h1⟩ := dn h0
  subst e1
  obtain ⟨a2, l2, e2, h2⟩ := dn h1
  subst e2
  obtain ⟨e9, h9⟩ := dq h2
  subst e9
  exact (aeW n a0 a1 a2 H k).trans h9
theorem agZ (n : Nat) : Sound tb rM (rK (m7 n)) := by
  refine Sound.of (dL tb_ok.mono (ps := Ih) (rs := vA) (l := [(fZ, kI (gH n)), (f0, kP (gu n)), (jC, kT (jA n)), (kL, kG (g0 n)), (kF, kH (hO n)), (kO, kJ (gW n)), (kK, kM (gX n)), (kR, kS (gY n)), (jH, jL (gI n))]) (ty := wb) (n := n) (c := Hu) (eP (by kernel_rfl) (by kernel_rfl)) ⟨TM n, Tk n, Uc n, RQ n, R9 n, S8 n, Tj n, Ua n, QA n, trivial⟩) fun args H k r H' h => ?_
  unfold rK at h
  obtain ⟨a0, l0, e0, h0⟩ := dn h
  subst e0
  obtain ⟨a1, l1, e1, h1⟩ := dn h0
  subst e1
  obtain ⟨e9, h9⟩ := dq h1
  subst e9
  exact (ag9 n (gH n) (gu n) (jA n) (g0 n) (hO n) (gW n) (gX n) (gY n) (gI n) a0 a1 H k).trans h9
theorem apY (n : Nat) : Sound tb Ke (En (xa n)) := by
  refine Sound.of (dL tb_ok.mono (ps := aaV) (rs := DC) (l := [(EU, AD (tZ n)), (Cf, yf (rp n)), (fZ, kI (gH n)), (f0, kP (gu n)), (jC, kT (jA n)), (kL, kG (g0 n)), (kF, kH (hO n)), (kO, kJ (gW n)), (kK, kM (gX n)), (rM, rK (m7 n)), (kR, kS (gY n)), (jH, jL (gI n))]) (ty := md) (n := n) (c := ZG) (eP (by kernel_rfl) (by kernel_rfl)) ⟨aoC n, amC n, TM n, Tk n, Uc n, RQ n, R9 n, S8 n, Tj n, agZ n, Ua n, QA n, trivial⟩) fun args H k r H' h => ?_
  unfold En at h
  obtain ⟨a0, l0, e0, h0⟩ := dn h
  subst e0
  obtain ⟨a1, l1, e1, h1⟩ := dn h0
  subst e1
  obtain ⟨e9, h9⟩ := dq h1
  subst e9
  exact (apP n (tZ n) (rp n) (gH n) (gu n) (jA n) (g0 n) (hO n) (gW n) (gX n) (m7 n) (gY n) (gI n) a0 a1 H k).trans h9
theorem anF (n : Nat) : Sound tb EL (AP (tY n)) := by
  refine Sound.of (dL tb_ok.mono (ps := UJ) (rs := FP) (l := []) (ty := xh) (n := n) (c := U2) (eP (by kernel_rfl) (by kernel_rfl)) trivial) fun args H k r H' h => ?_
  unfold AP at h
  obtain ⟨a0, l0, e0, h0⟩ := dn h
  subst e0
  obtain ⟨a1, l1, e1, h1⟩ := dQ h0
  subst e1
  obtain ⟨e9, h9⟩ := dq h1
  subst e9
  exact (anH n a0 a1 H k).trans h9
theorem ama (n : Nat) : Sound tb BT (yb (rv n)) := by
  refine Sound.of (dL tb_ok.mono (ps := Rq) (rs := oX) (l := [(jx, iU (gn n)), (jc, iw (gE n)), (tU, ru (m9 n)), (B7, ya (rm n)), (Ke, En (xa n)), (EL, AP (tY n))]) (ty := fE) (n := n) (c := RG) (eP (by kernel_rfl) (by kernel_rfl)) ⟨Oo n, Nv n, ah1 n, al5 n, apY n, anF n, trivial⟩) fun args H k r H' h => ?_
  unfold yb at h
  obtain ⟨a0, l0, e0, h0⟩ := dn h
  subst e0
  obtain ⟨e9, h9⟩ := dq h0
  subst e9
  exact (al0 n (gn n) (gE n) (m9 n) (rm n) (xa n) (tY n) a0 H k).trans h9
theorem ag8 (n : Nat) : Sound tb oz (rD (lO n)) := by
  refine Sound.of (dL tb_ok.mono (ps := H7) (rs := wz) (l := [(fM, fC (fU n))]) (ty := wm) (n := n) (c := HH) (eP (by kernel_rfl) (by kernel_rfl)) ⟨BN n, trivial⟩) fun args H k r H' h => ?_
  unfold rD at h
  obtain ⟨a0, l0, e0, h0⟩ := dQ h
  subst e0
  obtain ⟨a1, l1, e1, h1⟩ := dn h0
  subst e1
  obtain ⟨e9, h9⟩ := dq h1
  subst e9
  exact (agC n (fU n) a0 a1 H k).trans h9
theorem Lh (n : Nat) : Sound tb jQ (iB (jP n)) := by
  refine Sound.of (dL tb_ok.mono (ps := py) (rs := iD) (l := [(oz, rD (lO n))]) (ty := dP) (n := n) (c := px) (eP (by kernel_rfl) (by kernel_rfl)) ⟨ag8 n, trivial⟩) fun args H k r H' h => ?_
  unfold iB at h
  obtain ⟨a0, l0, e0, h0⟩ := dn h
  subst e0
  obtain ⟨a1, l1, e1, h1⟩ := dn h0
  subst e1
  obtain ⟨e9, h9⟩ := dq h1
  subst e9
  exact (Kw n (lO n) a0 a1 H k).trans h9
theorem FL (n : Nat) : Sound tb iZ (gw (iX n)) := by
  refine Sound.of (dL tb_ok.mono (ps := nr) (rs := iY) (l := [(jQ, iB (jP n))]) (ty := i5) (n := n) (c := ny) (eP (by kernel_rfl) (by kernel_rfl)) ⟨Lh n, trivial⟩) fun args H k r H' h => ?_
  unfold gw at h
  obtain ⟨a0, l0, e0, h0⟩ := dn h
  subst e0
  obtain ⟨a1, l1, e1, h1⟩ := dn h0
  subst e1
  obtain ⟨e9, h9⟩ := dq h1
  subst e9
  exact (Ey n (jP n) a0 a1 H k).trans h9
theorem amr (n : Nat) : Sound tb Ck (yi (rn n)) := by
  refine Sound.of (dL tb_ok.mono (ps := RE) (rs := B3) (l := [(fM, fC (fU n)), (iZ, gw (iX n))]) (ty := yh) (n := n) (c := Rm) (eP (by kernel_rfl) (by kernel_rfl)) ⟨BN n, FL n, trivial⟩) fun args H k r H' h => ?_
  unfold yi at h
  obtain ⟨a0, l0, e0, h0⟩ := dn h
  subst e0
  obtain ⟨e9, h9⟩ := dq h0
  subst e9
  exact (amw n (fU n) (iX n) a0 H k).trans h9
theorem aor (n : Nat) : Sound tb FZ (AG (Ad n)) := by
  refine Sound.of (dL tb_ok.mono (ps := VA) (rs := EG) (l := [(qJ, tk (mG n)), (jx, iU (gn n)), (jc, iw (gE n)), (BT, yb (rv n)), (Ck, yi (rn n)), (tU, ru (m9 n))]) (ty := iV) (n := n) (c := UY) (eP (by kernel_rfl) (by kernel_rfl)) ⟨aiG n, Oo n, Nv n, ama n, amr n, ah1 n, trivial⟩) fun args H k r H' h => ?_
  unfold AG at h
  obtain ⟨a0, l0, e0, h0⟩ := dn h
  subst e0
  obtain ⟨e9, h9⟩ := dq h0
  subst e9
  exact (an3 n (mG n) (gn n) (gE n) (rv n) (rn n) (m9 n) a0 H k).trans h9
theorem aqG (n : Nat) : Sound tb Ox (Jb (Hx n)) := by
  refine Sound.of (dL tb_ok.mono (ps := ads) (rs := N9) (l := [(FZ, AG (Ad n))]) (ty := OM) (n := n) (c := adF) (eP (by kernel_rfl) (by kernel_rfl)) ⟨aor n, trivial⟩) fun args H k r H' h => ?_
  unfold Jb at h
  obtain ⟨a0, l0, e0, h0⟩ := dn h
  subst e0
  obtain ⟨e9, h9⟩ := dq h0
  subst e9
  exact (aqy n (Ad n) a0 H k).trans h9
theorem aoH (n : Nat) : Sound tb F4 (Af (Al n)) := by
  refine Sound.of (dL tb_ok.mono (ps := UK) (rs := xm) (l := [(Ox, Jb (Hx n))]) (ty := pj) (n := n) (c := Vm) (eP (by kernel_rfl) (by kernel_rfl)) ⟨aqG n, trivial⟩) fun args H k r H' h => ?_
  unfold Af at h
  obtain ⟨a0, l0, e0, h0⟩ := dn h
  subst e0
  obtain ⟨a1, l1, e1, h1⟩ := dQ h0
  subst e1
  obtain ⟨e9, h9⟩ := dq h1
  subst e9
  exact (anI n (Hx n) a0 a1 H k).trans h9
theorem aeB (n : Nat) : Sound tb qZ (oZ (oY n)) := by
  refine Sound.of (dL tb_ok.mono (ps := UW) (rs := Ap) (l := [(F4, Af (Al n)), (ri, pg (pe n))]) (ty := tv) (n := n) (c := UM) (eP (by kernel_rfl) (by kernel_rfl)) ⟨aoH n, aew n, trivial⟩) fun args H k r H' h => ?_
  unfold oZ at h
  obtain ⟨a0, l0, e0, h0⟩ := dn h
  subst e0
  obtain ⟨a1, l1, e1, h1⟩ := dQ h0
  subst e1
  obtain ⟨e9, h9⟩ := dq h1
  subst e9
  exact (an5 n (Al n) (pe n) a0 a1 H k).trans h9
theorem PB (n : Nat) : Sound tb lP (jT (jS n)) := by
  refine Sound.of (dL tb_ok.mono (ps := te) (rs := jU) (l := []) (ty := iM) (n := n) (c := td) (eP (by kernel_rfl) (by kernel_rfl)) trivial) fun args H k r H' h => ?_
  unfold jT at h
  obtain ⟨a0, l0, e0, h0⟩ := dn h
  subst e0
  obtain ⟨e9, h9⟩ := dq h0
  subst e9
  exact (PI n a0 H k).trans h9
theorem Ls (n : Nat) : Sound tb iR (ic (js n)) := by
  refine Sound.of (dL tb_ok.mono (ps := Lk) (rs := xB) (l := []) (ty := th) (n := n) (c := Lt) (eP (by kernel_rfl) (by kernel_rfl)) trivial) fun args H k r H' h => ?_
  unfold ic at h
  obtain ⟨a0, l0, e0, h0⟩ := dQ h
  subst e0
  obtain ⟨a1, l1, e1, h1⟩ := dQ h0
  subst e1
  obtain ⟨a2, l2, e2, h2⟩ := dQ h1
  subst e2
  obtain ⟨e9, h9⟩ := dq h2
  subst e9
  exact (ai0 n a0 a1 a2 H k).trans h9
theorem ae8 (n : Nat) : Sound tb qX (oV (q8 n)) := by
  refine Sound.of (dL tb_ok.mono (ps := Vx) (rs := Ga) (l := [(iR, ic (js n))]) (ty := FG) (n := n) (c := U0) (eP (by kernel_rfl) (by kernel_rfl)) ⟨Ls n, trivial⟩) fun args H k r H' h => ?_
  unfold oV at h
  obtain ⟨a0, l0, e0, h0⟩ := dQ h
  subst e0
  obtain ⟨e9, h9⟩ := dq h0
  subst e9
  exact (anY n (js n) a0 H k).trans h9
theorem ajH (n : Nat) : Sound tb zk (vN (sd n)) := by
  refine Sound.of (dL tb_ok.mono (ps := O8) (rs := vi) (l := [(iR, ic (js n)), (qX, oV (q8 n))]) (ty := pK) (n := n) (c := OW) (eP (by kernel_rfl) (by kernel_rfl)) ⟨Ls n, ae8 n, trivial⟩) fun args H k r H' h => ?_
  unfold vN at h
  obtain ⟨a0, l0, e0, h0⟩ := dQ h
  subst e0
  obtain ⟨a1, l1, e1, h1⟩ := dQ h0
  subst e1
  obtain ⟨a2, l2, e2, h2⟩ := dQ h1
  subst e2
  obtain ⟨e9, h9⟩ := dq h2
  subst e9
  exact (akr n (js n) (q8 n) a0 a1 a2 H k).trans h9
theorem ao3 (n : Nat) : Sound tb Ki (D5 (zT n)) := by
  refine Sound.of (dL tb_ok.mono (ps := ZL) (rs := DK) (l := []) (ty := me) (n := n) (c := YQ) (eP (by kernel_rfl) (by kernel_rfl)) trivial) fun args H k r H' h => ?_
  unfold D5 at h
  obtain ⟨a0, l0, e0, h0⟩ := dQ h
  subst e0
  obtain ⟨e9, h9⟩ := dq h0
  subst e9
  exact (aqk n a0 H k).trans h9
theorem aqK (n : Nat) : Sound tb O9 (HA (I5 n)) := by
  refine Sound.of (dL tb_ok.mono (ps := aed) (rs := zF) (l := [(qZ, oZ (oY n)), (lP, jT (jS n)), (zk, vN (sd n)), (Ki, D5 (zT n))]) (ty := iP) (n := n) (c := adS) (eP (by kernel_rfl) (by kernel_rfl)) ⟨aeB n, PB n, ajH n, ao3 n, trivial⟩) fun args H k r H' h => ?_
  unfold HA at h
  obtain ⟨a0, l0, e0, h0⟩ := dn h
  subst e0
  obtain ⟨a1, l1, e1, h1⟩ := dQ h0
  subst e1
  obtain ⟨e9, h9⟩ := dq h1
  subst e9
  exact (aq5 n (oY n) (jS n) (sd n) (zT n) a0 a1 H k).trans h9
theorem sf (n : Nat) : Sound tb dC (dy (ew n)) := by
  refine Sound.of (dL tb_ok.mono (ps := C6) (rs := r7) (l := []) (ty := oJ) (n := n) (c := Dl) (eP (by kernel_rfl) (by kernel_rfl)) trivial) fun args H k r H' h => ?_
  unfold dy at h
  obtain ⟨a0, l0, e0, h0⟩ := dn h
  subst e0
  obtain ⟨e9, h9⟩ := dq h0
  subst e9
  exact (adR n a0 H k).trans h9
theorem MD (n : Nat) : Sound tb jr (iL (jo n)) := by
  refine Sound.of (dL tb_ok.mono (ps := Bw) (rs := qM) (l := []) (ty := nW) (n := n) (c := A8) (eP (by kernel_rfl) (by kernel_rfl)) trivial) fun args H k r H' h => ?_
  unfold iL at h
  obtain ⟨a0, l0, e0, h0⟩ := dn h
  subst e0
  obtain ⟨e9, h9⟩ := dq h0
  subst e9
  exact (ab8 n a0 H k).trans h9
theorem O4 (n : Nat) : Sound tb ly (jz (gp n)) := by
  refine Sound.of (dL tb_ok.mono (ps := rW) (rs := ju) (l := []) (ty := eE) (n := n) (c := sc) (eP (by kernel_rfl) (by kernel_rfl)) trivial) fun args H k r H' h => ?_
  unfold jz at h
  obtain ⟨a0, l0, e0, h0⟩ := dn h
  subst e0
  obtain ⟨a1, l1, e1, h1⟩ := dQ h0
  subst e1
  obtain ⟨a2, l2, e2, h2⟩ := dQ h1
  subst e2
  obtain ⟨e9, h9⟩ := dq h2
  subst e9
  exact (N1 n a0 a1 a2 H k).trans h9
theorem ahs (n : Nat) : Sound tb vF (rN (vu n)) := by
  refine Sound.of (dL tb_ok.mono (ps := IQ) (rs := vp) (l := []) (ty := vX) (n := n) (c := ID) (eP (by kernel_rfl) (by kernel_rfl)) trivial) fun args H k r H' h => ?_
  unfold rN at h
  obtain ⟨a0, l0, e0, h0⟩ := dQ h
  subst e0
  obtain ⟨e9, h9⟩ := dq h0
  subst e9
  exact (ahr n a0 H k).trans h9
theorem ajo (n : Nat) : Sound tb xM (tt (qI n)) := by
  refine Sound.of (dL tb_ok.mono (ps := Lr) (rs := xO) (l := [(vF, rN (vu n))]) (ty := qD) (n := n) (c := Ln) (eP (by kernel_rfl) (by kernel_rfl)) ⟨ahs n, trivial⟩) fun args H k r H' h => ?_
  unfold tt at h
  obtain ⟨a0, l0, e0, h0⟩ := dQ h
  subst e0
  obtain ⟨a1, l1, e1, h1⟩ := dQ h0
  subst e1
  obtain ⟨e9, h9⟩ := dq h1
  subst e9
  exact (aiE n (vu n) a0 a1 H k).trans h9
theorem ab0 (n : Nat) : Sound tb qR (nV (lZ n)) := by
  refine Sound.of (dL tb_ok.mono (ps := A2) (rs := qN) (l := []) (ty := qT) (n := n) (c := A4) (eP (by kernel_rfl) (by kernel_rfl)) trivial) fun args H k r H' h => ?_
  unfold nV at h
  obtain ⟨a0, l0, e0, h0⟩ := dQ h
  subst e0
  obtain ⟨e9, h9⟩ := dq h0
  subst e9
  exact (abC n a0 H k).trans h9
theorem EV (n : Nat) : Sound tb i6 (gy (gF n)) := by
  refine Sound.of (dL tb_ok.mono (ps := nL) (rs := jd) (l := [(xM, tt (qI n)), (qR, nV (lZ n))]) (ty := dl) (n := n) (c := nu) (eP (by kernel_rfl) (by kernel_rfl)) ⟨ajo n, ab0 n, trivial⟩) fun args H k r H' h => ?_
  unfold gy at h
  obtain ⟨a0, l0, e0, h0⟩ := dn h
  subst e0
  obtain ⟨a1, l1, e1, h1⟩ := dQ h0
  subst e1
  obtain ⟨e9, h9⟩ := dq h1
  subst e9
  exact (EB n (qI n) (lZ n) a0 a1 H k).trans h9
theorem aej (n : Nat) : Sound tb rV (ov (lD n)) := by
  refine Sound.of (dL tb_ok.mono (ps := Dc) (rs := rZ) (l := [(i6, gy (gF n)), (lE, B5 nM)]) (ty := sq) (n := n) (c := C8) (eP (by kernel_rfl) (by kernel_rfl)) ⟨EV n, NA, trivial⟩) fun args H k r H' h => ?_
  unfold ov at h
  obtain ⟨a0, l0, e0, h0⟩ := dn h
  subst e0
  obtain ⟨a1, l1, e1, h1⟩ := dQ h0
  subst e1
  obtain ⟨a2, l2, e2, h2⟩ := dQ h1
  subst e2
  obtain ⟨e9, h9⟩ := dq h2
  subst e9
  exact (adQ n (gF n) (B5 nM) a0 a1 a2 H k).trans h9
theorem abQ (n : Nat) : Sound tb qK (nU (lY n)) := by
  refine Sound.of (dL tb_ok.mono (ps := Bv) (rs := kV) (l := [(jr, iL (jo n)), (ly, jz (gp n)), (rV, ov (lD n))]) (ty := dv) (n := n) (c := Bq) (eP (by kernel_rfl) (by kernel_rfl)) ⟨MD n, O4 n, aej n, trivial⟩) fun args H k r H' h => ?_
  unfold nU at h
  obtain ⟨a0, l0, e0, h0⟩ := dn h
  subst e0
  obtain ⟨a1, l1, e1, h1⟩ := dQ h0
  subst e1
  obtain ⟨e9, h9⟩ := dq h1
  subst e9
  exact (ab9 n (jo n) (gp n) (lD n) a0 a1 H k).trans h9
theorem akO (n : Nat) : Sound tb zu (vO (rQ n)) := by
  refine Sound.of (dL tb_ok.mono (ps := NN) (rs := vR) (l := [(iR, ic (js n)), (qX, oV (q8 n))]) (ty := pL) (n := n) (c := Pe) (eP (by kernel_rfl) (by kernel_rfl)) ⟨Ls n, ae8 n, trivial⟩) fun args H k r H' h => ?_
  unfold vO at h
  obtain ⟨a0, l0, e0, h0⟩ := dQ h
  subst e0
  obtain ⟨a1, l1, e1, h1⟩ := dQ h0
  subst e1
  obtain ⟨a2, l2, e2, h2⟩ := dQ h1
  subst e2
  obtain ⟨e9, h9⟩ := dq h2
  subst e9
  exact (ajE n (js n) (q8 n) a0 a1 a2 H k).trans h9
theorem Pg (n : Nat) : Sound tb ku (jh (kq n)) := by
  refine Sound.of (dL tb_ok.mono (ps := Dn) (rs := mJ) (l := [(qK, nU (lY n)), (zu, vO (rQ n))]) (ty := ec) (n := n) (c := Du) (eP (by kernel_rfl) (by kernel_rfl)) ⟨abQ n, akO n, trivial⟩) fun args H k r H' h => ?_
  unfold jh at h
  obtain ⟨a0, l0, e0, h0⟩ := dn h
  subst e0
  obtain ⟨a1, l1, e1, h1⟩ := dQ h0
  subst e1
  obtain ⟨a2, l2, e2, h2⟩ := dQ h1
  subst e2
  obtain ⟨a3, l3, e3, h3⟩ := dQ h2
  subst e3
  obtain ⟨e9, h9⟩ := dq h3
  subst e9
  exact (ad5 n (lY n) (rQ n) a0 a1 a2 a3 H k).trans h9
theorem ad6 (n : Nat) : Sound tb sC (oG (oE n)) := by
  refine Sound.of (dL tb_ok.mono (ps := C5) (rs := mR) (l := [(dC, dy (ew n)), (ku, jh (kq n))]) (ty := kj) (n := n) (c := De) (eP (by kernel_rfl) (by kernel_rfl)) ⟨sf n, Pg n, trivial⟩) fun args H k r H' h => ?_
  unfold oG at h
  obtain ⟨a0, l0, e0, h0⟩ := dn h
  subst e0
  obtain ⟨e9, h9⟩ := dq h0
  subst e9
  exact (adN n (ew n) (kq n) a0 H k).trans h9
theorem EM (n : Nat) : Sound tb gP (gi (d6 n)) := by
  refine Sound.of (dL tb_ok.mono (ps := xr) (rs := nG) (l := []) (ty := nF) (n := n) (c := xv) (eP (by kernel_rfl) (by kernel_rfl)) trivial) fun args H k r H' h => ?_
  unfold gi at h
  obtain ⟨a0, l0, e0, h0⟩ := dn h
  subst e0
  obtain ⟨a1, l1, e1, h1⟩ := dQ h0
  subst e1
  obtain ⟨e9, h9⟩ := dq h1
  subst e9
  exact (Vd n a0 a1 H k).trans h9
theorem M3 (n : Nat) : Sound tb jm (iJ (gf n)) := by
  refine Sound.of (dL tb_ok.mono (ps := Bb) (rs := nQ) (l := [(jr, iL (jo n))]) (ty := fQ) (n := n) (c := Bf) (eP (by kernel_rfl) (by kernel_rfl)) ⟨MD n, trivial⟩) fun args H k r H' h => ?_
  unfold iJ at h
  obtain ⟨a0, l0, e0, h0⟩ := dn h
  subst e0
  obtain ⟨e9, h9⟩ := dq h0
  subst e9
  exact (abN n (jo n) a0 H k).trans h9
theorem aez (n : Nat) : Sound tb tK (qq (jI n)) := by
  refine Sound.of (dL tb_ok.mono (ps := Fd) (rs := lg) (l := [(dC, dy (ew n)), (ku, jh (kq n)), (jm, iJ (gf n))]) (ty := dF) (n := n) (c := FN) (eP (by kernel_rfl) (by kernel_rfl)) ⟨sf n, Pg n, M3 n, trivial⟩) fun args H k r H' h => ?_
  unfold qq at h
  obtain ⟨a0, l0, e0, h0⟩ := dn h
  subst e0
  obtain ⟨a1, l1, e1, h1⟩ := dQ h0
  subst e1
  obtain ⟨e9, h9⟩ := dq h1
  subst e9
  exact (ae9 n (ew n) (kq n) (gf n) a0 a1 H k).trans h9
theorem aeL (n : Nat) : Sound tb tx (qg (ml n)) := by
  refine Sound.of (dL tb_ok.mono (ps := EF) (rs := qv) (l := [(dC, dy (ew n)), (jm, iJ (gf n))]) (ty := gr) (n := n) (c := E1) (eP (by kernel_rfl) (by kernel_rfl)) ⟨sf n, M3 n, trivial⟩) fun args H k r H' h => ?_
  unfold qg at h
  obtain ⟨a0, l0, e0, h0⟩ := dn h
  subst e0
  obtain ⟨e9, h9⟩ := dq h0
  subst e9
  exact (afA n (ew n) (gf n) a0 H k).trans h9
theorem abF (n : Nat) : Sound tb qS (nZ (lV n)) := by
  refine Sound.of (dL tb_ok.mono (ps := Bx) (rs := nR) (l := [(dC, dy (ew n))]) (ty := jp) (n := n) (c := Bi) (eP (by kernel_rfl) (by kernel_rfl)) ⟨sf n, trivial⟩) fun args H k r H' h => ?_
  unfold nZ at h
  obtain ⟨a0, l0, e0, h0⟩ := dn h
  subst e0
  obtain ⟨e9, h9⟩ := dq h0
  subst e9
  exact (abK n (ew n) a0 H k).trans h9
theorem AS (n : Nat) : Sound tb gN (fR (gM n)) := by
  refine Sound.of (dL tb_ok.mono (ps := lX) (rs := gL) (l := []) (ty := gO) (n := n) (c := lW) (eP (by kernel_rfl) (by kernel_rfl)) trivial) fun args H k r H' h => ?_
  unfold fR at h
  obtain ⟨a0, l0, e0, h0⟩ := dn h
  subst e0
  obtain ⟨e9, h9⟩ := dq h0
  subst e9
  exact (Ba n a0 H k).trans h9
theorem adU (n : Nat) : Sound tb rX (oH (km n)) := by
  refine Sound.of (dL tb_ok.mono (ps := C4) (rs := oF) (l := [(dC, dy (ew n)), (pG, B5 lq), (gN, fR (gM n))]) (ty := fY) (n := n) (c := C7) (eP (by kernel_rfl) (by kernel_rfl)) ⟨sf n, Yj, AS n, trivial⟩) fun args H k r H' h => ?_
  unfold oH at h
  obtain ⟨a0, l0, e0, h0⟩ := dn h
  subst e0
  obtain ⟨e9, h9⟩ := dq h0
  subst e9
  exact (adY n (ew n) (B5 lq) (gM n) a0 H k).trans h9
theorem aaX (n : Nat) : Sound tb pO (mV (dm n)) := by
  refine Sound.of (dL tb_ok.mono (ps := zz) (rs := mT) (l := []) (ty := gU) (n := n) (c := zW) (eP (by kernel_rfl) (by kernel_rfl)) trivial) fun args H k r H' h => ?_
  unfold mV at h
  obtain ⟨a0, l0, e0, h0⟩ := dn h
  subst e0
  obtain ⟨a1, l1, e1, h1⟩ := dQ h0
  subst e1
  obtain ⟨e9, h9⟩ := dq h1
  subst e9
  exact (Yt n a0 a1 H k).trans h9
theorem XX (n : Nat) : Sound tb oh (mt (jl n)) := by
  refine Sound.of (dL tb_ok.mono (ps := yy) (rs := k9) (l := [(gP, gi (d6 n)), (tx, qg (ml n)), (qZ, oZ (oY n)), (qS, nZ (lV n)), (rX, oH (km n)), (pO, mV (dm n))]) (ty := cC) (n := n) (c := yv) (eP (by kernel_rfl) (by kernel_rfl)) ⟨EM n, aeL n, aeB n, abF n, adU n, aaX n, trivial⟩) fun args H k r H' h => ?_
  unfold mt at h
  obtain ⟨a0, l0, e0, h0⟩ := dn h
  subst e0
  obtain ⟨a1, l1, e1, h1⟩ := dQ h0
  subst e1
  obtain ⟨a2, l2, e2, h2⟩ := dn h1
  subst e2
  obtain ⟨e9, h9⟩ := dq h2
  subst e9
  exact (Yi n (d6 n) (ml n) (oY n) (lV n) (km n) (dm n) a0 a1 a2 H k).trans h9
theorem NC (n : Nat) : Sound tb Nq (y7 (q7 n)) := by
  refine Sound.of (dL tb_ok.mono (ps := qY) (rs := fI) (l := [(nw, B5 nD), (O9, HA (I5 n)), (sC, oG (oE n)), (gP, gi (d6 n)), (tK, qq (jI n)), (oh, mt (jl n))]) (ty := cF) (n := n) (c := rb) (eP (by kernel_rfl) (by kernel_rfl)) ⟨RU, aqK n, ad6 n, EM n, aez n, XX n, trivial⟩) fun args H k r H' h => ?_
  unfold y7 at h
  obtain ⟨a0, l0, e0, h0⟩ := dn h
  subst e0
  obtain ⟨a1, l1, e1, h1⟩ := dQ h0
  subst e1
  obtain ⟨a2, l2, e2, h2⟩ := dQ h1
  subst e2
  obtain ⟨e9, h9⟩ := dq h2
  subst e9
  exact (NG n (B5 nD) (I5 n) (oE n) (d6 n) (jI n) (jl n) a0 a1 a2 H k).trans h9
end
end Go.Proofs.YtnlbfbiogfilfaaGreat.Sh
