/- The printed functions at the program's table: each is sound. -/
import Derived.Test.YtnlbfbiogfilfaaGreatPaQText
import Derived.Test.YtnlbfbiogfilfaaGreatQKeysPaQTb
set_option linter.all false
namespace Go.Proofs.YtnlbfbiogfilfaaGreat.Sh
open Go.Ai Go.Proofs
set_option maxRecDepth 100000
section
theorem arl (n:Nat):Sound tb rT (vK (mI n)):=by
  refine Sound.of (dx tb_ok.mono (ps:=Q5) (rs:=vS) (l:=[]) (ty:=zC) (n:=n) (c:=RY) (eE (by kernel_rfl) (by kernel_rfl)) trivial) fun args H k r H' h=>?_
  unfold vK at h
  obtain ⟨a0,l0,e0,h0⟩:=aAN h
  subst e0
  obtain ⟨a1,l1,e1,h1⟩:=dv h0
  subst e1
  obtain ⟨a2,l2,e2,h2⟩:=dv h1
  subst e2
  obtain ⟨a3,l3,e3,h3⟩:=c8 h2
  subst e3
  obtain ⟨e9,h9⟩:=dc h3
  subst e9
  exact (aq9 n a0 a1 a2 a3 H k).trans h9
theorem Gi (n:Nat):Sound tb fx (fb (fN n)):=by
  refine Sound.of (dx tb_ok.mono (ps:=XF) (rs:=Gp) (l:=[]) (ty:=Bb) (n:=n) (c:=Yr) (eE (by kernel_rfl) (by kernel_rfl)) trivial) fun args H k r H' h=>?_
  unfold fb at h
  obtain ⟨a0,l0,e0,h0⟩:=dv h
  subst e0
  obtain ⟨a1,l1,e1,h1⟩:=dv h0
  subst e1
  obtain ⟨a2,l2,e2,h2⟩:=dv h1
  subst e2
  obtain ⟨e9,h9⟩:=dc h2
  subst e9
  exact (auA n a0 a1 a2 H k).trans h9
theorem aw8 (n:Nat):Sound tb KQ (Eb (EB n)):=by
  refine Sound.of (dx tb_ok.mono (ps:=ab6) (rs:=JZ) (l:=[(fx,fb (fN n))]) (ty:=Em) (n:=n) (c:=acp) (eE (by kernel_rfl) (by kernel_rfl)) ⟨Gi n,trivial⟩) fun args H k r H' h=>?_
  unfold Eb at h
  obtain ⟨a0,l0,e0,h0⟩:=dv h
  subst e0
  obtain ⟨a1,l1,e1,h1⟩:=dv h0
  subst e1
  obtain ⟨e9,h9⟩:=dc h1
  subst e9
  exact (avQ n (fN n) a0 a1 H k).trans h9
theorem Ub (n:Nat):Sound tb ji (iT (gm n)):=by
  refine Sound.of (dx tb_ok.mono (ps:=Vx) (rs:=DG) (l:=[(KQ,Eb (EB n)),(fx,fb (fN n))]) (ty:=km) (n:=n) (c:=U2) (eE (by kernel_rfl) (by kernel_rfl)) ⟨aw8 n,Gi n,trivial⟩) fun args H k r H' h=>?_
  unfold iT at h
  obtain ⟨a0,l0,e0,h0⟩:=c8 h
  subst e0
  obtain ⟨e9,h9⟩:=dc h0
  subst e9
  exact (atz n (EB n) (fN n) a0 H k).trans h9
theorem Tx (n:Nat):Sound tb iK (ig (gy n)):=by
  refine Sound.of (dx tb_ok.mono (ps:=acb) (rs:=zf) (l:=[]) (ty:=gN) (n:=n) (c:=acm) (eE (by kernel_rfl) (by kernel_rfl)) trivial) fun args H k r H' h=>?_
  unfold ig at h
  obtain ⟨a0,l0,e0,h0⟩:=c8 h
  subst e0
  obtain ⟨e9,h9⟩:=dc h0
  subst e9
  exact (awp n a0 H k).trans h9
theorem Fj (n:Nat):Sound tb fQ (fd (fP n)):=by
  refine Sound.of (dx tb_ok.mono (ps:=vE) (rs:=jK) (l:=[]) (ty:=eP) (n:=n) (c:=vt) (eE (by kernel_rfl) (by kernel_rfl)) trivial) fun args H k r H' h=>?_
  unfold fd at h
  obtain ⟨a0,l0,e0,h0⟩:=c8 h
  subst e0
  obtain ⟨a1,l1,e1,h1⟩:=dv h0
  subst e1
  obtain ⟨e9,h9⟩:=dc h1
  subst e9
  exact (V2 n a0 a1 H k).trans h9
theorem Q6 (n:Nat):Sound tb kw (iD (cV n)):=by
  refine Sound.of (dx tb_ok.mono (ps:=rB) (rs:=kp) (l:=[(fQ,fd (fP n))]) (ty:=ku) (n:=n) (c:=rJ) (eE (by kernel_rfl) (by kernel_rfl)) ⟨Fj n,trivial⟩) fun args H k r H' h=>?_
  unfold iD at h
  obtain ⟨a0,l0,e0,h0⟩:=c8 h
  subst e0
  obtain ⟨a1,l1,e1,h1⟩:=dv h0
  subst e1
  obtain ⟨e9,h9⟩:=dc h1
  subst e9
  exact (Ru n (fP n) a0 a1 H k).trans h9
theorem atj (n:Nat):Sound tb DS (xP (yc n)):=by
  refine Sound.of (dx tb_ok.mono (ps:=UU) (rs:=un) (l:=[(kw,iD (cV n))]) (ty:=fy) (n:=n) (c:=Va) (eE (by kernel_rfl) (by kernel_rfl)) ⟨Q6 n,trivial⟩) fun args H k r H' h=>?_
  unfold xP at h
  obtain ⟨a0,l0,e0,h0⟩:=c8 h
  subst e0
  obtain ⟨a1,l1,e1,h1⟩:=dv h0
  subst e1
  obtain ⟨e9,h9⟩:=dc h1
  subst e9
  exact (as4 n (cV n) a0 a1 H k).trans h9
theorem apZ (n:Nat):Sound tb we (ta (tg n)):=by
  refine Sound.of (dx tb_ok.mono (ps:=afF) (rs:=Pk) (l:=[]) (ty:=Pl) (n:=n) (c:=af2) (eE (by kernel_rfl) (by kernel_rfl)) trivial) fun args H k r H' h=>?_
  unfold ta at h
  obtain ⟨a0,l0,e0,h0⟩:=c8 h
  subst e0
  obtain ⟨e9,h9⟩:=dc h0
  subst e9
  exact (axA n a0 H k).trans h9
theorem anv (n:Nat):Sound tb sx (qr (qx n)):=by
  refine Sound.of (dx tb_ok.mono (ps:=abM) (rs:=Kf) (l:=[(we,ta (tg n))]) (ty:=K3) (n:=n) (c:=abU) (eE (by kernel_rfl) (by kernel_rfl)) ⟨apZ n,trivial⟩) fun args H k r H' h=>?_
  unfold qr at h
  obtain ⟨a0,l0,e0,h0⟩:=c8 h
  subst e0
  obtain ⟨a1,l1,e1,h1⟩:=dv h0
  subst e1
  obtain ⟨e9,h9⟩:=dc h1
  subst e9
  exact (awi n (tg n) a0 a1 H k).trans h9
theorem auH (n:Nat):Sound tb Gk (Bg (Bf n)):=by
  refine Sound.of (dx tb_ok.mono (ps:=Ye) (rs:=qb) (l:=[(sx,qr (qx n)),(ji,iT (gm n)),(we,ta (tg n)),(fx,fb (fN n))]) (ty:=ed) (n:=n) (c:=XL) (eE (by kernel_rfl) (by kernel_rfl)) ⟨anv n,Ub n,apZ n,Gi n,trivial⟩) fun args H k r H' h=>?_
  unfold Bg at h
  obtain ⟨a0,l0,e0,h0⟩:=c8 h
  subst e0
  obtain ⟨a1,l1,e1,h1⟩:=dv h0
  subst e1
  obtain ⟨e9,h9⟩:=dc h1
  subst e9
  exact (auP n (qx n) (gm n) (tg n) (fN n) a0 a1 H k).trans h9
theorem apQ (n:Nat):Sound tb wx (tf (ns n)):=by
  refine Sound.of (dx tb_ok.mono (ps:=ago) (rs:=DI) (l:=[(DS,xP (yc n)),(Gk,Bg (Bf n))]) (ty:=wv) (n:=n) (c:=afr) (eE (by kernel_rfl) (by kernel_rfl)) ⟨atj n,auH n,trivial⟩) fun args H k r H' h=>?_
  unfold tf at h
  obtain ⟨a0,l0,e0,h0⟩:=c8 h
  subst e0
  obtain ⟨a1,l1,e1,h1⟩:=dv h0
  subst e1
  obtain ⟨e9,h9⟩:=dc h1
  subst e9
  exact (axQ n (yc n) (Bf n) a0 a1 H k).trans h9
theorem akE (n:Nat):Sound tb qp (oa (mF n)):=by
  refine Sound.of (dx tb_ok.mono (ps:=XZ) (rs:=Gu) (l:=[]) (ty:=Bc) (n:=n) (c:=Yj) (eE (by kernel_rfl) (by kernel_rfl)) trivial) fun args H k r H' h=>?_
  unfold oa at h
  obtain ⟨a0,l0,e0,h0⟩:=dv h
  subst e0
  obtain ⟨a1,l1,e1,h1⟩:=dv h0
  subst e1
  obtain ⟨a2,l2,e2,h2⟩:=dv h1
  subst e2
  obtain ⟨e9,h9⟩:=dc h2
  subst e9
  exact (auv n a0 a1 a2 H k).trans h9
theorem auL (n:Nat):Sound tb GZ (Bq (te n)):=by
  refine Sound.of (dx tb_ok.mono (ps:=Yo) (rs:=wT) (l:=[(iK,ig (gy n)),(qp,oa (mF n))]) (ty:=oc) (n:=n) (c:=XB) (eE (by kernel_rfl) (by kernel_rfl)) ⟨Tx n,akE n,trivial⟩) fun args H k r H' h=>?_
  unfold Bq at h
  obtain ⟨a0,l0,e0,h0⟩:=c8 h
  subst e0
  obtain ⟨a1,l1,e1,h1⟩:=dv h0
  subst e1
  obtain ⟨a2,l2,e2,h2⟩:=dv h1
  subst e2
  obtain ⟨e9,h9⟩:=dc h2
  subst e9
  exact (auW n (gy n) (mF n) a0 a1 a2 H k).trans h9
theorem aw5 (n:Nat):Sound tb Jv (EQ (wm n)):=by
  refine Sound.of (dx tb_ok.mono (ps:=acr) (rs:=zl) (l:=[(iK,ig (gy n)),(qp,oa (mF n))]) (ty:=gP) (n:=n) (c:=act) (eE (by kernel_rfl) (by kernel_rfl)) ⟨Tx n,akE n,trivial⟩) fun args H k r H' h=>?_
  unfold EQ at h
  obtain ⟨a0,l0,e0,h0⟩:=c8 h
  subst e0
  obtain ⟨a1,l1,e1,h1⟩:=c8 h0
  subst e1
  obtain ⟨e9,h9⟩:=dc h1
  subst e9
  exact (awI n (gy n) (mF n) a0 a1 H k).trans h9
theorem auO (n:Nat):Sound tb Gh (Bh (tc n)):=by
  refine Sound.of (dx tb_ok.mono (ps:=Yc) (rs:=GG) (l:=[]) (ty:=lU) (n:=n) (c:=Ym) (eE (by kernel_rfl) (by kernel_rfl)) trivial) fun args H k r H' h=>?_
  unfold Bh at h
  obtain ⟨a0,l0,e0,h0⟩:=c8 h
  subst e0
  obtain ⟨a1,l1,e1,h1⟩:=c8 h0
  subst e1
  obtain ⟨e9,h9⟩:=dc h1
  subst e9
  exact (auD n a0 a1 H k).trans h9
theorem Zu (n:Nat):Sound tb fX (kF (gx n)):=by
  refine Sound.of (dx tb_ok.mono (ps:=NI) (rs:=ys) (l:=[]) (ty:=yA) (n:=n) (c:=Nn) (eE (by kernel_rfl) (by kernel_rfl)) trivial) fun args H k r H' h=>?_
  unfold kF at h
  obtain ⟨a0,l0,e0,h0⟩:=c8 h
  subst e0
  obtain ⟨e9,h9⟩:=dc h0
  subst e9
  exact (apD n a0 H k).trans h9
theorem aay (n:Nat):Sound tb fV (kE (gn n)):=by
  refine Sound.of (dx tb_ok.mono (ps:=NW) (rs:=yh) (l:=[]) (ty:=xM) (n:=n) (c:=Nx) (eE (by kernel_rfl) (by kernel_rfl)) trivial) fun args H k r H' h=>?_
  unfold kE at h
  obtain ⟨a0,l0,e0,h0⟩:=c8 h
  subst e0
  obtain ⟨e9,h9⟩:=dc h0
  subst e9
  exact (apB n a0 H k).trans h9
theorem abp (n:Nat):Sound tb jt (kN (js n)):=by
  refine Sound.of (dx tb_ok.mono (ps:=Nj) (rs:=xx) (l:=[]) (ty:=xJ) (n:=n) (c:=NG) (eE (by kernel_rfl) (by kernel_rfl)) trivial) fun args H k r H' h=>?_
  unfold kN at h
  obtain ⟨e9,h9⟩:=dc h
  subst e9
  exact (aoN n H k).trans h9
theorem aaF (n:Nat):Sound tb kO (kP (gX n)):=by
  refine Sound.of (dx tb_ok.mono (ps:=OG) (rs:=ya) (l:=[]) (ty:=yK) (n:=n) (c:=OK) (eE (by kernel_rfl) (by kernel_rfl)) trivial) fun args H k r H' h=>?_
  unfold kP at h
  obtain ⟨a0,l0,e0,h0⟩:=c8 h
  subst e0
  obtain ⟨e9,h9⟩:=dc h0
  subst e9
  exact (an6 n a0 H k).trans h9
theorem abb (n:Nat):Sound tb kI (kK (gT n)):=by
  refine Sound.of (dx tb_ok.mono (ps:=Ob) (rs:=xB) (l:=[]) (ty:=xG) (n:=n) (c:=OD) (eE (by kernel_rfl) (by kernel_rfl)) trivial) fun args H k r H' h=>?_
  unfold kK at h
  obtain ⟨a0,l0,e0,h0⟩:=c8 h
  subst e0
  obtain ⟨a1,l1,e1,h1⟩:=c8 h0
  subst e1
  obtain ⟨e9,h9⟩:=dc h1
  subst e9
  exact (aoS n a0 a1 H k).trans h9
theorem ZB (n:Nat):Sound tb kG (kD (gV n)):=by
  refine Sound.of (dx tb_ok.mono (ps:=Ox) (rs:=xZ) (l:=[]) (ty:=xO) (n:=n) (c:=Ou) (eE (by kernel_rfl) (by kernel_rfl)) trivial) fun args H k r H' h=>?_
  unfold kD at h
  obtain ⟨a0,l0,e0,h0⟩:=c8 h
  subst e0
  obtain ⟨a1,l1,e1,h1⟩:=c8 h0
  subst e1
  obtain ⟨a2,l2,e2,h2⟩:=c8 h1
  subst e2
  obtain ⟨e9,h9⟩:=dc h2
  subst e9
  exact (anP n a0 a1 a2 H k).trans h9
theorem YI (n:Nat):Sound tb kH (kQ (gW n)):=by
  refine Sound.of (dx tb_ok.mono (ps:=Ok) (rs:=yk) (l:=[]) (ty:=yl) (n:=n) (c:=N3) (eE (by kernel_rfl) (by kernel_rfl)) trivial) fun args H k r H' h=>?_
  unfold kQ at h
  obtain ⟨a0,l0,e0,h0⟩:=c8 h
  subst e0
  obtain ⟨a1,l1,e1,h1⟩:=c8 h0
  subst e1
  obtain ⟨e9,h9⟩:=dc h1
  subst e9
  exact (aps n a0 a1 H k).trans h9
theorem ZX (n:Nat):Sound tb kR (kJ (gY n)):=by
  refine Sound.of (dx tb_ok.mono (ps:=NU) (rs:=yS) (l:=[]) (ty:=xF) (n:=n) (c:=Nd) (eE (by kernel_rfl) (by kernel_rfl)) trivial) fun args H k r H' h=>?_
  unfold kJ at h
  obtain ⟨a0,l0,e0,h0⟩:=c8 h
  subst e0
  obtain ⟨a1,l1,e1,h1⟩:=c8 h0
  subst e1
  obtain ⟨a2,l2,e2,h2⟩:=c8 h1
  subst e2
  obtain ⟨e9,h9⟩:=dc h2
  subst e9
  exact (aoc n a0 a1 a2 H k).trans h9
theorem Wt (n:Nat):Sound tb jB (jy (gA n)):=by
  refine Sound.of (dx tb_ok.mono (ps:=Ke) (rs:=wb) (l:=[]) (ty:=vV) (n:=n) (c:=JT) (eE (by kernel_rfl) (by kernel_rfl)) trivial) fun args H k r H' h=>?_
  unfold jy at h
  obtain ⟨a0,l0,e0,h0⟩:=c8 h
  subst e0
  obtain ⟨a1,l1,e1,h1⟩:=c8 h0
  subst e1
  obtain ⟨a2,l2,e2,h2⟩:=c8 h1
  subst e2
  obtain ⟨e9,h9⟩:=dc h2
  subst e9
  exact (al2 n a0 a1 a2 H k).trans h9
theorem ao9 (n:Nat):Sound tb tl (tq (nF n)):=by
  refine Sound.of (dx tb_ok.mono (ps:=NB) (rs:=yb) (l:=[(fX,kF (gx n)),(fV,kE (gn n)),(jt,kN (js n)),(kO,kP (gX n)),(kI,kK (gT n)),(kG,kD (gV n)),(kH,kQ (gW n)),(kR,kJ (gY n)),(jB,jy (gA n))]) (ty:=xK) (n:=n) (c:=Oe) (eE (by kernel_rfl) (by kernel_rfl)) ⟨Zu n,aay n,abp n,aaF n,abb n,ZB n,YI n,ZX n,Wt n,trivial⟩) fun args H k r H' h=>?_
  unfold tq at h
  obtain ⟨a0,l0,e0,h0⟩:=c8 h
  subst e0
  obtain ⟨a1,l1,e1,h1⟩:=c8 h0
  subst e1
  obtain ⟨e9,h9⟩:=dc h1
  subst e9
  exact (aoH n (gx n) (gn n) (js n) (gX n) (gT n) (gV n) (gW n) (gY n) (gA n) a0 a1 H k).trans h9
theorem axT (n:Nat):Sound tb Pi (Je (yW n)):=by
  refine Sound.of (dx tb_ok.mono (ps:=ahL) (rs:=I4) (l:=[(Jv,EQ (wm n)),(Gh,Bh (tc n)),(fX,kF (gx n)),(fV,kE (gn n)),(jt,kN (js n)),(kO,kP (gX n)),(kI,kK (gT n)),(kG,kD (gV n)),(kH,kQ (gW n)),(tl,tq (nF n)),(kR,kJ (gY n)),(jB,jy (gA n))]) (ty:=mr) (n:=n) (c:=ah7) (eE (by kernel_rfl) (by kernel_rfl)) ⟨aw5 n,auO n,Zu n,aay n,abp n,aaF n,abb n,ZB n,YI n,ao9 n,ZX n,Wt n,trivial⟩) fun args H k r H' h=>?_
  unfold Je at h
  obtain ⟨a0,l0,e0,h0⟩:=c8 h
  subst e0
  obtain ⟨a1,l1,e1,h1⟩:=c8 h0
  subst e1
  obtain ⟨e9,h9⟩:=dc h1
  subst e9
  exact (ax9 n (wm n) (tc n) (gx n) (gn n) (js n) (gX n) (gT n) (gV n) (gW n) (nF n) (gY n) (gA n) a0 a1 H k).trans h9
theorem awS (n:Nat):Sound tb Kl (Ed (ww n)):=by
  refine Sound.of (dx tb_ok.mono (ps:=abs) (rs:=Ka) (l:=[]) (ty:=zr) (n:=n) (c:=acq) (eE (by kernel_rfl) (by kernel_rfl)) trivial) fun args H k r H' h=>?_
  unfold Ed at h
  obtain ⟨a0,l0,e0,h0⟩:=c8 h
  subst e0
  obtain ⟨a1,l1,e1,h1⟩:=dv h0
  subst e1
  obtain ⟨e9,h9⟩:=dc h1
  subst e9
  exact (awW n a0 a1 H k).trans h9
theorem aug (n:Nat):Sound tb Gm (Bj (s8 n)):=by
  refine Sound.of (dx tb_ok.mono (ps:=Xv) (rs:=qj) (l:=[(ji,iT (gm n)),(iK,ig (gy n)),(wx,tf (ns n)),(GZ,Bq (te n)),(Pi,Je (yW n)),(Kl,Ed (ww n))]) (ty:=eZ) (n:=n) (c:=Yg) (eE (by kernel_rfl) (by kernel_rfl)) ⟨Ub n,Tx n,apQ n,auL n,axT n,awS n,trivial⟩) fun args H k r H' h=>?_
  unfold Bj at h
  obtain ⟨a0,l0,e0,h0⟩:=c8 h
  subst e0
  obtain ⟨e9,h9⟩:=dc h0
  subst e9
  exact (auN n (gm n) (gy n) (ns n) (te n) (yW n) (ww n) a0 H k).trans h9
theorem apc (n:Nat):Sound tb pN (tH (lY n)):=by
  refine Sound.of (dx tb_ok.mono (ps:=Nv) (rs:=yR) (l:=[(fx,fb (fN n))]) (ty:=xu) (n:=n) (c:=NX) (eE (by kernel_rfl) (by kernel_rfl)) ⟨Gi n,trivial⟩) fun args H k r H' h=>?_
  unfold tH at h
  obtain ⟨a0,l0,e0,h0⟩:=dv h
  subst e0
  obtain ⟨a1,l1,e1,h1⟩:=c8 h0
  subst e1
  obtain ⟨e9,h9⟩:=dc h1
  subst e9
  exact (aoQ n (fN n) a0 a1 H k).trans h9
theorem PK (n:Nat):Sound tb jH (ik (jI n)):=by
  refine Sound.of (dx tb_ok.mono (ps:=qM) (rs:=im) (l:=[(pN,tH (lY n))]) (ty:=dR) (n:=n) (c:=qD) (eE (by kernel_rfl) (by kernel_rfl)) ⟨apc n,trivial⟩) fun args H k r H' h=>?_
  unfold ik at h
  obtain ⟨a0,l0,e0,h0⟩:=c8 h
  subst e0
  obtain ⟨a1,l1,e1,h1⟩:=c8 h0
  subst e1
  obtain ⟨e9,h9⟩:=dc h1
  subst e9
  exact (P7 n (lY n) a0 a1 H k).trans h9
theorem KU (n:Nat):Sound tb iW (gD (iS n)):=by
  refine Sound.of (dx tb_ok.mono (ps:=ot) (rs:=iU) (l:=[(jH,ik (jI n))]) (ty:=iJ) (n:=n) (c:=oz) (eE (by kernel_rfl) (by kernel_rfl)) ⟨PK n,trivial⟩) fun args H k r H' h=>?_
  unfold gD at h
  obtain ⟨a0,l0,e0,h0⟩:=c8 h
  subst e0
  obtain ⟨a1,l1,e1,h1⟩:=c8 h0
  subst e1
  obtain ⟨e9,h9⟩:=dc h1
  subst e9
  exact (Lg n (jI n) a0 a1 H k).trans h9
theorem auj (n:Nat):Sound tb GL (Bk (s9 n)):=by
  refine Sound.of (dx tb_ok.mono (ps:=X7) (rs:=Gs) (l:=[(fx,fb (fN n)),(iW,gD (iS n))]) (ty:=Ba) (n:=n) (c:=X4) (eE (by kernel_rfl) (by kernel_rfl)) ⟨Gi n,KU n,trivial⟩) fun args H k r H' h=>?_
  unfold Bk at h
  obtain ⟨a0,l0,e0,h0⟩:=c8 h
  subst e0
  obtain ⟨e9,h9⟩:=dc h0
  subst e9
  exact (aub n (fN n) (iS n) a0 H k).trans h9
theorem axb (n:Nat):Sound tb K9 (EF (EP n)):=by
  refine Sound.of (dx tb_ok.mono (ps:=ace) (rs:=Jq) (l:=[(rT,vK (mI n)),(ji,iT (gm n)),(iK,ig (gy n)),(Gm,Bj (s8 n)),(GL,Bk (s9 n)),(wx,tf (ns n))]) (ty:=iH) (n:=n) (c:=ab4) (eE (by kernel_rfl) (by kernel_rfl)) ⟨arl n,Ub n,Tx n,aug n,auj n,apQ n,trivial⟩) fun args H k r H' h=>?_
  unfold EF at h
  obtain ⟨a0,l0,e0,h0⟩:=c8 h
  subst e0
  obtain ⟨e9,h9⟩:=dc h0
  subst e9
  exact (awP n (mI n) (gm n) (gy n) (s8 n) (s9 n) (ns n) a0 H k).trans h9
theorem ath (n:Nat):Sound tb zb (wR (i9 n)):=by
  refine Sound.of (dx tb_ok.mono (ps:=ak9) (rs:=Vj) (l:=[(K9,EF (EP n))]) (ty:=VM) (n:=n) (c:=alO) (eE (by kernel_rfl) (by kernel_rfl)) ⟨axb n,trivial⟩) fun args H k r H' h=>?_
  unfold wR at h
  obtain ⟨a0,l0,e0,h0⟩:=c8 h
  subst e0
  obtain ⟨e9,h9⟩:=dc h0
  subst e9
  exact (ayN n (EP n) a0 H k).trans h9
theorem awx (n:Nat):Sound tb Lf (Ev (Eg n)):=by
  refine Sound.of (dx tb_ok.mono (ps:=abB) (rs:=y9) (l:=[(zb,wR (i9 n))]) (ty:=ql) (n:=n) (c:=abX) (eE (by kernel_rfl) (by kernel_rfl)) ⟨ath n,trivial⟩) fun args H k r H' h=>?_
  unfold Ev at h
  obtain ⟨a0,l0,e0,h0⟩:=c8 h
  subst e0
  obtain ⟨a1,l1,e1,h1⟩:=dv h0
  subst e1
  obtain ⟨e9,h9⟩:=dc h1
  subst e9
  exact (aw3 n (i9 n) a0 a1 H k).trans h9
theorem ank (n:Nat):Sound tb sK (qe (qi n)):=by
  refine Sound.of (dx tb_ok.mono (ps:=acC) (rs:=Ew) (l:=[(Lf,Ev (Eg n)),(sx,qr (qx n))]) (ty:=wc) (n:=n) (c:=abR) (eE (by kernel_rfl) (by kernel_rfl)) ⟨awx n,anv n,trivial⟩) fun args H k r H' h=>?_
  unfold qe at h
  obtain ⟨a0,l0,e0,h0⟩:=c8 h
  subst e0
  obtain ⟨a1,l1,e1,h1⟩:=dv h0
  subst e1
  obtain ⟨e9,h9⟩:=dc h1
  subst e9
  exact (avY n (Eg n) (qx n) a0 a1 H k).trans h9
theorem Wh (n:Nat):Sound tb mb (jM (jL n)):=by
  refine Sound.of (dx tb_ok.mono (ps:=vh) (rs:=jR) (l:=[]) (ty:=iA) (n:=n) (c:=vH) (eE (by kernel_rfl) (by kernel_rfl)) trivial) fun args H k r H' h=>?_
  unfold jM at h
  obtain ⟨a0,l0,e0,h0⟩:=c8 h
  subst e0
  obtain ⟨e9,h9⟩:=dc h0
  subst e9
  exact (VS n a0 H k).trans h9
theorem AG (n:Nat):Sound tb eK (eC (ft n)):=by
  refine Sound.of (dx tb_ok.mono (ps:=RN) (rs:=Ae) (l:=[]) (ty:=vQ) (n:=n) (c:=QE) (eE (by kernel_rfl) (by kernel_rfl)) trivial) fun args H k r H' h=>?_
  unfold eC at h
  obtain ⟨a0,l0,e0,h0⟩:=dv h
  subst e0
  obtain ⟨a1,l1,e1,h1⟩:=dv h0
  subst e1
  obtain ⟨a2,l2,e2,h2⟩:=dv h1
  subst e2
  obtain ⟨e9,h9⟩:=dc h2
  subst e9
  exact (aqM n a0 a1 a2 H k).trans h9
theorem TJ (n:Nat):Sound tb iP (ie (kh n)):=by
  refine Sound.of (dx tb_ok.mono (ps:=acv) (rs:=Jp) (l:=[(eK,eC (ft n))]) (ty:=JY) (n:=n) (c:=abt) (eE (by kernel_rfl) (by kernel_rfl)) ⟨AG n,trivial⟩) fun args H k r H' h=>?_
  unfold ie at h
  obtain ⟨a0,l0,e0,h0⟩:=dv h
  subst e0
  obtain ⟨e9,h9⟩:=dc h0
  subst e9
  exact (awu n (ft n) a0 H k).trans h9
theorem asV (n:Nat):Sound tb DN (yP (ue n)):=by
  refine Sound.of (dx tb_ok.mono (ps:=UT) (rs:=yz) (l:=[(eK,eC (ft n)),(iP,ie (kh n))]) (ty:=qH) (n:=n) (c:=T9) (eE (by kernel_rfl) (by kernel_rfl)) ⟨AG n,TJ n,trivial⟩) fun args H k r H' h=>?_
  unfold yP at h
  obtain ⟨a0,l0,e0,h0⟩:=dv h
  subst e0
  obtain ⟨a1,l1,e1,h1⟩:=dv h0
  subst e1
  obtain ⟨a2,l2,e2,h2⟩:=dv h1
  subst e2
  obtain ⟨e9,h9⟩:=dc h2
  subst e9
  exact (ar7 n (ft n) (kh n) a0 a1 a2 H k).trans h9
theorem axR (n:Nat):Sound tb Pf (I8 (DC n)):=by
  refine Sound.of (dx tb_ok.mono (ps:=aig) (rs:=Iy) (l:=[]) (ty:=mq) (n:=n) (c:=afO) (eE (by kernel_rfl) (by kernel_rfl)) trivial) fun args H k r H' h=>?_
  unfold I8 at h
  obtain ⟨a0,l0,e0,h0⟩:=dv h
  subst e0
  obtain ⟨e9,h9⟩:=dc h0
  subst e9
  exact (ayG n a0 H k).trans h9
theorem ayQ (n:Nat):Sound tb UC (N2 (la n)):=by
  refine Sound.of (dx tb_ok.mono (ps:=alw) (rs:=De) (l:=[(sK,qe (qi n)),(mb,jM (jL n)),(DN,yP (ue n)),(Pf,I8 (DC n))]) (ty:=iB) (n:=n) (c:=ak3) (eE (by kernel_rfl) (by kernel_rfl)) ⟨ank n,Wh n,asV n,axR n,trivial⟩) fun args H k r H' h=>?_
  unfold N2 at h
  obtain ⟨a0,l0,e0,h0⟩:=c8 h
  subst e0
  obtain ⟨a1,l1,e1,h1⟩:=dv h0
  subst e1
  obtain ⟨e9,h9⟩:=dc h1
  subst e9
  exact (azm n (qi n) (jL n) (ue n) (DC n) a0 a1 H k).trans h9
theorem nq (n:Nat):Sound tb cY (cU (dn n)):=by
  refine Sound.of (dx tb_ok.mono (ps:=HJ) (rs:=uh) (l:=[]) (ty:=pZ) (n:=n) (c:=HP) (eE (by kernel_rfl) (by kernel_rfl)) trivial) fun args H k r H' h=>?_
  unfold cU at h
  obtain ⟨a0,l0,e0,h0⟩:=c8 h
  subst e0
  obtain ⟨e9,h9⟩:=dc h0
  subst e9
  exact (alo n a0 H k).trans h9
theorem Fr (n:Nat):Sound tb fD (eY (fF n)):=by
  refine Sound.of (dx tb_ok.mono (ps:=Fx) (rs:=sg) (l:=[]) (ty:=oR) (n:=n) (c:=FN) (eE (by kernel_rfl) (by kernel_rfl)) trivial) fun args H k r H' h=>?_
  unfold eY at h
  obtain ⟨a0,l0,e0,h0⟩:=c8 h
  subst e0
  obtain ⟨e9,h9⟩:=dc h0
  subst e9
  exact (ai3 n a0 H k).trans h9
theorem DB (n:Nat):Sound tb fA (eT (eo n)):=by
  refine Sound.of (dx tb_ok.mono (ps:=tU) (rs:=jj) (l:=[]) (ty:=eJ) (n:=n) (c:=ui) (eE (by kernel_rfl) (by kernel_rfl)) trivial) fun args H k r H' h=>?_
  unfold eT at h
  obtain ⟨a0,l0,e0,h0⟩:=c8 h
  subst e0
  obtain ⟨a1,l1,e1,h1⟩:=dv h0
  subst e1
  obtain ⟨a2,l2,e2,h2⟩:=dv h1
  subst e2
  obtain ⟨e9,h9⟩:=dc h2
  subst e9
  exact (Ua n a0 a1 a2 H k).trans h9
theorem an1 (n:Nat):Sound tb xR (tu (xA n)):=by
  refine Sound.of (dx tb_ok.mono (ps:=NZ) (rs:=xU) (l:=[]) (ty:=yo) (n:=n) (c:=Ow) (eE (by kernel_rfl) (by kernel_rfl)) trivial) fun args H k r H' h=>?_
  unfold tu at h
  obtain ⟨a0,l0,e0,h0⟩:=dv h
  subst e0
  obtain ⟨e9,h9⟩:=dc h0
  subst e9
  exact (ao3 n a0 H k).trans h9
theorem aq8 (n:Nat):Sound tb Af (vO (rY n)):=by
  refine Sound.of (dx tb_ok.mono (ps:=Rq) (rs:=Am) (l:=[(xR,tu (xA n))]) (ty:=ru) (n:=n) (c:=QR) (eE (by kernel_rfl) (by kernel_rfl)) ⟨an1 n,trivial⟩) fun args H k r H' h=>?_
  unfold vO at h
  obtain ⟨a0,l0,e0,h0⟩:=dv h
  subst e0
  obtain ⟨a1,l1,e1,h1⟩:=dv h0
  subst e1
  obtain ⟨e9,h9⟩:=dc h1
  subst e9
  exact (aq1 n (xA n) a0 a1 H k).trans h9
theorem aiY (n:Nat):Sound tb rZ (oY (mn n)):=by
  refine Sound.of (dx tb_ok.mono (ps:=F0) (rs:=sh) (l:=[]) (ty:=sd) (n:=n) (c:=FJ) (eE (by kernel_rfl) (by kernel_rfl)) trivial) fun args H k r H' h=>?_
  unfold oY at h
  obtain ⟨a0,l0,e0,h0⟩:=dv h
  subst e0
  obtain ⟨e9,h9⟩:=dc h0
  subst e9
  exact (ai8 n a0 H k).trans h9
theorem wu (n:Nat):Sound tb eB (dP (dQ n)):=by
  refine Sound.of (dx tb_ok.mono (ps:=ou) (rs:=iO) (l:=[(Af,vO (rY n)),(rZ,oY (mn n))]) (ty:=di) (n:=n) (c:=oI) (eE (by kernel_rfl) (by kernel_rfl)) ⟨aq8 n,aiY n,trivial⟩) fun args H k r H' h=>?_
  unfold dP at h
  obtain ⟨a0,l0,e0,h0⟩:=c8 h
  subst e0
  obtain ⟨a1,l1,e1,h1⟩:=dv h0
  subst e1
  obtain ⟨e9,h9⟩:=dc h1
  subst e9
  exact (Kr n (rY n) (mn n) a0 a1 H k).trans h9
theorem VI (n:Nat):Sound tb jV (ja (fY n)):=by
  refine Sound.of (dx tb_ok.mono (ps:=H7) (rs:=ub) (l:=[(eB,dP (dQ n)),(lO,GF oA)]) (ty:=uk) (n:=n) (c:=HX) (eE (by kernel_rfl) (by kernel_rfl)) ⟨wu n,TW,trivial⟩) fun args H k r H' h=>?_
  unfold ja at h
  obtain ⟨a0,l0,e0,h0⟩:=c8 h
  subst e0
  obtain ⟨a1,l1,e1,h1⟩:=dv h0
  subst e1
  obtain ⟨a2,l2,e2,h2⟩:=dv h1
  subst e2
  obtain ⟨e9,h9⟩:=dc h2
  subst e9
  exact (alC n (dQ n) (GF oA) a0 a1 a2 H k).trans h9
theorem ajD (n:Nat):Sound tb si (oV (me n)):=by
  refine Sound.of (dx tb_ok.mono (ps:=FK) (rs:=kX) (l:=[(fD,eY (fF n)),(fA,eT (eo n)),(jV,ja (fY n))]) (ty:=du) (n:=n) (c:=FQ) (eE (by kernel_rfl) (by kernel_rfl)) ⟨Fr n,DB n,VI n,trivial⟩) fun args H k r H' h=>?_
  unfold oV at h
  obtain ⟨a0,l0,e0,h0⟩:=c8 h
  subst e0
  obtain ⟨a1,l1,e1,h1⟩:=dv h0
  subst e1
  obtain ⟨e9,h9⟩:=dc h1
  subst e9
  exact (ajw n (fF n) (eo n) (fY n) a0 a1 H k).trans h9
theorem atu (n:Nat):Sound tb Dc (yg (uD n)):=by
  refine Sound.of (dx tb_ok.mono (ps:=Ug) (rs:=xV) (l:=[(eK,eC (ft n)),(iP,ie (kh n))]) (ty:=qI) (n:=n) (c:=UD) (eE (by kernel_rfl) (by kernel_rfl)) ⟨AG n,TJ n,trivial⟩) fun args H k r H' h=>?_
  unfold yg at h
  obtain ⟨a0,l0,e0,h0⟩:=dv h
  subst e0
  obtain ⟨a1,l1,e1,h1⟩:=dv h0
  subst e1
  obtain ⟨a2,l2,e2,h2⟩:=dv h1
  subst e2
  obtain ⟨e9,h9⟩:=dc h2
  subst e9
  exact (ata n (ft n) (kh n) a0 a1 a2 H k).trans h9
theorem VA (n:Nat):Sound tb jS (i8 (kj n)):=by
  refine Sound.of (dx tb_ok.mono (ps:=HW) (rs:=nl) (l:=[(si,oV (me n)),(Dc,yg (uD n))]) (ty:=d9) (n:=n) (c:=HQ) (eE (by kernel_rfl) (by kernel_rfl)) ⟨ajD n,atu n,trivial⟩) fun args H k r H' h=>?_
  unfold i8 at h
  obtain ⟨a0,l0,e0,h0⟩:=c8 h
  subst e0
  obtain ⟨a1,l1,e1,h1⟩:=dv h0
  subst e1
  obtain ⟨a2,l2,e2,h2⟩:=dv h1
  subst e2
  obtain ⟨a3,l3,e3,h3⟩:=dv h2
  subst e3
  obtain ⟨e9,h9⟩:=dc h3
  subst e9
  exact (alf n (me n) (uD n) a0 a1 a2 a3 H k).trans h9
theorem alI (n:Nat):Sound tb tZ (pX (ec n)):=by
  refine Sound.of (dx tb_ok.mono (ps:=HZ) (rs:=nd) (l:=[(cY,cU (dn n)),(jS,i8 (kj n))]) (ty:=jW) (n:=n) (c:=H3) (eE (by kernel_rfl) (by kernel_rfl)) ⟨nq n,VA n,trivial⟩) fun args H k r H' h=>?_
  unfold pX at h
  obtain ⟨a0,l0,e0,h0⟩:=c8 h
  subst e0
  obtain ⟨e9,h9⟩:=dc h0
  subst e9
  exact (ak5 n (dn n) (kj n) a0 H k).trans h9
theorem ab8 (n:Nat):Sound tb oF (lZ (iL n)):=by
  refine Sound.of (dx tb_ok.mono (ps:=zk) (rs:=oH) (l:=[]) (ty:=oo) (n:=n) (c:=y5) (eE (by kernel_rfl) (by kernel_rfl)) trivial) fun args H k r H' h=>?_
  unfold lZ at h
  obtain ⟨a0,l0,e0,h0⟩:=c8 h
  subst e0
  obtain ⟨a1,l1,e1,h1⟩:=dv h0
  subst e1
  obtain ⟨e9,h9⟩:=dc h1
  subst e9
  exact (acl n a0 a1 H k).trans h9
theorem SL (n:Nat):Sound tb jf (iv (gc n)):=by
  refine Sound.of (dx tb_ok.mono (ps:=FZ) (rs:=oX) (l:=[(fD,eY (fF n))]) (ty:=fG) (n:=n) (c:=Fs) (eE (by kernel_rfl) (by kernel_rfl)) ⟨Fr n,trivial⟩) fun args H k r H' h=>?_
  unfold iv at h
  obtain ⟨a0,l0,e0,h0⟩:=c8 h
  subst e0
  obtain ⟨e9,h9⟩:=dc h0
  subst e9
  exact (ai2 n (fF n) a0 H k).trans h9
theorem amL (n:Nat):Sound tb ws (qU (eN n)):=by
  refine Sound.of (dx tb_ok.mono (ps:=Jt) (rs:=lr) (l:=[(cY,cU (dn n)),(jS,i8 (kj n)),(jf,iv (gc n))]) (ty:=dG) (n:=n) (c:=KP) (eE (by kernel_rfl) (by kernel_rfl)) ⟨nq n,VA n,SL n,trivial⟩) fun args H k r H' h=>?_
  unfold qU at h
  obtain ⟨a0,l0,e0,h0⟩:=c8 h
  subst e0
  obtain ⟨a1,l1,e1,h1⟩:=dv h0
  subst e1
  obtain ⟨e9,h9⟩:=dc h1
  subst e9
  exact (anw n (dn n) (kj n) (gc n) a0 a1 H k).trans h9
theorem Xe (n:Nat):Sound tb li (jv (dB n)):=by
  refine Sound.of (dx tb_ok.mono (ps:=Ju) (rs:=qX) (l:=[(cY,cU (dn n)),(jf,iv (gc n))]) (ty:=gz) (n:=n) (c:=JG) (eE (by kernel_rfl) (by kernel_rfl)) ⟨nq n,SL n,trivial⟩) fun args H k r H' h=>?_
  unfold jv at h
  obtain ⟨a0,l0,e0,h0⟩:=c8 h
  subst e0
  obtain ⟨e9,h9⟩:=dc h0
  subst e9
  exact (amm n (dn n) (gc n) a0 H k).trans h9
theorem ajr (n:Nat):Sound tb se (pd (mi n)):=by
  refine Sound.of (dx tb_ok.mono (ps:=FX) (rs:=pe) (l:=[(cY,cU (dn n))]) (ty:=jg) (n:=n) (c:=FY) (eE (by kernel_rfl) (by kernel_rfl)) ⟨nq n,trivial⟩) fun args H k r H' h=>?_
  unfold pd at h
  obtain ⟨a0,l0,e0,h0⟩:=c8 h
  subst e0
  obtain ⟨e9,h9⟩:=dc h0
  subst e9
  exact (aiV n (dn n) a0 H k).trans h9
theorem FT (n:Nat):Sound tb gK (fC (gG n)):=by
  refine Sound.of (dx tb_ok.mono (ps:=mm) (rs:=gH) (l:=[]) (ty:=gJ) (n:=n) (c:=ml) (eE (by kernel_rfl) (by kernel_rfl)) trivial) fun args H k r H' h=>?_
  unfold fC at h
  obtain ⟨a0,l0,e0,h0⟩:=c8 h
  subst e0
  obtain ⟨e9,h9⟩:=dc h0
  subst e9
  exact (Fo n a0 H k).trans h9
theorem als (n:Nat):Sound tb uc (pV (jT n)):=by
  refine Sound.of (dx tb_ok.mono (ps:=HG) (rs:=pY) (l:=[(cY,cU (dn n)),(qO,GF lM),(gK,fC (gG n))]) (ty:=f0) (n:=n) (c:=HY) (eE (by kernel_rfl) (by kernel_rfl)) ⟨nq n,ae7,FT n,trivial⟩) fun args H k r H' h=>?_
  unfold pV at h
  obtain ⟨a0,l0,e0,h0⟩:=c8 h
  subst e0
  obtain ⟨e9,h9⟩:=dc h0
  subst e9
  exact (ak7 n (dn n) (GF lM) (gG n) a0 H k).trans h9
theorem ahP (n:Nat):Sound tb qF (nG (dk n)):=by
  refine Sound.of (dx tb_ok.mono (ps:=DR) (rs:=nE) (l:=[]) (ty:=gR) (n:=n) (c:=DF) (eE (by kernel_rfl) (by kernel_rfl)) trivial) fun args H k r H' h=>?_
  unfold nG at h
  obtain ⟨a0,l0,e0,h0⟩:=c8 h
  subst e0
  obtain ⟨a1,l1,e1,h1⟩:=dv h0
  subst e1
  obtain ⟨e9,h9⟩:=dc h1
  subst e9
  exact (agw n a0 a1 H k).trans h9
theorem aeN (n:Nat):Sound tb pC (my (dA n)):=by
  refine Sound.of (dx tb_ok.mono (ps:=B0) (rs:=kY) (l:=[(oF,lZ (iL n)),(li,jv (dB n)),(sK,qe (qi n)),(se,pd (mi n)),(uc,pV (jT n)),(qF,nG (dk n))]) (ty:=ct) (n:=n) (c:=BS) (eE (by kernel_rfl) (by kernel_rfl)) ⟨ab8 n,Xe n,ank n,ajr n,als n,ahP n,trivial⟩) fun args H k r H' h=>?_
  unfold my at h
  obtain ⟨a0,l0,e0,h0⟩:=c8 h
  subst e0
  obtain ⟨a1,l1,e1,h1⟩:=dv h0
  subst e1
  obtain ⟨a2,l2,e2,h2⟩:=c8 h1
  subst e2
  obtain ⟨e9,h9⟩:=dc h2
  subst e9
  exact (aeX n (iL n) (dB n) (qi n) (mi n) (jT n) (dk n) a0 a1 a2 H k).trans h9
theorem Zj (n:Nat):Sound tb ny (lF (dp n)):=by
  refine Sound.of (dx tb_ok.mono (ps:=xW) (rs:=nu) (l:=[]) (ty:=ij) (n:=n) (c:=xy) (eE (by kernel_rfl) (by kernel_rfl)) trivial) fun args H k r H' h=>?_
  unfold lF at h
  obtain ⟨a0,l0,e0,h0⟩:=dv h
  subst e0
  obtain ⟨a1,l1,e1,h1⟩:=dv h0
  subst e1
  obtain ⟨e9,h9⟩:=dc h1
  subst e9
  exact (YH n a0 a1 H k).trans h9
theorem ax7 (n:Nat):Sound tb PA (IW (Jd n)):=by
  refine Sound.of (dx tb_ok.mono (ps:=aht) (rs:=Jh) (l:=[(eK,eC (ft n)),(iP,ie (kh n))]) (ty:=DE) (n:=n) (c:=ag0) (eE (by kernel_rfl) (by kernel_rfl)) ⟨AG n,TJ n,trivial⟩) fun args H k r H' h=>?_
  unfold IW at h
  obtain ⟨a0,l0,e0,h0⟩:=dv h
  subst e0
  obtain ⟨a1,l1,e1,h1⟩:=dv h0
  subst e1
  obtain ⟨e9,h9⟩:=dc h1
  subst e9
  exact (axI n (ft n) (kh n) a0 a1 H k).trans h9
theorem atY (n:Nat):Sound tb DD (xH (yv n)):=by
  refine Sound.of (dx tb_ok.mono (ps:=Vm) (rs:=yx) (l:=[(eK,eC (ft n)),(iP,ie (kh n))]) (ty:=ur) (n:=n) (c:=UX) (eE (by kernel_rfl) (by kernel_rfl)) ⟨AG n,TJ n,trivial⟩) fun args H k r H' h=>?_
  unfold xH at h
  obtain ⟨a0,l0,e0,h0⟩:=dv h
  subst e0
  obtain ⟨a1,l1,e1,h1⟩:=dv h0
  subst e1
  obtain ⟨e9,h9⟩:=dc h1
  subst e9
  exact (asj n (ft n) (kh n) a0 a1 H k).trans h9
theorem ai4 (n:Nat):Sound tb sc (oU (ph n)):=by
  refine Sound.of (dx tb_ok.mono (ps:=Fq) (rs:=kW) (l:=[(fD,eY (fF n)),(eB,dP (dQ n)),(fA,eT (eo n)),(jV,ja (fY n))]) (ty:=dm) (n:=n) (c:=FR) (eE (by kernel_rfl) (by kernel_rfl)) ⟨Fr n,wu n,DB n,VI n,trivial⟩) fun args H k r H' h=>?_
  unfold oU at h
  obtain ⟨a0,l0,e0,h0⟩:=c8 h
  subst e0
  obtain ⟨a1,l1,e1,h1⟩:=dv h0
  subst e1
  obtain ⟨a2,l2,e2,h2⟩:=dv h1
  subst e2
  obtain ⟨e9,h9⟩:=dc h2
  subst e9
  exact (ajl n (fF n) (dQ n) (eo n) (fY n) a0 a1 a2 H k).trans h9
theorem al3 (n:Nat):Sound tb wd (ra (dN n)):=by
  refine Sound.of (dx tb_ok.mono (ps:=La) (rs:=jD) (l:=[(cY,cU (dn n)),(PA,IW (Jd n)),(DD,xH (yv n)),(fQ,fd (fP n)),(sc,oU (ph n))]) (ty:=dM) (n:=n) (c:=Lh) (eE (by kernel_rfl) (by kernel_rfl)) ⟨nq n,ax7 n,atY n,Fj n,ai4 n,trivial⟩) fun args H k r H' h=>?_
  unfold ra at h
  obtain ⟨a0,l0,e0,h0⟩:=c8 h
  subst e0
  obtain ⟨a1,l1,e1,h1⟩:=dv h0
  subst e1
  obtain ⟨e9,h9⟩:=dc h1
  subst e9
  exact (aml n (dn n) (Jd n) (yv n) (fP n) (ph n) a0 a1 H k).trans h9
theorem aaS (n:Nat):Sound tb nC (lE (dq n)):=by
  refine Sound.of (dx tb_ok.mono (ps:=xw) (rs:=jo) (l:=[]) (ty:=eR) (n:=n) (c:=yD) (eE (by kernel_rfl) (by kernel_rfl)) trivial) fun args H k r H' h=>?_
  unfold lE at h
  obtain ⟨a0,l0,e0,h0⟩:=c8 h
  subst e0
  obtain ⟨a1,l1,e1,h1⟩:=c8 h0
  subst e1
  obtain ⟨e9,h9⟩:=dc h1
  subst e9
  exact (aaG n a0 a1 H k).trans h9
theorem Wf (n:Nat):Sound tb md (jN (de n)):=by
  refine Sound.of (dx tb_ok.mono (ps:=vk) (rs:=mc) (l:=[]) (ty:=jP) (n:=n) (c:=vG) (eE (by kernel_rfl) (by kernel_rfl)) trivial) fun args H k r H' h=>?_
  unfold jN at h
  obtain ⟨a0,l0,e0,h0⟩:=c8 h
  subst e0
  obtain ⟨e9,h9⟩:=dc h0
  subst e9
  exact (Wj n a0 H k).trans h9
theorem alr (n:Nat):Sound tb ug (pO (ew n)):=by
  refine Sound.of (dx tb_ok.mono (ps:=H6) (rs:=tM) (l:=[(cY,cU (dn n))]) (ty:=pU) (n:=n) (c:=H9) (eE (by kernel_rfl) (by kernel_rfl)) ⟨nq n,trivial⟩) fun args H k r H' h=>?_
  unfold pO at h
  obtain ⟨a0,l0,e0,h0⟩:=c8 h
  subst e0
  obtain ⟨e9,h9⟩:=dc h0
  subst e9
  exact (ali n (dn n) a0 H k).trans h9
theorem Wi (n:Nat):Sound tb V5 (Fc (vD n)):=by
  refine Sound.of (dx tb_ok.mono (ps:=vw) (rs:=dF) (l:=[(oj,GF oh),(UC,N2 (la n)),(tZ,pX (ec n)),(ws,qU (eN n)),(pC,my (dA n)),(ny,lF (dp n)),(wd,ra (dN n)),(nC,lE (dq n)),(zb,wR (i9 n)),(li,jv (dB n)),(md,jN (de n)),(ug,pO (ew n))]) (ty:=bj) (n:=n) (c:=vq) (eE (by kernel_rfl) (by kernel_rfl)) ⟨ZR,ayQ n,alI n,amL n,aeN n,Zj n,al3 n,aaS n,ath n,Xe n,Wf n,alr n,trivial⟩) fun args H k r H' h=>?_
  unfold Fc at h
  obtain ⟨a0,l0,e0,h0⟩:=c8 h
  subst e0
  obtain ⟨a1,l1,e1,h1⟩:=dv h0
  subst e1
  obtain ⟨a2,l2,e2,h2⟩:=c8 h1
  subst e2
  obtain ⟨e9,h9⟩:=dc h2
  subst e9
  exact (VX n (GF oh) (la n) (ec n) (eN n) (dA n) (dp n) (dN n) (dq n) (i9 n) (dB n) (de n) (ew n) a0 a1 a2 H k).trans h9
end
end Go.Proofs.YtnlbfbiogfilfaaGreat.Sh
