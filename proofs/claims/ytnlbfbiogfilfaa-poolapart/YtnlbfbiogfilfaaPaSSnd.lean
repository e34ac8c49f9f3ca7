/- The printed functions at the program's table: each is sound. -/
import Derived.Test.YtnlbfbiogfilfaaPaSText
import Derived.Test.YtnlbfbiogfilfaaAiMirrorPaSTb
set_option linter.all false
namespace Go.Proofs.Ytnlbfbiogfilfaa.Sh
open Go.Ai Go.Proofs
set_option maxRecDepth 100000
theorem acw : tb.get (key kd) = some PM := fL (by kernel_rfl) (by kernel_rfl)
theorem acd (n : Nat) : Sound tb kd (nF (jW n)) := ac8 tb_ok.mono acw n
theorem agP : tb.get (key dg) = some VQ := fL (by kernel_rfl) (by kernel_rfl)
theorem yQ (n : Nat) : Sound tb dg (dw (dI n)) := agS tb_ok.mono agP n
theorem ai7 : tb.get (key pV) = some XL := fL (by kernel_rfl) (by kernel_rfl)
theorem aiu (n : Nat) : Sound tb pV (rU (rK n)) := ajr tb_ok.mono ai7 n (yQ n)
theorem aed : tb.get (key fb) = some TO := fL (by kernel_rfl) (by kernel_rfl)
theorem Ji (n : Nat) : Sound tb fb (ge (eo n)) := adU tb_ok.mono aed n (aiu n) (yQ n)
theorem aiC : tb.get (key eP) = some YB := fL (by kernel_rfl) (by kernel_rfl)
theorem HM (n : Nat) : Sound tb eP (fe (ez n)) := aji tb_ok.mono aiC n
theorem Kq : tb.get (key gd) = some yo := fL (by kernel_rfl) (by kernel_rfl)
theorem KC (n : Nat) : Sound tb gd (gT (gW n)) := Kw tb_ok.mono Kq n
theorem G1 : tb.get (key eu) = some uP := fL (by kernel_rfl) (by kernel_rfl)
theorem GM (n : Nat) : Sound tb eu (f0 (cz n)) := GJ tb_ok.mono G1 n (KC n)
theorem afc : tb.get (key mV) = some Sc := fL (by kernel_rfl) (by kernel_rfl)
theorem adB (n : Nat) : Sound tb mV (oL (ov n)) := ad7 tb_ok.mono afc n (GM n)
theorem akG : tb.get (key lD) = some abD := fL (by kernel_rfl) (by kernel_rfl)
theorem abG (n : Nat) : Sound tb lD (mt (mz n)) := ajP tb_ok.mono akG n
theorem aij : tb.get (key kL) = some YM := fL (by kernel_rfl) (by kernel_rfl)
theorem Ym (n : Nat) : Sound tb kL (ll (lm n)) := aiQ tb_ok.mono aij n (abG n)
theorem afX : tb.get (key oj) = some Vj := fL (by kernel_rfl) (by kernel_rfl)
theorem agw (n : Nat) : Sound tb oj (qe (qi n)) := agG tb_ok.mono afX n (Ym n) (Ji n) (abG n) (yQ n)
theorem aj1 : tb.get (key lE) = some abC := fL (by kernel_rfl) (by kernel_rfl)
theorem abS (n : Nat) : Sound tb lE (mv (kC n)) := akr tb_ok.mono aj1 n (adB n) (agw n)
theorem agh : tb.get (key jE) = some Vk := fL (by kernel_rfl) (by kernel_rfl)
theorem Vq (n : Nat) : Sound tb jE (km (jF n)) := agC tb_ok.mono agh n
theorem agq : tb.get (key oq) = some VT := fL (by kernel_rfl) (by kernel_rfl)
theorem afE (n : Nat) : Sound tb oq (ql (mM n)) := afP tb_ok.mono agq n (HM n) (Vq n)
theorem aim : tb.get (key pX) = some Xp := fL (by kernel_rfl) (by kernel_rfl)
theorem aiO (n : Nat) : Sound tb pX (rO (oe n)) := ajn tb_ok.mono aim n (HM n) (Vq n)
theorem afU : tb.get (key oo) = some Vn := fL (by kernel_rfl) (by kernel_rfl)
theorem agl (n : Nat) : Sound tb oo (qg (mL n)) := agL tb_ok.mono afU n
theorem Z6 : tb.get (key dR) = some MM := fL (by kernel_rfl) (by kernel_rfl)
theorem OG (n : Nat) : Sound tb dR (ij (eL n)) := aaR tb_ok.mono Z6 n
theorem ZN : tb.get (key dS) = some Nf := fL (by kernel_rfl) (by kernel_rfl)
theorem NF (n : Nat) : Sound tb dS (ir (eK n)) := aaB tb_ok.mono ZN n
theorem ZI : tb.get (key fC) = some Nc := fL (by kernel_rfl) (by kernel_rfl)
theorem NX (n : Nat) : Sound tb fC (ik (gO n)) := Z2 tb_ok.mono ZI n
theorem Z1 : tb.get (key gn) = some ME := fL (by kernel_rfl) (by kernel_rfl)
theorem NO (n : Nat) : Sound tb gn (ii (fD n)) := aaF tb_ok.mono Z1 n
theorem Ze : tb.get (key gt) = some N6 := fL (by kernel_rfl) (by kernel_rfl)
theorem NE (n : Nat) : Sound tb gt (iq (fA n)) := aaA tb_ok.mono Ze n
theorem aaJ : tb.get (key gp) = some MP := fL (by kernel_rfl) (by kernel_rfl)
theorem N1 (n : Nat) : Sound tb gp (ip (fB n)) := aaY tb_ok.mono aaJ n
theorem ZK : tb.get (key gr) = some MQ := fL (by kernel_rfl) (by kernel_rfl)
theorem Ot (n : Nat) : Sound tb gr (il (fx n)) := ZW tb_ok.mono ZK n
theorem aa9 : tb.get (key gi) = some NV := fL (by kernel_rfl) (by kernel_rfl)
theorem MN (n : Nat) : Sound tb gi (im (ft n)) := aax tb_ok.mono aa9 n
theorem Xu : tb.get (key eW) = some Ll := fL (by kernel_rfl) (by kernel_rfl)
theorem KH (n : Nat) : Sound tb eW (gN (eD n)) := X4 tb_ok.mono Xu n
theorem aai : tb.get (key kl) = some MW := fL (by kernel_rfl) (by kernel_rfl)
theorem aay (n : Nat) : Sound tb kl (mo (kj n)) := aa5 tb_ok.mono aai n (OG n) (NF n) (NX n) (NO n) (NE n) (N1 n) (Ot n) (MN n) (KH n)
theorem akw : tb.get (key rX) = some abm := fL (by kernel_rfl) (by kernel_rfl)
theorem ajy (n : Nat) : Sound tb rX (tE (qd n)) := ak0 tb_ok.mono akw n (aiO n) (agl n) (OG n) (NF n) (NX n) (NO n) (NE n) (N1 n) (Ot n) (aay n) (MN n) (KH n)
theorem ahR : tb.get (key pP) = some Y6 := fL (by kernel_rfl) (by kernel_rfl)
theorem aiy (n : Nat) : Sound tb pP (rQ (ol n)) := ah4 tb_ok.mono ahR n
theorem afV : tb.get (key oi) = some Vb := fL (by kernel_rfl) (by kernel_rfl)
theorem agv (n : Nat) : Sound tb oi (qf (mH n)) := agi tb_ok.mono afV n (Ji n) (HM n) (abS n) (afE n) (ajy n) (aiy n)
theorem Zh : tb.get (key jx) = some NZ := fL (by kernel_rfl) (by kernel_rfl)
theorem ZX (n : Nat) : Sound tb jx (mq (js n)) := abf tb_ok.mono Zh n (yQ n)
theorem E1 : tb.get (key ec) = some tH := fL (by kernel_rfl) (by kernel_rfl)
theorem E8 (n : Nat) : Sound tb ec (eU (gH n)) := EL tb_ok.mono E1 n (ZX n)
theorem BC : tb.get (key dF) = some r9 := fL (by kernel_rfl) (by kernel_rfl)
theorem Bv (n : Nat) : Sound tb dF (en (fj n)) := A4 tb_ok.mono BC n (E8 n)
theorem af1 : tb.get (key oh) = some Vl := fL (by kernel_rfl) (by kernel_rfl)
theorem afG (n : Nat) : Sound tb oh (qj (mN n)) := af6 tb_ok.mono af1 n (yQ n) (Bv n)
theorem ahH : tb.get (key qb) = some YK := fL (by kernel_rfl) (by kernel_rfl)
theorem aiM (n : Nat) : Sound tb qb (rJ (sc n)) := aiZ tb_ok.mono ahH n (acd n) (Ji n) (HM n) (agv n) (afG n) (abS n)
theorem alh : tb.get (key mS) = some ae0 := fL (by kernel_rfl) (by kernel_rfl)
theorem adC (n : Nat) : Sound tb mS (nX (k8 n)) := ak3 tb_ok.mono alh n (aiM n)
theorem aiU : tb.get (key pW) = some XW := fL (by kernel_rfl) (by kernel_rfl)
theorem ajq (n : Nat) : Sound tb pW (rM (r7 n)) := ai1 tb_ok.mono aiU n (adC n)
theorem ajh : tb.get (key pO) = some XQ := fL (by kernel_rfl) (by kernel_rfl)
theorem ai0 (n : Nat) : Sound tb pO (sg (rV n)) := aig tb_ok.mono ajh n (ajq n) (Ym n)
theorem Ky : tb.get (key gc) = some yn := fL (by kernel_rfl) (by kernel_rfl)
theorem Ku (n : Nat) : Sound tb gc (gV (gU n)) := Kt tb_ok.mono Ky n
theorem acT : tb.get (key ew) = some QH := fL (by kernel_rfl) (by kernel_rfl)
theorem Gk (n : Nat) : Sound tb ew (eS (gA n)) := acg tb_ok.mono acT n
theorem ajj : tb.get (key kJ) = some X9 := fL (by kernel_rfl) (by kernel_rfl)
theorem YI (n : Nat) : Sound tb kJ (lj (lM n)) := aiE tb_ok.mono ajj n (Gk n)
theorem aen : tb.get (key nh) = some SR := fL (by kernel_rfl) (by kernel_rfl)
theorem adL (n : Nat) : Sound tb nh (oI (mW n)) := aeR tb_ok.mono aen n (Gk n) (YI n)
theorem akA : tb.get (key sa) = some aby := fL (by kernel_rfl) (by kernel_rfl)
theorem ajQ (n : Nat) : Sound tb sa (tG (rW n)) := akc tb_ok.mono akA n
theorem ak6 : tb.get (key ud) = some afk := fL (by kernel_rfl) (by kernel_rfl)
theorem alb (n : Nat) : Sound tb ud (wX (ob n)) := alH tb_ok.mono ak6 n (ai0 n) (Ku n) (adL n) (ajQ n)
theorem Xm : tb.get (key eX) = some Jt := fL (by kernel_rfl) (by kernel_rfl)
theorem JK (n : Nat) : Sound tb eX (gl (gQ n)) := WY tb_ok.mono Xm n
theorem U0 : tb.get (key eG) = some Hm := fL (by kernel_rfl) (by kernel_rfl)
theorem HE (n : Nat) : Sound tb eG (fy (gw n)) := UU tb_ok.mono U0 n
theorem JE : tb.get (key fk) = some wZ := fL (by kernel_rfl) (by kernel_rfl)
theorem JM (n : Nat) : Sound tb fk (gF (ep n)) := IM tb_ok.mono JE n
theorem aao : tb.get (key li) = some NN := fL (by kernel_rfl) (by kernel_rfl)
theorem Zy (n : Nat) : Sound tb li (mn (oa n)) := ZA tb_ok.mono aao n
theorem acA : tb.get (key lI) = some Px := fL (by kernel_rfl) (by kernel_rfl)
theorem acJ (n : Nat) : Sound tb lI (nA (lL n)) := acu tb_ok.mono acA n (Zy n)
theorem UY : tb.get (key jo) = some Hr := fL (by kernel_rfl) (by kernel_rfl)
theorem UF (n : Nat) : Sound tb jo (kz (jj n)) := UO tb_ok.mono UY n
theorem BS : tb.get (key dE) = some sj := fL (by kernel_rfl) (by kernel_rfl)
theorem A9 (n : Nat) : Sound tb dE (ea (ef n)) := BN tb_ok.mono BS n (acJ n) (UF n)
theorem W0 : tb.get (key jM) = some JQ := fL (by kernel_rfl) (by kernel_rfl)
theorem Ws (n : Nat) : Sound tb jM (k9 (je n)) := WJ tb_ok.mono W0 n (A9 n) HP
theorem Ut : tb.get (key ji) = some HK := fL (by kernel_rfl) (by kernel_rfl)
theorem UV (n : Nat) : Sound tb ji (kw (jk n)) := Uy tb_ok.mono Ut n (HE n) (JM n) (Ws n)
theorem ads : tb.get (key na) = some Te := fL (by kernel_rfl) (by kernel_rfl)
theorem adt (n : Nat) : Sound tb na (ou (mY n)) := adV tb_ok.mono ads n (Gk n) (YI n)
theorem W1 : tb.get (key fh) = some Je := fL (by kernel_rfl) (by kernel_rfl)
theorem I1 (n : Nat) : Sound tb fh (gj (gP n)) := WS tb_ok.mono W1 n (UV n) (adt n)
theorem WO : tb.get (key jU) = some JB := fL (by kernel_rfl) (by kernel_rfl)
theorem Xa (n : Nat) : Sound tb jU (kY (gk n)) := Wt tb_ok.mono WO n (JK n) (I1 n)
theorem UA : tb.get (key jm) = some Hv := fL (by kernel_rfl) (by kernel_rfl)
theorem UP (n : Nat) : Sound tb jm (kp (iD n)) := U6 tb_ok.mono UA n (HE n)
theorem YY : tb.get (key kI) = some KN := fL (by kernel_rfl) (by kernel_rfl)
theorem Yv (n : Nat) : Sound tb kI (lA (eE n)) := Yl tb_ok.mono YY n (JK n) (I1 n) (UP n)
theorem Kh : tb.get (key mO) = some wK := fL (by kernel_rfl) (by kernel_rfl)
theorem IG (n : Nat) : Sound tb mO (qO (mU n)) := I5 tb_ok.mono Kh n Mr (alb n) (adC n) (Xa n) (Yv n)
end Go.Proofs.Ytnlbfbiogfilfaa.Sh
