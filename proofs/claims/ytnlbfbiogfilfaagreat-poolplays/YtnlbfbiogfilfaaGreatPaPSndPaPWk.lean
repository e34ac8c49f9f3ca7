/- The printed functions at the program's table: each is sound. -/
import Derived.Test.YtnlbfbiogfilfaaGreatPaPText
import Derived.Test.YtnlbfbiogfilfaaGreatQKeysPaPTb
set_option linter.all false
namespace Go.Proofs.YtnlbfbiogfilfaaGreat.Sh
open Go.Ai Go.Proofs
set_option maxRecDepth 100000
section
variable {tb:Tr AFn} (T:TbS tb)
include T
theorem aw6 (n:Nat):bC tb Ut (anf (dX n)):=T.z (aw4 n) (by kernel_rfl) trivial
theorem TZ (n:Nat):bC tb N1 (N3 (cW n)):=T.z (aAl n) (by kernel_rfl) trivial
theorem aBD (n:Nat):bC tb atY (atl (fM n)):=T.z (aBT n (cW n)) (by kernel_rfl) ⟨TZ T n,trivial⟩
theorem agc (n:Nat):bC tb WK (Xu (cT n)):=T.z (ayT n (fM n) (cW n)) (by kernel_rfl) ⟨aBD T n,TZ T n,trivial⟩
theorem aeG (n:Nat):bC tb WV (X3 (da n)):=T.z (aBs n) (by kernel_rfl) trivial
theorem Sk (n:Nat):bC tb Gy (Gz (cL n)):=T.z (agO n) (by kernel_rfl) trivial
theorem acG (n:Nat):bC tb MK (M6 (bE n)):=T.z (acV n (cL n)) (by kernel_rfl) ⟨Sk T n,trivial⟩
theorem ayt (n:Nat):bC tb apB (aoS (ft n)):=T.z (ay0 n (bE n)) (by kernel_rfl) ⟨acG T n,trivial⟩
theorem awK (n:Nat):bC tb apA (apN (eZ n)):=T.z (aDH n) (by kernel_rfl) trivial
theorem at2 (n:Nat):bC tb alU (alN (eP n)):=T.z (aCs n (eZ n)) (by kernel_rfl) ⟨awK T n,trivial⟩
theorem aAh (n:Nat):bC tb arG (asm (fC n)):=T.z (az9 n (eP n) (cT n) (eZ n) (cW n)) (by kernel_rfl) ⟨at2 T n,agc T n,awK T n,TZ T n,trivial⟩
theorem awI (n:Nat):bC tb aoE (apu (ez n)):=T.z (aDK n (ft n) (fC n)) (by kernel_rfl) ⟨ayt T n,aAh T n,trivial⟩
theorem arE (n:Nat):bC tb aiD (ai2 (et n)):=T.z (az8 n) (by kernel_rfl) trivial
theorem aAq (n:Nat):bC tb ar2 (arS (eS n)):=T.z (az3 n (da n) (et n)) (by kernel_rfl) ⟨aeG T n,arE T n,trivial⟩
theorem aBL (n:Nat):bC tb aue (atB (fd n)):=T.z (aBG n (da n) (et n)) (by kernel_rfl) ⟨aeG T n,arE T n,trivial⟩
theorem aAm (n:Nat):bC tb ark (arj (eV n)):=T.z (azW n) (by kernel_rfl) trivial
theorem ajD (n:Nat):bC tb wm (Zy (cM n)):=T.z (au4 n) (by kernel_rfl) trivial
theorem aks (n:Nat):bC tb wE (aaa (cQ n)):=T.z (avr n) (by kernel_rfl) trivial
theorem akB (n:Nat):bC tb Ji (ZU (dv n)):=T.z (avF n) (by kernel_rfl) trivial
theorem ajR (n:Nat):bC tb Ri (ZA (db n)):=T.z (au3 n) (by kernel_rfl) trivial
theorem akf (n:Nat):bC tb Rb (aaC (dc n)):=T.z (av4 n) (by kernel_rfl) trivial
theorem aj5 (n:Nat):bC tb Rd (aas (dh n)):=T.z (avp n) (by kernel_rfl) trivial
theorem akV (n:Nat):bC tb Rf (aaD (di n)):=T.z (avK n) (by kernel_rfl) trivial
theorem akr (n:Nat):bC tb QZ (ZI (dg n)):=T.z (av2 n) (by kernel_rfl) trivial
theorem ahN (n:Nat):bC tb OC (Xs (cR n)):=T.z (atR n) (by kernel_rfl) trivial
theorem av7 (n:Nat):bC tb Z5 (akC (d6 n)):=T.z (avo n (cM n) (cQ n) (dv n) (db n) (dc n) (dh n) (di n) (dg n) (cR n)) (by kernel_rfl) ⟨ajD T n,aks T n,akB T n,ajR T n,akf T n,aj5 T n,akV T n,akr T n,ahN T n,trivial⟩
theorem aEa (n:Nat):bC tb awE (awi (fq n)):=T.z (aDA n (fd n) (eV n) (cM n) (cQ n) (dv n) (db n) (dc n) (dh n) (di n) (d6 n) (dg n) (cR n)) (by kernel_rfl) ⟨aBL T n,aAm T n,ajD T n,aks T n,akB T n,ajR T n,akf T n,aj5 T n,akV T n,av7 T n,akr T n,ahN T n,trivial⟩
theorem aCC (n:Nat):bC tb auE (atT (fb n)):=T.z (aCz n) (by kernel_rfl) trivial
theorem azX (n:Nat):bC tb arJ (arB (eQ n)):=T.z (aAg n (cT n) (da n) (ez n) (eS n) (fq n) (fb n)) (by kernel_rfl) ⟨agc T n,aeG T n,awI T n,aAq T n,aEa T n,aCC T n,trivial⟩
theorem avh (n:Nat):bC tb Q2 (ajq (dJ n)):=T.z (au6 n (cW n)) (by kernel_rfl) ⟨TZ T n,trivial⟩
theorem acw (n:Nat):bC tb KV (La (dB n)):=T.z (abU n (dJ n)) (by kernel_rfl) ⟨avh T n,trivial⟩
theorem X7 (n:Nat):bC tb G4 (GX (dq n)):=T.z (XA n (dB n)) (by kernel_rfl) ⟨acw T n,trivial⟩
theorem azS (n:Nat):bC tb ase (asb (eT n)):=T.z (aAf n (cW n) (dq n)) (by kernel_rfl) ⟨TZ T n,X7 T n,trivial⟩
theorem aCu (n:Nat):bC tb atH (auc (fQ n)):=T.z (aBr n (dX n) (cT n) (da n) (eQ n) (eT n) (ez n)) (by kernel_rfl) ⟨aw6 T n,agc T n,aeG T n,azX T n,azS T n,awI T n,trivial⟩
theorem aEV (n:Nat):bC tb ayW (ayn (gl n)):=T.z (aEg n (fQ n)) (by kernel_rfl) ⟨aCu T n,trivial⟩
theorem aCb (n:Nat):bC tb atM (aud (fR n)):=T.z (aB7 n (gl n)) (by kernel_rfl) ⟨aEV T n,trivial⟩
theorem aBx (n:Nat):bC tb auo (atD (fO n)):=T.z (aBM n (fR n) (eP n)) (by kernel_rfl) ⟨aCb T n,at2 T n,trivial⟩
theorem agU (n:Nat):bC tb Rz (Sc (dA n)):=T.z (agZ n) (by kernel_rfl) trivial
theorem M3 (n:Nat):bC tb GH (GD (cP n)):=T.z (awZ n) (by kernel_rfl) trivial
theorem ae5 (n:Nat):bC tb Xf (Wz (dT n)):=T.z (aBy n (cP n)) (by kernel_rfl) ⟨M3 T n,trivial⟩
theorem ayE (n:Nat):bC tb aoO (aqb (eW n)):=T.z (azd n (cP n) (dT n)) (by kernel_rfl) ⟨M3 T n,ae5 T n,trivial⟩
theorem aDY (n:Nat):bC tb awF (awS (fI n)):=T.z (aCD n) (by kernel_rfl) trivial
theorem ayz (n:Nat):bC tb asv (ast (cI n)):=T.z (aEG n (fO n) (dA n) (eW n) (fI n)) (by kernel_rfl) ⟨aBx T n,agU T n,ayE T n,aDY T n,trivial⟩
theorem yv (n:Nat):bC tb vY (wd (bM n)):=T.z (asY n) (by kernel_rfl) trivial
theorem SE (n:Nat):bC tb IZ (IJ (cH n)):=T.z (arg n) (by kernel_rfl) trivial
theorem O8 (n:Nat):bC tb Fm (Fl (b8 n)):=T.z (agy n) (by kernel_rfl) trivial
theorem avQ (n:Nat):bC tb akT (ajW (fy n)):=T.z (avy n) (by kernel_rfl) trivial
theorem axw (n:Nat):bC tb anb (amX (eO n)):=T.z (axs n (fy n)) (by kernel_rfl) ⟨avQ T n,trivial⟩
theorem arc (n:Nat):bC tb aed (adR (dV n)):=T.z (aqV n) (by kernel_rfl) trivial
theorem G2 (n:Nat):bC tb zJ (zY (b7 n)):=T.z (XO n (eO n) (dV n)) (by kernel_rfl) ⟨axw T n,arc T n,trivial⟩
theorem agk (n:Nat):bC tb UA (UD (cF n)):=T.z (asU n (b7 n) (Eb eI)) (by kernel_rfl) ⟨G2 T n,T.pG_slices_Insert___int_int_,trivial⟩
theorem aqR (n:Nat):bC tb adO (ad2 (dW n)):=T.z (ara n (cH n) (b8 n) (cF n)) (by kernel_rfl) ⟨SE T n,O8 T n,agk T n,trivial⟩
theorem ayw (n:Nat):bC tb apQ (aqf (eX n)):=T.z (ay5 n (cP n) (dT n)) (by kernel_rfl) ⟨M3 T n,ae5 T n,trivial⟩
theorem agb (n:Nat):bC tb UE (US (dG n)):=T.z (asq n (dW n) (eX n)) (by kernel_rfl) ⟨aqR T n,ayw T n,trivial⟩
theorem afs (n:Nat):bC tb UG (UC (ba n)):=T.z (ass n (bM n) (dG n)) (by kernel_rfl) ⟨yv T n,agb T n,trivial⟩
theorem ad7 (n:Nat):bC tb SG (SD (cG n)):=T.z (ard n (cH n)) (by kernel_rfl) ⟨SE T n,trivial⟩
theorem ahV (n:Nat):bC tb Wl (XR (bh n)):=T.z (at6 n (bM n) (dG n) (cG n)) (by kernel_rfl) ⟨yv T n,agb T n,ad7 T n,trivial⟩
theorem aDI (n:Nat):bC tb awm (awl (fW n)):=T.z (aDs n (cP n) (dT n)) (by kernel_rfl) ⟨M3 T n,ae5 T n,trivial⟩
theorem axQ (n:Nat):bC tb ao7 (aoy (fu n)):=T.z (ayj n (cP n) (dT n)) (by kernel_rfl) ⟨M3 T n,ae5 T n,trivial⟩
theorem aqT (n:Nat):bC tb aee (aeh (eB n)):=T.z (aq8 n (cH n) (b7 n) (b8 n) (cF n)) (by kernel_rfl) ⟨SE T n,G2 T n,O8 T n,agk T n,trivial⟩
theorem ahC (n:Nat):bC tb X2 (Xy (aZ n)):=T.z (auG n (bM n) (fW n) (fu n) (cL n) (eB n)) (by kernel_rfl) ⟨yv T n,aDI T n,axQ T n,Sk T n,aqT T n,trivial⟩
theorem Ki (n:Nat):bC tb Dj (Dm (aH n)):=T.z (ajJ n) (by kernel_rfl) trivial
theorem ahv (n:Nat):bC tb Wi (W5 (dj n)):=T.z (atV n (bM n) (cG n)) (by kernel_rfl) ⟨yv T n,ad7 T n,trivial⟩
theorem anX (n:Nat):bC tb YX (YJ (fh n)):=T.z (an6 n) (by kernel_rfl) trivial
theorem als (n:Nat) (hc:tb.get (key EG)=some alZ):bC tb EG (XZ (eC n)):=auZ T.mono (amA n (cI n) (ba n) (bh n) (aZ n) (aH n) (dj n) (fh n)) hc ⟨ayz T n,afs T n,ahV T n,ahC T n,Ki T n,ahv T n,anX T n,trivial⟩
theorem amk (n:Nat):bC tb X4 (V9 (aN n)):=T.z (alX n) (by kernel_rfl) trivial
theorem HA (n:Nat):bC tb Cz (Cd (aC n)):=T.z (ai4 n (aN n)) (by kernel_rfl) ⟨amk T n,trivial⟩
theorem apW (n:Nat):bC tb aco (ab9 (bK n)):=T.z (aqm n) (by kernel_rfl) trivial
theorem Eu (n:Nat):bC tb zH (zx (aR n)):=T.z (alq n (bK n)) (by kernel_rfl) ⟨apW T n,trivial⟩
theorem ao6 (n:Nat):bC tb ab5 (ab6 (cD n)):=T.z (aqa n) (by kernel_rfl) trivial
theorem aiJ (n:Nat):bC tb SW (Tb (dD n)):=T.z (aiX n (cD n)) (by kernel_rfl) ⟨ao6 T n,trivial⟩
theorem akb (n:Nat):bC tb Vr (Vi (bw n)):=T.z (aj4 n) (by kernel_rfl) trivial
theorem ajE (n:Nat):bC tb U7 (U3 (dK n)):=T.z (akS n (aC n) (bw n)) (by kernel_rfl) ⟨HA T n,akb T n,trivial⟩
theorem YP (n:Nat):bC tb Ow (Oj (bj n)):=T.z (anY n (dD n) (dK n)) (by kernel_rfl) ⟨aiJ T n,ajE T n,trivial⟩
theorem VC (n:Nat):bC tb JH (KI (bR n)):=T.z (akJ n) (by kernel_rfl) trivial
theorem ajX (n:Nat):bC tb U5 (U9 (bX n)):=T.z (akG n (aR n) (bR n)) (by kernel_rfl) ⟨Eu T n,VC T n,trivial⟩
theorem apZ (n:Nat):bC tb ab1 (abk (eu n)):=T.z (aoh n (bR n)) (by kernel_rfl) ⟨VC T n,trivial⟩
theorem ale (n m:Nat):bC tb Dc (Dh (cx n m)):=by
  induction m with
  | zero=>exact wrT_err _ fun _=>rfl
  | succ m ih=>exact T.z (ajt n (cx n m)) (by kernel_rfl) ⟨ih,trivial⟩
theorem akc (n:Nat):bC tb Dc (Dh (dI n)):=ale T n n
theorem aml (n:Nat):bC tb WA (V7 (dx n)):=T.z (al6 n (aR n) (eu n) (dI n)) (by kernel_rfl) ⟨Eu T n,apZ T n,akc T n,trivial⟩
theorem anZ (n:Nat):bC tb YU (Y4 (cm n)):=T.z (anT n (dx n)) (by kernel_rfl) ⟨aml T n,trivial⟩
theorem alh (n:Nat):bC tb Yd (WN (cg n)):=T.z (alH n) (by kernel_rfl) trivial
theorem ajQ (n:Nat):bC tb UW (Vx (bZ n)):=T.z (ajs n (aC n) (aR n) (bj n) (bX n) (cm n) (cg n)) (by kernel_rfl) ⟨HA T n,Eu T n,YP T n,ajX T n,anZ T n,alh T n,trivial⟩
theorem alL (n:Nat):bC tb XD (VV (cb n)):=T.z (alG n) (by kernel_rfl) trivial
theorem al7 (n:Nat):bC tb X6 (WP (dU n)):=T.z (alo n (aC n) (aR n) (bZ n) (cb n) (bj n)) (by kernel_rfl) ⟨HA T n,Eu T n,ajQ T n,alL T n,YP T n,trivial⟩
theorem aoL (n:Nat):bC tb aa6 (abj (eA n)):=T.z (aoA n (dU n)) (by kernel_rfl) ⟨al7 T n,trivial⟩
theorem ali (n:Nat):bC tb WI (WX (dR n)):=T.z (alp n (eA n)) (by kernel_rfl) ⟨aoL T n,trivial⟩
theorem amd (n:Nat):bC tb Wu (Xi (dQ n)):=T.z (al3 n (dR n)) (by kernel_rfl) ⟨ali T n,trivial⟩
theorem apl (n:Nat):bC tb aci (abZ (dH n)):=T.z (apo n) (by kernel_rfl) trivial
theorem aoj (n:Nat):bC tb abK (ab4 (bF n)):=T.z (aoP n (dQ n) (dH n)) (by kernel_rfl) ⟨amd T n,apl T n,trivial⟩
theorem as3 (n:Nat):bC tb agl (agn (dm n)):=T.z (asP n (bM n)) (by kernel_rfl) ⟨yv T n,trivial⟩
theorem aq0 (n:Nat):bC tb adQ (aek (dp n)):=T.z (arf n (bM n)) (by kernel_rfl) ⟨yv T n,trivial⟩
theorem Sy (n:Nat):bC tb D3 (D6 (c8 n)):=T.z (SK n) (by kernel_rfl) trivial
theorem asA (n:Nat):bC tb afj (afy (dr n)):=T.z (asC n (bM n) (Eb dL) (c8 n)) (by kernel_rfl) ⟨yv T n,T.pG_slices_Sorted_int_,Sy T n,trivial⟩
theorem qv (n:Nat):bC tb pr (pj (aQ n)):=T.z (acY n) (by kernel_rfl) trivial
theorem DX (n:Nat):bC tb yi (yo (bB n)):=T.z (adn n) (by kernel_rfl) trivial
theorem K7 (n:Nat):bC tb CW (C9 (bQ n)):=T.z (acj n (aQ n) (bB n)) (by kernel_rfl) ⟨qv T n,DX T n,trivial⟩
theorem ada (n:Nat):bC tb Nl (MF (ca n)):=T.z (acE n (aQ n)) (by kernel_rfl) ⟨qv T n,trivial⟩
theorem ae1 (n:Nat):bC tb OA (OX (bJ n)):=T.z (aey n (aQ n) (bB n)) (by kernel_rfl) ⟨qv T n,DX T n,trivial⟩
theorem af9 (n:Nat):bC tb Qd (Pm (bO n)):=T.z (afg n) (by kernel_rfl) trivial
theorem ac9 (n:Nat):bC tb NB (NS (bG n)):=T.z (ac8 n (aQ n)) (by kernel_rfl) ⟨qv T n,trivial⟩
theorem al4 (n:Nat):bC tb Xp (W8 (aY n)):=T.z (alR n (aH n) (dj n) (dm n) (dp n) (dr n) (bQ n) (ca n) (bJ n) (bO n) (bG n)) (by kernel_rfl) ⟨Ki T n,ahv T n,as3 T n,aq0 T n,asA T n,K7 T n,ada T n,ae1 T n,af9 T n,ac9 T n,trivial⟩
theorem ajA (n:Nat):bC tb UT (VA (bf n)):=T.z (ald n) (by kernel_rfl) trivial
theorem acJ (n:Nat):bC tb NI (NV (dn n)):=T.z (adC n) (by kernel_rfl) trivial
theorem adf (n:Nat):bC tb NJ (NL (ci n)):=T.z (adk n) (by kernel_rfl) trivial
theorem abG (n:Nat):bC tb LS (Ls (cu n)):=T.z (aa7 n (ci n)) (by kernel_rfl) ⟨adf T n,trivial⟩
theorem Nn (n:Nat):bC tb DM (DQ (cy n)):=T.z (adc n (cu n)) (by kernel_rfl) ⟨abG T n,trivial⟩
theorem No (n:Nat):bC tb DJ (DH (ce n)):=T.z (ac2 n) (by kernel_rfl) trivial
theorem ae4 (n:Nat):bC tb OZ (OL (aK n)):=T.z (aeE n (bQ n) (aQ n) (dn n) (bB n) (cy n) (ce n)) (by kernel_rfl) ⟨K7 T n,qv T n,acJ T n,DX T n,Nn T n,No T n,trivial⟩
theorem adw (n:Nat):bC tb NT (Ny (cO n)):=T.z (adm n) (by kernel_rfl) trivial
theorem aeJ (n:Nat):bC tb O0 (O4 (aJ n)):=T.z (ae6 n (aQ n) (cO n)) (by kernel_rfl) ⟨qv T n,adw T n,trivial⟩
theorem adA (n:Nat):bC tb NM (MY (aG n)):=T.z (ac7 n (aQ n) (cy n) (ce n)) (by kernel_rfl) ⟨qv T n,Nn T n,No T n,trivial⟩
theorem agD (n:Nat) (hw:bC tb EG (Eb br)) (hc:tb.get (key FE)=some Fc):bC tb FE (Ps (dS n)):=auZ T.mono (afz n (Eb br) (cI n) (ba n) (bh n) (bF n) (aY n) (bf n) (aK n) (aZ n) (aJ n) (aG n) (aH n)) hc ⟨hw,ayz T n,afs T n,ahV T n,aoj T n,al4 T n,ajA T n,ae4 T n,ahC T n,aeJ T n,adA T n,Ki T n,trivial⟩
end
end Go.Proofs.YtnlbfbiogfilfaaGreat.Sh
/- The chapter's example, run by the kernel; the table with its answer. -/
namespace Go.Proofs.YtnlbfbiogfilfaaGreat.Sh
open Go.Ai Go.Proofs
set_option maxRecDepth 1000000 in
set_option maxHeartbeats 1000000000 in
theorem aF3 (J:Bool→ah):eC 5000 ⟨.leaf,0,0⟩ (fun b _=>J b)=J true:=by kernel_rfl
theorem works_w (n:Nat) (H:ad) (k:AV→ad→ah):XZ (eC n) ([]++([]++[])) H k=eC n H fun b h=>k (.bool b) h:=by kernel_rfl
theorem works_ok:avJ Tryz.prog 6 (ax2 [] (.bool true)):=by
  have hr:=(works_w 5000 ⟨.leaf,0,0⟩ fun v _=>.ret v ⟨.leaf,0,0⟩).trans (aF3 fun b=>.ret (.bool b) ⟨.leaf,0,0⟩)
  generalize 5000=n at hr
  obtain ⟨N,v,H1,h1,h2⟩:=als tb1_s n (aBU (by kernel_rfl) (by kernel_rfl)) [] [] [] ⟨.leaf,0,0⟩ (fun v _=>.ret v ⟨.leaf,0,0⟩) (.bool true) ⟨.leaf,0,0⟩ (iA _) hr
  cases h2
  exact memo_of tb1_ok rfl rfl h1
theorem _root_.Go.Ai.gr.code_set {P:Program} {tbl:Tr AFn} (T:gr P tbl) {f:Nat} {x:AFn} (he:aDW P f x):gr P (tbl.set (key f) x):=by
  obtain ⟨fn,h1,h2,h3,m,h4⟩:=he
  obtain ⟨ps,body,res,rfl⟩:=as9 h4
  refine ⟨T.mixed,fun g y hg=>?_,fun g y hg=>?_,fun g ps' body' res' hg=>?_,fun g y hg=>?_⟩
  · by_cases e:f=g
    · subst e; rw [Tr.gS] at hg; cases hg
    · rw [Tr.gR (fun k=>e (Mn k))] at hg; exact T.mono g y hg
  · by_cases e:f=g
    · subst e; exact ⟨fn,h1,h2,h3⟩
    · rw [Tr.gR (fun k=>e (Mn k))] at hg; exact T.enters g y hg
  · by_cases e:f=g
    · subst e; rw [Tr.gS] at hg; cases hg; exact ⟨fn,m,h1,h4⟩
    · rw [Tr.gR (fun k=>e (Mn k))] at hg; exact T.code g _ _ _ hg
  · by_cases e:f=g
    · subst e; rw [Tr.gS] at hg; cases hg
    · rw [Tr.gR (fun k=>e (Mn k))] at hg; exact T.prim g y hg
theorem enters6:Ai.Enters Tryz.prog 6:=⟨Tryz.f6,Tryz.func6,by kernel_rfl,by kernel_rfl⟩
noncomputable def tb:Tr AFn:=(tb1.set (key 6) (.prim (ax2 [] (.bool true)))).set (key 4) Fc
theorem entry4:aDW Tryz.prog 4 Fc:=⟨Tryz.f4,Tryz.func4,by kernel_rfl,by kernel_rfl,false,by kernel_rfl⟩
theorem tb_ok:gr Tryz.prog tb:=(tb1_ok.prim_set (f:=6) works_ok (fun _ _ _ _ _ h=>aEI h) enters6).code_set entry4
theorem tb_s:TbS tb:=⟨tb_ok.mono,fun e h=>by
  simp only [Bool.or_eq_false_iff] at e
  exact C3 e.2.2.2 (C3 e.2.2.1 (aBU (by rw [e.1,e.2.1]; rfl) h)),acp (C3 (by kernel_rfl) (C3 (by kernel_rfl) (C3 (by kernel_rfl) (Tr.gS ..)))),acp (C3 (by kernel_rfl) (C3 (by kernel_rfl) (Tr.gS ..)))⟩
theorem Z_plays (n:Nat):bC tb FE (Ps (dS n)):=agD tb_s n (acp (C3 (by kernel_rfl) (Tr.gS ..))) (Tr.gS ..)
end Go.Proofs.YtnlbfbiogfilfaaGreat.Sh
