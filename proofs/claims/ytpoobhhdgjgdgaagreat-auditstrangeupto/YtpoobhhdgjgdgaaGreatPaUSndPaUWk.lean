/- The printed functions at the program's table: each is sound. -/
import Derived.Test.YtpoobhhdgjgdgaaGreatPaUText
import Derived.Test.YtpoobhhdgjgdgaaGreatUDblPaUTb
set_option linter.all false
namespace Go.Proofs.YtpoobhhdgjgdgaaGreat.Sh
open Go.Ai Go.Proofs
set_option maxRecDepth 100000
section
variable {tb:Tr AFn} (T:TbS tb)
include T
theorem Rr (n:Nat):bw tb vz (GR (aW n)):=T.z (af3 n) (by kernel_rfl) trivial
theorem zH (n:Nat):bw tb wt (wd (bZ n)):=T.z (ajG n) (by kernel_rfl) trivial
theorem amY (n:Nat):bw tb abk (aad (ei n)):=T.z (al1 n (bZ n)) (by kernel_rfl) ⟨zH T n,trivial⟩
theorem JX (n:Nat):bw tb CB (CI (bV n)):=T.z (aiG n (ei n) (bZ n)) (by kernel_rfl) ⟨amY T n,zH T n,trivial⟩
theorem Ir (n:Nat):bw tb Cv (Dh (b7 n)):=T.z (ams n) (by kernel_rfl) trivial
theorem Kg (n:Nat):bw tb za (y9 (cx n)):=T.z (Kf n) (by kernel_rfl) trivial
theorem pY (n:Nat):bw tb nw (nv (al n)):=T.z (Hy n (cx n)) (by kernel_rfl) ⟨Kg T n,trivial⟩
theorem aif (n:Nat):bw tb WT (Vr (dE n)):=T.z (aiT n (al n)) (by kernel_rfl) ⟨pY T n,trivial⟩
theorem adZ (n:Nat):bw tb Vb (VN (dn n)):=T.z (aov n) (by kernel_rfl) trivial
theorem amP (n:Nat):bw tb aaI (aav (dF n)):=T.z (amJ n (dn n)) (by kernel_rfl) ⟨adZ T n,trivial⟩
theorem ajC (n:Nat):bw tb Yf (Ya (dK n)):=T.z (ajx n (dF n) (bV n) (dn n) (bZ n)) (by kernel_rfl) ⟨amP T n,JX T n,adZ T n,zH T n,trivial⟩
theorem aeI (n:Nat):bw tb VG (T8 (cM n)):=T.z (aos n (dE n) (dK n)) (by kernel_rfl) ⟨aif T n,ajC T n,trivial⟩
theorem YK (n:Nat):bw tb LX (L8 (cL n)):=T.z (aj1 n) (by kernel_rfl) trivial
theorem ajw (n:Nat):bw tb YH (Yx (de n)):=T.z (ako n (b7 n) (cL n)) (by kernel_rfl) ⟨Ir T n,YK T n,trivial⟩
theorem ami (n:Nat):bw tb abt (Z7 (du n)):=T.z (amE n (b7 n) (cL n)) (by kernel_rfl) ⟨Ir T n,YK T n,trivial⟩
theorem akn (n:Nat):bw tb Yz (YB (dc n)):=T.z (akf n) (by kernel_rfl) trivial
theorem Nd (n:Nat):bw tb mZ (EU (bT n)):=T.z (act n) (by kernel_rfl) trivial
theorem Pu (n:Nat):bw tb mT (Ec (bS n)):=T.z (acu n) (by kernel_rfl) trivial
theorem NA (n:Nat):bw tb tI (E0 (cw n)):=T.z (adb n) (by kernel_rfl) trivial
theorem MR (n:Nat):bw tb yh (D6 (ci n)):=T.z (adn n) (by kernel_rfl) trivial
theorem My (n:Nat):bw tb xZ (Em (cb n)):=T.z (adh n) (by kernel_rfl) trivial
theorem Ol (n:Nat):bw tb yf (EK (cm n)):=T.z (ac0 n) (by kernel_rfl) trivial
theorem M6 (n:Nat):bw tb yk (EA (b9 n)):=T.z (acN n) (by kernel_rfl) trivial
theorem Oq (n:Nat):bw tb yu (EN (ck n)):=T.z (adr n) (by kernel_rfl) trivial
theorem Kn (n:Nat):bw tb wH (CN (bU n)):=T.z (ZY n) (by kernel_rfl) trivial
theorem acV (n:Nat):bw tb EX (Nz (cI n)):=T.z (acf n (bT n) (bS n) (cw n) (ci n) (cb n) (cm n) (b9 n) (ck n) (bU n)) (by kernel_rfl) ⟨Nd T n,Pu T n,NA T n,MR T n,My T n,Ol T n,M6 T n,Oq T n,Kn T n,trivial⟩
theorem aox (n:Nat):bw tb ae0 (ad1 (dA n)):=T.z (anK n (du n) (dc n) (bT n) (bS n) (cw n) (ci n) (cb n) (cm n) (b9 n) (cI n) (ck n) (bU n)) (by kernel_rfl) ⟨ami T n,akn T n,Nd T n,Pu T n,NA T n,MR T n,My T n,Ol T n,M6 T n,acV T n,Oq T n,Kn T n,trivial⟩
theorem aaG (n:Nat):bw tb P5 (PN (cR n)):=T.z (alN n) (by kernel_rfl) trivial
theorem ajM (n:Nat):bw tb Xl (Y6 (da n)):=T.z (ajJ n (bV n) (b7 n) (cM n) (de n) (dA n) (cR n)) (by kernel_rfl) ⟨JX T n,Ir T n,aeI T n,ajw T n,aox T n,aaG T n,trivial⟩
theorem ME (n:Nat):bw tb tq (EB (aR n)):=T.z (ac9 n (bZ n)) (by kernel_rfl) ⟨zH T n,trivial⟩
theorem Bm (n:Nat):bw tb tV (uo (au n)):=T.z (Nj n) (by kernel_rfl) trivial
theorem F4 (n:Nat):bw tb uI (uG (cz n)):=T.z (Gk n (aR n) (au n)) (by kernel_rfl) ⟨ME T n,Bm T n,trivial⟩
theorem CJ (n:Nat):bw tb sN (sj (cr n)):=T.z (CQ n (cz n)) (by kernel_rfl) ⟨F4 T n,trivial⟩
theorem aku (n:Nat):bw tb XV (X0 (c9 n)):=T.z (aki n (bZ n) (cr n)) (by kernel_rfl) ⟨zH T n,CJ T n,trivial⟩
theorem ON (n:Nat):bw tb ES (D8 (aQ n)):=T.z (ac8 n) (by kernel_rfl) trivial
theorem amg (n:Nat):bw tb aaD (abi (dZ n)):=T.z (alw n (aW n) (bV n) (b7 n) (da n) (c9 n) (cM n) (aQ n)) (by kernel_rfl) ⟨Rr T n,JX T n,Ir T n,ajM T n,aku T n,aeI T n,ON T n,trivial⟩
theorem PZ (n:Nat):bw tb II (IX (bp n)):=T.z (aoY n (dZ n)) (by kernel_rfl) ⟨amg T n,trivial⟩
theorem SJ (n:Nat):bw tb Gz (Hm (cQ n)):=T.z (afS n) (by kernel_rfl) trivial
theorem aaF (n:Nat):bw tb P0 (Qg (dt n)):=T.z (alq n (cQ n)) (by kernel_rfl) ⟨SJ T n,trivial⟩
theorem aen (n:Nat):bw tb V4 (Vf (bN n)):=T.z (anf n (cQ n) (dt n)) (by kernel_rfl) ⟨SJ T n,aaF T n,trivial⟩
theorem alO (n:Nat):bw tb aax (Z6 (dY n)):=T.z (al7 n (bp n) (al n)) (by kernel_rfl) ⟨PZ T n,pY T n,trivial⟩
theorem FH (n:Nat):bw tb wh (wj (aK n)):=T.z (ake n (bp n) (bN n) (dY n)) (by kernel_rfl) ⟨PZ T n,aen T n,alO T n,trivial⟩
theorem UN (n:Nat):bw tb Gf (Gh (aJ n)):=T.z (Ut n) (by kernel_rfl) trivial
theorem aau (n:Nat):bw tb Qs (QB (dq n)):=T.z (amU n (bp n)) (by kernel_rfl) ⟨PZ T n,trivial⟩
theorem amT (n:Nat):bw tb aan (aae (d7 n)):=T.z (al6 n) (by kernel_rfl) trivial
theorem aoH (n:Nat):bw tb adY (aeZ (bH n)):=T.z (am8 n (dq n) (d7 n)) (by kernel_rfl) ⟨aau T n,amT T n,trivial⟩
theorem ae4 (n:Nat):bw tb RU (Si (dN n)):=T.z (afY n) (by kernel_rfl) trivial
theorem agh (n:Nat):bw tb QY (Ry (dP n)):=T.z (afg n (dN n)) (by kernel_rfl) ⟨ae4 T n,trivial⟩
theorem ad3 (n:Nat):bw tb Vo (VR (br n)):=T.z (am4 n (dP n)) (by kernel_rfl) ⟨agh T n,trivial⟩
theorem aht (n:Nat):bw tb U4 (Wt (dD n)):=T.z (ahk n) (by kernel_rfl) trivial
theorem aka (n:Nat):bw tb Yq (XL (dM n)):=T.z (akl n) (by kernel_rfl) trivial
theorem anj (n:Nat):bw tb aeE (ae2 (ez n)):=T.z (aof n (dD n) (dM n)) (by kernel_rfl) ⟨aht T n,aka T n,trivial⟩
theorem an9 (n:Nat):bw tb ad2 (aeQ (dC n)):=T.z (aor n) (by kernel_rfl) trivial
theorem ang (n:Nat):bw tb adU (adT (dB n)):=T.z (anY n) (by kernel_rfl) trivial
theorem akz (n:Nat):bw tb acy (adB (dw n)):=T.z (aqH n) (by kernel_rfl) trivial
theorem KM (n:Nat):bw tb Gp (Gb (cB n)):=T.z (an8 n (dC n) (dB n) (dw n)) (by kernel_rfl) ⟨an9 T n,ang T n,akz T n,trivial⟩
theorem Ze (n:Nat):bw tb Mm (LY (db n)):=T.z (ajZ n (cB n)) (by kernel_rfl) ⟨KM T n,trivial⟩
theorem alh (n:Nat):bw tb aaM (ZT (d9 n)):=T.z (al9 n) (by kernel_rfl) trivial
theorem aoR (n:Nat):bw tb aji (aiC (eI n)):=T.z (apf n (d9 n)) (by kernel_rfl) ⟨alh T n,trivial⟩
theorem anC (n:Nat):bw tb aes (ad8 (dV n)):=T.z (anV n (dw n)) (by kernel_rfl) ⟨akz T n,trivial⟩
theorem apG (n:Nat):bw tb ah9 (ahc (eK n)):=T.z (apj n (cB n) (dV n)) (by kernel_rfl) ⟨KM T n,anC T n,trivial⟩
theorem agU (n:Nat):bw tb VJ (VO (dz n)):=T.z (aiI n (db n) (eI n) (eK n)) (by kernel_rfl) ⟨Ze T n,aoR T n,apG T n,trivial⟩
theorem aiV (n:Nat):bw tb UF (Wj (bs n)):=T.z (ahU n (ez n) (dz n)) (by kernel_rfl) ⟨anj T n,agU T n,trivial⟩
theorem amh (n:Nat):bw tb aaR (Z2 (bi n)):=T.z (alK n (al n) (aK n) (bH n) (br n) (bs n)) (by kernel_rfl) ⟨pY T n,FH T n,aoH T n,ad3 T n,aiV T n,trivial⟩
theorem ag3 (n:Nat):bw tb TW (WH (bF n)):=T.z (agX n) (by kernel_rfl) trivial
theorem aoI (n:Nat):bw tb ad0 (ad5 (eu n)):=T.z (am6 n (cB n)) (by kernel_rfl) ⟨KM T n,trivial⟩
theorem anZ (n:Nat):bw tb adX (aei (et n)):=T.z (aoG n (cB n)) (by kernel_rfl) ⟨KM T n,trivial⟩
theorem aju (n:Nat):bw tb XJ (YL (dL n)):=T.z (ajW n (kT cO)) (by kernel_rfl) ⟨T.pG_api_Span__82,trivial⟩
theorem akw (n:Nat):bw tb Za (Y9 (dv n)):=T.z (ajY n (db n) (eu n) (et n) (dL n)) (by kernel_rfl) ⟨Ze T n,aoI T n,anZ T n,aju T n,trivial⟩
theorem aoA (n:Nat):bw tb ae1 (adS (bQ n)):=T.z (ano n (dv n)) (by kernel_rfl) ⟨akw T n,trivial⟩
theorem amn (n:Nat):bw tb aap (abB (d6 n)):=T.z (amK n (dq n) (cR n)) (by kernel_rfl) ⟨aau T n,aaG T n,trivial⟩
theorem ame (n:Nat):bw tb aaY (abT (ed n)):=T.z (al3 n (d6 n)) (by kernel_rfl) ⟨amn T n,trivial⟩
theorem alC (n:Nat):bw tb abZ (aaB (bM n)):=T.z (alm n (ed n)) (by kernel_rfl) ⟨ame T n,trivial⟩
theorem alk (n:Nat):bw tb aaq (abn (bh n)):=T.z (alu n (bN n) (bF n) (bQ n) (bM n)) (by kernel_rfl) ⟨aen T n,ag3 T n,aoA T n,alC T n,trivial⟩
theorem N3 (n:Nat):bw tb Bi (Bo (aE n)):=T.z (OM n) (by kernel_rfl) trivial
theorem Oa (n:Nat):bw tb BC (Bh (aD n)):=T.z (NV n) (by kernel_rfl) trivial
theorem alo (n:Nat):bw tb ZU (abm (cv n)):=T.z (alD n (dt n)) (by kernel_rfl) ⟨aaF T n,trivial⟩
theorem amW (n:Nat):bw tb Z1 (aa8 (cu n)):=T.z (amD n) (by kernel_rfl) trivial
theorem ahb (n:Nat):bw tb We (WK (ba n)):=T.z (ag9 n (aK n) (br n) (cv n) (cu n)) (by kernel_rfl) ⟨FH T n,ad3 T n,alo T n,amW T n,trivial⟩
theorem Jj (n:Nat):bw tb xN (xA (ar n)):=T.z (IU n) (by kernel_rfl) trivial
theorem XD (n:Nat):bw tb F3 (F0 (bB n)):=T.z (akm n (bp n) (aW n) (aR n) (aQ n) (aJ n) (bi n) (bh n) (aE n) (aD n) (ba n) (au n) (ar n) (kT aw)) (by kernel_rfl) ⟨PZ T n,Rr T n,ME T n,ON T n,UN T n,amh T n,alk T n,N3 T n,Oa T n,ahb T n,Bm T n,Jj T n,T.pG_audit_doubled__2_int__f1,trivial⟩
theorem O6 (n:Nat):bw tb tx (tQ (dj n)):=T.z (N8 n) (by kernel_rfl) trivial
theorem TB (n:Nat):bw tb wv (wz (dx n)):=T.z (TA n) (by kernel_rfl) trivial
theorem Tv (n:Nat):bw tb wx (wB (dy n)):=T.z (Tz n) (by kernel_rfl) trivial
theorem TD (n:Nat):bw tb DU (DN (be n)):=T.z (TI n) (by kernel_rfl) trivial
theorem F5 (n:Nat) (hw:bw tb uR (kT bb)) (hc:tb.get (key pJ)=some F6):bw tb pJ (uE (cy n)):=ale T.mono (F7 n (kT bb) (aK n) (bB n) (be n)) hc ⟨hw,FH T n,XD T n,TD T n,trivial⟩
end
end Go.Proofs.YtpoobhhdgjgdgaaGreat.Sh
/- The chapter's example, run by the kernel; the table with its answer. -/
namespace Go.Proofs.YtpoobhhdgjgdgaaGreat.Sh
open Go.Ai Go.Proofs
theorem lWorks (n:Nat):eW tb0 [(wh,wj (aK n)),(F3,F0 (bB n)),(tx,tQ (dj n)),(wv,wz (dx n)),(wx,wB (dy n))]:=
  ⟨FH aom n,XD aom n,O6 aom n,TB aom n,Tv aom n,trivial⟩
noncomputable def Ww (n:Nat):Wr:=W [] PW [(wh,wj (aK n)),(F3,F0 (bB n)),(tx,tQ (dj n)),(wv,wz (dx n)),(wx,wB (dy n))] P3 n Qz
theorem Ww_sound (n:Nat):bw tb0 uR (Ww n):=aqe tb0_ok.mono (amk (by kernel_rfl) (by kernel_rfl)) (lWorks n)
set_option maxRecDepth 1000000 in
set_option maxHeartbeats 1000000000 in
theorem aq3 (J:AV→aa):Ww 5000 ([]++([]++[])) ⟨.leaf,0,0⟩ (fun v _=>J v)=J (.bool true):=by kernel_rfl
theorem works_ok:acZ Tryz.prog 5 (ahV [] (.bool true)):=by
  have hr:=aq3 fun v=>.ret v ⟨.leaf,0,0⟩
  generalize 5000=n at hr
  obtain ⟨N,v,H1,h1,h2⟩:=Ww_sound n [] [] [] ⟨.leaf,0,0⟩ (fun v _=>.ret v ⟨.leaf,0,0⟩) (.bool true) ⟨.leaf,0,0⟩ (fY _) hr
  cases h2
  exact memo_of tb0_ok rfl rfl h1
theorem enters5:Ai.Enters Tryz.prog 5:=⟨Tryz.f5,Tryz.func5,by kernel_rfl,by kernel_rfl⟩
noncomputable def tb:Tr AFn:=tb0.set (key 5) (.prim (ahV [] (.bool true)))
theorem tb_ok:TblOk Tryz.prog tb:=tb0_ok.prim_set (f:=5) works_ok (fun _ _ _ _ _ h=>apE h) enters5
theorem tb_s:TbS tb:=⟨tb_ok.mono,fun e h=>by
  simp only [Bool.or_eq_false_iff] at e
  exact xb e.2.2 (amk (by rw [e.1,e.2.1]; rfl) h),Gn (xb (by kernel_rfl) (xb (by kernel_rfl) (Tr.ft ..))),Gn (xb (by kernel_rfl) (Tr.ft ..))⟩
theorem aqP (n:Nat):bw tb pJ (uE (cy n)):=F5 tb_s n (Gn (Tr.ft ..)) (tb_s.get (by kernel_rfl) (by kernel_rfl))
end Go.Proofs.YtpoobhhdgjgdgaaGreat.Sh
