/- The tables of the program's functions, with the sort and the count as prims; the answer of the chapter's example. -/
import Derived.Test.YtpoobhhdgjgdgaaGreatAiRowBUFunc
import Derived.Test.YtpoobhhdgjgdgaaGreatPaUText
import Derived.Test.YtpoobhhdgjgdgaaGreatAiMemoSPaUPrims
import Derived.Test.YtpoobhhdgjgdgaaGreatAiTblKs
import Derived.KernelRfl
set_option linter.all false
namespace Go.Proofs.YtpoobhhdgjgdgaaGreat.Sh
open Go.Ai Go.Proofs
structure TbS (tb:Tr AFn):Prop where
  mono:dX tb
  get:∀ {f:Nat} {x:AFn},(Nat.beq 82 f||(Nat.beq 39 f||Nat.beq 5 f))=false→Yt Tryz.prog f=some x→tb.get (key f)=some x
  pG_api_Span__82:bw tb VA (lq cO)
  pG_audit_doubled__2_int__f1:bw tb xz (lq aw)
theorem TbS.z {tb:Tr AFn} (T:TbS tb) {f:Nat} {ps:Kp} {rs:List (Rv × Ty)} {l:List (Nat × Wr)} {ty:Tr Ty} {n:Nat} {c:SC} {F:FK ps (Heap→FZ rs HC→aa)} (e:∀ k0,lo ps (DZ (lp l) ty n c rs k0)=cmp ps F (kap rs k0))
    (h:(Bool.casesOn (Nat.beq 82 f||(Nat.beq 39 f||Nat.beq 5 f)) (Yt Tryz.prog f) none:Option AFn)=some (.code (ps.map (·.1)) (RJ c) (rs.map (·.1)))) (hs:eY tb l):bw tb f (wrT ps rs F):=by
  refine al3 T.mono e ?_ hs
  cases hb:(Nat.beq 82 f||(Nat.beq 39 f||Nat.beq 5 f)) with
  | true=>rw [hb] at h; cases h
  | false=>rw [hb] at h; exact T.get hb h
theorem arE {f:Nat} {vs:List AV} {K K':Heap} {v:AV} (h:ae8 f vs K = .ret v K'):eu K K':=by
  unfold ae8 at h
  split at h
  · split at h
    · cases h; exact .refl
    · cases h
  · split at h
    · split at h
      · split at h
        · cases h; exact .refl
        · cases h
      · cases h
    · cases h
  · cases h
theorem dbl_mono {vs:List AV} {K K':Heap} {v:AV} (h:dblG vs K = .ret v K'):eu K K':=by
  obtain ⟨a,b,p,off,m,l,es,es',r,c,rfl,hl,hlm,hro,hes,hf,hrc,hput,rfl,rfl⟩:=dbl.inv h
  exact eu.set hro (by unfold roB; exact fun h=>h.2 trivial)
noncomputable def tb0:Tr AFn:=((tblS Tryz.prog).set (key 82) (.prim (ae8 83))).set (key 39) (.prim dblG)
theorem tb0_ok:TblOk Tryz.prog tb0:=((tblS_ok (by kernel_rfl)).prim_set (f:=82) sortf.sort_ok (fun _ _ _ _ _ h=>arE h) sortf.enters82).prim_set (f:=39) dbl.dbl_ok (fun _ _ _ _ _ h=>dbl_mono h) dbl.enters39
theorem anB {f:Nat} {x:AFn} (e:(Nat.beq 82 f||Nat.beq 39 f)=false) (h:Yt Tryz.prog f=some x):tb0.get (key f)=some x:=by
  rw [Bool.or_eq_false_iff] at e
  exact xx e.2 (xx e.1 ((WM ..).trans h))
theorem aoF:TbS tb0:=⟨tb0_ok.mono,fun e h=>anB (by simp only [Bool.or_eq_false_iff] at e ⊢; exact ⟨e.1,e.2.1⟩) h,Gw (xx (by kernel_rfl) (Tr.fu ..)),Gw (Tr.fu ..)⟩
end Go.Proofs.YtpoobhhdgjgdgaaGreat.Sh
/- The printed functions at the program's table: each is sound. -/
namespace Go.Proofs.YtpoobhhdgjgdgaaGreat.Sh
open Go.Ai Go.Proofs
set_option maxRecDepth 100000
section
variable {tb:Tr AFn} (T:TbS tb)
include T
theorem S5 (n:Nat):bw tb vG (GM (aY n)):=T.z (agn n) (by kernel_rfl) trivial
theorem zQ (n:Nat):bw tb wu (wl (b9 n)):=T.z (akv n) (by kernel_rfl) trivial
theorem ant (n:Nat):bw tb aaV (acD (d7 n)):=T.z (anP n (b9 n)) (by kernel_rfl) ⟨zQ T n,trivial⟩
theorem Ki (n:Nat):bw tb CN (CW (bW n)):=T.z (ajs n (d7 n) (b9 n)) (by kernel_rfl) ⟨ant T n,zQ T n,trivial⟩
theorem H4 (n:Nat):bw tb Dm (Cp (cb n)):=T.z (amU n) (by kernel_rfl) trivial
theorem KA (n:Nat):bw tb zm (zi (cz n)):=T.z (Kx n) (by kernel_rfl) trivial
theorem qv (n:Nat):bw tb nA (nC (al n)):=T.z (GN n (cz n)) (by kernel_rfl) ⟨KA T n,trivial⟩
theorem aiz (n:Nat):bw tb Xi (V0 (dG n)):=T.z (aij n (al n)) (by kernel_rfl) ⟨qv T n,trivial⟩
theorem afs (n:Nat):bw tb U0 (Vl (dp n)):=T.z (aoA n) (by kernel_rfl) trivial
theorem aaN (n:Nat):bw tb QL (QY (db n)):=T.z (ani n (dp n)) (by kernel_rfl) ⟨afs T n,trivial⟩
theorem ake (n:Nat):bw tb Yb (ZP (dN n)):=T.z (ak0 n (db n) (bW n) (dp n) (b9 n)) (by kernel_rfl) ⟨aaN T n,Ki T n,afs T n,zQ T n,trivial⟩
theorem afn (n:Nat):bw tb UM (V5 (cP n)):=T.z (aoh n (dG n) (dN n)) (by kernel_rfl) ⟨aiz T n,ake T n,trivial⟩
theorem ZJ (n:Nat):bw tb L4 (MH (cL n)):=T.z (akO n) (by kernel_rfl) trivial
theorem akg (n:Nat):bw tb Zj (YQ (dj n)):=T.z (akS n (cb n) (cL n)) (by kernel_rfl) ⟨H4 T n,ZJ T n,trivial⟩
theorem ank (n:Nat):bw tb abl (aa8 (dr n)):=T.z (anL n (cb n) (cL n)) (by kernel_rfl) ⟨H4 T n,ZJ T n,trivial⟩
theorem alh (n:Nat):bw tb Y4 (Zk (de n)):=T.z (akk n) (by kernel_rfl) trivial
theorem Pv (n:Nat):bw tb mY (Eb (bV n)):=T.z (ado n) (by kernel_rfl) trivial
theorem M2 (n:Nat):bw tb mW (E2 (bU n)):=T.z (ael n) (by kernel_rfl) trivial
theorem Oi (n:Nat):bw tb tL (EL (cy n)):=T.z (ad9 n) (by kernel_rfl) trivial
theorem Ni (n:Nat):bw tb xY (Ed (cm n)):=T.z (aew n) (by kernel_rfl) trivial
theorem OT (n:Nat):bw tb yT (DX (ce n)):=T.z (adU n) (by kernel_rfl) trivial
theorem Ng (n:Nat):bw tb yJ (Ey (ck n)):=T.z (aem n) (by kernel_rfl) trivial
theorem PU (n:Nat):bw tb x6 (Eo (ci n)):=T.z (aeq n) (by kernel_rfl) trivial
theorem P4 (n:Nat):bw tb yl (EF (cn n)):=T.z (aey n) (by kernel_rfl) trivial
theorem KD (n:Nat):bw tb wH (Dd (bZ n)):=T.z (abr n) (by kernel_rfl) trivial
theorem adx (n:Nat):bw tb EU (PH (cI n)):=T.z (aer n (bV n) (bU n) (cy n) (cm n) (ce n) (ck n) (ci n) (cn n) (bZ n)) (by kernel_rfl) ⟨Pv T n,M2 T n,Oi T n,Ni T n,OT T n,Ng T n,PU T n,P4 T n,KD T n,trivial⟩
theorem aof (n:Nat):bw tb afB (afc (dC n)):=T.z (aoy n (dr n) (de n) (bV n) (bU n) (cy n) (cm n) (ce n) (ck n) (ci n) (cI n) (cn n) (bZ n)) (by kernel_rfl) ⟨ank T n,alh T n,Pv T n,M2 T n,Oi T n,Ni T n,OT T n,Ng T n,PU T n,adx T n,P4 T n,KD T n,trivial⟩
theorem abA (n:Nat):bw tb Qc (Qw (cS n)):=T.z (amp n) (by kernel_rfl) trivial
theorem aku (n:Nat):bw tb YI (ZA (dh n)):=T.z (akF n (bW n) (cb n) (cP n) (dj n) (dC n) (cS n)) (by kernel_rfl) ⟨Ki T n,H4 T n,afn T n,akg T n,aof T n,abA T n,trivial⟩
theorem Nf (n:Nat):bw tb s9 (ED (aO n)):=T.z (adi n (b9 n)) (by kernel_rfl) ⟨zQ T n,trivial⟩
theorem BZ (n:Nat):bw tb sJ (tu (au n)):=T.z (N6 n) (by kernel_rfl) trivial
theorem Gh (n:Nat):bw tb uH (uG (cB n)):=T.z (Gu n (aO n) (au n)) (by kernel_rfl) ⟨Nf T n,BZ T n,trivial⟩
theorem CQ (n:Nat):bw tb sa (sh (cu n)):=T.z (B7 n (cB n)) (by kernel_rfl) ⟨Gh T n,trivial⟩
theorem akb (n:Nat):bw tb Zb (YL (dg n)):=T.z (akW n (b9 n) (cu n)) (by kernel_rfl) ⟨zQ T n,CQ T n,trivial⟩
theorem Pc (n:Nat):bw tb D5 (ES (aQ n)):=T.z (ac6 n) (by kernel_rfl) trivial
theorem aml (n:Nat):bw tb ab0 (aaW (dZ n)):=T.z (anw n (aY n) (bW n) (cb n) (dh n) (dg n) (cP n) (aQ n)) (by kernel_rfl) ⟨S5 T n,Ki T n,H4 T n,aku T n,akb T n,afn T n,Pc T n,trivial⟩
theorem D9 (n:Nat):bw tb Bj (Bk (bb n)):=T.z (aqc n (dZ n)) (by kernel_rfl) ⟨aml T n,trivial⟩
theorem S4 (n:Nat):bw tb G1 (Hi (cR n)):=T.z (afU n) (by kernel_rfl) trivial
theorem abS (n:Nat):bw tb Qj (Qg (dq n)):=T.z (anv n (cR n)) (by kernel_rfl) ⟨S4 T n,trivial⟩
theorem afa (n:Nat):bw tb Uw (U7 (bP n)):=T.z (an5 n (cR n) (dq n)) (by kernel_rfl) ⟨S4 T n,abS T n,trivial⟩
theorem am5 (n:Nat):bw tb aa0 (abD (d9 n)):=T.z (amy n (bb n) (al n)) (by kernel_rfl) ⟨D9 T n,qv T n,trivial⟩
theorem FF (n:Nat):bw tb wi (wm (aV n)):=T.z (akf n (bb n) (bP n) (d9 n)) (by kernel_rfl) ⟨D9 T n,afa T n,am5 T n,trivial⟩
theorem Up (n:Nat):bw tb Gz (Gx (aK n)):=T.z (Wj n) (by kernel_rfl) trivial
theorem Qa (n:Nat):bw tb H6 (H7 (cT n)):=T.z (ano n (bb n)) (by kernel_rfl) ⟨D9 T n,trivial⟩
theorem amz (n:Nat):bw tb acn (abP (ei n)):=T.z (amJ n) (by kernel_rfl) trivial
theorem apw (n:Nat):bw tb afi (aff (bJ n)):=T.z (ao0 n (cT n) (ei n)) (by kernel_rfl) ⟨Qa T n,amz T n,trivial⟩
theorem ahd (n:Nat):bw tb RZ (S0 (dP n)):=T.z (agX n) (by kernel_rfl) trivial
theorem ahe (n:Nat):bw tb TD (RM (dR n)):=T.z (agV n (dP n)) (by kernel_rfl) ⟨ahd T n,trivial⟩
theorem aeK (n:Nat):bw tb VR (WE (bs n)):=T.z (aoc n (dR n)) (by kernel_rfl) ⟨ahe T n,trivial⟩
theorem aiD (n:Nat):bw tb UO (WS (dH n)):=T.z (ahE n) (by kernel_rfl) trivial
theorem ak6 (n:Nat):bw tb XY (YU (dL n)):=T.z (alc n) (by kernel_rfl) trivial
theorem an0 (n:Nat):bw tb afq (afu (eA n)):=T.z (aph n (dH n) (dL n)) (by kernel_rfl) ⟨aiD T n,ak6 T n,trivial⟩
theorem aoU (n:Nat):bw tb afw (ae7 (dF n)):=T.z (ao8 n) (by kernel_rfl) trivial
theorem ao2 (n:Nat):bw tb aeZ (aeW (dE n)):=T.z (aog n) (by kernel_rfl) trivial
theorem alS (n:Nat):bw tb acZ (adZ (dw n)):=T.z (art n) (by kernel_rfl) trivial
theorem K6 (n:Nat):bw tb F9 (Gf (cD n)):=T.z (aoo n (dF n) (dE n) (dw n)) (by kernel_rfl) ⟨aoU T n,ao2 T n,alS T n,trivial⟩
theorem ZK (n:Nat):bw tb LU (Mm (di n)):=T.z (akJ n (cD n)) (by kernel_rfl) ⟨K6 T n,trivial⟩
theorem amx (n:Nat):bw tb abR (abZ (en n)):=T.z (ams n) (by kernel_rfl) trivial
theorem aqx (n:Nat):bw tb ai3 (aiH (eL n)):=T.z (aqe n (en n)) (by kernel_rfl) ⟨amx T n,trivial⟩
theorem aop (n:Nat):bw tb afx (aft (dY n)):=T.z (aow n (dw n)) (by kernel_rfl) ⟨alS T n,trivial⟩
theorem apT (n:Nat):bw tb ajJ (ah3 (eJ n)):=T.z (aqd n (cD n) (dY n)) (by kernel_rfl) ⟨K6 T n,aop T n,trivial⟩
theorem aic (n:Nat):bw tb Vu (WF (dD n)):=T.z (aju n (di n) (eL n) (eJ n)) (by kernel_rfl) ⟨ZK T n,aqx T n,apT T n,trivial⟩
theorem ah6 (n:Nat):bw tb V9 (Vz (bu n)):=T.z (aiY n (eA n) (dD n)) (by kernel_rfl) ⟨an0 T n,aic T n,trivial⟩
theorem amv (n:Nat):bw tb acm (aaq (bl n)):=T.z (am8 n (al n) (aV n) (bJ n) (bs n) (bu n)) (by kernel_rfl) ⟨qv T n,FF T n,apw T n,aeK T n,ah6 T n,trivial⟩
theorem Wh (n:Nat):bw tb JG (Kd (bB n)):=T.z (ajT n) (by kernel_rfl) trivial
theorem an7 (n:Nat):bw tb aeX (afr (eB n)):=T.z (aoW n (cD n)) (by kernel_rfl) ⟨K6 T n,trivial⟩
theorem aoR (n:Nat):bw tb afj (afH (ez n)):=T.z (aps n (cD n)) (by kernel_rfl) ⟨K6 T n,trivial⟩
theorem akN (n:Nat):bw tb Zd (YF (dM n)):=T.z (akM n (lq cO)) (by kernel_rfl) ⟨T.pG_api_Span__82,trivial⟩
theorem akh (n:Nat):bw tb YM (YC (du n)):=T.z (ak3 n (di n) (eB n) (ez n) (dM n)) (by kernel_rfl) ⟨ZK T n,an7 T n,aoR T n,akN T n,trivial⟩
theorem ao9 (n:Nat):bw tb aeT (aeO (bR n)):=T.z (apB n (du n)) (by kernel_rfl) ⟨akh T n,trivial⟩
theorem al4 (n:Nat):bw tb abu (aci (eo n)):=T.z (ami n (cT n) (cS n)) (by kernel_rfl) ⟨Qa T n,abA T n,trivial⟩
theorem anA (n:Nat):bw tb aaP (aaB (d8 n)):=T.z (anH n (eo n)) (by kernel_rfl) ⟨al4 T n,trivial⟩
theorem amW (n:Nat):bw tb ab6 (abN (bO n)):=T.z (amC n (d8 n)) (by kernel_rfl) ⟨anA T n,trivial⟩
theorem anj (n:Nat):bw tb abO (acs (bj n)):=T.z (anh n (bP n) (bB n) (bR n) (bO n)) (by kernel_rfl) ⟨afa T n,Wh T n,ao9 T n,amW T n,trivial⟩
theorem P7 (n:Nat):bw tb BG (BE (aG n)):=T.z (P6 n) (by kernel_rfl) trivial
theorem Nm (n:Nat):bw tb Bw (BN (aE n)):=T.z (NV n) (by kernel_rfl) trivial
theorem al7 (n:Nat):bw tb acq (abG (cw n)):=T.z (anf n (dq n)) (by kernel_rfl) ⟨abS T n,trivial⟩
theorem anC (n:Nat):bw tb ab1 (acv (cv n)):=T.z (ana n) (by kernel_rfl) trivial
theorem ajn (n:Nat):bw tb UP (Un (be n)):=T.z (aiu n (aV n) (bs n) (cw n) (cv n)) (by kernel_rfl) ⟨FF T n,aeK T n,al7 T n,anC T n,trivial⟩
theorem Jn (n:Nat):bw tb wR (xq (ar n)):=T.z (I5 n) (by kernel_rfl) trivial
theorem ZN (n:Nat):bw tb Ft (Fy (bT n)):=T.z (ak4 n (bb n) (aY n) (aO n) (aQ n) (aK n) (bl n) (bj n) (aG n) (aE n) (be n) (au n) (ar n) (lq aw)) (by kernel_rfl) ⟨D9 T n,S5 T n,Nf T n,Pc T n,Up T n,amv T n,anj T n,P7 T n,Nm T n,ajn T n,BZ T n,Jn T n,T.pG_audit_doubled__2_int__f1,trivial⟩
theorem PW (n:Nat):bw tb tF (tW (dm n)):=T.z (Pj n) (by kernel_rfl) trivial
theorem T1 (n:Nat):bw tb wy (wz (dz n)):=T.z (T8 n) (by kernel_rfl) trivial
theorem T4 (n:Nat):bw tb wA (wx (dx n)):=T.z (T3 n) (by kernel_rfl) trivial
theorem ane (n:Nat):bw tb aa3 (abW (cx n)):=T.z (anJ n (cT n) (db n)) (by kernel_rfl) ⟨Qa T n,aaN T n,trivial⟩
theorem ak8 (n:Nat):bw tb Zr (Yv (dv n)):=T.z (akl n (bb n)) (by kernel_rfl) ⟨D9 T n,trivial⟩
theorem aiT (n:Nat):bw tb U9 (Xs (bX n)):=T.z (ah9 n (dv n) (bB n)) (by kernel_rfl) ⟨ak8 T n,Wh T n,trivial⟩
theorem Ix (n:Nat) (hw:bw tb uS (lq bD)) (hc:tb.get (key qA)=some HZ):bw tb qA (wF (cE n)):=al3 T.mono (H9 n (bb n) (cx n) (lq bD) (aV n) (bT n) (bX n)) hc ⟨D9 T n,ane T n,hw,FF T n,ZN T n,aiT T n,trivial⟩
end
end Go.Proofs.YtpoobhhdgjgdgaaGreat.Sh
/- The chapter's example, run by the kernel; the table with its answer. -/
namespace Go.Proofs.YtpoobhhdgjgdgaaGreat.Sh
open Go.Ai Go.Proofs
theorem lWorks (n:Nat):eY tb0 [(wi,wm (aV n)),(Ft,Fy (bT n)),(tF,tW (dm n)),(wy,wz (dz n)),(wA,wx (dx n))]:=
  ⟨FF aoF n,ZN aoF n,PW aoF n,T1 aoF n,T4 aoF n,trivial⟩
noncomputable def Ww (n:Nat):Wr:=W [] QI [(wi,wm (aV n)),(Ft,Fy (bT n)),(tF,tW (dm n)),(wy,wz (dz n)),(wA,wx (dx n))] Qf n QB
theorem Ww_sound (n:Nat):bw tb0 uS (Ww n):=aqY tb0_ok.mono (anB (by kernel_rfl) (by kernel_rfl)) (lWorks n)
set_option maxRecDepth 1000000 in
set_option maxHeartbeats 1000000000 in
theorem arh (J:AV→aa):Ww 5000 ([]++([]++[])) ⟨.leaf,0,0⟩ (fun v _=>J v)=J (.bool true):=by kernel_rfl
theorem works_ok:ac9 Tryz.prog 5 (ahT [] (.bool true)):=by
  have hr:=arh fun v=>.ret v ⟨.leaf,0,0⟩
  generalize 5000=n at hr
  obtain ⟨N,v,H1,h1,h2⟩:=Ww_sound n [] [] [] ⟨.leaf,0,0⟩ (fun v _=>.ret v ⟨.leaf,0,0⟩) (.bool true) ⟨.leaf,0,0⟩ (fZ _) hr
  cases h2
  exact memo_of tb0_ok rfl rfl h1
theorem enters5:Ai.Enters Tryz.prog 5:=⟨Tryz.f5,Tryz.func5,by kernel_rfl,by kernel_rfl⟩
noncomputable def tb:Tr AFn:=tb0.set (key 5) (.prim (ahT [] (.bool true)))
theorem tb_ok:TblOk Tryz.prog tb:=tb0_ok.prim_set (f:=5) works_ok (fun _ _ _ _ _ h=>apU h) enters5
theorem tb_s:TbS tb:=⟨tb_ok.mono,fun e h=>by
  simp only [Bool.or_eq_false_iff] at e
  exact xx e.2.2 (anB (by rw [e.1,e.2.1]; rfl) h),Gw (xx (by kernel_rfl) (xx (by kernel_rfl) (Tr.fu ..))),Gw (xx (by kernel_rfl) (Tr.fu ..))⟩
theorem Z_sound (n:Nat):bw tb qA (wF (cE n)):=Ix tb_s n (Gw (Tr.fu ..)) (tb_s.get (by kernel_rfl) (by kernel_rfl))
end Go.Proofs.YtpoobhhdgjgdgaaGreat.Sh
