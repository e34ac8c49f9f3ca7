/- The program's functions in continuation style: printed by a program, held against their code by the kernel. -/
import Derived.Test.YtpoobhhdgjgdgaaGreatPaUCode
import Derived.Test.YtpoobhhdgjgdgaaGreatAiMemoSPaUPrims
import Derived.KernelRfl
set_option linter.all false
namespace Go.Proofs.YtpoobhhdgjgdgaaGreat.Sh
open Go.Ai
set_option maxRecDepth 100000
noncomputable section
variable (n:Nat) (cf:bg)
abbrev aq:=Bool→Int→Int→AV→Heap→(Heap→aa)→aa
abbrev dQ:=Heap→aa
abbrev GM (g:aq):Wr:=wrT oL k8 g
def P1:bg:=lp []
section
variable (k0:Q0)
def RU:Q1:=(hG cf AM K4 (cJ p8 (hG cf AM KX (jk k8 k0)) (jk k8 k0)))
def z8 (n:Nat) (k:dQ) (a0:Bool) (a1:Int) (a2:Int) (a3:AV) (h:Heap):aa:=ifB (jJ a0) (jd h a3 1 false fun a=>lh [(.int .i64 0),(.int .i64 0)] [(0,1,(.int .i64 a1)),(1,1,(.int .i64 a2))] fun b=>mI h 1 [(.int .i64 0),(.int .i64 0)] [(0,2,b)] fun c d=>Iv d 2 a c fun e f=>jh f a3 1 e fun g=>k g) (k h)
def Hf (n:Nat) (a0:Bool) (a1:Int) (a2:Int) (a3:AV) (h:Heap) (k:dQ):aa:=z8 n k a0 a1 a2 a3 h
theorem agq:DZ cf AM n R2 k8 k0=RU cf k0:=by funext s; kernel_rfl
theorem agn:lo oL (DZ P1 AM n R2 k8 k0)=cmp oL (Hf n) (kap k8 k0):=(congrArg (lo oL) (agq n P1 k0)).trans (show _=z8 n (kap k8 k0) by delta RU z8; kernel_rfl)
end
def aY (n:Nat):aq:=Hf n
abbrev az:=Int→Int→Int→Heap→(Bool→Heap→aa)→aa
abbrev ab:=Bool→Heap→aa
abbrev wl (g:az):Wr:=wrT mL iv g
def De:bg:=lp []
section
variable (k0:Q0)
def Aa:Q1:=(hG cf lA rJ (jk iv k0))
def uX (n:Nat) (k:ab) (v14:Bool) (h:Heap):aa:=k v14 h
theorem afQ:lo lQ (Aa De k0)=uX n (kap iv k0):=by delta Aa uX; kernel_rfl
def X0:Q1:=(hG cf lA jg (hG cf lA rR (kJ lQ (Aa cf k0))))
def F2 (n:Nat) (k:ab) (a0:Int) (a1:Int) (a2:Int) (h:Heap):aa:=ifB (jJ (ltF a0 a1)) (uX n k (jJ (ltF a2 a0)) h) (uX n k false h)
def Mz (n:Nat) (a0:Int) (a1:Int) (a2:Int) (h:Heap) (k:ab):aa:=F2 n k a0 a1 a2 h
theorem akc:DZ cf lA n Yq iv k0=X0 cf k0:=by funext s; kernel_rfl
theorem akv:lo mL (DZ De lA n Yq iv k0)=cmp mL (Mz n) (kap iv k0):=(congrArg (lo mL) (akc n De k0)).trans (show _=F2 n (kap iv k0) by obtain ⟨J0,u0⟩:=exi (Aa De k0); delta X0 F2; rw [← afQ,u0]; kernel_rfl)
end
def b9 (n:Nat):az:=Mz n
abbrev bI:=Int→Int→Heap→(Bool→Heap→aa)→aa
abbrev acD (g:bI):Wr:=wrT lM hT g
def Fw (gP:az):bg:=lp [(wu,wl gP)]
section
variable (gP:az) (k0:Q0)
def CO:Q1:=(hG cf Cf Uo (jk hT k0))
def xd (n:Nat) (gP:az) (k:ab) (v14:Bool) (h:Heap):aa:=k v14 h
theorem aiL:lo lQ (CO (Fw gP) k0)=xd n gP (kap hT k0):=by delta CO xd; kernel_rfl
def acp:Q1:=(hG cf Cf i7 (hG cf Cf Xk (kJ lQ (CO cf k0))))
def II (n:Nat) (gP:az) (k:ab) (a0:Int) (a1:Int) (h:Heap):aa:=gP a0 1 a1 h fun a b=>ifB a (Ky .i64 a0 1 fun c=>agA .and .i64 a0 c fun d=>xd n gP k (eqF d 0) b) (xd n gP k false b)
def QW (n:Nat) (gP:az) (a0:Int) (a1:Int) (h:Heap) (k:ab):aa:=II n gP k a0 a1 h
theorem amG:DZ cf Cf n ab2 hT k0=acp cf k0:=by funext s; kernel_rfl
theorem anP:lo lM (DZ (Fw gP) Cf n ab2 hT k0)=cmp lM (QW n gP) (kap hT k0):=(congrArg (lo lM) (amG n (Fw gP) k0)).trans (show _=II n gP (kap hT k0) by obtain ⟨J0,u0⟩:=exi (CO (Fw gP) k0); delta acp II; rw [← aiL,u0]; kernel_rfl)
end
def d7 (n:Nat):bI:=QW n (b9 n)
abbrev ai:=AV→Heap→(Bool→Heap→aa)→aa
abbrev CW (g:ai):Wr:=wrT ir iw g
def kM (i5:bI) (gP:az):bg:=lp [(aaV,acD i5),(wu,wl gP)]
section
variable (i5:bI) (gP:az) (k0:Q0)
def x4:Q1:=(hG cf mD Ns (jk iw k0))
def tv (n:Nat) (i5:bI) (gP:az) (k:ab) (v44:Bool) (h:Heap):aa:=k v44 h
theorem adO:lo qY (x4 (kM i5 gP) k0)=tv n i5 gP (kap iw k0):=by delta x4 tv; kernel_rfl
def yR:Q1:=(hG cf mD OO (kJ qY (x4 cf k0)))
def ta (n:Nat) (i5:bI) (gP:az) (k:ab) (v1:AV) (v38:Bool) (h:Heap):aa:=ifB v38 (faK 16 v1 fun a=>jd h a 1 false fun b=>jA b fun c=>gP c 1 8 h fun d e=>tv n i5 gP k d e) (tv n i5 gP k false h)
theorem aej:lo ET (yR (kM i5 gP) k0)=ta n i5 gP (kap iw k0):=by obtain ⟨J6,u6⟩:=exi (x4 (kM i5 gP) k0); delta yR ta; rw [← adO,u6]; kernel_rfl
def yE:Q1:=(hG cf mD ON (kJ ET (yR cf k0)))
def um (n:Nat) (i5:bI) (gP:az) (k:ab) (v1:AV) (v33:Bool) (h:Heap):aa:=ifB v33 (faK 5 v1 fun a=>ldI .i64 h a fun b=>gP b 1 64 h fun c d=>ta n i5 gP k v1 c d) (ta n i5 gP k v1 false h)
theorem ads:lo EA (yE (kM i5 gP) k0)=um n i5 gP (kap iw k0):=by obtain ⟨J5,u5⟩:=exi (yR (kM i5 gP) k0); delta yE um; rw [← aej,u5]; kernel_rfl
def xZ:Q1:=(hG cf mD Pw (kJ EA (yE cf k0)))
def un (n:Nat) (i5:bI) (gP:az) (k:ab) (v1:AV) (v28:Bool) (h:Heap):aa:=ifB v28 (faK 4 v1 fun a=>ldI .i64 h a fun b=>gP b 1 16 h fun c d=>um n i5 gP k v1 c d) (um n i5 gP k v1 false h)
theorem aeh:lo Ee (xZ (kM i5 gP) k0)=un n i5 gP (kap iw k0):=by obtain ⟨J4,u4⟩:=exi (yE (kM i5 gP) k0); delta xZ un; rw [← ads,u4]; kernel_rfl
def y0:Q1:=(hG cf mD Nu (kJ Ee (xZ cf k0)))
def tf (n:Nat) (i5:bI) (gP:az) (k:ab) (v1:AV) (v23:Bool) (h:Heap):aa:=ifB v23 (faK 2 v1 fun a=>ldI .i64 h a fun b=>gP b 1 16 h fun c d=>un n i5 gP k v1 c d) (un n i5 gP k v1 false h)
theorem aec:lo EG (y0 (kM i5 gP) k0)=tf n i5 gP (kap iw k0):=by obtain ⟨J3,u3⟩:=exi (xZ (kM i5 gP) k0); delta y0 tf; rw [← aeh,u3]; kernel_rfl
def yq:Q1:=(hG cf mD N9 (kJ EG (y0 cf k0)))
def tA (n:Nat) (i5:bI) (gP:az) (k:ab) (v1:AV) (v18:Bool) (h:Heap):aa:=ifB v18 (faK 3 v1 fun a=>ldI .i64 h a fun b=>i5 b 4096 h fun c d=>tf n i5 gP k v1 c d) (tf n i5 gP k v1 false h)
theorem acV:lo Eu (yq (kM i5 gP) k0)=tA n i5 gP (kap iw k0):=by obtain ⟨J2,u2⟩:=exi (y0 (kM i5 gP) k0); delta yq tA; rw [← aec,u2]; kernel_rfl
def zb:Q1:=(hG cf mD Nj (kJ Eu (yq cf k0)))
def tG (n:Nat) (i5:bI) (gP:az) (k:ab) (v1:AV) (v10:Bool) (h:Heap):aa:=ifB v10 (faK 0 v1 fun a=>ldI .i64 h a fun b=>jK .i64 1 h v1 fun c d=>remK .i64 b d fun e=>tA n i5 gP k v1 (eqF e 0) h) (tA n i5 gP k v1 false h)
theorem adA:lo Ek (zb (kM i5 gP) k0)=tG n i5 gP (kap iw k0):=by obtain ⟨J1,u1⟩:=exi (yq (kM i5 gP) k0); delta zb tG; rw [← acV,u1]; kernel_rfl
def WT:Q1:=(hG cf mD nR (hG cf mD NM (kJ Ek (zb cf k0))))
def Cn (n:Nat) (i5:bI) (gP:az) (k:ab) (a0:AV) (h:Heap):aa:=pZ h a0 fun a b=>jK .i64 1 b (.ptr a 0) fun c d=>i5 d 16 b fun e f=>ifB e (faK 0 (.ptr a 0) fun g=>ldI .i64 f g fun i=>gP i 1 4096 f fun l m=>tG n i5 gP k (.ptr a 0) l m) (tG n i5 gP k (.ptr a 0) false f)
def JS (n:Nat) (i5:bI) (gP:az) (a0:AV) (h:Heap) (k:ab):aa:=Cn n i5 gP k a0 h
theorem aiS:DZ cf mD n Ve iw k0=WT cf k0:=by funext s; kernel_rfl
theorem ajs:lo ir (DZ (kM i5 gP) mD n Ve iw k0)=cmp ir (JS n i5 gP) (kap iw k0):=(congrArg (lo ir) (aiS n (kM i5 gP) k0)).trans (show _=Cn n i5 gP (kap iw k0) by obtain ⟨J0,u0⟩:=exi (zb (kM i5 gP) k0); delta WT Cn; rw [← adA,u0]; kernel_rfl)
end
def bW (n:Nat):ai:=JS n (d7 n) (b9 n)
abbrev ah:=AV→Heap→(Int→Heap→aa)→aa
abbrev am:=Int→Heap→aa
abbrev Cp (g:ah):Wr:=wrT ir iL g
def lj:bg:=lp []
abbrev bM:Type:=AV→Int→Int→Heap→aa
abbrev eN:Type:=AV→Int→AV→Int→Int→Heap→aa
section
variable (k0:Q0)
def Cv:Q1:=(hG cf lf nr (jk iL k0))
def Cm (n:Nat) (k:am) (h:Heap):aa:=k 0 h
theorem ajo:lo iJ (Cv lj k0)=Cm n (kap iL k0):=by delta Cv Cm; kernel_rfl
def Cx (J1:Q1):Q1:=(cJ p46 (hG cf lf Dh (jk iL k0)) (hG cf lf Xd (kJ pY J1)))
def xy (n:Nat) (k:am) (j1:bM) (v35:AV) (v36:Int) (v37:Int) (v46:Bool) (h:Heap):aa:=ifB v46 (k 100 h) (kY .i64 v37 1 fun a=>j1 v35 v36 a h)
theorem aih (J1:Q1):lo JP (Cx lj k0 J1)=xy n (kap iL k0) (lo pY J1):=by delta Cx xy; kernel_rfl
def IS (J1:Q1):Q1:=(hG cf lf Wm (cJ p38 (hG cf lf Vf (hG cf lf VY (kJ JP (Cx cf k0 J1)))) (kJ iJ (Cv cf k0))))
def xO (n:Nat) (k:am) (j1:bM) (v35:AV) (v36:Int) (v37:Int) (h:Heap):aa:=ifB (ltF v37 v36) (Ma .u64 1 h v35 v37 fun a b=>ifB (ltF b 1) (xy n k j1 v35 v36 v37 true h) (xy n k j1 v35 v36 v37 (ltF 65536 b) h)) (Cm n k h)
def Kb:Nat→Q1:=lpS (IS cf k0)
def Dp (n:Nat) (k:am):Nat→bM:=lpF pY (xO n k)
theorem aiI (m:Nat):lo pY (Kb lj k0 m)=Dp n (kap iL k0) m:=mG (fun J1=>(by obtain ⟨J0,u0⟩:=exi (Cv lj k0); obtain ⟨J2,u2⟩:=exi (Cx lj k0 J1); delta IS xO; rw [← ajo,u0, ← aih,u2]; kernel_rfl:lo pY (IS lj k0 J1)=xO n (kap iL k0) (lo pY J1))) m
def Ce:Q1:=(hG cf lf WR (kJ pY (Kb cf k0 n)))
def xk (n:Nat) (k:am) (v1:AV) (h:Heap):aa:=jK .u64 3 h v1 fun a b=>jK .u64 4 h v1 fun c d=>jK .u64 5 h v1 fun e f=>mI h 3 [(.int .u64 0),(.int .u64 0),(.int .u64 0)] [(0,1,(.int .u64 b)),(1,1,(.int .u64 d)),(2,1,(.int .u64 f))] fun g i=>jA g fun l=>Dp n k n g l 0 i
theorem ajI:lo Jk (Ce n lj k0)=xk n (kap iL k0):=by obtain ⟨J1,u1⟩:=exi (Kb lj k0 n); delta Ce xk; rw [← aiI,u1]; kernel_rfl
def C9 (J4:Q1):Q1:=(cJ p26 (hG cf lf Dh (jk iL k0)) (hG cf lf Wt (hG cf lf Wb (kJ pN J4))))
def wT (n:Nat) (k:am) (j4:eN) (v1:AV) (v5:Int) (v14:AV) (v15:Int) (v16:Int) (v26:Bool) (h:Heap):aa:=ifB v26 (k 100 h) (kY .i64 v16 1 fun a=>j4 v1 v5 v14 v15 a h)
theorem ajr (J4:Q1):lo Ja (C9 lj k0 J4)=wT n (kap iL k0) (lo pN J4):=by delta C9 wT; kernel_rfl
def JJ (J4:Q1):Q1:=(hG cf lf RI (cJ p17 (hG cf lf RS (hG cf lf Tb (kJ Ja (C9 cf k0 J4)))) (kJ Jk (Ce n cf k0))))
def xf (n:Nat) (k:am) (j4:eN) (v1:AV) (v3:Int) (v14:AV) (v15:Int) (v16:Int) (h:Heap):aa:=ifB (ltF v16 v15) (Ma .u64 1 h v14 v16 fun a b=>ifB (ltF b v3) (wT n k j4 v1 b v14 v15 v16 true h) (wT n k j4 v1 b v14 v15 v16 (ltF 65536 b) h)) (xk n k v1 h)
def Je:Nat→Q1:=lpS (JJ n cf k0)
def Dj (n:Nat) (k:am):Nat→eN:=lpF pN (xf n k)
theorem ajt (m:Nat):lo pN (Je n lj k0 m)=Dj n (kap iL k0) m:=mG (fun J4=>(by obtain ⟨J3,u3⟩:=exi (Ce n lj k0); obtain ⟨J5,u5⟩:=exi (C9 lj k0 J4); delta JJ xf; rw [← ajI,u3, ← ajr,u5]; kernel_rfl:lo pN (JJ n lj k0 J4)=xf n (kap iL k0) (lo pN J4))) m
def abb:Q1:=(hG cf lf oH (hG cf lf Re (hG cf lf SD (kJ pN (Je n cf k0 n)))))
def Iq (n:Nat) (k:am) (a0:AV) (h:Heap):aa:=pZ h a0 fun a b=>jK .u64 0 b (.ptr a 0) fun c d=>jK .u64 1 b (.ptr a 0) fun e f=>jK .u64 2 b (.ptr a 0) fun g i=>mI b 3 [(.int .u64 0),(.int .u64 0),(.int .u64 0)] [(0,1,(.int .u64 d)),(1,1,(.int .u64 f)),(2,1,(.int .u64 i))] fun l m=>jA l fun o=>Dj n k n (.ptr a 0) 1 l o 0 m
def QZ (n:Nat) (a0:AV) (h:Heap) (k:am):aa:=Iq n k a0 h
theorem amB:DZ cf lf n aa5 iL k0=abb n cf k0:=by funext s; kernel_rfl
theorem amU:lo ir (DZ lj lf n aa5 iL k0)=cmp ir (QZ n) (kap iL k0):=(congrArg (lo ir) (amB n lj k0)).trans (show _=Iq n (kap iL k0) by obtain ⟨J4,u4⟩:=exi (Je n lj k0 n); delta abb Iq; rw [← ajt,u4]; kernel_rfl)
end
def cb (n:Nat):ah:=QZ n
abbrev ae:=AV→Int→Heap→(Int→Heap→aa)→aa
abbrev zi (g:ae):Wr:=wrT gW gS g
def la:bg:=lp []
abbrev dA:Type:=AV→Int→Int→Int→Heap→aa
section
variable (k0:Q0)
def nU:Q1:=(hG cf kh lC (jk gS k0))
def nV (n:Nat) (k:am) (h:Heap):aa:=k (-1) h
theorem IJ:lo iJ (nU la k0)=nV n (kap gS k0):=by delta nU nV; kernel_rfl
def qH (J1:Q1):Q1:=(hG cf kh kE (cJ p9 (hG cf kh lD (hG cf kh wO (cJ p16 (hG cf kh lF (jk gS k0)) (hG cf kh lE (kJ kT J1))))) (kJ iJ (nU cf k0))))
def mw (n:Nat) (k:am) (j1:dA) (v0:AV) (v1:Int) (v7:Int) (v8:Int) (h:Heap):aa:=ifB (ltF v8 v7) (Ma .i64 1 h v0 v8 fun a b=>ifB (eqF v1 b) (k v8 h) (kY .i64 v8 1 fun c=>j1 v0 v1 v7 c h)) (nV n k h)
def qz:Nat→Q1:=lpS (qH cf k0)
def nW (n:Nat) (k:am):Nat→dA:=lpF kT (mw n k)
theorem H5 (m:Nat):lo kT (qz la k0 m)=nW n (kap gS k0) m:=mG (fun J1=>(by obtain ⟨J0,u0⟩:=exi (nU la k0); delta qH mw; rw [← IJ,u0]; kernel_rfl:lo kT (qH la k0 J1)=mw n (kap gS k0) (lo kT J1))) m
def zd:Q1:=(hG cf kh jo (hG cf kh kF (kJ kT (qz cf k0 n))))
def oR (n:Nat) (k:am) (a0:AV) (a1:Int) (h:Heap):aa:=jA a0 fun a=>nW n k n a0 a1 a 0 h
def rB (n:Nat) (a0:AV) (a1:Int) (h:Heap) (k:am):aa:=oR n k a0 a1 h
theorem Kw:DZ cf kh n zg gS k0=zd n cf k0:=by funext s; kernel_rfl
theorem Kx:lo gW (DZ la kh n zg gS k0)=cmp gW (rB n) (kap gS k0):=(congrArg (lo gW) (Kw n la k0)).trans (show _=oR n (kap gS k0) by obtain ⟨J1,u1⟩:=exi (qz la k0 n); delta zd oR; rw [← H5,u1]; kernel_rfl)
end
def cz (n:Nat):ae:=rB n
abbrev ad:=AV→Int→Heap→(Bool→Heap→aa)→aa
abbrev nC (g:ad):Wr:=wrT gW hT g
def ur (kg:ae):bg:=lp [(zm,zi kg)]
section
variable (kg:ae) (k0:Q0)
def vB:Q1:=(hG cf nE i7 (hG cf nE sT (jk hT k0)))
def nG (n:Nat) (kg:ae) (k:ab) (a0:AV) (a1:Int) (h:Heap):aa:=kg a0 a1 h fun a b=>k (jJ (ltF a 0)) b
def qy (n:Nat) (kg:ae) (a0:AV) (a1:Int) (h:Heap) (k:ab):aa:=nG n kg k a0 a1 h
theorem GZ:DZ cf nE n vS hT k0=vB cf k0:=by funext s; kernel_rfl
theorem GN:lo gW (DZ (ur kg) nE n vS hT k0)=cmp gW (qy n kg) (kap hT k0):=(congrArg (lo gW) (GZ n (ur kg) k0)).trans (show _=nG n kg (kap hT k0) by delta vB nG; kernel_rfl)
end
def al (n:Nat):ad:=qy n (cz n)
abbrev VC:=Bool→Heap→aa
abbrev V0 (g:ad):Wr:=wrT gW hT g
def kL (gB:ad):bg:=lp [(nA,nC gB)]
abbrev eX:Type:=Int→AV→AV→Int→AV→Int→Int→AV→Int→Int→Heap→aa
abbrev cj:Type:=Int→AV→AV→AV→Int→Int→Heap→aa
section
variable (gB:ad) (k0:Q0)
def x9:Q1:=(hG cf kD OY (jk hT k0))
def yZ (n:Nat) (gB:ad) (k:ab) (v5:AV) (h:Heap):aa:=jA v5 fun a=>k (ltF 0 a) h
theorem acR:lo qS (x9 (kL gB) k0)=yZ n gB (kap hT k0):=by delta x9 yZ; kernel_rfl
def yx (J1:Q1):Q1:=(hG cf kD M1 (kJ kH J1))
def yK (n:Nat) (gB:ad) (k:ab) (j1:cj) (v1:Int) (v2:AV) (v5:AV) (v16:AV) (v17:Int) (v18:Int) (h:Heap):aa:=kY .i64 v18 1 fun a=>j1 v1 v2 v5 v16 v17 a h
theorem aep (J1:Q1):lo kH (yx (kL gB) J1)=yK n gB (kap hT k0) (lo kH J1):=by delta yx yK; kernel_rfl
def E3 (J1:Q1) (J3:Q1):Q1:=(hG cf kD Pd (cJ p50 (hG cf kD Pt (hG cf kD MR (cJ p56 (hG cf kD i7 (jk hT k0)) (hG cf kD O2 (kJ pd J3))))) (kJ kH (yx cf J1))))
def ui (n:Nat) (gB:ad) (k:ab) (j1:cj) (j3:eX) (v1:Int) (v2:AV) (v5:AV) (v7:Int) (v16:AV) (v17:Int) (v18:Int) (v47:AV) (v48:Int) (v49:Int) (h:Heap):aa:=ifB (ltF v49 v48) (eld 8 h v47 v49 8 true fun a b=>lG h (.cells [.nilslice,(.int .i64 0),(.int .i64 0),(.int .i64 0),(.int .i64 0),(.int .i64 0),(.int .i64 0),(.int .i64 0)] true 0) fun c d=>jh d (.ptr c 0) 8 b fun e=>fld 0 e (.ptr c 0) 1 false fun f g=>gB g v7 e fun i l=>ifB i (k false l) (kY .i64 v49 1 fun m=>j3 v1 v2 v5 v7 v16 v17 v18 v47 v48 m l)) (yK n gB k j1 v1 v2 v5 v16 v17 v18 h)
def EE (J1:Q1):Nat→Q1:=lpS (E3 cf k0 J1)
def sI (n:Nat) (gB:ad) (k:ab) (j1:cj):Nat→eX:=lpF pd (ui n gB k j1)
theorem acX (J1:Q1) (m:Nat):lo pd (EE (kL gB) k0 J1 m)=sI n gB (kap hT k0) (lo kH J1) m:=mG (fun J3=>(by obtain ⟨J2,u2⟩:=exi (yx (kL gB) J1); delta E3 ui; rw [← aep,u2]; kernel_rfl:lo pd (E3 (kL gB) k0 J1 J3)=ui n gB (kap hT k0) (lo kH J1) (lo pd J3))) m
def yV (J1:Q1):Q1:=(cJ p43 (hG cf kD i7 (jk hT k0)) (hG cf kD MJ (kJ pd (EE cf k0 J1 n))))
def q0 (n:Nat) (gB:ad) (k:ab) (j1:cj) (v1:Int) (v2:AV) (v5:AV) (v7:Int) (v16:AV) (v17:Int) (v18:Int) (v43:Bool) (h:Heap):aa:=ifB v43 (k false h) (fld 16 h v2 1 false fun a b=>slK (.sl 8) b none (some (.int .i64 v1)) none fun c=>jA c fun d=>sI n gB k j1 n v1 v2 v5 v7 v16 v17 v18 c d 0 h)
theorem adq (J1:Q1):lo E7 (yV n (kL gB) k0 J1)=q0 n gB (kap hT k0) (lo kH J1):=by obtain ⟨J3,u3⟩:=exi (EE (kL gB) k0 J1 n); delta yV q0; rw [← acX,u3]; kernel_rfl
def yQ (J1:Q1):Q1:=(hG cf kD Lx (kJ E7 (yV n cf k0 J1)))
def th (n:Nat) (gB:ad) (k:ab) (j1:cj) (v1:Int) (v2:AV) (v5:AV) (v6:Int) (v7:Int) (v16:AV) (v17:Int) (v18:Int) (v30:Bool) (h:Heap):aa:=ifB v30 (q0 n gB k j1 v1 v2 v5 v7 v16 v17 v18 true h) (ifB (ltF 0 v6) (Ky .i64 v6 1 fun a=>Ma .i64 1 h v5 a fun b c=>q0 n gB k j1 v1 v2 v5 v7 v16 v17 v18 (jJ (ltF c v7)) h) (q0 n gB k j1 v1 v2 v5 v7 v16 v17 v18 false h))
theorem aev (J1:Q1):lo EK (yQ n (kL gB) k0 J1)=th n gB (kap hT k0) (lo kH J1):=by obtain ⟨J5,u5⟩:=exi (yV n (kL gB) k0 J1); delta yQ th; rw [← adq,u5]; kernel_rfl
def EB (J1:Q1):Q1:=(hG cf kD KE (cJ p19 (hG cf kD Lc (hG cf kD OM (kJ EK (yQ n cf k0 J1)))) (kJ qS (x9 cf k0))))
def ug (n:Nat) (gB:ad) (k:ab) (j1:cj) (v1:Int) (v2:AV) (v5:AV) (v16:AV) (v17:Int) (v18:Int) (h:Heap):aa:=ifB (ltF v18 v17) (Ma .i64 1 h v16 v18 fun a b=>ifB (ltF b 0) (th n gB k j1 v1 v2 v5 v18 b v16 v17 v18 true h) (jK .i64 1 h v2 fun c d=>th n gB k j1 v1 v2 v5 v18 b v16 v17 v18 (jJ (ltF b d)) h)) (yZ n gB k v5 h)
def EZ:Nat→Q1:=lpS (EB n cf k0)
def qX (n:Nat) (gB:ad) (k:ab):Nat→cj:=lpF kH (ug n gB k)
theorem adQ (m:Nat):lo kH (EZ n (kL gB) k0 m)=qX n gB (kap hT k0) m:=mG (fun J1=>(by obtain ⟨J0,u0⟩:=exi (x9 (kL gB) k0); obtain ⟨J4,u4⟩:=exi (yQ n (kL gB) k0 J1); delta EB ug; rw [← acR,u0, ← aev,u4]; kernel_rfl:lo kH (EB n (kL gB) k0 J1)=ug n gB (kap hT k0) (lo kH J1))) m
def Vq:Q1:=(hG cf kD qn (hG cf kD Lf (hG cf kD Lj (kJ kH (EZ n cf k0 n)))))
def B6 (n:Nat) (gB:ad) (k:ab) (a0:AV) (a1:Int) (h:Heap):aa:=pZ h a0 fun a b=>fld 16 b (.ptr a 0) 1 false fun c d=>Bm 8 d a1 fun e=>fld 0 b e 1 false fun f g=>jA g fun i=>qX n gB k n a1 (.ptr a 0) g g i 0 b
def Ku (n:Nat) (gB:ad) (a0:AV) (a1:Int) (h:Heap) (k:ab):aa:=B6 n gB k a0 a1 h
theorem ahG:DZ cf kD n Vm hT k0=Vq n cf k0:=by funext s; kernel_rfl
theorem aij:lo gW (DZ (kL gB) kD n Vm hT k0)=cmp gW (Ku n gB) (kap hT k0):=(congrArg (lo gW) (ahG n (kL gB) k0)).trans (show _=B6 n gB (kap hT k0) by obtain ⟨J1,u1⟩:=exi (EZ n (kL gB) k0 n); delta Vq B6; rw [← adQ,u1]; kernel_rfl)
end
def dG (n:Nat):ad:=Ku n (al n)
abbrev Vl (g:ah):Wr:=wrT ir iL g
def aar:bg:=lp []
section
variable (k0:Q0)
def afP:Q1:=(hG cf uI oH (hG cf uI YS (jk iL k0)))
def Li (n:Nat) (k:am) (a0:AV) (h:Heap):aa:=pZ h a0 fun a b=>jK .i64 0 b (.ptr a 0) fun c d=>jK .i64 1 b (.ptr a 0) fun e f=>quoK .i64 d f fun g=>k g b
def Wg (n:Nat) (a0:AV) (h:Heap) (k:am):aa:=Li n k a0 h
theorem apr:DZ cf uI n afk iL k0=afP cf k0:=by funext s; kernel_rfl
theorem aoA:lo ir (DZ aar uI n afk iL k0)=cmp ir (Wg n) (kap iL k0):=(congrArg (lo ir) (apr n aar k0)).trans (show _=Li n (kap iL k0) by delta afP Li; kernel_rfl)
end
def dp (n:Nat):ah:=Wg n
abbrev QY (g:ae):Wr:=wrT gW gS g
def Ye (iG:ah):bg:=lp [(U0,Vl iG)]
section
variable (iG:ah) (k0:Q0)
def abU:Q1:=(hG cf IL tH (hG cf IL UT (jk gS k0)))
def IC (n:Nat) (iG:ah) (k:am) (a0:AV) (a1:Int) (h:Heap):aa:=pZ h a0 fun a b=>fld 16 b (.ptr a 0) 1 false fun c d=>Bm 8 d a1 fun e=>fld 0 b e 1 false fun f g=>jA g fun i=>jd b (.ptr a 0) 17 true fun l=>iG l (b.shut true) fun m o=>Dx .i64 i m fun p=>k p (o.back b.ro)
def Qs (n:Nat) (iG:ah) (a0:AV) (a1:Int) (h:Heap) (k:am):aa:=IC n iG k a0 a1 h
theorem amt:DZ cf IL n aaH gS k0=abU cf k0:=by funext s; kernel_rfl
theorem ani:lo gW (DZ (Ye iG) IL n aaH gS k0)=cmp gW (Qs n iG) (kap gS k0):=(congrArg (lo gW) (amt n (Ye iG) k0)).trans (show _=IC n iG (kap gS k0) by delta abU IC; kernel_rfl)
end
def db (n:Nat):ae:=Qs n (dp n)
abbrev ald:=Bool→Heap→aa
abbrev ZP (g:ad):Wr:=wrT gW hT g
def jY (iA:ae) (gO:ai) (iG:ah) (gP:az):bg:=lp [(QL,QY iA),(CN,CW gO),(U0,Vl iG),(wu,wl gP)]
abbrev da:Type:=Int→AV→AV→Int→AV→Int→Int→Heap→aa
abbrev RB:Type:=Int→AV→AV→AV→Int→Heap→aa
section
variable (iA:ae) (gO:ai) (iG:ah) (gP:az) (k0:Q0)
def AN:Q1:=(hG cf jF Rw (jk hT k0))
def vk (n:Nat) (iA:ae) (gO:ai) (iG:ah) (gP:az) (k:ab) (v104:Bool) (h:Heap):aa:=k v104 h
theorem agJ:lo Hg (AN (jY iA gO iG gP) k0)=vk n iA gO iG gP (kap hT k0):=by delta AN vk; kernel_rfl
def AB:Q1:=(cJ p72 (hG cf jF i7 (jk hT k0)) (hG cf jF RE (cJ p75 (hG cf jF oJ (jk hT k0)) (hG cf jF Tw (hG cf jF TM (kJ Hg (AN cf k0)))))))
def uV (n:Nat) (iA:ae) (gO:ai) (iG:ah) (gP:az) (k:ab) (v1:Int) (v2:AV) (v5:AV) (v72:Bool) (h:Heap):aa:=ifB v72 (k false h) (jd h v2 17 true fun a=>gO a h fun b c=>ifB (jJ b) (k true c) (jK .i64 1 c v5 fun d e=>shlK .i64 1 e fun f=>jd c v2 17 true fun g=>iG g c fun i l=>ifB (jJ (ltF i f)) (jK .i64 2 l v5 fun m o=>kY .i64 f o fun p=>jK .i64 3 l v5 fun q r=>kY .i64 p r fun s=>jK .i64 4 l v5 fun t u=>kY .i64 s u fun w=>jK .i64 5 l v5 fun x y=>kY .i64 w y fun z=>jK .i64 6 l v5 fun A B=>kY .i64 z B fun C=>jd l v2 17 true fun E=>iA E v1 (l.shut true) fun F G=>vk n iA gO iG gP k (jJ (ltF F C)) (G.back l.ro)) (vk n iA gO iG gP k false l)))
theorem ahc:lo GC (AB (jY iA gO iG gP) k0)=uV n iA gO iG gP (kap hT k0):=by obtain ⟨J0,u0⟩:=exi (AN (jY iA gO iG gP) k0); delta AB uV; rw [← agJ,u0]; kernel_rfl
def AA:Q1:=(hG cf jF Sl (kJ GC (AB cf k0)))
def vf (n:Nat) (iA:ae) (gO:ai) (iG:ah) (gP:az) (k:ab) (v1:Int) (v2:AV) (v5:AV) (v8:Int) (h:Heap):aa:=jK .i64 7 h v5 fun a b=>gP b 1 1024 h fun c d=>ifB (jJ c) (uV n iA gO iG gP k v1 v2 v5 true d) (uV n iA gO iG gP k v1 v2 v5 (ltF 1024 v8) d)
theorem agH:lo HP (AA (jY iA gO iG gP) k0)=vf n iA gO iG gP (kap hT k0):=by obtain ⟨J1,u1⟩:=exi (AB (jY iA gO iG gP) k0); delta AA vf; rw [← ahc,u1]; kernel_rfl
def vx (J3:Q1):Q1:=(hG cf jF Tl (kJ lR J3))
def vv (n:Nat) (iA:ae) (gO:ai) (iG:ah) (gP:az) (k:ab) (j3:da) (v1:Int) (v2:AV) (v5:AV) (v8:Int) (v51:AV) (v52:Int) (v53:Int) (h:Heap):aa:=kY .i64 v53 1 fun a=>j3 v1 v2 v5 v8 v51 v52 a h
theorem af0 (J3:Q1):lo lR (vx (jY iA gO iG gP) J3)=vv n iA gO iG gP (kap hT k0) (lo lR J3):=by delta vx vv; kernel_rfl
def HG (J3:Q1):Q1:=(hG cf jF Nt (cJ p54 (hG cf jF OH (hG cf jF Q2 (cJ p59 (hG cf jF SZ (kJ lR (vx cf J3))) (kJ lR (vx cf J3))))) (kJ HP (AA cf k0))))
def vI (n:Nat) (iA:ae) (gO:ai) (iG:ah) (gP:az) (k:ab) (j3:da) (v1:Int) (v2:AV) (v5:AV) (v8:Int) (v51:AV) (v52:Int) (v53:Int) (h:Heap):aa:=ifB (ltF v53 v52) (eld 8 h v51 v53 8 true fun a b=>lG h (.cells [.nilslice,(.int .i64 0),(.int .i64 0),(.int .i64 0),(.int .i64 0),(.int .i64 0),(.int .i64 0),(.int .i64 0)] true 0) fun c d=>jh d (.ptr c 0) 8 b fun e=>jK .i64 7 e (.ptr c 0) fun f g=>gP g 1 1024 e fun i l=>ifB i (jK .i64 7 l (.ptr c 0) fun m o=>kY .i64 v8 o fun p=>vv n iA gO iG gP k j3 v1 v2 v5 p v51 v52 v53 l) (vv n iA gO iG gP k j3 v1 v2 v5 v8 v51 v52 v53 l)) (vf n iA gO iG gP k v1 v2 v5 v8 h)
def GL:Nat→Q1:=lpS (HG cf k0)
def vL (n:Nat) (iA:ae) (gO:ai) (iG:ah) (gP:az) (k:ab):Nat→da:=lpF lR (vI n iA gO iG gP k)
theorem ags (k:ab) (m:Nat):vL n iA gO iG gP k (m+1)=vI n iA gO iG gP k (vL n iA gO iG gP k m):=rfl
theorem agc (m:Nat):lo lR (GL (jY iA gO iG gP) k0 m)=vL n iA gO iG gP (kap hT k0) m:=mG (fun J3=>(by obtain ⟨J2,u2⟩:=exi (AA (jY iA gO iG gP) k0); obtain ⟨J4,u4⟩:=exi (vx (jY iA gO iG gP) J3); delta HG vI; rw [← agH,u2, ← af0,u4]; kernel_rfl:lo lR (HG (jY iA gO iG gP) k0 J3)=vI n iA gO iG gP (kap hT k0) (lo lR J3))) m
def Ba:Q1:=(hG cf jF nP (hG cf jF NZ (kJ lR (GL cf k0 n))))
def A8 (n:Nat) (iA:ae) (gO:ai) (iG:ah) (gP:az) (k:ab) (v1:Int) (v2:AV) (v5:AV) (h:Heap):aa:=fld 16 h v2 1 false fun a b=>kY .i64 v1 1 fun c=>slK (.sl 8) b none (some (.int .i64 c)) none fun d=>jA d fun e=>vL n iA gO iG gP k n v1 v2 v5 0 d e 0 h
theorem afR:lo He (Ba n (jY iA gO iG gP) k0)=A8 n iA gO iG gP (kap hT k0):=by obtain ⟨J3,u3⟩:=exi (GL (jY iA gO iG gP) k0 n); delta Ba A8; rw [← agc,u3]; kernel_rfl
def GS (J6:Q1):Q1:=(hG cf jF Od (cJ p41 (hG cf jF OZ (hG cf jF Po (cJ p45 (hG cf jF i7 (jk hT k0)) (hG cf jF P8 (kJ qr J6))))) (kJ He (Ba n cf k0))))
def vX (n:Nat) (iA:ae) (gO:ai) (iG:ah) (gP:az) (k:ab) (j6:RB) (v1:Int) (v2:AV) (v5:AV) (v39:AV) (v40:Int) (h:Heap):aa:=ifB (ltF v40 3) (afy 1 3 false v39 v40 fun a=>Gc .i64 a fun b=>gP b 1 4096 h fun c d=>ifB (jJ c) (k false d) (kY .i64 v40 1 fun e=>j6 v1 v2 v5 v39 e d)) (A8 n iA gO iG gP k v1 v2 v5 h)
def GF:Nat→Q1:=lpS (GS n cf k0)
def AX (n:Nat) (iA:ae) (gO:ai) (iG:ah) (gP:az) (k:ab):Nat→RB:=lpF qr (vX n iA gO iG gP k)
theorem agm (k:ab) (m:Nat):AX n iA gO iG gP k (m+1)=vX n iA gO iG gP k (AX n iA gO iG gP k m):=rfl
theorem agO (m:Nat):lo qr (GF n (jY iA gO iG gP) k0 m)=AX n iA gO iG gP (kap hT k0) m:=mG (fun J6=>(by obtain ⟨J5,u5⟩:=exi (Ba n (jY iA gO iG gP) k0); delta GS vX; rw [← afR,u5]; kernel_rfl:lo qr (GS n (jY iA gO iG gP) k0 J6)=vX n iA gO iG gP (kap hT k0) (lo qr J6))) m
def AO:Q1:=(cJ p32 (hG cf jF i7 (jk hT k0)) (hG cf jF NG (kJ qr (GF n cf k0 n))))
def vn (n:Nat) (iA:ae) (gO:ai) (iG:ah) (gP:az) (k:ab) (v1:Int) (v2:AV) (v5:AV) (v32:Bool) (h:Heap):aa:=ifB v32 (k false h) (jK .i64 4 h v5 fun a b=>jK .i64 5 h v5 fun c d=>jK .i64 6 h v5 fun e f=>lh [(.int .i64 0),(.int .i64 0),(.int .i64 0)] [(0,1,(.int .i64 b)),(1,1,(.int .i64 d)),(2,1,(.int .i64 f))] fun g=>AX n iA gO iG gP k n v1 v2 v5 g 0 h)
theorem agk:lo G0 (AO n (jY iA gO iG gP) k0)=vn n iA gO iG gP (kap hT k0):=by obtain ⟨J6,u6⟩:=exi (GF n (jY iA gO iG gP) k0 n); delta AO vn; rw [← agO,u6]; kernel_rfl
def Ap:Q1:=(hG cf jF M4 (kJ G0 (AO n cf k0)))
def wb (n:Nat) (iA:ae) (gO:ai) (iG:ah) (gP:az) (k:ab) (v1:Int) (v2:AV) (v5:AV) (v26:Bool) (h:Heap):aa:=ifB v26 (vn n iA gO iG gP k v1 v2 v5 true h) (faK 3 v5 fun a=>ldI .i64 h a fun b=>gP b 4 4096 h fun c d=>vn n iA gO iG gP k v1 v2 v5 (jJ c) d)
theorem ahh:lo HA (Ap n (jY iA gO iG gP) k0)=wb n iA gO iG gP (kap hT k0):=by obtain ⟨J8,u8⟩:=exi (AO n (jY iA gO iG gP) k0); delta Ap wb; rw [← agk,u8]; kernel_rfl
def Y7:Q1:=(hG cf jF qn (hG cf jF NA (hG cf jF PR (kJ HA (Ap n cf k0)))))
def FM (n:Nat) (iA:ae) (gO:ai) (iG:ah) (gP:az) (k:ab) (a0:AV) (a1:Int) (h:Heap):aa:=pZ h a0 fun a b=>fld 16 b (.ptr a 0) 1 false fun c d=>eld 8 b d a1 8 true fun e f=>lG b (.cells [.nilslice,(.int .i64 0),(.int .i64 0),(.int .i64 0),(.int .i64 0),(.int .i64 0),(.int .i64 0),(.int .i64 0)] true 0) fun g i=>jh i (.ptr g 0) 8 f fun l=>jK .i64 1 l (.ptr g 0) fun m o=>gP o 0 3 l fun p q=>ifB (jJ p) (wb n iA gO iG gP k a1 (.ptr a 0) (.ptr g 0) true q) (faK 2 (.ptr g 0) fun r=>ldI .i64 q r fun s=>gP s 2 4096 q fun t u=>wb n iA gO iG gP k a1 (.ptr a 0) (.ptr g 0) (jJ t) u)
def Ml (n:Nat) (iA:ae) (gO:ai) (iG:ah) (gP:az) (a0:AV) (a1:Int) (h:Heap) (k:ab):aa:=FM n iA gO iG gP k a0 a1 h
theorem ak1:DZ cf jF n ZM hT k0=Y7 n cf k0:=by funext s; kernel_rfl
theorem ak0:lo gW (DZ (jY iA gO iG gP) jF n ZM hT k0)=cmp gW (Ml n iA gO iG gP) (kap hT k0):=(congrArg (lo gW) (ak1 n (jY iA gO iG gP) k0)).trans (show _=FM n iA gO iG gP (kap hT k0) by obtain ⟨J7,u7⟩:=exi (Ap n (jY iA gO iG gP) k0); delta Y7 FM; rw [← ahh,u7]; kernel_rfl)
end
def dN (n:Nat):ad:=Ml n (db n) (bW n) (dp n) (b9 n)
abbrev V5 (g:ae):Wr:=wrT gW gS g
def abE (ns:ad) (oa:ad):bg:=lp [(Xi,V0 ns),(Yb,ZP oa)]
section
variable (ns:ad) (oa:ad) (k0:Q0)
def afb:Q1:=(hG cf uE tH (hG cf uE YX (cJ p5 (hG cf uE Yu (jk gS k0)) (hG cf uE Ys (cJ p10 (hG cf uE Yx (jk gS k0)) (hG cf uE jo (jk gS k0)))))))
def KJ (n:Nat) (ns:ad) (oa:ad) (k:am) (a0:AV) (a1:Int) (h:Heap):aa:=pZ h a0 fun a b=>jd b (.ptr a 0) 17 true fun c=>ns c a1 b fun d e=>ifB (jJ d) (k 110 e) (jd e (.ptr a 0) 17 true fun f=>oa f a1 e fun g i=>ifB (jJ g) (k 111 i) (k 0 i))
def Xc (n:Nat) (ns:ad) (oa:ad) (a0:AV) (a1:Int) (h:Heap) (k:am):aa:=KJ n ns oa k a0 a1 h
theorem aor:DZ cf uE n afl gS k0=afb cf k0:=by funext s; kernel_rfl
theorem aoh:lo gW (DZ (abE ns oa) uE n afl gS k0)=cmp gW (Xc n ns oa) (kap gS k0):=(congrArg (lo gW) (aor n (abE ns oa) k0)).trans (show _=KJ n ns oa (kap gS k0) by delta afb KJ; kernel_rfl)
end
def cP (n:Nat):ae:=Xc n (dG n) (dN n)
abbrev MH (g:az):Wr:=wrT mL iv g
def C7:bg:=lp []
section
variable (k0:Q0)
def AI:Q1:=(hG cf lA rJ (jk iv k0))
def vh (n:Nat) (k:ab) (v14:Bool) (h:Heap):aa:=k v14 h
theorem agt:lo lQ (AI C7 k0)=vh n (kap iv k0):=by delta AI vh; kernel_rfl
def YW:Q1:=(hG cf lA jg (hG cf lA rR (kJ lQ (AI cf k0))))
def F5 (n:Nat) (k:ab) (a0:Int) (a1:Int) (a2:Int) (h:Heap):aa:=ifB (jJ (ltF a0 a1)) (vh n k (jJ (ltF a2 a0)) h) (vh n k false h)
def Mx (n:Nat) (a0:Int) (a1:Int) (a2:Int) (h:Heap) (k:ab):aa:=F5 n k a0 a1 a2 h
theorem akV:DZ cf lA n Zc iv k0=YW cf k0:=by funext s; kernel_rfl
theorem akO:lo mL (DZ C7 lA n Zc iv k0)=cmp mL (Mx n) (kap iv k0):=(congrArg (lo mL) (akV n C7 k0)).trans (show _=F5 n (kap iv k0) by obtain ⟨J0,u0⟩:=exi (AI C7 k0); delta YW F5; rw [← agt,u0]; kernel_rfl)
end
def cL (n:Nat):az:=Mx n
abbrev bS:=AV→Int→Int→Heap→(Int→Int→Heap→aa)→aa
abbrev aU:=Int→Int→Heap→aa
abbrev YQ (g:bS):Wr:=wrT FT pA g
def Cy (gV:ah) (iD:az):bg:=lp [(Dm,Cp gV),(L4,MH iD)]
section
variable (gV:ah) (iD:az) (k0:Q0)
def Bc:Q1:=(cJ p21 (hG cf pE Ra (jk pA k0)) (hG cf pE Rz (jk pA k0)))
def vu (n:Nat) (gV:ah) (iD:az) (k:aU) (v1:Int) (v2:Int) (v3:AV) (v21:Bool) (h:Heap):aa:=ifB v21 (k 0 2 h) (kY .i64 v1 v2 fun a=>uB .u64 a fun b=>jK .u64 4 h v3 fun c d=>Dx .u64 b d fun e=>k e 0 h)
theorem ag5:lo GJ (Bc (Cy gV iD) k0)=vu n gV iD (kap pA k0):=by delta Bc vu; kernel_rfl
def ZS:Q1:=(hG cf pE TS (hG cf pE R0 (hG cf pE Tq (cJ p12 (hG cf pE Rx (jk pA k0)) (hG cf pE SK (kJ GJ (Bc cf k0)))))))
def FB (n:Nat) (gV:ah) (iD:az) (k:aU) (a0:AV) (a1:Int) (a2:Int) (h:Heap):aa:=pZ h a0 fun a b=>jd b (.ptr a 0) 6 true fun c=>gV c b fun d e=>ifB (jJ (eqF d 0)) (k 0 d e) (iD a1 0 65536 e fun f g=>ifB (jJ f) (vu n gV iD k a1 a2 (.ptr a 0) true g) (iD a2 0 64 g fun i l=>vu n gV iD k a1 a2 (.ptr a 0) (jJ i) l))
def MG (n:Nat) (gV:ah) (iD:az) (a0:AV) (a1:Int) (a2:Int) (h:Heap) (k:aU):aa:=FB n gV iD k a0 a1 a2 h
theorem ak2:DZ cf pE n X6 pA k0=ZS cf k0:=by funext s; kernel_rfl
theorem akS:lo FT (DZ (Cy gV iD) pE n X6 pA k0)=cmp FT (MG n gV iD) (kap pA k0):=(congrArg (lo FT) (ak2 n (Cy gV iD) k0)).trans (show _=FB n gV iD (kap pA k0) by obtain ⟨J0,u0⟩:=exi (Bc (Cy gV iD) k0); delta ZS FB; rw [← ag5,u0]; kernel_rfl)
end
def dj (n:Nat):bS:=MG n (cb n) (cL n)
abbrev aS:=AV→AV→Heap→(Int→Heap→aa)→aa
abbrev aa8 (g:aS):Wr:=wrT iQ gS g
def lB (gV:ah) (iD:az):bg:=lp [(Dm,Cp gV),(L4,MH iD)]
abbrev cF:Type:=AV→Bool→Int→Heap→aa
section
variable (gV:ah) (iD:az) (k0:Q0)
def CP:Q1:=(cJ p44 (hG cf lg Vy (jk gS k0)) (hG cf lg jo (jk gS k0)))
def xg (n:Nat) (gV:ah) (iD:az) (k:am) (v44:Bool) (h:Heap):aa:=ifB v44 (k 2 h) (k 0 h)
theorem ajN:lo qY (CP (lB gV iD) k0)=xg n gV iD (kap gS k0):=by delta CP xg; kernel_rfl
def B5:Q1:=(hG cf lg WJ (kJ qY (CP cf k0)))
def xM (n:Nat) (gV:ah) (iD:az) (k:am) (v3:AV) (v38:Bool) (h:Heap):aa:=ifB v38 (xg n gV iD k true h) (faK 3 v3 fun a=>ldI .i64 h a fun b=>iD b 1 4096 h fun c d=>xg n gV iD k (jJ c) d)
theorem ahP:lo Jb (B5 (lB gV iD) k0)=xM n gV iD (kap gS k0):=by obtain ⟨J2,u2⟩:=exi (CP (lB gV iD) k0); delta B5 xM; rw [← ajN,u2]; kernel_rfl
def CC:Q1:=(hG cf lg Vx (kJ Jb (B5 cf k0)))
def xe (n:Nat) (gV:ah) (iD:az) (k:am) (v3:AV) (v32:Bool) (h:Heap):aa:=ifB v32 (xM n gV iD k v3 true h) (faK 2 v3 fun a=>ldI .i64 h a fun b=>iD b 1 5120 h fun c d=>xM n gV iD k v3 (jJ c) d)
theorem ajm:lo JF (CC (lB gV iD) k0)=xe n gV iD (kap gS k0):=by obtain ⟨J1,u1⟩:=exi (B5 (lB gV iD) k0); delta CC xe; rw [← ahP,u1]; kernel_rfl
def Dt:Q1:=(hG cf lg Vb (kJ JF (CC cf k0)))
def xt (n:Nat) (gV:ah) (iD:az) (k:am) (v3:AV) (v6:Bool) (h:Heap):aa:=ifB (jJ v6) (xe n gV iD k v3 true h) (faK 1 v3 fun a=>ldI .i64 h a fun b=>iD b 2 4096 h fun c d=>xe n gV iD k v3 (jJ c) d)
theorem ahM:lo Jx (Dt (lB gV iD) k0)=xt n gV iD (kap gS k0):=by obtain ⟨J0,u0⟩:=exi (CC (lB gV iD) k0); delta Dt xt; rw [← ajm,u0]; kernel_rfl
def CZ (J4:Q1):Q1:=(hG cf lg Ua (hG cf lg UJ (kJ pR J4)))
def xQ (n:Nat) (gV:ah) (iD:az) (k:am) (j4:cF) (v3:AV) (v13:Int) (v23:Bool) (h:Heap):aa:=kY .i64 v13 1 fun a=>j4 v3 v23 a h
theorem ahN (J4:Q1):lo Kn (CZ (lB gV iD) J4)=xQ n gV iD (kap gS k0) (lo pR J4):=by delta CZ xQ; kernel_rfl
def Kk (J4:Q1):Q1:=(hG cf lg VE (cJ p14 (hG cf lg Ug (hG cf lg V7 (kJ Kn (CZ cf J4)))) (kJ Jx (Dt cf k0))))
def xD (n:Nat) (gV:ah) (iD:az) (k:am) (j4:cF) (v3:AV) (v6:Bool) (v13:Int) (h:Heap):aa:=ifB (ltF v13 4) (ifB v6 (xQ n gV iD k j4 v3 v13 true h) (faK 0 v3 fun a=>ldI .i64 h a fun b=>shlK .i64 1 v13 fun c=>xQ n gV iD k j4 v3 v13 (eqF b c) h)) (xt n gV iD k v3 v6 h)
def Km:Nat→Q1:=lpS (Kk cf k0)
def w9 (n:Nat) (gV:ah) (iD:az) (k:am):Nat→cF:=lpF pR (xD n gV iD k)
theorem ah1 (k:am) (m:Nat):w9 n gV iD k (m+1)=xD n gV iD k (w9 n gV iD k m):=rfl
theorem ait (m:Nat):lo pR (Km (lB gV iD) k0 m)=w9 n gV iD (kap gS k0) m:=mG (fun J4=>(by obtain ⟨J3,u3⟩:=exi (Dt (lB gV iD) k0); obtain ⟨J5,u5⟩:=exi (CZ (lB gV iD) J4); delta Kk xD; rw [← ahM,u3, ← ahN,u5]; kernel_rfl:lo pR (Kk (lB gV iD) k0 J4)=xD n gV iD (kap gS k0) (lo pR J4))) m
def abe:Q1:=(hG cf lg Rf (hG cf lg Ro (hG cf lg S8 (cJ p11 (hG cf lg Rk (jk gS k0)) (hG cf lg jg (hG cf lg AZ (kJ pR (Km cf k0 n))))))))
def Ih (n:Nat) (gV:ah) (iD:az) (k:am) (a0:AV) (a1:AV) (h:Heap):aa:=pZ h a0 fun a b=>pZ b a1 fun c d=>jd d (.ptr a 0) 6 true fun e=>gV e d fun f g=>ifB (jJ (eqF f 0)) (k f g) (w9 n gV iD k n (.ptr c 0) false 0 g)
def QX (n:Nat) (gV:ah) (iD:az) (a0:AV) (a1:AV) (h:Heap) (k:am):aa:=Ih n gV iD k a0 a1 h
theorem amj:DZ cf lg n abc gS k0=abe n cf k0:=by funext s; kernel_rfl
theorem anL:lo iQ (DZ (lB gV iD) lg n abc gS k0)=cmp iQ (QX n gV iD) (kap gS k0):=(congrArg (lo iQ) (amj n (lB gV iD) k0)).trans (show _=Ih n gV iD (kap gS k0) by obtain ⟨J4,u4⟩:=exi (Km (lB gV iD) k0 n); delta abe Ih; rw [← ait,u4]; kernel_rfl)
end
def dr (n:Nat):aS:=QX n (cb n) (cL n)
abbrev bi:=AV→AV→Heap→(AV→Heap→aa)→aa
abbrev aL:=AV→Heap→aa
abbrev Zk (g:bi):Wr:=wrT iQ wg g
def WZ:bg:=lp []
section
variable (k0:Q0)
def YA:Q1:=(hG cf nw Tz (hG cf nw SB (hG cf nw SJ (hG cf nw Rg (hG cf nw TH (hG cf nw Q5 (hG cf nw SO (hG cf nw Rb (hG cf nw RT (jk wg k0))))))))))
def FC (n:Nat) (k:aL) (a0:AV) (a1:AV) (h:Heap):aa:=pZ h a0 fun a b=>pZ b a1 fun c d=>lG d (.cells [.nilfunc,.nilfunc,.nilfunc,.nilfunc,.nilfunc,.nilfunc,.nilfunc,.nilfunc,.nilfunc,.nilfunc,.nilfunc] true 0) fun e f=>jK .u64 2 f (.ptr a 0) fun g i=>lG f (.cells [(.int .u64 0)] true 0) fun l m=>jh m (.ptr l 0) 1 (.int .u64 i) fun o=>jK .u64 4 o (.ptr a 0) fun p q=>ldI .u64 o (.ptr l 0) fun r=>Dx .u64 2 r fun s=>kY .u64 q s fun t=>lG o (.cells [(.int .u64 0)] true 0) fun u w=>jh w (.ptr u 0) 1 (.int .u64 t) fun x=>jK .i64 2 x (.ptr c 0) fun y z=>uB .u64 z fun A=>ldI .u64 x (.ptr u 0) fun B=>Dx .u64 A B fun C=>lG x (.cells [(.int .u64 0)] true 0) fun E F=>jh F (.ptr E 0) 1 (.int .u64 C) fun G=>jK .i64 1 G (.ptr c 0) fun I K=>uB .u64 K fun L=>Dx .u64 2 L fun M=>kY .u64 M 1 fun N=>jK .u64 4 G (.ptr a 0) fun O P=>Dx .u64 N P fun Q=>jK .u64 5 G (.ptr a 0) fun R S=>kY .u64 Q S fun T=>lG G (.cells [(.int .u64 0)] true 0) fun U V=>jh V (.ptr U 0) 1 (.int .u64 T) fun X=>lG X (.cells [.nilfunc] true 0) fun Y Z=>jh Z (.ptr Y 0) 1 (.func 84 [] [(.ptr l 0)]) fun qa=>lG qa (.cells [.nilfunc] true 0) fun qb qc=>jh qc (.ptr qb 0) 1 (.func 85 [] [(.ptr u 0)]) fun qd=>jd qd (.ptr Y 0) 1 false fun qe=>jd qd (.ptr qb 0) 1 false fun qf=>
 lh [.nilfunc,.nilfunc,.nilfunc,.nilfunc,.nilfunc,.nilfunc,.nilfunc,.nilfunc,.nilfunc,.nilfunc,.nilfunc] [(0,1,(.func 86 [] [])),(1,1,(.func 87 [] [(.ptr l 0)])),(2,1,(.func 88 [] [(.ptr E 0),(.ptr l 0)])),(3,1,(.func 89 [] [(.ptr l 0),(.ptr c 0),(.ptr E 0)])),(4,1,qe),(5,1,qf),(6,1,(.func 90 [] [(.ptr a 0),(.ptr l 0)])),(7,1,(.func 91 [] [(.ptr Y 0),(.ptr qb 0)])),(8,1,(.func 92 [] [(.ptr l 0),(.ptr a 0),(.ptr U 0)])),(9,1,(.func 93 [] [(.ptr l 0),(.ptr a 0),(.ptr U 0)])),(10,1,(.func 86 [] []))] fun qg=>jh qd (.ptr e 0) 11 qg fun qi=>jd qi (.ptr e 0) 11 true fun ql=>k ql qi
def ME (n:Nat) (a0:AV) (a1:AV) (h:Heap) (k:aL):aa:=FC n k a0 a1 h
theorem alf:DZ cf nw n Zz wg k0=YA cf k0:=by funext s; kernel_rfl
theorem akk:lo iQ (DZ WZ nw n Zz wg k0)=cmp iQ (ME n) (kap wg k0):=(congrArg (lo iQ) (alf n WZ k0)).trans (show _=FC n (kap wg k0) by delta YA FC; kernel_rfl)
end
def de (n:Nat):bi:=ME n
abbrev Eb (g:ah):Wr:=wrT ir kc g
def KT:bg:=lp []
section
variable (k0:Q0)
def PF:Q1:=(hG cf lw oW (hG cf lw I4 (jk kc k0)))
def yA (n:Nat) (k:am) (a0:AV) (h:Heap):aa:=ldI .u64 h a0 fun a=>Dx .u64 113 a fun b=>k b h
def EY (n:Nat) (a0:AV) (h:Heap) (k:am):aa:=yA n k a0 h
theorem ac1:DZ cf lw n Ok kc k0=PF cf k0:=by funext s; kernel_rfl
theorem ado:lo ir (DZ KT lw n Ok kc k0)=cmp ir (EY n) (kap kc k0):=(congrArg (lo ir) (ac1 n KT k0)).trans (show _=yA n (kap kc k0) by delta PF yA; kernel_rfl)
end
def bV (n:Nat):ah:=EY n
abbrev E2 (g:ah):Wr:=wrT ir kc g
def LS:bg:=lp []
section
variable (k0:Q0)
def OQ:Q1:=(hG cf lw oW (hG cf lw IW (jk kc k0)))
def y9 (n:Nat) (k:am) (a0:AV) (h:Heap):aa:=ldI .u64 h a0 fun a=>Dx .u64 64 a fun b=>k b h
def E4 (n:Nat) (a0:AV) (h:Heap) (k:am):aa:=y9 n k a0 h
theorem acT:DZ cf lw n Pg kc k0=OQ cf k0:=by funext s; kernel_rfl
theorem ael:lo ir (DZ LS lw n Pg kc k0)=cmp ir (E4 n) (kap kc k0):=(congrArg (lo ir) (acT n LS k0)).trans (show _=y9 n (kap kc k0) by delta OQ y9; kernel_rfl)
end
def bU (n:Nat):ah:=E4 n
abbrev bQ:=Heap→(Int→Heap→aa)→aa
abbrev EL (g:bQ):Wr:=wrT iJ qW g
def KW:bg:=lp []
section
variable (k0:Q0)
def PJ:Q1:=(hG cf yN uR (hG cf yN uR (jk qW k0)))
def Eg (n:Nat) (k:am) (h:Heap):aa:=k 0 h
def Na (n:Nat) (h:Heap) (k:am):aa:=Eg n k h
theorem adH:DZ cf yN n Pq qW k0=PJ cf k0:=by funext s; kernel_rfl
theorem ad9:lo iJ (DZ KW yN n Pq qW k0)=cmp iJ (Na n) (kap qW k0):=(congrArg (lo iJ) (adH n KW k0)).trans (show _=Eg n (kap qW k0) by delta PJ Eg; kernel_rfl)
end
def cy (n:Nat):bQ:=Na n
abbrev Ed (g:ah):Wr:=wrT ir kc g
def Lq:bg:=lp []
section
variable (k0:Q0)
def O6:Q1:=(hG cf lw oW (hG cf lw Kr (jk kc k0)))
def xX (n:Nat) (k:am) (a0:AV) (h:Heap):aa:=ldI .u64 h a0 fun a=>Dx .u64 17 a fun b=>k b h
def Ew (n:Nat) (a0:AV) (h:Heap) (k:am):aa:=xX n k a0 h
theorem adI:DZ cf lw n Pb kc k0=O6 cf k0:=by funext s; kernel_rfl
theorem aew:lo ir (DZ Lq lw n Pb kc k0)=cmp ir (Ew n) (kap kc k0):=(congrArg (lo ir) (adI n Lq k0)).trans (show _=xX n (kap kc k0) by delta O6 xX; kernel_rfl)
end
def cm (n:Nat):ah:=Ew n
abbrev DX (g:aS):Wr:=wrT iQ j0 g
def KB:bg:=lp []
section
variable (k0:Q0)
def PN:Q1:=(hG cf yg oX (hG cf yg JQ (jk j0 k0)))
def yf (n:Nat) (k:am) (a0:AV) (a1:AV) (h:Heap):aa:=ldI .u64 h a0 fun a=>ldI .u64 h a1 fun b=>kY .u64 a b fun c=>k c h
def EQ (n:Nat) (a0:AV) (a1:AV) (h:Heap) (k:am):aa:=yf n k a0 a1 h
theorem aen:DZ cf yg n OL j0 k0=PN cf k0:=by funext s; kernel_rfl
theorem adU:lo iQ (DZ KB yg n OL j0 k0)=cmp iQ (EQ n) (kap j0 k0):=(congrArg (lo iQ) (aen n KB k0)).trans (show _=yf n (kap j0 k0) by delta PN yf; kernel_rfl)
end
def ce (n:Nat):aS:=EQ n
abbrev aW:=AV→AV→AV→Heap→(Int→Heap→aa)→aa
abbrev Ey (g:aW):Wr:=wrT lu kd g
def LK:bg:=lp []
section
variable (k0:Q0)
def MK:Q1:=(hG cf yD pg (hG cf yD Kj (jk kd k0)))
def yp (n:Nat) (k:am) (a0:AV) (a1:AV) (a2:AV) (h:Heap):aa:=ldI .u64 h a0 fun a=>jK .i64 3 h a1 fun b c=>uB .u64 c fun d=>Dx .u64 16 d fun e=>ldI .u64 h a0 fun f=>Dx .u64 e f fun g=>kY .u64 a g fun i=>ldI .u64 h a2 fun l=>kY .u64 i l fun m=>k m h
def E0 (n:Nat) (a0:AV) (a1:AV) (a2:AV) (h:Heap) (k:am):aa:=yp n k a0 a1 a2 h
theorem aet:DZ cf yD n PP kd k0=MK cf k0:=by funext s; kernel_rfl
theorem aem:lo lu (DZ LK yD n PP kd k0)=cmp lu (E0 n) (kap kd k0):=(congrArg (lo lu) (aet n LK k0)).trans (show _=yp n (kap kd k0) by delta MK yp; kernel_rfl)
end
def ck (n:Nat):aW:=E0 n
abbrev Eo (g:aS):Wr:=wrT iQ j0 g
def La:bg:=lp []
section
variable (k0:Q0)
def MV:Q1:=(hG cf yW oX (hG cf yW JB (jk j0 k0)))
def xV (n:Nat) (k:am) (a0:AV) (a1:AV) (h:Heap):aa:=jK .u64 4 h a0 fun a b=>ldI .u64 h a1 fun c=>kY .u64 b c fun d=>Dx .u64 64 d fun e=>ldI .u64 h a1 fun f=>kY .u64 e f fun g=>k g h
def EX (n:Nat) (a0:AV) (a1:AV) (h:Heap) (k:am):aa:=xV n k a0 a1 h
theorem adE:DZ cf yW n NL j0 k0=MV cf k0:=by funext s; kernel_rfl
theorem aeq:lo iQ (DZ La yW n NL j0 k0)=cmp iQ (EX n) (kap j0 k0):=(congrArg (lo iQ) (adE n La k0)).trans (show _=xV n (kap j0 k0) by delta MV xV; kernel_rfl)
end
def ci (n:Nat):aS:=EX n
abbrev EF (g:aW):Wr:=wrT lu kd g
def KL:bg:=lp []
section
variable (k0:Q0)
def NY:Q1:=(hG cf yS pg (hG cf yS Kc (jk kd k0)))
def yb (n:Nat) (k:am) (a0:AV) (a1:AV) (a2:AV) (h:Heap):aa:=ldI .u64 h a0 fun a=>Dx .u64 26 a fun b=>jK .u64 3 h a1 fun c d=>kY .u64 b d fun e=>ldI .u64 h a2 fun f=>kY .u64 e f fun g=>jK .u64 5 h a1 fun i l=>kY .u64 g l fun m=>k m h
def Eh (n:Nat) (a0:AV) (a1:AV) (a2:AV) (h:Heap) (k:am):aa:=yb n k a0 a1 a2 h
theorem acW:DZ cf yS n Pk kd k0=NY cf k0:=by funext s; kernel_rfl
theorem aey:lo lu (DZ KL yS n Pk kd k0)=cmp lu (Eh n) (kap kd k0):=(congrArg (lo lu) (acW n KL k0)).trans (show _=yb n (kap kd k0) by delta NY yb; kernel_rfl)
end
def cn (n:Nat):aW:=Eh n
abbrev Dd (g:aW):Wr:=wrT lu kd g
def Jg:bg:=lp []
section
variable (k0:Q0)
def K9:Q1:=(hG cf wI pg (hG cf wI HR (jk kd k0)))
def wG (n:Nat) (k:am) (a0:AV) (a1:AV) (a2:AV) (h:Heap):aa:=ldI .u64 h a0 fun a=>Dx .u64 64 a fun b=>jK .u64 3 h a1 fun c d=>Dx .u64 2 d fun e=>kY .u64 b e fun f=>ldI .u64 h a2 fun g=>Dx .u64 2 g fun i=>kY .u64 f i fun l=>jK .u64 5 h a1 fun m o=>kY .u64 l o fun p=>k p h
def CR (n:Nat) (a0:AV) (a1:AV) (a2:AV) (h:Heap) (k:am):aa:=wG n k a0 a1 a2 h
theorem aaO:DZ cf wI n LP kd k0=K9 cf k0:=by funext s; kernel_rfl
theorem abr:lo lu (DZ Jg wI n LP kd k0)=cmp lu (CR n) (kap kd k0):=(congrArg (lo lu) (aaO n Jg k0)).trans (show _=wG n (kap kd k0) by delta K9 wG; kernel_rfl)
end
def bZ (n:Nat):aW:=CR n
abbrev PH (g:aS):Wr:=wrT iQ j0 g
def qm (iR:ah) (iW:ah) (iX:bQ) (iU:ah) (iV:aS) (iS:aW) (iY:aS) (iT:aW) (iP:aW):bg:=lp [(mY,Eb iR),(mW,E2 iW),(tL,EL iX),(xY,Ed iU),(yT,DX iV),(yJ,Ey iS),(x6,Eo iY),(yl,EF iT),(wH,Dd iP)]
section
variable (iR:ah) (iW:ah) (iX:bQ) (iU:ah) (iV:aS) (iS:aW) (iY:aS) (iT:aW) (iP:aW) (k0:Q0)
def Nv:Q1:=(hG cf yd oX (hG cf yd I9 (jk j0 k0)))
def za (n:Nat) (iR:ah) (iW:ah) (iX:bQ) (iU:ah) (iV:aS) (iS:aW) (iY:aS) (iT:aW) (iP:aW) (k:am) (a0:AV) (a1:AV) (h:Heap):aa:=jd h a0 1 false fun a=>qm iR iW iX iU iV iS iY iT iP a [] (h.shut true) fun b c=>Gc .u64 b fun d=>jd (c.back h.ro) a1 1 false fun e=>qm iR iW iX iU iV iS iY iT iP e [] (c.back h.ro) fun f g=>Gc .u64 f fun i=>yY true [(.int .u64 d),(.int .u64 i)] fun l=>Gc .u64 l fun m=>k m g
def EP (n:Nat) (iR:ah) (iW:ah) (iX:bQ) (iU:ah) (iV:aS) (iS:aW) (iY:aS) (iT:aW) (iP:aW) (a0:AV) (a1:AV) (h:Heap) (k:am):aa:=za n iR iW iX iU iV iS iY iT iP k a0 a1 h
theorem adh:DZ cf yd n Nn j0 k0=Nv cf k0:=by funext s; kernel_rfl
theorem aer:lo iQ (DZ (qm iR iW iX iU iV iS iY iT iP) yd n Nn j0 k0)=cmp iQ (EP n iR iW iX iU iV iS iY iT iP) (kap j0 k0):=(congrArg (lo iQ) (adh n (qm iR iW iX iU iV iS iY iT iP) k0)).trans (show _=za n iR iW iX iU iV iS iY iT iP (kap j0 k0) by delta Nv za; kernel_rfl)
end
def cI (n:Nat):aS:=EP n (bV n) (bU n) (cy n) (cm n) (ce n) (ck n) (ci n) (cn n) (bZ n)
abbrev ct:=AV→AV→Heap→(Int→Int→Heap→aa)→aa
abbrev afc (g:ct):Wr:=wrT iQ lK g
def qF (jQ:aS) (jD:bi) (iR:ah) (iW:ah) (iX:bQ) (iU:ah) (iV:aS) (iS:aW) (iY:aS) (jj:aS) (iT:aW) (iP:aW):bg:=lp [(abl,aa8 jQ),(Y4,Zk jD),(mY,Eb iR),(mW,E2 iW),(tL,EL iX),(xY,Ed iU),(yT,DX iV),(yJ,Ey iS),(x6,Eo iY),(EU,PH jj),(yl,EF iT),(wH,Dd iP)]
abbrev Yr:Type:=AV→AV→Int→AV→Int→Heap→aa
section
variable (jQ:aS) (jD:bi) (iR:ah) (iW:ah) (iX:bQ) (iU:ah) (iV:aS) (iS:aW) (iY:aS) (jj:aS) (iT:aW) (iP:aW) (k0:Q0)
def FP:Q1:=(hG cf nM Zi (jk lK k0))
def Fk (n:Nat) (jQ:aS) (jD:bi) (iR:ah) (iW:ah) (iX:bQ) (iU:ah) (iV:aS) (iS:aW) (iY:aS) (jj:aS) (iT:aW) (iP:aW) (k:aU) (v2:AV) (v3:AV) (v7:Int) (h:Heap):aa:=jK .i64 0 h v3 fun a b=>uB .u64 b fun c=>jK .u64 2 h v2 fun d e=>Dx .u64 c e fun f=>kY .u64 f v7 fun g=>k g 0 h
theorem aks:lo Mf (FP (qF jQ jD iR iW iX iU iV iS iY jj iT iP) k0)=Fk n jQ jD iR iW iX iU iV iS iY jj iT iP (kap lK k0):=by delta FP Fk; kernel_rfl
def Mb (J1:Q1):Q1:=(hG cf nM Y1 (cJ p20 (hG cf nM ZT (hG cf nM YY (hG cf nM Yp (kJ sC J1)))) (kJ Mf (FP cf k0))))
def zO (n:Nat) (jQ:aS) (jD:bi) (iR:ah) (iW:ah) (iX:bQ) (iU:ah) (iV:aS) (iS:aW) (iY:aS) (jj:aS) (iT:aW) (iP:aW) (k:aU) (j1:Yr) (v2:AV) (v3:AV) (v7:Int) (v18:AV) (v19:Int) (h:Heap):aa:=ifB (ltF v19 11) (afy 1 11 false v18 v19 fun a=>qF jQ jD iR iW iX iU iV iS iY jj iT iP a [] h fun b c=>Gc .u64 b fun d=>yY true [(.int .u64 v7),(.int .u64 d)] fun e=>Gc .u64 e fun f=>kY .i64 v19 1 fun g=>j1 v2 v3 f v18 g c) (Fk n jQ jD iR iW iX iU iV iS iY jj iT iP k v2 v3 v7 h)
def Mo:Nat→Q1:=lpS (Mb cf k0)
def zx (n:Nat) (jQ:aS) (jD:bi) (iR:ah) (iW:ah) (iX:bQ) (iU:ah) (iV:aS) (iS:aW) (iY:aS) (jj:aS) (iT:aW) (iP:aW) (k:aU):Nat→Yr:=lpF sC (zO n jQ jD iR iW iX iU iV iS iY jj iT iP k)
theorem ala (k:aU) (m:Nat):zx n jQ jD iR iW iX iU iV iS iY jj iT iP k (m+1)=zO n jQ jD iR iW iX iU iV iS iY jj iT iP k (zx n jQ jD iR iW iX iU iV iS iY jj iT iP k m):=rfl
theorem akL (m:Nat):lo sC (Mo (qF jQ jD iR iW iX iU iV iS iY jj iT iP) k0 m)=zx n jQ jD iR iW iX iU iV iS iY jj iT iP (kap lK k0) m:=mG (fun J1=>(by obtain ⟨J0,u0⟩:=exi (FP (qF jQ jD iR iW iX iU iV iS iY jj iT iP) k0); delta Mb zO; rw [← aks,u0]; kernel_rfl:lo sC (Mb (qF jQ jD iR iW iX iU iV iS iY jj iT iP) k0 J1)=zO n jQ jD iR iW iX iU iV iS iY jj iT iP (kap lK k0) (lo sC J1))) m
def aeE:Q1:=(hG cf nM Um (hG cf nM Zf (hG cf nM F3 (cJ p14 (hG cf nM ZB (jk lK k0)) (hG cf nM Yh (hG cf nM Zu (kJ sC (Mo cf k0 n))))))))
def K7 (n:Nat) (jQ:aS) (jD:bi) (iR:ah) (iW:ah) (iX:bQ) (iU:ah) (iV:aS) (iS:aW) (iY:aS) (jj:aS) (iT:aW) (iP:aW) (k:aU) (a0:AV) (a1:AV) (h:Heap):aa:=pZ h a0 fun a b=>pZ b a1 fun c d=>jd d (.ptr a 0) 6 true fun e=>jd d (.ptr c 0) 4 true fun f=>jQ e f d fun g i=>ifB (jJ (eqF g 0)) (k 0 g i) (jd i (.ptr a 0) 6 true fun l=>jd i (.ptr c 0) 4 true fun m=>jD l m i fun o p=>zx n jQ jD iR iW iX iU iV iS iY jj iT iP k n (.ptr a 0) (.ptr c 0) 0 o 0 p)
def WP (n:Nat) (jQ:aS) (jD:bi) (iR:ah) (iW:ah) (iX:bQ) (iU:ah) (iV:aS) (iS:aW) (iY:aS) (jj:aS) (iT:aW) (iP:aW) (a0:AV) (a1:AV) (h:Heap) (k:aU):aa:=K7 n jQ jD iR iW iX iU iV iS iY jj iT iP k a0 a1 h
theorem an8:DZ cf nM n aeF lK k0=aeE n cf k0:=by funext s; kernel_rfl
theorem aoy:lo iQ (DZ (qF jQ jD iR iW iX iU iV iS iY jj iT iP) nM n aeF lK k0)=cmp iQ (WP n jQ jD iR iW iX iU iV iS iY jj iT iP) (kap lK k0):=(congrArg (lo iQ) (an8 n (qF jQ jD iR iW iX iU iV iS iY jj iT iP) k0)).trans (show _=K7 n jQ jD iR iW iX iU iV iS iY jj iT iP (kap lK k0) by obtain ⟨J1,u1⟩:=exi (Mo (qF jQ jD iR iW iX iU iV iS iY jj iT iP) k0 n); delta aeE K7; rw [← akL,u1]; kernel_rfl)
end
def dC (n:Nat):ct:=WP n (dr n) (de n) (bV n) (bU n) (cy n) (cm n) (ce n) (ck n) (ci n) (cI n) (cn n) (bZ n)
abbrev bN:=AV→Int→Heap→(AV→Heap→aa)→aa
abbrev Qw (g:bN):Wr:=wrT gW yk g
def Y3:bg:=lp []
section
variable (k0:Q0)
def abV:Q1:=(hG cf yn US (hG cf yn U8 (hG cf yn UK (hG cf yn U2 (jk yk k0)))))
def HU (n:Nat) (k:aL) (a0:AV) (a1:Int) (h:Heap):aa:=pZ h a0 fun a b=>lG b (.cells [(.int .i64 0),(.int .i64 0),(.int .i64 0),(.int .i64 0)] true 0) fun c d=>fld 16 d (.ptr a 0) 1 false fun e f=>eld 8 d f a1 8 true fun g i=>lG d (.cells [.nilslice,(.int .i64 0),(.int .i64 0),(.int .i64 0),(.int .i64 0),(.int .i64 0),(.int .i64 0),(.int .i64 0)] true 0) fun l m=>jh m (.ptr l 0) 8 i fun o=>jK .i64 1 o (.ptr l 0) fun p q=>shlK .i64 1 q fun r=>jK .i64 2 o (.ptr l 0) fun s t=>jK .i64 2 o (.ptr l 0) fun u w=>jK .i64 7 o (.ptr l 0) fun x y=>kY .i64 w y fun z=>Ky .i64 z 1 fun A=>jK .i64 6 o (.ptr l 0) fun B C=>Dx .i64 16 C fun E=>yY false [(.int .i64 A),(.int .i64 E)] fun F=>Gc .i64 F fun G=>jK .i64 3 o (.ptr l 0) fun I K=>lh [(.int .i64 0),(.int .i64 0),(.int .i64 0),(.int .i64 0)] [(0,1,(.int .i64 r)),(1,1,(.int .i64 t)),(2,1,(.int .i64 G)),(3,1,(.int .i64 K))] fun L=>jh o (.ptr c 0) 4 L fun M=>jd M (.ptr c 0) 4 true fun N=>k N M
def QQ (n:Nat) (a0:AV) (a1:Int) (h:Heap) (k:aL):aa:=HU n k a0 a1 h
theorem amO:DZ cf yn n aa4 yk k0=abV cf k0:=by funext s; kernel_rfl
theorem amp:lo gW (DZ Y3 yn n aa4 yk k0)=cmp gW (QQ n) (kap yk k0):=(congrArg (lo gW) (amO n Y3 k0)).trans (show _=HU n (kap yk k0) by delta abV HU; kernel_rfl)
end
def cS (n:Nat):bN:=QQ n
abbrev ZA (g:ai):Wr:=wrT ir iw g
def jW (gO:ai) (gV:ah) (iz:ae) (iE:bS) (iM:ct) (iB:bN):bg:=lp [(CN,CW gO),(Dm,Cp gV),(UM,V5 iz),(Zj,YQ iE),(afB,afc iM),(Qc,Qw iB)]
section
variable (gO:ai) (gV:ah) (iz:ae) (iE:bS) (iM:ct) (iB:bN) (k0:Q0)
def Af:Q1:=(hG cf kl AW (jk iw k0))
def Aw (n:Nat) (gO:ai) (gV:ah) (iz:ae) (iE:bS) (iM:ct) (iB:bN) (k:ab) (h:Heap):aa:=k true h
theorem aha:lo iJ (Af (jW gO gV iz iE iM iB) k0)=Aw n gO gV iz iE iM iB (kap iw k0):=by delta Af Aw; kernel_rfl
def rH (J1:Q1):Q1:=(hG cf kl RK (kJ lv J1))
def rT (n:Nat) (gO:ai) (gV:ah) (iz:ae) (iE:bS) (iM:ct) (iB:bN) (k:ab) (j1:bM) (v1:AV) (v58:Int) (v59:Int) (h:Heap):aa:=kY .i64 v59 1 fun a=>j1 v1 v58 a h
theorem RN (J1:Q1):lo lv (rH (jW gO gV iz iE iM iB) J1)=rT n gO gV iz iE iM iB (kap iw k0) (lo lv J1):=by delta rH rT; kernel_rfl
def Be (J1:Q1):Q1:=(cJ p82 (hG cf kl kZ (jk iw k0)) (kJ lv (rH cf J1)))
def vg (n:Nat) (gO:ai) (gV:ah) (iz:ae) (iE:bS) (iM:ct) (iB:bN) (k:ab) (j1:bM) (v1:AV) (v58:Int) (v59:Int) (v82:Bool) (h:Heap):aa:=ifB v82 (k false h) (rT n gO gV iz iE iM iB k j1 v1 v58 v59 h)
theorem agN (J1:Q1):lo G4 (Be (jW gO gV iz iE iM iB) k0 J1)=vg n gO gV iz iE iM iB (kap iw k0) (lo lv J1):=by obtain ⟨J2,u2⟩:=exi (rH (jW gO gV iz iE iM iB) J1); delta Be vg; rw [← RN,u2]; kernel_rfl
def Hl (J1:Q1):Q1:=(hG cf kl Tp (cJ p60 (hG cf kl Su (hG cf kl SM (cJ p65 (kJ lv (rH cf J1)) (hG cf kl SE (hG cf kl Sp (kJ G4 (Be cf k0 J1))))))) (kJ iJ (Af cf k0))))
def vy (n:Nat) (gO:ai) (gV:ah) (iz:ae) (iE:bS) (iM:ct) (iB:bN) (k:ab) (j1:bM) (v1:AV) (v58:Int) (v59:Int) (h:Heap):aa:=ifB (ltF v59 v58) (jd h v1 17 true fun a=>iz a v59 h fun b c=>ifB (jJ (eqF b 0)) (rT n gO gV iz iE iM iB k j1 v1 v58 v59 c) (fld 6 c v1 6 true fun d e=>jd c v1 17 true fun f=>iB f v59 (c.shut true) fun g i=>iM e g (i.back c.ro) fun l m o=>ifB (jJ (eqF m 0)) (vg n gO gV iz iE iM iB k j1 v1 v58 v59 true o) (faK 12 v1 fun p=>ldI .u64 o p fun q=>vg n gO gV iz iE iM iB k j1 v1 v58 v59 (ltF q l) o))) (Aw n gO gV iz iE iM iB k h)
def Hz:Nat→Q1:=lpS (Hl cf k0)
def rV (n:Nat) (gO:ai) (gV:ah) (iz:ae) (iE:bS) (iM:ct) (iB:bN) (k:ab):Nat→bM:=lpF lv (vy n gO gV iz iE iM iB k)
theorem aga (k:ab) (m:Nat):rV n gO gV iz iE iM iB k (m+1)=vy n gO gV iz iE iM iB k (rV n gO gV iz iE iM iB k m):=rfl
theorem agu (m:Nat):lo lv (Hz (jW gO gV iz iE iM iB) k0 m)=rV n gO gV iz iE iM iB (kap iw k0) m:=mG (fun J1=>(by obtain ⟨J0,u0⟩:=exi (Af (jW gO gV iz iE iM iB) k0); obtain ⟨J2,u2⟩:=exi (rH (jW gO gV iz iE iM iB) J1); obtain ⟨J3,u3⟩:=exi (Be (jW gO gV iz iE iM iB) k0 J1); delta Hl vy; rw [← aha,u0, ← RN,u2, ← agN,u3]; kernel_rfl:lo lv (Hl (jW gO gV iz iE iM iB) k0 J1)=vy n gO gV iz iE iM iB (kap iw k0) (lo lv J1))) m
def AR:Q1:=(cJ p55 (hG cf kl kZ (jk iw k0)) (hG cf kl R1 (kJ lv (Hz cf k0 n))))
def vD (n:Nat) (gO:ai) (gV:ah) (iz:ae) (iE:bS) (iM:ct) (iB:bN) (k:ab) (v1:AV) (v55:Bool) (h:Heap):aa:=ifB v55 (k false h) (fld 16 h v1 1 false fun a b=>jA b fun c=>rV n gO gV iz iE iM iB k n v1 c 0 h)
theorem ahj:lo GI (AR n (jW gO gV iz iE iM iB) k0)=vD n gO gV iz iE iM iB (kap iw k0):=by obtain ⟨J1,u1⟩:=exi (Hz (jW gO gV iz iE iM iB) k0 n); delta AR vD; rw [← agu,u1]; kernel_rfl
def Aq:Q1:=(cJ p34 (hG cf kl AW (jk iw k0)) (hG cf kl PA (hG cf kl Oz (kJ GI (AR n cf k0)))))
def vj (n:Nat) (gO:ai) (gV:ah) (iz:ae) (iE:bS) (iM:ct) (iB:bN) (k:ab) (v1:AV) (v34:Bool) (h:Heap):aa:=ifB v34 (k true h) (fld 6 h v1 6 true fun a b=>jK .i64 3 h v1 fun c d=>jK .i64 4 h v1 fun e f=>Dx .i64 d f fun g=>jK .i64 5 h v1 fun i l=>iE b g l h fun m o p=>ifB (jJ (eqF o 0)) (vD n gO gV iz iE iM iB k v1 true p) (faK 13 v1 fun q=>ldI .u64 p q fun r=>vD n gO gV iz iE iM iB k v1 (ltF r m) p))
theorem ag2:lo HL (Aq n (jW gO gV iz iE iM iB) k0)=vj n gO gV iz iE iM iB (kap iw k0):=by obtain ⟨J4,u4⟩:=exi (AR n (jW gO gV iz iE iM iB) k0); delta Aq vj; rw [← ahj,u4]; kernel_rfl
def Bi:Q1:=(cJ p25 (hG cf kl kZ (jk iw k0)) (hG cf kl O1 (kJ HL (Aq n cf k0))))
def vz (n:Nat) (gO:ai) (gV:ah) (iz:ae) (iE:bS) (iM:ct) (iB:bN) (k:ab) (v1:AV) (v25:Bool) (h:Heap):aa:=ifB v25 (k false h) (jd h v1 17 true fun a=>gO a h fun b c=>ifB (jJ b) (vj n gO gV iz iE iM iB k v1 true c) (faK 6 v1 fun d=>jd c d 6 true fun e=>gV e c fun f g=>vj n gO gV iz iE iM iB k v1 (jJ (eqF f 0)) g))
theorem ag8:lo Hu (Bi n (jW gO gV iz iE iM iB) k0)=vz n gO gV iz iE iM iB (kap iw k0):=by obtain ⟨J5,u5⟩:=exi (Aq n (jW gO gV iz iE iM iB) k0); delta Bi vz; rw [← ag2,u5]; kernel_rfl
def A0:Q1:=(hG cf kl PM (kJ Hu (Bi n cf k0)))
def vY (n:Nat) (gO:ai) (gV:ah) (iz:ae) (iE:bS) (iM:ct) (iB:bN) (k:ab) (v1:AV) (v20:Bool) (h:Heap):aa:=ifB v20 (vz n gO gV iz iE iM iB k v1 true h) (faK 14 v1 fun a=>ldI .u64 h a fun b=>vz n gO gV iz iE iM iB k v1 (jJ (ltF b 1099511627776)) h)
theorem ag1:lo rI (A0 n (jW gO gV iz iE iM iB) k0)=vY n gO gV iz iE iM iB (kap iw k0):=by obtain ⟨J8,u8⟩:=exi (Bi n (jW gO gV iz iE iM iB) k0); delta A0 vY; rw [← ag8,u8]; kernel_rfl
def A1:Q1:=(hG cf kl Nq (kJ rI (A0 n cf k0)))
def vU (n:Nat) (gO:ai) (gV:ah) (iz:ae) (iE:bS) (iM:ct) (iB:bN) (k:ab) (v1:AV) (v15:Bool) (h:Heap):aa:=ifB v15 (vY n gO gV iz iE iM iB k v1 true h) (faK 13 v1 fun a=>ldI .u64 h a fun b=>vY n gO gV iz iE iM iB k v1 (ltF 4194304 b) h)
theorem agv:lo Hm (A1 n (jW gO gV iz iE iM iB) k0)=vU n gO gV iz iE iM iB (kap iw k0):=by obtain ⟨J7,u7⟩:=exi (A0 n (jW gO gV iz iE iM iB) k0); delta A1 vU; rw [← ag1,u7]; kernel_rfl
def YJ:Q1:=(hG cf kl nR (hG cf kl MN (kJ Hm (A1 n cf k0))))
def Ff (n:Nat) (gO:ai) (gV:ah) (iz:ae) (iE:bS) (iM:ct) (iB:bN) (k:ab) (a0:AV) (h:Heap):aa:=pZ h a0 fun a b=>jK .u64 12 b (.ptr a 0) fun c d=>ifB (ltF d 1) (vU n gO gV iz iE iM iB k (.ptr a 0) true b) (faK 12 (.ptr a 0) fun e=>ldI .u64 b e fun f=>vU n gO gV iz iE iM iB k (.ptr a 0) (ltF 4194304 f) b)
def L9 (n:Nat) (gO:ai) (gV:ah) (iz:ae) (iE:bS) (iM:ct) (iB:bN) (a0:AV) (h:Heap) (k:ab):aa:=Ff n gO gV iz iE iM iB k a0 h
theorem akx:DZ cf kl n Zg iw k0=YJ n cf k0:=by funext s; kernel_rfl
theorem akF:lo ir (DZ (jW gO gV iz iE iM iB) kl n Zg iw k0)=cmp ir (L9 n gO gV iz iE iM iB) (kap iw k0):=(congrArg (lo ir) (akx n (jW gO gV iz iE iM iB) k0)).trans (show _=Ff n gO gV iz iE iM iB (kap iw k0) by obtain ⟨J6,u6⟩:=exi (A1 n (jW gO gV iz iE iM iB) k0); delta YJ Ff; rw [← agv,u6]; kernel_rfl)
end
def dh (n:Nat):ai:=L9 n (bW n) (cb n) (cP n) (dj n) (dC n) (cS n)
abbrev aj:=Int→AV→Heap→(Bool→Heap→aa)→aa
abbrev ED (g:aj):Wr:=wrT nK j8 g
def K2 (gP:az):bg:=lp [(wu,wl gP)]
section
variable (gP:az) (k0:Q0)
def Ol:Q1:=(hG cf xW o0 (hG cf xW Ks (jk j8 k0)))
def yX (n:Nat) (gP:az) (k:ab) (a0:Int) (a1:AV) (h:Heap):aa:=fld 16 h a1 1 false fun a b=>jA b fun c=>Ky .i64 c 1 fun d=>gP a0 0 d h fun e f=>k (jJ e) f
def E6 (n:Nat) (gP:az) (a0:Int) (a1:AV) (h:Heap) (k:ab):aa:=yX n gP k a0 a1 h
theorem adW:DZ cf xW n OG j8 k0=Ol cf k0:=by funext s; kernel_rfl
theorem adi:lo nK (DZ (K2 gP) xW n OG j8 k0)=cmp nK (E6 n gP) (kap j8 k0):=(congrArg (lo nK) (adW n (K2 gP) k0)).trans (show _=yX n gP (kap j8 k0) by delta Ol yX; kernel_rfl)
end
def aO (n:Nat):aj:=E6 n (b9 n)
abbrev tu (g:aj):Wr:=wrT nK j8 g
def zV:bg:=lp []
section
variable (k0:Q0)
def BD:Q1:=(hG cf nS o0 (hG cf nS oQ (hG cf nS oP (jk j8 k0))))
def qj (n:Nat) (k:ab) (a0:Int) (a1:AV) (h:Heap):aa:=jd h a1 1 false fun a=>Cb h (.cell .int) (.int .i64 0) a (.int .i64 a0) fun b b2=>Gc .i64 b fun c=>kY .i64 c 1 fun d=>aaD h (.cell .int) a (.int .i64 a0) (.int .i64 d) fun e=>jd e a1 1 false fun f=>Cb e (.cell .int) (.int .i64 0) f (.int .i64 a0) fun g b8=>Gc .i64 g fun i=>k (ltF 1 i) e
def ua (n:Nat) (a0:Int) (a1:AV) (h:Heap) (k:ab):aa:=qj n k a0 a1 h
theorem Ps:DZ cf nS n Bv j8 k0=BD cf k0:=by funext s; kernel_rfl
theorem N6:lo nK (DZ zV nS n Bv j8 k0)=cmp nK (ua n) (kap j8 k0):=(congrArg (lo nK) (Ps n zV k0)).trans (show _=qj n (kap j8 k0) by delta BD qj; kernel_rfl)
end
def au (n:Nat):aj:=ua n
abbrev uG (g:aS):Wr:=wrT iQ gS g
def jS (gL:aj) (gC:aj):bg:=lp [(s9,ED gL),(sJ,tu gC)]
abbrev aH:Type:=AV→AV→Int→Int→Heap→aa
section
variable (gL:aj) (gC:aj) (k0:Q0)
def mC:Q1:=(hG cf jO lC (jk gS k0))
def mB (n:Nat) (gL:aj) (gC:aj) (k:am) (h:Heap):aa:=k (-1) h
theorem DG:lo iJ (mC (jS gL gC) k0)=mB n gL gC (kap gS k0):=by delta mC mB; kernel_rfl
def oM (J1:Q1):Q1:=(hG cf jO kE (cJ p9 (hG cf jO lD (hG cf jO sD (cJ p16 (hG cf jO lF (jk gS k0)) (hG cf jO lE (kJ ku J1))))) (kJ iJ (mC cf k0))))
def lI (n:Nat) (gL:aj) (gC:aj) (k:am) (j1:aH) (v0:AV) (v1:AV) (v7:Int) (v8:Int) (h:Heap):aa:=ifB (ltF v8 v7) (Ma .i64 1 h v0 v8 fun a b=>jS gL gC v1 [(.int .i64 b)] h fun c d=>Kf c fun e=>ifB e (k v8 d) (kY .i64 v8 1 fun f=>j1 v0 v1 v7 f d)) (mB n gL gC k h)
def oO:Nat→Q1:=lpS (oM cf k0)
def lH (n:Nat) (gL:aj) (gC:aj) (k:am):Nat→aH:=lpF ku (lI n gL gC k)
theorem DF (k:am) (m:Nat):lH n gL gC k (m+1)=lI n gL gC k (lH n gL gC k m):=rfl
theorem DE (m:Nat):lo ku (oO (jS gL gC) k0 m)=lH n gL gC (kap gS k0) m:=mG (fun J1=>(by obtain ⟨J0,u0⟩:=exi (mC (jS gL gC) k0); delta oM lI; rw [← DG,u0]; kernel_rfl:lo ku (oM (jS gL gC) k0 J1)=lI n gL gC (kap gS k0) (lo ku J1))) m
def uA:Q1:=(hG cf jO jo (hG cf jO kF (kJ ku (oO cf k0 n))))
def nm (n:Nat) (gL:aj) (gC:aj) (k:am) (a0:AV) (a1:AV) (h:Heap):aa:=jA a0 fun a=>lH n gL gC k n a0 a1 a 0 h
def pW (n:Nat) (gL:aj) (gC:aj) (a0:AV) (a1:AV) (h:Heap) (k:am):aa:=nm n gL gC k a0 a1 h
theorem Gm:DZ cf jO n uw gS k0=uA n cf k0:=by funext s; kernel_rfl
theorem Gu:lo iQ (DZ (jS gL gC) jO n uw gS k0)=cmp iQ (pW n gL gC) (kap gS k0):=(congrArg (lo iQ) (Gm n (jS gL gC) k0)).trans (show _=nm n gL gC (kap gS k0) by obtain ⟨J1,u1⟩:=exi (oO (jS gL gC) k0 n); delta uA nm; rw [← DE,u1]; kernel_rfl)
end
def cB (n:Nat):aS:=pW n (aO n) (au n)
abbrev ak:=AV→AV→Heap→(Bool→Heap→aa)→aa
abbrev sh (g:ak):Wr:=wrT iQ hT g
def rz (jM:aS):bg:=lp [(uH,uG jM)]
section
variable (jM:aS) (k0:Q0)
def r8:Q1:=(hG cf jZ i7 (hG cf jZ rr (jk hT k0)))
def mt (n:Nat) (jM:aS) (k:ab) (a0:AV) (a1:AV) (h:Heap):aa:=jM a0 a1 h fun a b=>k (jJ (ltF a 0)) b
def og (n:Nat) (jM:aS) (a0:AV) (a1:AV) (h:Heap) (k:ab):aa:=mt n jM k a0 a1 h
theorem C5:DZ cf jZ n rY hT k0=r8 cf k0:=by funext s; kernel_rfl
theorem B7:lo iQ (DZ (rz jM) jZ n rY hT k0)=cmp iQ (og n jM) (kap hT k0):=(congrArg (lo iQ) (C5 n (rz jM) k0)).trans (show _=mt n jM (kap hT k0) by delta r8 mt; kernel_rfl)
end
def cu (n:Nat):ak:=og n (cB n)
abbrev YL (g:ai):Wr:=wrT ir iw g
def Ca (gP:az) (i9:ak):bg:=lp [(wu,wl gP),(sa,sh i9)]
section
variable (gP:az) (i9:ak) (k0:Q0)
def Bg:Q1:=(hG cf zD SP (jk iw k0))
def vm (n:Nat) (gP:az) (i9:ak) (k:ab) (v13:Bool) (h:Heap):aa:=k v13 h
theorem afW:lo GX (Bg (Ca gP i9) k0)=vm n gP i9 (kap iw k0):=by delta Bg vm; kernel_rfl
def YT:Q1:=(hG cf zD nR (hG cf zD S6 (kJ GX (Bg cf k0))))
def FU (n:Nat) (gP:az) (i9:ak) (k:ab) (a0:AV) (h:Heap):aa:=pZ h a0 fun a b=>fld 15 b (.ptr a 0) 1 false fun c d=>jA d fun e=>gP e 1 64 b fun f g=>ifB f (faK 15 (.ptr a 0) fun i=>jd g i 1 false fun l=>i9 l (.func 62 [] [(.ptr a 0)]) g fun m o=>vm n gP i9 k (jJ m) o) (vm n gP i9 k false g)
def L1 (n:Nat) (gP:az) (i9:ak) (a0:AV) (h:Heap) (k:ab):aa:=FU n gP i9 k a0 h
theorem akU:DZ cf zD n Yf iw k0=YT cf k0:=by funext s; kernel_rfl
theorem akW:lo ir (DZ (Ca gP i9) zD n Yf iw k0)=cmp ir (L1 n gP i9) (kap iw k0):=(congrArg (lo ir) (akU n (Ca gP i9) k0)).trans (show _=FU n gP i9 (kap iw k0) by obtain ⟨J0,u0⟩:=exi (Bg (Ca gP i9) k0); delta YT FU; rw [← afW,u0]; kernel_rfl)
end
def dg (n:Nat):ai:=L1 n (b9 n) (cu n)
abbrev ES (g:aq):Wr:=wrT oL k8 g
def KI:bg:=lp []
section
variable (k0:Q0)
def NB:Q1:=(hG cf yv Jq (cJ p7 (hG cf yv JL (jk k8 k0)) (jk k8 k0)))
def yC (n:Nat) (k:dQ) (a0:Bool) (a1:Int) (a2:Int) (a3:AV) (h:Heap):aa:=ifB a0 (jd h a3 1 false fun a=>lh [(.int .i64 0),(.int .i64 0)] [(0,1,(.int .i64 a1)),(1,1,(.int .i64 a2))] fun b=>mI h 1 [(.int .i64 0),(.int .i64 0)] [(0,2,b)] fun c d=>Iv d 2 a c fun e f=>jh f a3 1 e fun g=>k g) (k h)
def DS (n:Nat) (a0:Bool) (a1:Int) (a2:Int) (a3:AV) (h:Heap) (k:dQ):aa:=yC n k a0 a1 a2 a3 h
theorem aeg:DZ cf yv n Pr k8 k0=NB cf k0:=by funext s; kernel_rfl
theorem ac6:lo oL (DZ KI yv n Pr k8 k0)=cmp oL (DS n) (kap k8 k0):=(congrArg (lo oL) (aeg n KI k0)).trans (show _=yC n (kap k8 k0) by delta NB yC; kernel_rfl)
end
def aQ (n:Nat):aq:=DS n
abbrev dK:=AV→Heap→(AV→Heap→aa)→aa
abbrev aaW (g:dK):Wr:=wrT ir qE g
def pB (gN:aq) (gO:ai) (gV:ah) (jC:ai) (jB:ai) (iz:ae) (gM:aq):bg:=lp [(vG,GM gN),(CN,CW gO),(Dm,Cp gV),(YI,ZA jC),(Zb,YL jB),(UM,V5 iz),(D5,ES gM)]
abbrev bE:Type:=AV→AV→AV→Int→Int→Heap→aa
section
variable (gN:aq) (gO:ai) (gV:ah) (jC:ai) (jB:ai) (iz:ae) (gM:aq) (k0:Q0)
def Cw:Q1:=(hG cf lL Vo (jk qE k0))
def CY (n:Nat) (gN:aq) (gO:ai) (gV:ah) (jC:ai) (jB:ai) (iz:ae) (gM:aq) (k:aL) (v3:AV) (h:Heap):aa:=jd h v3 1 false fun a=>k a h
theorem ai7:lo Js (Cw (pB gN gO gV jC jB iz gM) k0)=CY n gN gO gV jC jB iz gM (kap qE k0):=by delta Cw CY; kernel_rfl
def Kg (J1:Q1):Q1:=(hG cf lL VB (cJ p31 (hG cf lL UD (hG cf lL Wl (hG cf lL WN (hG cf lL VN (kJ rv J1))))) (kJ Js (Cw cf k0))))
def xS (n:Nat) (gN:aq) (gO:ai) (gV:ah) (jC:ai) (jB:ai) (iz:ae) (gM:aq) (k:aL) (j1:bE) (v1:AV) (v3:AV) (v4:AV) (v29:Int) (v30:Int) (h:Heap):aa:=ifB (ltF v30 v29) (jd h v1 17 true fun a=>iz a v30 h fun b c=>kY .i64 4 v30 fun d=>pB gN gO gV jC jB iz gM v4 [(.bool (eqF b 0)),(.int .i64 b),(.int .i64 d)] c fun e f=>kY .i64 v30 1 fun g=>j1 v1 v3 v4 v29 g f) (CY n gN gO gV jC jB iz gM k v3 h)
def Ka:Nat→Q1:=lpS (Kg cf k0)
def xp (n:Nat) (gN:aq) (gO:ai) (gV:ah) (jC:ai) (jB:ai) (iz:ae) (gM:aq) (k:aL):Nat→bE:=lpF rv (xS n gN gO gV jC jB iz gM k)
theorem aiA (k:aL) (m:Nat):xp n gN gO gV jC jB iz gM k (m+1)=xS n gN gO gV jC jB iz gM k (xp n gN gO gV jC jB iz gM k m):=rfl
theorem ajV (m:Nat):lo rv (Ka (pB gN gO gV jC jB iz gM) k0 m)=xp n gN gO gV jC jB iz gM (kap qE k0) m:=mG (fun J1=>(by obtain ⟨J0,u0⟩:=exi (Cw (pB gN gO gV jC jB iz gM) k0); delta Kg xS; rw [← ai7,u0]; kernel_rfl:lo rv (Kg (pB gN gO gV jC jB iz gM) k0 J1)=xS n gN gO gV jC jB iz gM (kap qE k0) (lo rv J1))) m
def abH:Q1:=(hG cf lL Rh (hG cf lL RG (hG cf lL TB (hG cf lL Tx (hG cf lL Xl (hG cf lL Ue (hG cf lL Vn (hG cf lL UY (kJ rv (Ka cf k0 n))))))))))
def Is (n:Nat) (gN:aq) (gO:ai) (gV:ah) (jC:ai) (jB:ai) (iz:ae) (gM:aq) (k:aL) (a0:AV) (h:Heap):aa:=pZ h a0 fun a b=>lG b (.cells [.nilslice] true 0) fun c d=>jd d (.ptr a 0) 17 true fun e=>gO e d fun f g=>gN f 114 0 (.ptr c 0) g fun i=>fld 6 i (.ptr a 0) 6 true fun l m=>gV m i fun o p=>gN (eqF o 0) 100 1 (.ptr c 0) p fun q=>jd q (.ptr a 0) 17 true fun r=>jC r q fun s t=>gN s 113 2 (.ptr c 0) t fun u=>jd u (.ptr a 0) 17 true fun w=>jB w u fun x y=>gN x 112 3 (.ptr c 0) y fun z=>fld 16 z (.ptr a 0) 1 false fun A B=>jA B fun C=>yY false [(.int .i64 C),(.int .i64 8)] fun E=>Gc .i64 E fun F=>xp n gN gO gV jC jB iz gM k n (.ptr a 0) (.ptr c 0) (.func 43 [] [(.ptr c 0)]) F 0 z
def Qy (n:Nat) (gN:aq) (gO:ai) (gV:ah) (jC:ai) (jB:ai) (iz:ae) (gM:aq) (a0:AV) (h:Heap) (k:aL):aa:=Is n gN gO gV jC jB iz gM k a0 h
theorem amn:DZ cf lL n abQ qE k0=abH n cf k0:=by funext s; kernel_rfl
theorem anw:lo ir (DZ (pB gN gO gV jC jB iz gM) lL n abQ qE k0)=cmp ir (Qy n gN gO gV jC jB iz gM) (kap qE k0):=(congrArg (lo ir) (amn n (pB gN gO gV jC jB iz gM) k0)).trans (show _=Is n gN gO gV jC jB iz gM (kap qE k0) by obtain ⟨J1,u1⟩:=exi (Ka (pB gN gO gV jC jB iz gM) k0 n); delta abH Is; rw [← ajV,u1]; kernel_rfl)
end
def dZ (n:Nat):dK:=Qy n (aY n) (bW n) (cb n) (dh n) (dg n) (cP n) (aQ n)
abbrev Bk (g:ai):Wr:=wrT ir iw g
def aeH (px:dK):bg:=lp [(ab0,aaW px)]
section
variable (px:dK) (k0:Q0)
def ah4:Q1:=(hG cf Qq nR (hG cf Qq aaS (jk iw k0)))
def Qi (n:Nat) (px:dK) (k:ab) (a0:AV) (h:Heap):aa:=pZ h a0 fun a b=>jd b (.ptr a 0) 17 true fun c=>px c b fun d e=>jA d fun f=>k (eqF f 0) e
def aag (n:Nat) (px:dK) (a0:AV) (h:Heap) (k:ab):aa:=Qi n px k a0 h
theorem apY:DZ cf Qq n aiJ iw k0=ah4 cf k0:=by funext s; kernel_rfl
theorem aqc:lo ir (DZ (aeH px) Qq n aiJ iw k0)=cmp ir (aag n px) (kap iw k0):=(congrArg (lo ir) (apY n (aeH px) k0)).trans (show _=Qi n px (kap iw k0) by delta ah4 Qi; kernel_rfl)
end
def bb (n:Nat):ai:=aag n (dZ n)
abbrev Hi (g:az):Wr:=wrT mL iv g
def ya:bg:=lp []
section
variable (k0:Q0)
def wL:Q1:=(hG cf lA rJ (jk iv k0))
def sd (n:Nat) (k:ab) (v14:Bool) (h:Heap):aa:=k v14 h
theorem abK:lo lQ (wL ya k0)=sd n (kap iv k0):=by delta wL sd; kernel_rfl
def Sm:Q1:=(hG cf lA jg (hG cf lA rR (kJ lQ (wL cf k0))))
def Bf (n:Nat) (k:ab) (a0:Int) (a1:Int) (a2:Int) (h:Heap):aa:=ifB (jJ (ltF a0 a1)) (sd n k (jJ (ltF a2 a0)) h) (sd n k false h)
def GH (n:Nat) (a0:Int) (a1:Int) (a2:Int) (h:Heap) (k:ab):aa:=Bf n k a0 a1 a2 h
theorem agz:DZ cf lA n Rm iv k0=Sm cf k0:=by funext s; kernel_rfl
theorem afU:lo mL (DZ ya lA n Rm iv k0)=cmp mL (GH n) (kap iv k0):=(congrArg (lo mL) (agz n ya k0)).trans (show _=Bf n (kap iv k0) by obtain ⟨J0,u0⟩:=exi (wL ya k0); delta Sm Bf; rw [← abK,u0]; kernel_rfl)
end
def cR (n:Nat):az:=GH n
abbrev bm:=Int→Heap→(Bool→Heap→aa)→aa
abbrev Qg (g:bm):Wr:=wrT nH iw g
def Yl (jp:az):bg:=lp [(G1,Hi jp)]
section
variable (jp:az) (k0:Q0)
def ach:Q1:=(hG cf Ii kZ (hG cf Ii Uh (jk iw k0)))
def IK (n:Nat) (jp:az) (k:ab) (a0:Int) (h:Heap):aa:=jp a0 1 16 h fun a b=>k a b
def QU (n:Nat) (jp:az) (a0:Int) (h:Heap) (k:ab):aa:=IK n jp k a0 h
theorem amE:DZ cf Ii n acj iw k0=ach cf k0:=by funext s; kernel_rfl
theorem anv:lo nH (DZ (Yl jp) Ii n acj iw k0)=cmp nH (QU n jp) (kap iw k0):=(congrArg (lo nH) (amE n (Yl jp) k0)).trans (show _=IK n jp (kap iw k0) by delta ach IK; kernel_rfl)
end
def dq (n:Nat):bm:=QU n (cR n)
abbrev aZ:=Int→Int→Heap→(Int→Int→Heap→aa)→aa
abbrev U7 (g:aZ):Wr:=wrT lM jx g
def It (jp:az) (jV:bm):bg:=lp [(G1,Hi jp),(Qj,Qg jV)]
section
variable (jp:az) (jV:bm) (k0:Q0)
def Fn:Q1:=(cJ p13 (hG cf Br FW (jk jx k0)) (hG cf Br Zy (jk jx k0)))
def zy (n:Nat) (jp:az) (jV:bm) (k:aU) (v0:Int) (v1:Int) (v13:Bool) (h:Heap):aa:=ifB v13 (k 0 2 h) (remK .i64 v0 v1 fun a=>k a 0 h)
theorem akC:lo wk (Fn (It jp jV) k0)=zy n jp jV (kap jx k0):=by delta Fn zy; kernel_rfl
def afp:Q1:=(hG cf Br Fz (hG cf Br Zv (kJ wk (Fn cf k0))))
def Lt (n:Nat) (jp:az) (jV:bm) (k:aU) (a0:Int) (a1:Int) (h:Heap):aa:=jp a0 0 4095 h fun a b=>ifB (jJ a) (zy n jp jV k a0 a1 true b) (jV a1 b fun c d=>zy n jp jV k a0 a1 (jJ c) d)
def VF (n:Nat) (jp:az) (jV:bm) (a0:Int) (a1:Int) (h:Heap) (k:aU):aa:=Lt n jp jV k a0 a1 h
theorem aoY:DZ cf Br n afo jx k0=afp cf k0:=by funext s; kernel_rfl
theorem an5:lo lM (DZ (It jp jV) Br n afo jx k0)=cmp lM (VF n jp jV) (kap jx k0):=(congrArg (lo lM) (aoY n (It jp jV) k0)).trans (show _=Lt n jp jV (kap jx k0) by obtain ⟨J0,u0⟩:=exi (Fn (It jp jV) k0); delta afp Lt; rw [← akC,u0]; kernel_rfl)
end
def bP (n:Nat):aZ:=VF n (cR n) (dq n)
abbrev aI:=AV→Int→Heap→(Int→Bool→Int→Heap→aa)→aa
abbrev cG:=Int→Bool→Int→Heap→aa
abbrev abD (g:aI):Wr:=wrT gW kp g
def pu (gI:ai) (gB:ad):bg:=lp [(Bj,Bk gI),(nA,nC gB)]
abbrev dl:Type:=Int→AV→Int→Int→Heap→aa
section
variable (gI:ai) (gB:ad) (k0:Q0)
def C3:Q1:=(hG cf mg UN (jk kp k0))
def Ds (n:Nat) (gI:ai) (gB:ad) (k:cG) (h:Heap):aa:=k 0 false 0 h
theorem ahY:lo iJ (C3 (pu gI gB) k0)=Ds n gI gB (kap kp k0):=by delta C3 Ds; kernel_rfl
def IT (J1:Q1):Q1:=(hG cf mg WA (cJ p26 (hG cf mg W6 (hG cf mg Ur (cJ p33 (hG cf mg U3 (jk kp k0)) (hG cf mg Xm (kJ rm J1))))) (kJ iJ (C3 cf k0))))
def xH (n:Nat) (gI:ai) (gB:ad) (k:cG) (j1:dl) (v1:Int) (v23:AV) (v24:Int) (v25:Int) (h:Heap):aa:=ifB (ltF v25 v24) (eld 8 h v23 v25 8 true fun a b=>lG h (.cells [.nilslice,(.int .i64 0),(.int .i64 0),(.int .i64 0),(.int .i64 0),(.int .i64 0),(.int .i64 0),(.int .i64 0)] true 0) fun c d=>jh d (.ptr c 0) 8 b fun e=>fld 0 e (.ptr c 0) 1 false fun f g=>gB g v1 e fun i l=>ifB i (k v25 true 0 l) (kY .i64 v25 1 fun m=>j1 v1 v23 v24 m l)) (Ds n gI gB k h)
def I6:Nat→Q1:=lpS (IT cf k0)
def xN (n:Nat) (gI:ai) (gB:ad) (k:cG):Nat→dl:=lpF rm (xH n gI gB k)
theorem aiN (k:cG) (m:Nat):xN n gI gB k (m+1)=xH n gI gB k (xN n gI gB k m):=rfl
theorem ajH (m:Nat):lo rm (I6 (pu gI gB) k0 m)=xN n gI gB (kap kp k0) m:=mG (fun J1=>(by obtain ⟨J0,u0⟩:=exi (C3 (pu gI gB) k0); delta IT xH; rw [← ahY,u0]; kernel_rfl:lo rm (IT (pu gI gB) k0 J1)=xH n gI gB (kap kp k0) (lo rm J1))) m
def Cr:Q1:=(hG cf mg Td (cJ p13 (hG cf mg Dl (jk kp k0)) (hG cf mg UG (kJ rm (I6 cf k0 n)))))
def xT (n:Nat) (gI:ai) (gB:ad) (k:cG) (v1:Int) (v2:AV) (v21:Bool) (h:Heap):aa:=ifB v21 (k 0 false 2 h) (fld 16 h v2 1 false fun a b=>jA b fun c=>xN n gI gB k n v1 b c 0 h)
theorem ajO:lo JK (Cr n (pu gI gB) k0)=xT n gI gB (kap kp k0):=by obtain ⟨J1,u1⟩:=exi (I6 (pu gI gB) k0 n); delta Cr xT; rw [← ajH,u1]; kernel_rfl
def ab7:Q1:=(hG cf mg AH (hG cf mg TW (cJ p9 (hG cf mg CE (jk kp k0)) (hG cf mg Vi (kJ JK (Cr n cf k0))))))
def HX (n:Nat) (gI:ai) (gB:ad) (k:cG) (a0:AV) (a1:Int) (h:Heap):aa:=pZ h a0 fun a b=>jd b (.ptr a 0) 17 true fun c=>gI c b fun d e=>ifB (jJ d) (k 0 false 5 e) (ifB (ltF a1 0) (xT n gI gB k a1 (.ptr a 0) true e) (jK .i64 1 e (.ptr a 0) fun f g=>xT n gI gB k a1 (.ptr a 0) (jJ (ltF a1 g)) e))
def QK (n:Nat) (gI:ai) (gB:ad) (a0:AV) (a1:Int) (h:Heap) (k:cG):aa:=HX n gI gB k a0 a1 h
theorem al8:DZ cf mg n acL kp k0=ab7 n cf k0:=by funext s; kernel_rfl
theorem amy:lo gW (DZ (pu gI gB) mg n acL kp k0)=cmp gW (QK n gI gB) (kap kp k0):=(congrArg (lo gW) (al8 n (pu gI gB) k0)).trans (show _=HX n gI gB (kap kp k0) by obtain ⟨J2,u2⟩:=exi (Cr n (pu gI gB) k0); delta ab7 HX; rw [← ajO,u2]; kernel_rfl)
end
def d9 (n:Nat):aI:=QK n (bb n) (al n)
abbrev wm (g:aI):Wr:=wrT gW kp g
def Dq (gI:ai) (ig:aZ) (lO:aI):bg:=lp [(Bj,Bk gI),(Uw,U7 ig),(aa0,abD lO)]
section
variable (gI:ai) (ig:aZ) (lO:aI) (k0:Q0)
def A5:Q1:=(cJ p19 (hG cf ny Dl (jk kp k0)) (hG cf ny Rj (hG cf ny Sq (cJ p28 (hG cf ny TA (jk kp k0)) (hG cf ny RD (jk kp k0))))))
def vF (n:Nat) (gI:ai) (ig:aZ) (lO:aI) (k:cG) (v1:Int) (v2:AV) (v19:Bool) (h:Heap):aa:=ifB v19 (k 0 false 2 h) (jK .i64 1 h v2 fun a b=>ig v1 b h fun c d e=>ifB (jJ (eqF d 0)) (k 0 false d e) (jd e v2 17 true fun f=>lO f c e fun g i l m=>k g i l m))
theorem agh:lo Hj (A5 (Dq gI ig lO) k0)=vF n gI ig lO (kap kp k0):=by delta A5 vF; kernel_rfl
def ZC:Q1:=(hG cf ny AH (hG cf ny TN (cJ p11 (hG cf ny CE (jk kp k0)) (hG cf ny SI (kJ Hj (A5 cf k0))))))
def Fr (n:Nat) (gI:ai) (ig:aZ) (lO:aI) (k:cG) (a0:AV) (a1:Int) (h:Heap):aa:=pZ h a0 fun a b=>jd b (.ptr a 0) 17 true fun c=>gI c b fun d e=>ifB (jJ d) (k 0 false 5 e) (ifB (ltF a1 0) (vF n gI ig lO k a1 (.ptr a 0) true e) (jK .i64 0 e (.ptr a 0) fun f g=>vF n gI ig lO k a1 (.ptr a 0) (jJ (ltF a1 g)) e))
def MF (n:Nat) (gI:ai) (ig:aZ) (lO:aI) (a0:AV) (a1:Int) (h:Heap) (k:cG):aa:=Fr n gI ig lO k a0 a1 h
theorem aka:DZ cf ny n X2 kp k0=ZC cf k0:=by funext s; kernel_rfl
theorem akf:lo gW (DZ (Dq gI ig lO) ny n X2 kp k0)=cmp gW (MF n gI ig lO) (kap kp k0):=(congrArg (lo gW) (aka n (Dq gI ig lO) k0)).trans (show _=Fr n gI ig lO (kap kp k0) by obtain ⟨J0,u0⟩:=exi (A5 (Dq gI ig lO) k0); delta ZC Fr; rw [← agh,u0]; kernel_rfl)
end
def aV (n:Nat):aI:=MF n (bb n) (bP n) (d9 n)
abbrev af:=Heap→(AV→Heap→aa)→aa
abbrev Gx (g:af):Wr:=wrT iJ ju g
def DL:bg:=lp []
section
variable (k0:Q0)
def Gk:Q1:=(hG cf ja mT (hG cf ja mQ (hG cf ja Cj (jk ju k0))))
def xr (n:Nat) (k:aL) (h:Heap):aa:=lG h (.mp []) fun a b=>lG b (.cells [.nilmap] true 0) fun c d=>jh d (.ptr c 0) 1 (.map a) fun e=>k (.func 32 [] [(.ptr c 0)]) e
def Gi (n:Nat) (h:Heap) (k:aL):aa:=xr n k h
theorem UZ:DZ cf ja n F7 ju k0=Gk cf k0:=by funext s; kernel_rfl
theorem Wj:lo iJ (DZ DL ja n F7 ju k0)=cmp iJ (Gi n) (kap ju k0):=(congrArg (lo iJ) (UZ n DL k0)).trans (show _=xr n (kap ju k0) by delta Gk xr; kernel_rfl)
end
def aK (n:Nat):af:=Gi n
abbrev H7 (g:ae):Wr:=wrT gW gS g
def Fu (gI:ai):bg:=lp [(Bj,Bk gI)]
section
variable (gI:ai) (k0:Q0)
def C4:Q1:=(hG cf qC Wq (cJ p9 (hG cf qC Vc (jk gS k0)) (hG cf qC jo (jk gS k0))))
def w8 (n:Nat) (gI:ai) (k:am) (v18:Bool) (h:Heap):aa:=ifB v18 (k 270 h) (k 0 h)
theorem ajU:lo Jt (C4 (Fu gI) k0)=w8 n gI (kap gS k0):=by delta C4 w8; kernel_rfl
def abk:Q1:=(hG cf qC tH (hG cf qC VG (cJ p5 (hG cf qC Uu (jk gS k0)) (hG cf qC VI (kJ Jt (C4 cf k0))))))
def HV (n:Nat) (gI:ai) (k:am) (a0:AV) (a1:Int) (h:Heap):aa:=pZ h a0 fun a b=>jd b (.ptr a 0) 17 true fun c=>gI c b fun d e=>ifB (jJ d) (k 5 e) (ifB (ltF a1 0) (w8 n gI k true e) (fld 16 e (.ptr a 0) 1 false fun f g=>jA g fun i=>w8 n gI k (jJ (ltF a1 i)) e))
def QG (n:Nat) (gI:ai) (a0:AV) (a1:Int) (h:Heap) (k:am):aa:=HV n gI k a0 a1 h
theorem ans:DZ cf qC n abn gS k0=abk cf k0:=by funext s; kernel_rfl
theorem ano:lo gW (DZ (Fu gI) qC n abn gS k0)=cmp gW (QG n gI) (kap gS k0):=(congrArg (lo gW) (ans n (Fu gI) k0)).trans (show _=HV n gI (kap gS k0) by obtain ⟨J0,u0⟩:=exi (C4 (Fu gI) k0); delta abk HV; rw [← ajU,u0]; kernel_rfl)
end
def cT (n:Nat):ae:=QG n (bb n)
abbrev abP (g:ah):Wr:=wrT ir iL g
def sB:bg:=lp []
section
variable (k0:Q0)
def CU:Q1:=(hG cf pr Wy (jk iL k0))
def CM (n:Nat) (k:am) (v3:Int) (h:Heap):aa:=k v3 h
theorem aiR:lo JT (CU sB k0)=CM n (kap iL k0):=by delta CU CM; kernel_rfl
def Kh (J1:Q1):Q1:=(hG cf pr kE (cJ p9 (hG cf pr We (hG cf pr Xg (hG cf pr Wx (kJ rp J1)))) (kJ JT (CU cf k0))))
def xG (n:Nat) (k:am) (j1:dl) (v3:Int) (v6:AV) (v7:Int) (v8:Int) (h:Heap):aa:=ifB (ltF v8 v7) (eld 8 h v6 v8 8 true fun a b=>lG h (.cells [.nilslice,(.int .i64 0),(.int .i64 0),(.int .i64 0),(.int .i64 0),(.int .i64 0),(.int .i64 0),(.int .i64 0)] true 0) fun c d=>jh d (.ptr c 0) 8 b fun e=>jK .i64 7 e (.ptr c 0) fun f g=>kY .i64 v3 g fun i=>kY .i64 v8 1 fun l=>j1 i v6 v7 l e) (CM n k v3 h)
def I3:Nat→Q1:=lpS (Kh cf k0)
def xn (n:Nat) (k:am):Nat→dl:=lpF rp (xG n k)
theorem ajM (k:am) (m:Nat):xn n k (m+1)=xG n k (xn n k m):=rfl
theorem ajx (m:Nat):lo rp (I3 sB k0 m)=xn n (kap iL k0) m:=mG (fun J1=>(by obtain ⟨J0,u0⟩:=exi (CU sB k0); delta Kh xG; rw [← aiR,u0]; kernel_rfl:lo rp (Kh sB k0 J1)=xG n (kap iL k0) (lo rp J1))) m
def acA:Q1:=(hG cf pr nr (hG cf pr Xe (hG cf pr kF (kJ rp (I3 cf k0 n)))))
def IP (n:Nat) (k:am) (a0:AV) (h:Heap):aa:=jA a0 fun a=>xn n k n 0 a0 a 0 h
def Qk (n:Nat) (a0:AV) (h:Heap) (k:am):aa:=IP n k a0 h
theorem anc:DZ cf pr n ab8 iL k0=acA n cf k0:=by funext s; kernel_rfl
theorem amJ:lo ir (DZ sB pr n ab8 iL k0)=cmp ir (Qk n) (kap iL k0):=(congrArg (lo ir) (anc n sB k0)).trans (show _=IP n (kap iL k0) by obtain ⟨J1,u1⟩:=exi (I3 sB k0 n); delta acA IP; rw [← ajx,u1]; kernel_rfl)
end
def ei (n:Nat):ah:=Qk n
abbrev aX:=AV→Int→Heap→(Int→Int→Heap→aa)→aa
abbrev aff (g:aX):Wr:=wrT gW jx g
def ack (jy:ae) (pC:ah):bg:=lp [(H6,H7 jy),(acn,abP pC)]
section
variable (jy:ae) (pC:ah) (k0:Q0)
def afI:Q1:=(hG cf xj ws (hG cf xj wc (hG cf xj wq (cJ p11 (hG cf xj Fi (jk jx k0)) (hG cf xj YH (jk jx k0))))))
def LF (n:Nat) (jy:ae) (pC:ah) (k:aU) (a0:AV) (a1:Int) (h:Heap):aa:=pZ h a0 fun a b=>jd b (.ptr a 0) 17 true fun c=>jy c a1 b fun d e=>ifB (jJ (eqF d 0)) (k 0 d e) (fld 16 e (.ptr a 0) 1 false fun f g=>slK (.sl 8) g none (some (.int .i64 a1)) none fun i=>pC i e fun l m=>k l 0 m)
def Xq (n:Nat) (jy:ae) (pC:ah) (a0:AV) (a1:Int) (h:Heap) (k:aU):aa:=LF n jy pC k a0 a1 h
theorem an9:DZ cf xj n afm jx k0=afI cf k0:=by funext s; kernel_rfl
theorem ao0:lo gW (DZ (ack jy pC) xj n afm jx k0)=cmp gW (Xq n jy pC) (kap jx k0):=(congrArg (lo gW) (an9 n (ack jy pC) k0)).trans (show _=LF n jy pC (kap jx k0) by delta afI LF; kernel_rfl)
end
def bJ (n:Nat):aX:=Xq n (cT n) (ei n)
abbrev S0 (g:aS):Wr:=wrT iQ gS g
def pe:bg:=lp []
section
variable (k0:Q0)
def wJ:Q1:=(hG cf mM lC (jk gS k0))
def wN (n:Nat) (k:am) (h:Heap):aa:=k (-1) h
theorem acf:lo iJ (wJ pe k0)=wN n (kap gS k0):=by delta wJ wN; kernel_rfl
def Cd (J1:Q1):Q1:=(hG cf mM kE (cJ p9 (hG cf mM lD (hG cf mM Lo (cJ p16 (hG cf mM lF (jk gS k0)) (hG cf mM lE (kJ ol J1))))) (kJ iJ (wJ cf k0))))
def sg (n:Nat) (k:am) (j1:aH) (v0:AV) (v3:AV) (v7:Int) (v8:Int) (h:Heap):aa:=ifB (ltF v8 v7) (jd h v3 2 true fun a=>eld 2 h v0 v8 2 true fun b c=>eqRK (.plain [.int,.int]) a c fun d=>ifB (xorB false d) (k v8 h) (kY .i64 v8 1 fun e=>j1 v0 v3 v7 e h)) (wN n k h)
def Dw:Nat→Q1:=lpS (Cd cf k0)
def sf (n:Nat) (k:am):Nat→aH:=lpF ol (sg n k)
theorem acg (k:am) (m:Nat):sf n k (m+1)=sg n k (sf n k m):=rfl
theorem acB (m:Nat):lo ol (Dw pe k0 m)=sf n (kap gS k0) m:=mG (fun J1=>(by obtain ⟨J0,u0⟩:=exi (wJ pe k0); delta Cd sg; rw [← acf,u0]; kernel_rfl:lo ol (Cd pe k0 J1)=sg n (kap gS k0) (lo ol J1))) m
def Tg:Q1:=(hG cf mM KC (hG cf mM kF (kJ ol (Dw cf k0 n))))
def Ac (n:Nat) (k:am) (a0:AV) (a1:AV) (h:Heap):aa:=pZ h a1 fun a b=>jA a0 fun c=>sf n k n a0 (.ptr a 0) c 0 b
def Hq (n:Nat) (a0:AV) (a1:AV) (h:Heap) (k:am):aa:=Ac n k a0 a1 h
theorem af4:DZ cf mM n Sb gS k0=Tg n cf k0:=by funext s; kernel_rfl
theorem agX:lo iQ (DZ pe mM n Sb gS k0)=cmp iQ (Hq n) (kap gS k0):=(congrArg (lo iQ) (af4 n pe k0)).trans (show _=Ac n (kap gS k0) by obtain ⟨J1,u1⟩:=exi (Dw pe k0 n); delta Tg Ac; rw [← acB,u1]; kernel_rfl)
end
def dP (n:Nat):aS:=Hq n
abbrev RM (g:ak):Wr:=wrT iQ hT g
def OA (mK:aS):bg:=lp [(RZ,S0 mK)]
section
variable (mK:aS) (k0:Q0)
def Q6:Q1:=(hG cf jZ KY (hG cf jZ KU (jk hT k0)))
def Bb (n:Nat) (mK:aS) (k:ab) (a0:AV) (a1:AV) (h:Heap):aa:=pZ h a1 fun a b=>jd b (.ptr a 0) 2 true fun c=>mK a0 c b fun d e=>k (jJ (ltF d 0)) e
def GR (n:Nat) (mK:aS) (a0:AV) (a1:AV) (h:Heap) (k:ab):aa:=Bb n mK k a0 a1 h
theorem agi:DZ cf jZ n SN hT k0=Q6 cf k0:=by funext s; kernel_rfl
theorem agV:lo iQ (DZ (OA mK) jZ n SN hT k0)=cmp iQ (GR n mK) (kap hT k0):=(congrArg (lo iQ) (agi n (OA mK) k0)).trans (show _=Bb n mK (kap hT k0) by delta Q6 Bb; kernel_rfl)
end
def dR (n:Nat):ak:=GR n (dP n)
abbrev bp:=AV→Int→Int→Heap→(Bool→Heap→aa)→aa
abbrev WE (g:bp):Wr:=wrT Lb iv g
def abY (mJ:ak):bg:=lp [(TD,RM mJ)]
section
variable (mJ:ak) (k0:Q0)
def ae2:Q1:=(hG cf LI jg (hG cf LI ZR (jk iv k0)))
def Lz (n:Nat) (mJ:ak) (k:ab) (a0:AV) (a1:Int) (a2:Int) (h:Heap):aa:=lh [(.int .i64 0),(.int .u8 0)] [(0,1,(.int .i64 a1)),(1,1,(.int .u8 a2))] fun a=>mJ a0 a h fun b c=>k b c
def WU (n:Nat) (mJ:ak) (a0:AV) (a1:Int) (a2:Int) (h:Heap) (k:ab):aa:=Lz n mJ k a0 a1 a2 h
theorem anZ:DZ cf LI n aeM iv k0=ae2 cf k0:=by funext s; kernel_rfl
theorem aoc:lo Lb (DZ (abY mJ) LI n aeM iv k0)=cmp Lb (WU n mJ) (kap iv k0):=(congrArg (lo Lb) (anZ n (abY mJ) k0)).trans (show _=Lz n mJ (kap iv k0) by delta ae2 Lz; kernel_rfl)
end
def bs (n:Nat):bp:=WU n (dR n)
abbrev WS (g:bm):Wr:=wrT nH iw g
def As:bg:=lp []
section
variable (k0:Q0)
def y4:Q1:=(hG cf nu yM (jk iw k0))
def tr (n:Nat) (k:ab) (v8:Bool) (h:Heap):aa:=k v8 h
theorem adw:lo ra (y4 As k0)=tr n (kap iw k0):=by delta y4 tr; kernel_rfl
def U4:Q1:=(hG cf nu kZ (hG cf nu Ou (kJ ra (y4 cf k0))))
def B4 (n:Nat) (k:ab) (a0:Int) (h:Heap):aa:=ifB (jJ (ltF a0 0)) (tr n k (ltF a0 1048576) h) (tr n k false h)
def JE (n:Nat) (a0:Int) (h:Heap) (k:ab):aa:=B4 n k a0 h
theorem ahW:DZ cf nu n Uj iw k0=U4 cf k0:=by funext s; kernel_rfl
theorem ahE:lo nH (DZ As nu n Uj iw k0)=cmp nH (JE n) (kap iw k0):=(congrArg (lo nH) (ahW n As k0)).trans (show _=B4 n (kap iw k0) by obtain ⟨J0,u0⟩:=exi (y4 As k0); delta U4 B4; rw [← adw,u0]; kernel_rfl)
end
def dH (n:Nat):bm:=JE n
abbrev YU (g:bm):Wr:=wrT nH iw g
def Dr:bg:=lp []
section
variable (k0:Q0)
def Ag:Q1:=(hG cf nu yM (jk iw k0))
def vM (n:Nat) (k:ab) (v8:Bool) (h:Heap):aa:=k v8 h
theorem af8:lo ra (Ag Dr k0)=vM n (kap iw k0):=by delta Ag vM; kernel_rfl
def Yw:Q1:=(hG cf nu kZ (hG cf nu Ts (kJ ra (Ag cf k0))))
def FX (n:Nat) (k:ab) (a0:Int) (h:Heap):aa:=ifB (jJ (ltF a0 0)) (vM n k (ltF a0 256) h) (vM n k false h)
def LY (n:Nat) (a0:Int) (h:Heap) (k:ab):aa:=FX n k a0 h
theorem akq:DZ cf nu n XX iw k0=Yw cf k0:=by funext s; kernel_rfl
theorem alc:lo nH (DZ Dr nu n XX iw k0)=cmp nH (LY n) (kap iw k0):=(congrArg (lo nH) (akq n Dr k0)).trans (show _=FX n (kap iw k0) by obtain ⟨J0,u0⟩:=exi (Ag Dr k0); delta Yw FX; rw [← af8,u0]; kernel_rfl)
end
def dL (n:Nat):bm:=LY n
abbrev afu (g:aZ):Wr:=wrT lM lK g
def Iy (kR:bm) (ll:bm):bg:=lp [(UO,WS kR),(XY,YU ll)]
section
variable (kR:bm) (ll:bm) (k0:Q0)
def FN:Q1:=(cJ p13 (hG cf BH Zn (jk lK k0)) (hG cf BH Zh (jk lK k0)))
def zw (n:Nat) (kR:bm) (ll:bm) (k:aU) (v0:Int) (v1:Int) (v13:Bool) (h:Heap):aa:=ifB v13 (k 0 2 h) (uB .u64 v0 fun a=>shlK .u64 a 8 fun b=>uB .u64 v1 fun c=>agA .or .u64 b c fun d=>k d 0 h)
theorem akn:lo wk (FN (Iy kR ll) k0)=zw n kR ll (kap lK k0):=by delta FN zw; kernel_rfl
def afA:Q1:=(hG cf BH Yk (hG cf BH Yj (kJ wk (FN cf k0))))
def Ln (n:Nat) (kR:bm) (ll:bm) (k:aU) (a0:Int) (a1:Int) (h:Heap):aa:=kR a0 h fun a b=>ifB (jJ a) (zw n kR ll k a0 a1 true b) (ll a1 b fun c d=>zw n kR ll k a0 a1 (jJ c) d)
def Wv (n:Nat) (kR:bm) (ll:bm) (a0:Int) (a1:Int) (h:Heap) (k:aU):aa:=Ln n kR ll k a0 a1 h
theorem anW:DZ cf BH n aeR lK k0=afA cf k0:=by funext s; kernel_rfl
theorem aph:lo lM (DZ (Iy kR ll) BH n aeR lK k0)=cmp lM (Wv n kR ll) (kap lK k0):=(congrArg (lo lM) (anW n (Iy kR ll) k0)).trans (show _=Ln n kR ll (kap lK k0) by obtain ⟨J0,u0⟩:=exi (FN (Iy kR ll) k0); delta afA Ln; rw [← akn,u0]; kernel_rfl)
end
def eA (n:Nat):aZ:=Wv n (dH n) (dL n)
abbrev ae7 (g:bI):Wr:=wrT lM hT g
def si:bg:=lp []
section
variable (k0:Q0)
def Fp:Q1:=(hG cf xB Y5 (jk hT k0))
def zv (n:Nat) (k:ab) (v20:Bool) (h:Heap):aa:=k v20 h
theorem akP:lo Md (Fp si k0)=zv n (kap hT k0):=by delta Fp zv; kernel_rfl
def Fj:Q1:=(hG cf xB ZI (kJ Md (Fp cf k0)))
def zZ (n:Nat) (k:ab) (v0:Int) (v1:Int) (v14:Bool) (h:Heap):aa:=ifB v14 (Ky .i64 1048576 v0 fun a=>zv n k (jJ (ltF a v1)) h) (zv n k false h)
theorem ako:lo Mt (Fj si k0)=zZ n (kap hT k0):=by obtain ⟨J2,u2⟩:=exi (Fp si k0); delta Fj zZ; rw [← akP,u2]; kernel_rfl
def Fg:Q1:=(hG cf xB YE (kJ Mt (Fj cf k0)))
def zK (n:Nat) (k:ab) (v0:Int) (v1:Int) (v10:Bool) (h:Heap):aa:=ifB v10 (zZ n k v0 v1 (jJ (ltF v1 1)) h) (zZ n k v0 v1 false h)
theorem akA:lo Mr (Fg si k0)=zK n (kap hT k0):=by obtain ⟨J1,u1⟩:=exi (Fj si k0); delta Fg zK; rw [← ako,u1]; kernel_rfl
def afd:Q1:=(hG cf xB i7 (hG cf xB Yz (kJ Mr (Fg cf k0))))
def K8 (n:Nat) (k:ab) (a0:Int) (a1:Int) (h:Heap):aa:=ifB (jJ (ltF a0 1)) (zK n k a0 a1 (ltF a0 1048576) h) (zK n k a0 a1 false h)
def UV (n:Nat) (a0:Int) (a1:Int) (h:Heap) (k:ab):aa:=K8 n k a0 a1 h
theorem apx:DZ cf xB n afD hT k0=afd cf k0:=by funext s; kernel_rfl
theorem ao8:lo lM (DZ si xB n afD hT k0)=cmp lM (UV n) (kap hT k0):=(congrArg (lo lM) (apx n si k0)).trans (show _=K8 n (kap hT k0) by obtain ⟨J0,u0⟩:=exi (Fg si k0); delta afd K8; rw [← akA,u0]; kernel_rfl)
end
def dF (n:Nat):bI:=UV n
abbrev aeW (g:bm):Wr:=wrT KF iw g
def yu:bg:=lp []
section
variable (k0:Q0)
def Fe:Q1:=(hG cf BF YD (jk iw k0))
def zP (n:Nat) (k:ab) (v12:Bool) (h:Heap):aa:=k v12 h
theorem akX:lo MD (Fe yu k0)=zP n (kap iw k0):=by delta Fe zP; kernel_rfl
def FJ:Q1:=(hG cf BF YN (kJ MD (Fe cf k0)))
def z7 (n:Nat) (k:ab) (v0:Int) (v8:Bool) (h:Heap):aa:=ifB v8 (zP n k true h) (zP n k (eqF v0 3) h)
theorem akH:lo Mi (FJ yu k0)=z7 n (kap iw k0):=by obtain ⟨J1,u1⟩:=exi (Fe yu k0); delta FJ z7; rw [← akX,u1]; kernel_rfl
def ae3:Q1:=(hG cf BF kZ (hG cf BF ZE (kJ Mi (FJ cf k0))))
def KG (n:Nat) (k:ab) (a0:Int) (h:Heap):aa:=ifB (eqF a0 0) (z7 n k a0 true h) (z7 n k a0 (eqF a0 1) h)
def V1 (n:Nat) (a0:Int) (h:Heap) (k:ab):aa:=KG n k a0 h
theorem aot:DZ cf BF n aeY iw k0=ae3 cf k0:=by funext s; kernel_rfl
theorem aog:lo KF (DZ yu BF n aeY iw k0)=cmp KF (V1 n) (kap iw k0):=(congrArg (lo KF) (aot n yu k0)).trans (show _=KG n (kap iw k0) by obtain ⟨J0,u0⟩:=exi (FJ yu k0); delta ae3 KG; rw [← akH,u0]; kernel_rfl)
end
def dE (n:Nat):bm:=V1 n
abbrev adZ (g:ah):Wr:=wrT ir iL g
def ai5:bg:=lp []
section
variable (k0:Q0)
def alj:Q1:=(hG cf uI oH (hG cf uI ae5 (jk iL k0)))
def XJ (n:Nat) (k:am) (a0:AV) (h:Heap):aa:=pZ h a0 fun a b=>jK .i64 0 b (.ptr a 0) fun c d=>jK .i64 1 b (.ptr a 0) fun e f=>kY .i64 d f fun g=>k g b
def adn (n:Nat) (a0:AV) (h:Heap) (k:am):aa:=XJ n k a0 h
theorem arB:DZ cf uI n alt iL k0=alj cf k0:=by funext s; kernel_rfl
theorem art:lo ir (DZ ai5 uI n alt iL k0)=cmp ir (adn n) (kap iL k0):=(congrArg (lo ir) (arB n ai5 k0)).trans (show _=XJ n (kap iL k0) by delta alj XJ; kernel_rfl)
end
def dw (n:Nat):ah:=adn n
abbrev Gf (g:ah):Wr:=wrT ir iL g
def oA (jm:bI) (jl:bm) (i6:ah):bg:=lp [(afw,ae7 jm),(aeZ,aeW jl),(acZ,adZ i6)]
section
variable (jm:bI) (jl:bm) (i6:ah) (k0:Q0)
def Fh:Q1:=(hG cf ng nr (jk iL k0))
def F4 (n:Nat) (jm:bI) (jl:bm) (i6:ah) (k:am) (h:Heap):aa:=k 0 h
theorem akQ:lo iJ (Fh (oA jm jl i6) k0)=F4 n jm jl i6 (kap iL k0):=by delta Fh F4; kernel_rfl
def FY (J1:Q1):Q1:=(cJ p61 (hG cf ng n3 (jk iL k0)) (hG cf ng ZH (kJ pD J1)))
def sx (n:Nat) (jm:bI) (jl:bm) (i6:ah) (k:am) (j1:aH) (v0:AV) (v8:AV) (v9:Int) (v10:Int) (v61:Bool) (h:Heap):aa:=ifB v61 (k 2 h) (kY .i64 v10 1 fun a=>j1 v0 v8 v9 a h)
theorem akE (J1:Q1):lo Mg (FY (oA jm jl i6) k0 J1)=sx n jm jl i6 (kap iL k0) (lo pD J1):=by delta FY sx; kernel_rfl
def F1 (J1:Q1):Q1:=(cJ p26 (hG cf ng n3 (jk iL k0)) (hG cf ng ZF (kJ Mg (FY cf k0 J1))))
def zC (n:Nat) (jm:bI) (jl:bm) (i6:ah) (k:am) (j1:aH) (v0:AV) (v3:Int) (v4:AV) (v8:AV) (v9:Int) (v10:Int) (v26:Bool) (h:Heap):aa:=ifB v26 (k 2 h) (ifB (ltF 0 v3) (Ky .i64 v3 1 fun a=>eld 3 h v0 a 3 true fun b c=>i6 c (h.shut true) fun d e=>jK .i64 0 (e.back h.ro) v4 fun f g=>ifB (ltF g d) (sx n jm jl i6 k j1 v0 v8 v9 v10 true (e.back h.ro)) (Ky .i64 v3 1 fun i=>eld 3 (e.back h.ro) v0 i 3 true fun l m=>i6 m ((e.back h.ro).shut true) fun o p=>jK .i64 0 (p.back (e.back h.ro).ro) v4 fun q r=>ifB (eqF o r) (Ky .i64 v3 1 fun s=>Bm 3 v0 s fun t=>jK .u8 2 (p.back (e.back h.ro).ro) t fun u w=>jK .u8 2 (p.back (e.back h.ro).ro) v4 fun x y=>sx n jm jl i6 k j1 v0 v8 v9 v10 (eqF w y) (p.back (e.back h.ro).ro)) (sx n jm jl i6 k j1 v0 v8 v9 v10 false (p.back (e.back h.ro).ro)))) (sx n jm jl i6 k j1 v0 v8 v9 v10 false h))
theorem akD (J1:Q1):lo Mu (F1 (oA jm jl i6) k0 J1)=zC n jm jl i6 (kap iL k0) (lo pD J1):=by obtain ⟨J2,u2⟩:=exi (FY (oA jm jl i6) k0 J1); delta F1 zC; rw [← akE,u2]; kernel_rfl
def L2 (J1:Q1):Q1:=(hG cf ng FO (cJ p11 (hG cf ng YB (hG cf ng Y9 (kJ Mu (F1 cf k0 J1)))) (kJ iJ (Fh cf k0))))
def zX (n:Nat) (jm:bI) (jl:bm) (i6:ah) (k:am) (j1:aH) (v0:AV) (v8:AV) (v9:Int) (v10:Int) (h:Heap):aa:=ifB (ltF v10 v9) (eld 3 h v8 v10 3 true fun a b=>lG h (.cells [(.int .i64 0),(.int .i64 0),(.int .u8 0)] true 0) fun c d=>jh d (.ptr c 0) 3 b fun e=>jK .i64 0 e (.ptr c 0) fun f g=>jK .i64 1 e (.ptr c 0) fun i l=>jm g l e fun m o=>ifB (jJ m) (zC n jm jl i6 k j1 v0 v10 (.ptr c 0) v8 v9 v10 true o) (faK 2 (.ptr c 0) fun p=>ldI .u8 o p fun q=>jl q o fun r s=>zC n jm jl i6 k j1 v0 v10 (.ptr c 0) v8 v9 v10 (jJ r) s)) (F4 n jm jl i6 k h)
def LW:Nat→Q1:=lpS (L2 cf k0)
def wn (n:Nat) (jm:bI) (jl:bm) (i6:ah) (k:am):Nat→aH:=lpF pD (zX n jm jl i6 k)
theorem ak9 (k:am) (m:Nat):wn n jm jl i6 k (m+1)=zX n jm jl i6 k (wn n jm jl i6 k m):=rfl
theorem akw (m:Nat):lo pD (LW (oA jm jl i6) k0 m)=wn n jm jl i6 (kap iL k0) m:=mG (fun J1=>(by obtain ⟨J0,u0⟩:=exi (Fh (oA jm jl i6) k0); obtain ⟨J3,u3⟩:=exi (F1 (oA jm jl i6) k0 J1); delta L2 zX; rw [← akQ,u0, ← akD,u3]; kernel_rfl:lo pD (L2 (oA jm jl i6) k0 J1)=zX n jm jl i6 (kap iL k0) (lo pD J1))) m
def aeS:Q1:=(hG cf ng nr (hG cf ng UQ (cJ p7 (hG cf ng YO (jk iL k0)) (hG cf ng FS (kJ pD (LW cf k0 n))))))
def K3 (n:Nat) (jm:bI) (jl:bm) (i6:ah) (k:am) (a0:AV) (h:Heap):aa:=jA a0 fun a=>ifB (ltF 1024 a) (k 3 h) (jA a0 fun b=>wn n jm jl i6 k n a0 a0 b 0 h)
def UH (n:Nat) (jm:bI) (jl:bm) (i6:ah) (a0:AV) (h:Heap) (k:am):aa:=K3 n jm jl i6 k a0 h
theorem aoL:DZ cf ng n afN iL k0=aeS n cf k0:=by funext s; kernel_rfl
theorem aoo:lo ir (DZ (oA jm jl i6) ng n afN iL k0)=cmp ir (UH n jm jl i6) (kap iL k0):=(congrArg (lo ir) (aoL n (oA jm jl i6) k0)).trans (show _=K3 n jm jl i6 (kap iL k0) by obtain ⟨J1,u1⟩:=exi (LW (oA jm jl i6) k0 n); delta aeS K3; rw [← akw,u1]; kernel_rfl)
end
def cD (n:Nat):ah:=UH n (dF n) (dE n) (dw n)
abbrev Mm (g:ah):Wr:=wrT ir iL g
def oj (iq:ah):bg:=lp [(F9,Gf iq)]
section
variable (iq:ah) (k0:Q0)
def rX:Q1:=(hG cf kO S7 (cJ p54 (hG cf kO n3 (jk iL k0)) (hG cf kO nr (jk iL k0))))
def uT (n:Nat) (iq:ah) (k:am) (v1:AV) (v4:Int) (h:Heap):aa:=jK .i64 1 h v1 fun a b=>ifB (jJ (eqF v4 b)) (k 2 h) (k 0 h)
theorem RA:lo Ah (rX (oj iq) k0)=uT n iq (kap iL k0):=by delta rX uT; kernel_rfl
def Ae:Q1:=(cJ p50 (hG cf kO n3 (jk iL k0)) (kJ Ah (rX cf k0)))
def rS (n:Nat) (iq:ah) (k:am) (v1:AV) (v4:Int) (v50:Bool) (h:Heap):aa:=ifB v50 (k 2 h) (uT n iq k v1 v4 h)
theorem ago:lo GV (Ae (oj iq) k0)=rS n iq (kap iL k0):=by obtain ⟨J0,u0⟩:=exi (rX (oj iq) k0); delta Ae rS; rw [← RA,u0]; kernel_rfl
def AG:Q1:=(cJ p20 (hG cf kO n3 (jk iL k0)) (hG cf kO jo (hG cf kO Rq (hG cf kO TU (cJ p25 (hG cf kO Si (hG cf kO S1 (hG cf kO TR (kJ GV (Ae cf k0))))) (kJ Ah (rX cf k0)))))))
def vK (n:Nat) (iq:ah) (k:am) (v1:AV) (v20:Bool) (h:Heap):aa:=ifB v20 (k 2 h) (fld 0 h v1 1 false fun a b=>jA b fun c=>ifB (ltF 0 c) (fld 0 h v1 1 false fun d e=>Ky .i64 c 1 fun f=>eld 3 h e f 3 true fun g i=>lG h (.cells [(.int .i64 0),(.int .i64 0),(.int .u8 0)] true 0) fun l m=>jh m (.ptr l 0) 3 i fun o=>jK .i64 0 o (.ptr l 0) fun p q=>jK .i64 1 o (.ptr l 0) fun r s=>kY .i64 q s fun t=>Ky .i64 t 524288 fun u=>yY true [(.int .i64 0),(.int .i64 u)] fun w=>Gc .i64 w fun x=>ifB (ltF 0 x) (faK 0 (.ptr l 0) fun y=>ldI .i64 o y fun z=>ifB (ltF 524288 z) (rS n iq k v1 x true o) (faK 2 (.ptr l 0) fun A=>ldI .u8 o A fun B=>rS n iq k v1 x (jJ (eqF B 3)) o)) (rS n iq k v1 x false o)) (uT n iq k v1 0 h))
theorem ag6:lo rI (AG (oj iq) k0)=vK n iq (kap iL k0):=by obtain ⟨J0,u0⟩:=exi (rX (oj iq) k0); obtain ⟨J1,u1⟩:=exi (Ae (oj iq) k0); delta AG vK; rw [← RA,u0, ← ago,u1]; kernel_rfl
def Ya:Q1:=(hG cf kO oH (hG cf kO Ny (hG cf kO Ph (cJ p11 (hG cf kO P5 (jk iL k0)) (hG cf kO PV (kJ rI (AG cf k0)))))))
def Fs (n:Nat) (iq:ah) (k:am) (a0:AV) (h:Heap):aa:=pZ h a0 fun a b=>fld 0 b (.ptr a 0) 1 false fun c d=>iq d b fun e f=>ifB (jJ (eqF e 0)) (k e f) (jK .i64 1 f (.ptr a 0) fun g i=>ifB (ltF i 0) (vK n iq k (.ptr a 0) true f) (faK 1 (.ptr a 0) fun l=>ldI .i64 f l fun m=>vK n iq k (.ptr a 0) (ltF 1024 m) f))
def Ms (n:Nat) (iq:ah) (a0:AV) (h:Heap) (k:am):aa:=Fs n iq k a0 h
theorem akR:DZ cf kO n Zl iL k0=Ya cf k0:=by funext s; kernel_rfl
theorem akJ:lo ir (DZ (oj iq) kO n Zl iL k0)=cmp ir (Ms n iq) (kap iL k0):=(congrArg (lo ir) (akR n (oj iq) k0)).trans (show _=Fs n iq (kap iL k0) by obtain ⟨J2,u2⟩:=exi (AG (oj iq) k0); delta Ya Fs; rw [← ag6,u2]; kernel_rfl)
end
def di (n:Nat):ah:=Ms n (cD n)
abbrev bG:=Int→Heap→(Int→Int→Int→Heap→aa)→aa
abbrev cU:=Int→Int→Int→Heap→aa
abbrev abZ (g:bG):Wr:=wrT sj mq g
def Y6:bg:=lp []
section
variable (k0:Q0)
def aa7:Q1:=(hG cf nF CJ (hG cf nF U5 (cJ p7 (hG cf nF Db (jk mq k0)) (hG cf nF Da (jk mq k0)))))
def IA (n:Nat) (k:cU) (a0:Int) (h:Heap):aa:=shrK .u64 a0 28 fun a=>ifB (jJ (eqF a 0)) (k 0 0 10 h) (shrK .u64 a0 8 fun b=>uB .i64 b fun c=>agA .and .u64 a0 255 fun d=>uB .i64 d fun e=>k c e 0 h)
def Qb (n:Nat) (a0:Int) (h:Heap) (k:cU):aa:=IA n k a0 h
theorem anz:DZ cf nF n aco mq k0=aa7 cf k0:=by funext s; kernel_rfl
theorem ams:lo sj (DZ Y6 nF n aco mq k0)=cmp sj (Qb n) (kap mq k0):=(congrArg (lo sj) (anz n Y6 k0)).trans (show _=IA n (kap mq k0) by delta aa7 IA; kernel_rfl)
end
def en (n:Nat):bG:=Qb n
abbrev dU:=Int→Int→Heap→(Int→Int→Int→Heap→aa)→aa
abbrev aiH (g:dU):Wr:=wrT xh sm g
def BO (kw:bG):bg:=lp [(abR,abZ kw)]
section
variable (kw:bG) (k0:Q0)
def IH:Q1:=(cJ p27 (hG cf sy ab4 (jk sm k0)) (hG cf sy abw (jk sm k0)))
def DB (n:Nat) (kw:bG) (k:cU) (v4:Int) (v5:Int) (v27:Bool) (h:Heap):aa:=ifB v27 (k 0 0 2 h) (k v4 v5 0 h)
theorem amo:lo QD (IH (BO kw) k0)=DB n kw (kap sm k0):=by delta IH DB; kernel_rfl
def IE:Q1:=(hG cf sy acE (kJ QD (IH cf k0)))
def Du (n:Nat) (kw:bG) (k:cU) (v1:Int) (v4:Int) (v5:Int) (v21:Bool) (h:Heap):aa:=ifB v21 (DB n kw k v4 v5 true h) (kY .i64 v5 v1 fun a=>DB n kw k v4 v5 (ltF 256 a) h)
theorem am0:lo Qt (IE (BO kw) k0)=Du n kw (kap sm k0):=by obtain ⟨J1,u1⟩:=exi (IH (BO kw) k0); delta IE Du; rw [← amo,u1]; kernel_rfl
def ajK:Q1:=(hG cf sy acF (hG cf sy aaU (hG cf sy F3 (cJ p14 (hG cf sy acN (jk sm k0)) (hG cf sy aba (kJ Qt (IE cf k0)))))))
def QS (n:Nat) (kw:bG) (k:cU) (a0:Int) (a1:Int) (h:Heap):aa:=kw a0 h fun a b c d=>ifB (jJ (eqF c 0)) (k 0 0 c d) (ifB (ltF a1 1) (Du n kw k a1 a b true d) (Du n kw k a1 a b (ltF 8 a1) d))
def ZX (n:Nat) (kw:bG) (a0:Int) (a1:Int) (h:Heap) (k:cU):aa:=QS n kw k a0 a1 h
theorem aqi:DZ cf sy n ajR sm k0=ajK cf k0:=by funext s; kernel_rfl
theorem aqe:lo xh (DZ (BO kw) sy n ajR sm k0)=cmp xh (ZX n kw) (kap sm k0):=(congrArg (lo xh) (aqi n (BO kw) k0)).trans (show _=QS n kw (kap sm k0) by obtain ⟨J0,u0⟩:=exi (IE (BO kw) k0); delta ajK QS; rw [← am0,u0]; kernel_rfl)
end
def eL (n:Nat):dU:=ZX n (en n)
abbrev aft (g:ae):Wr:=wrT gW gS g
def qB (i6:ah):bg:=lp [(acZ,adZ i6)]
section
variable (i6:ah) (k0:Q0)
def Fx:Q1:=(hG cf xI YG (jk gS k0))
def Fo (n:Nat) (i6:ah) (k:am) (v5:Int) (h:Heap):aa:=k v5 h
theorem akz:lo wd (Fx (qB i6) k0)=Fo n i6 (kap gS k0):=by delta Fx Fo; kernel_rfl
def FI (J1:Q1):Q1:=(cJ p18 (hG cf xI YR (kJ qL J1)) (kJ wd (Fx cf k0)))
def zS (n:Nat) (i6:ah) (k:am) (j1:bM) (v0:AV) (v1:Int) (v5:Int) (v18:Bool) (h:Heap):aa:=ifB v18 (kY .i64 v5 1 fun a=>j1 v0 v1 a h) (Fo n i6 k v5 h)
theorem aj9 (J1:Q1):lo Mw (FI (qB i6) k0 J1)=zS n i6 (kap gS k0) (lo qL J1):=by obtain ⟨J0,u0⟩:=exi (Fx (qB i6) k0); delta FI zS; rw [← akz,u0]; kernel_rfl
def Mj (J1:Q1):Q1:=(hG cf xI Yd (kJ Mw (FI cf k0 J1)))
def zM (n:Nat) (i6:ah) (k:am) (j1:bM) (v0:AV) (v1:Int) (v5:Int) (h:Heap):aa:=jA v0 fun a=>ifB (ltF v5 a) (eld 3 h v0 v5 3 true fun b c=>i6 c h fun d e=>zS n i6 k j1 v0 v1 v5 (jJ (ltF v1 d)) e) (zS n i6 k j1 v0 v1 v5 false h)
def L7:Nat→Q1:=lpS (Mj cf k0)
def zN (n:Nat) (i6:ah) (k:am):Nat→bM:=lpF qL (zM n i6 k)
theorem akt (k:am) (m:Nat):zN n i6 k (m+1)=zM n i6 k (zN n i6 k m):=rfl
theorem akK (m:Nat):lo qL (L7 (qB i6) k0 m)=zN n i6 (kap gS k0) m:=mG (fun J1=>(by obtain ⟨J2,u2⟩:=exi (FI (qB i6) k0 J1); delta Mj zM; rw [← aj9,u2]; kernel_rfl:lo qL (Mj (qB i6) k0 J1)=zM n i6 (kap gS k0) (lo qL J1))) m
def ae4:Q1:=(hG cf xI jo (hG cf xI we (kJ qL (L7 cf k0 n))))
def LG (n:Nat) (i6:ah) (k:am) (a0:AV) (a1:Int) (h:Heap):aa:=zN n i6 k n a0 a1 0 h
def VX (n:Nat) (i6:ah) (a0:AV) (a1:Int) (h:Heap) (k:am):aa:=LG n i6 k a0 a1 h
theorem apz:DZ cf xI n afK gS k0=ae4 n cf k0:=by funext s; kernel_rfl
theorem aow:lo gW (DZ (qB i6) xI n afK gS k0)=cmp gW (VX n i6) (kap gS k0):=(congrArg (lo gW) (apz n (qB i6) k0)).trans (show _=LG n i6 (kap gS k0) by obtain ⟨J1,u1⟩:=exi (L7 (qB i6) k0 n); delta ae4 LG; rw [← akK,u1]; kernel_rfl)
end
def dY (n:Nat):ae:=VX n (dw n)
abbrev dW:=AV→Int→Heap→(AV→Bool→Int→Heap→aa)→aa
abbrev ah3 (g:dW):Wr:=wrT gW rt g
def BQ (iq:ah) (kQ:ae):bg:=lp [(F9,Gf iq),(afx,aft kQ)]
section
variable (iq:ah) (kQ:ae) (k0:Q0)
def H2:Q1:=(cJ p37 (hG cf qx acw (jk rt k0)) (hG cf qx acb (jk rt k0)))
def Cg (n:Nat) (iq:ah) (kQ:ae) (k:cF) (v0:AV) (v4:AV) (v8:Int) (v37:Bool) (h:Heap):aa:=ifB v37 (eld 3 h v0 v8 3 true fun a b=>jh h v4 3 b fun c=>jd c v4 3 true fun d=>k d true 0 c) (lh [(.int .i64 0),(.int .i64 0),(.int .u8 0)] [] fun e=>jh h v4 3 e fun f=>jd f v4 3 true fun g=>k g false 0 f)
theorem amK:lo Qm (H2 (BQ iq kQ) k0)=Cg n iq kQ (kap rt k0):=by delta H2 Cg; kernel_rfl
def Iz:Q1:=(cJ p20 (hG cf qx aa1 (jk rt k0)) (hG cf qx aca (hG cf qx aav (kJ Qm (H2 cf k0)))))
def CV (n:Nat) (iq:ah) (kQ:ae) (k:cF) (v0:AV) (v1:Int) (v4:AV) (v20:Bool) (h:Heap):aa:=ifB v20 (lh [(.int .i64 0),(.int .i64 0),(.int .u8 0)] [] fun a=>jh h v4 3 a fun b=>jd b v4 3 true fun c=>k c false 2 b) (kQ v0 v1 h fun d e=>jA v0 fun f=>ifB (ltF d f) (Bm 3 v0 d fun g=>jK .i64 0 e g fun i l=>Cg n iq kQ k v0 v4 d (jJ (ltF v1 l)) e) (Cg n iq kQ k v0 v4 d false e))
theorem amZ:lo Qx (Iz (BQ iq kQ) k0)=CV n iq kQ (kap rt k0):=by obtain ⟨J0,u0⟩:=exi (H2 (BQ iq kQ) k0); delta Iz CV; rw [← amK,u0]; kernel_rfl
def ahH:Q1:=(hG cf qx abj (hG cf qx aa2 (hG cf qx acK (cJ p12 (hG cf qx abv (jk rt k0)) (hG cf qx acI (kJ Qx (Iz cf k0)))))))
def QR (n:Nat) (iq:ah) (kQ:ae) (k:cF) (a0:AV) (a1:Int) (h:Heap):aa:=lG h (.cells [(.int .i64 0),(.int .i64 0),(.int .u8 0)] true 0) fun a b=>iq a0 b fun c d=>ifB (jJ (eqF c 0)) (lh [(.int .i64 0),(.int .i64 0),(.int .u8 0)] [] fun e=>jh d (.ptr a 0) 3 e fun f=>jd f (.ptr a 0) 3 true fun g=>k g false c f) (ifB (ltF a1 0) (CV n iq kQ k a0 a1 (.ptr a 0) true d) (CV n iq kQ k a0 a1 (.ptr a 0) (jJ (ltF a1 1048576)) d))
def aaa (n:Nat) (iq:ah) (kQ:ae) (a0:AV) (a1:Int) (h:Heap) (k:cF):aa:=QR n iq kQ k a0 a1 h
theorem aqy:DZ cf qx n ai8 rt k0=ahH cf k0:=by funext s; kernel_rfl
theorem aqd:lo gW (DZ (BQ iq kQ) qx n ai8 rt k0)=cmp gW (aaa n iq kQ) (kap rt k0):=(congrArg (lo gW) (aqy n (BQ iq kQ) k0)).trans (show _=QR n iq kQ (kap rt k0) by obtain ⟨J1,u1⟩:=exi (Iz (BQ iq kQ) k0); delta ahH QR; rw [← amZ,u1]; kernel_rfl)
end
def eJ (n:Nat):dW:=aaa n (cD n) (dY n)
abbrev cX:=AV→Int→Int→Bool→Heap→(Int→Heap→aa)→aa
abbrev WF (g:cX):Wr:=wrT Dn mh g
def AU (jH:ah) (m7:dU) (m9:dW):bg:=lp [(LU,Mm jH),(ai3,aiH m7),(ajJ,ah3 m9)]
section
variable (jH:ah) (m7:dU) (m9:dW) (k0:Q0)
def sP:Q1:=(hG cf ki NP (cJ p43 (hG cf ki Oq (jk mh k0)) (hG cf ki MQ (cJ p46 (hG cf ki PC (jk mh k0)) (hG cf ki nP (jk mh k0))))))
def tK (n:Nat) (jH:ah) (m7:dU) (m9:dW) (k:am) (v13:AV) (v14:Bool) (v15:Int) (h:Heap):aa:=ifB (jJ v14) (k 170 h) (jK .u8 2 h v13 fun a b=>agA .and .u8 b v15 fun c=>ifB (eqF c 0) (k 172 h) (k 0 h))
theorem ade:lo yB (sP (AU jH m7 m9) k0)=tK n jH m7 m9 (kap mh k0):=by delta sP tK; kernel_rfl
def Vv:Q1:=(hG cf ki Lp (hG cf ki KS (hG cf ki KM (cJ p19 (hG cf ki KR (jk mh k0)) (hG cf ki LA (hG cf ki Ld (cJ p29 (hG cf ki K1 (jk mh k0)) (hG cf ki LM (hG cf ki Pe (cJ p40 (hG cf ki Pu (jk mh k0)) (hG cf ki PE (hG cf ki PQ (cJ p42 (hG cf ki PD (kJ yB (sP cf k0))) (kJ yB (sP cf k0)))))))))))))))
def Cc (n:Nat) (jH:ah) (m7:dU) (m9:dW) (k:am) (a0:AV) (a1:Int) (a2:Int) (a3:Bool) (h:Heap):aa:=pZ h a0 fun a b=>jd b (.ptr a 0) 2 true fun c=>jH c b fun d e=>ifB (jJ (eqF d 0)) (k d e) (m7 a1 a2 e fun f g i l=>ifB (jJ (eqF i 0)) (k i l) (fld 0 l (.ptr a 0) 1 false fun m o=>m9 o f l fun p q r s=>lG s (.cells [(.int .i64 0),(.int .i64 0),(.int .u8 0)] true 0) fun t u=>jh u (.ptr t 0) 3 p fun w=>ifB (jJ (eqF r 0)) (k r w) (ifB a3 (tK n jH m7 m9 k (.ptr t 0) q 2 w) (tK n jH m7 m9 k (.ptr t 0) q 1 w))))
def Jy (n:Nat) (jH:ah) (m7:dU) (m9:dW) (a0:AV) (a1:Int) (a2:Int) (a3:Bool) (h:Heap) (k:am):aa:=Cc n jH m7 m9 k a0 a1 a2 a3 h
theorem aj4:DZ cf ki n Vh mh k0=Vv cf k0:=by funext s; kernel_rfl
theorem aju:lo Dn (DZ (AU jH m7 m9) ki n Vh mh k0)=cmp Dn (Jy n jH m7 m9) (kap mh k0):=(congrArg (lo Dn) (aj4 n (AU jH m7 m9) k0)).trans (show _=Cc n jH m7 m9 (kap mh k0) by obtain ⟨J0,u0⟩:=exi (sP (AU jH m7 m9) k0); delta Vv Cc; rw [← ade,u0]; kernel_rfl)
end
def dD (n:Nat):cX:=Jy n (di n) (eL n) (eJ n)
abbrev Vz (g:ad):Wr:=wrT gW hT g
def Bd (mo:aZ) (kS:cX):bg:=lp [(afq,afu mo),(Vu,WF kS)]
section
variable (mo:aZ) (kS:cX) (k0:Q0)
def ys:Q1:=(hG cf oi Ox (jk hT k0))
def tt (n:Nat) (mo:aZ) (kS:cX) (k:ab) (v22:Bool) (h:Heap):aa:=k v22 h
theorem aea:lo DY (ys (Bd mo kS) k0)=tt n mo kS (kap hT k0):=by delta ys tt; kernel_rfl
def Uq:Q1:=(hG cf oi qn (hG cf oi Nk (hG cf oi OW (cJ p13 (hG cf oi i7 (jk hT k0)) (hG cf oi ND (hG cf oi P2 (kJ DY (ys cf k0))))))))
def B9 (n:Nat) (mo:aZ) (kS:cX) (k:ab) (a0:AV) (a1:Int) (h:Heap):aa:=pZ h a0 fun a b=>mo a1 0 b fun c d e=>ifB (jJ (eqF d 0)) (k false e) (jd e (.ptr a 0) 2 true fun f=>kS f c 1 false e fun g i=>ifB (eqF g 0) (tt n mo kS k true i) (tt n mo kS k (eqF g 172) i))
def Kl (n:Nat) (mo:aZ) (kS:cX) (a0:AV) (a1:Int) (h:Heap) (k:ab):aa:=B9 n mo kS k a0 a1 h
theorem aiP:DZ cf oi n Wi hT k0=Uq cf k0:=by funext s; kernel_rfl
theorem aiY:lo gW (DZ (Bd mo kS) oi n Wi hT k0)=cmp gW (Kl n mo kS) (kap hT k0):=(congrArg (lo gW) (aiP n (Bd mo kS) k0)).trans (show _=B9 n mo kS (kap hT k0) by obtain ⟨J0,u0⟩:=exi (ys (Bd mo kS) k0); delta Uq B9; rw [← aea,u0]; kernel_rfl)
end
def bu (n:Nat):ad:=Kl n (eA n) (dD n)
abbrev aM:=AV→AV→Int→Heap→(Bool→Heap→aa)→aa
abbrev aaq (g:aM):Wr:=wrT lN iv g
def je (gB:ad) (gF:aI) (ij:aX) (gT:bp) (hO:ad):bg:=lp [(nA,nC gB),(wi,wm gF),(afi,aff ij),(VR,WE gT),(V9,Vz hO)]
abbrev d6:Type:=AV→AV→AV→Int→Int→AV→Int→Int→Heap→aa
section
variable (gB:ad) (gF:aI) (ij:aX) (gT:bp) (hO:ad) (k0:Q0)
def CS:Q1:=(hG cf jr WO (jk iv k0))
def Di (n:Nat) (gB:ad) (gF:aI) (ij:aX) (gT:bp) (hO:ad) (k:ab) (h:Heap):aa:=k true h
theorem ajZ:lo iJ (CS (je gB gF ij gT hO) k0)=Di n gB gF ij gT hO (kap iv k0):=by delta CS Di; kernel_rfl
def CA (J1:Q1):Q1:=(hG cf jr W8 (kJ lb J1))
def Dz (n:Nat) (gB:ad) (gF:aI) (ij:aX) (gT:bp) (hO:ad) (k:ab) (j1:aH) (v4:AV) (v79:AV) (v80:Int) (v81:Int) (h:Heap):aa:=kY .i64 v81 1 fun a=>j1 v4 v79 v80 a h
theorem ajC (J1:Q1):lo lb (CA (je gB gF ij gT hO) J1)=Dz n gB gF ij gT hO (kap iv k0) (lo lb J1):=by delta CA Dz; kernel_rfl
def Dk (J3:Q1):Q1:=(cJ XW (hG cf jr jg (jk iv k0)) (hG cf jr Vd (kJ ob J3)))
def ri (n:Nat) (gB:ad) (gF:aI) (ij:aX) (gT:bp) (hO:ad) (k:ab) (j3:d6) (v4:AV) (v17:AV) (v79:AV) (v80:Int) (v81:Int) (v102:AV) (v103:Int) (v104:Int) (v141:Bool) (h:Heap):aa:=ifB v141 (k false h) (kY .i64 v104 1 fun a=>j3 v4 v17 v79 v80 v81 v102 v103 a h)
theorem aiy (J3:Q1):lo Jw (Dk (je gB gF ij gT hO) k0 J3)=ri n gB gF ij gT hO (kap iv k0) (lo ob J3):=by delta Dk ri; kernel_rfl
def CF (J3:Q1):Q1:=(hG cf jr WC (kJ Jw (Dk cf k0 J3)))
def rj (n:Nat) (gB:ad) (gF:aI) (ij:aX) (gT:bp) (hO:ad) (k:ab) (j3:d6) (v4:AV) (v17:AV) (v19:AV) (v79:AV) (v80:Int) (v81:Int) (v102:AV) (v103:Int) (v104:Int) (v127:Bool) (h:Heap):aa:=ifB v127 (ri n gB gF ij gT hO k j3 v4 v17 v79 v80 v81 v102 v103 v104 true h) (faK 1 v19 fun a=>fldB 1 h a fun b c=>ifB c (faK 3 v4 fun d=>jd h d 1 false fun e=>faK 1 v19 fun f=>jK .i64 6 h f fun g i=>gB e i h fun l m=>ri n gB gF ij gT hO k j3 v4 v17 v79 v80 v81 v102 v103 v104 (jJ l) m) (ri n gB gF ij gT hO k j3 v4 v17 v79 v80 v81 v102 v103 v104 false h))
theorem aib (J3:Q1):lo IY (CF (je gB gF ij gT hO) k0 J3)=rj n gB gF ij gT hO (kap iv k0) (lo ob J3):=by obtain ⟨J5,u5⟩:=exi (Dk (je gB gF ij gT hO) k0 J3); delta CF rj; rw [← aiy,u5]; kernel_rfl
def I8 (J1:Q1) (J3:Q1):Q1:=(hG cf jr Xb (cJ adk (hG cf jr Wc (hG cf jr T9 (kJ IY (CF cf k0 J3)))) (kJ lb (CA cf J1))))
def xl (n:Nat) (gB:ad) (gF:aI) (ij:aX) (gT:bp) (hO:ad) (k:ab) (j1:aH) (j3:d6) (v4:AV) (v17:AV) (v79:AV) (v80:Int) (v81:Int) (v102:AV) (v103:Int) (v104:Int) (h:Heap):aa:=ifB (ltF v104 v103) (eld 8 h v102 v104 8 true fun a b=>lG h (.cells [(.int .i64 0),(.bool false),(.bool false),(.bool false),(.bool false),(.bool false),(.bool false),(.int .i64 0)] true 0) fun c d=>jh d (.ptr c 0) 8 b fun e=>fld 2 e v17 2 true fun f g=>jK .i64 0 e (.ptr c 0) fun i l=>hO g l e fun m o=>ifB (jJ m) (rj n gB gF ij gT hO k j3 v4 v17 (.ptr c 0) v79 v80 v81 v102 v103 v104 true o) (faK 1 (.ptr c 0) fun p=>fldB 0 o p fun q r=>ifB r (faK 0 v4 fun s=>jd o s 1 false fun t=>faK 1 (.ptr c 0) fun u=>jK .i64 6 o u fun w x=>gT t x 2 o fun y z=>rj n gB gF ij gT hO k j3 v4 v17 (.ptr c 0) v79 v80 v81 v102 v103 v104 (jJ y) z) (rj n gB gF ij gT hO k j3 v4 v17 (.ptr c 0) v79 v80 v81 v102 v103 v104 false o))) (Dz n gB gF ij gT hO k j1 v4 v79 v80 v81 h)
def IV (J1:Q1):Nat→Q1:=lpS (I8 cf k0 J1)
def rg (n:Nat) (gB:ad) (gF:aI) (ij:aX) (gT:bp) (hO:ad) (k:ab) (j1:aH):Nat→d6:=lpF ob (xl n gB gF ij gT hO k j1)
theorem aiq (k:ab) (j1:aH) (m:Nat):rg n gB gF ij gT hO k j1 (m+1)=xl n gB gF ij gT hO k j1 (rg n gB gF ij gT hO k j1 m):=rfl
theorem aiQ (J1:Q1) (m:Nat):lo ob (IV (je gB gF ij gT hO) k0 J1 m)=rg n gB gF ij gT hO (kap iv k0) (lo lb J1) m:=mG (fun J3=>(by obtain ⟨J2,u2⟩:=exi (CA (je gB gF ij gT hO) J1); obtain ⟨J4,u4⟩:=exi (CF (je gB gF ij gT hO) k0 J3); delta I8 xl; rw [← ajC,u2, ← aib,u4]; kernel_rfl:lo ob (I8 (je gB gF ij gT hO) k0 J1 J3)=xl n gB gF ij gT hO (kap iv k0) (lo lb J1) (lo ob J3))) m
def B3 (J1:Q1):Q1:=(cJ XR (hG cf jr jg (jk iv k0)) (hG cf jr Wk (kJ ob (IV cf k0 J1 n))))
def tS (n:Nat) (gB:ad) (gF:aI) (ij:aX) (gT:bp) (hO:ad) (k:ab) (j1:aH) (v4:AV) (v17:AV) (v79:AV) (v80:Int) (v81:Int) (v100:Bool) (h:Heap):aa:=ifB v100 (k false h) (fld 4 h v17 1 false fun a b=>jA b fun c=>rg n gB gF ij gT hO k j1 n v4 v17 v79 v80 v81 b c 0 h)
theorem ahV (J1:Q1):lo JM (B3 n (je gB gF ij gT hO) k0 J1)=tS n gB gF ij gT hO (kap iv k0) (lo lb J1):=by obtain ⟨J3,u3⟩:=exi (IV (je gB gF ij gT hO) k0 J1 n); delta B3 tS; rw [← aiQ,u3]; kernel_rfl
def B2 (J1:Q1):Q1:=(hG cf jr Tk (kJ JM (B3 n cf k0 J1)))
def ul (n:Nat) (gB:ad) (gF:aI) (ij:aX) (gT:bp) (hO:ad) (k:ab) (j1:aH) (v4:AV) (v17:AV) (v79:AV) (v80:Int) (v81:Int) (v92:Bool) (h:Heap):aa:=ifB v92 (tS n gB gF ij gT hO k j1 v4 v17 v79 v80 v81 true h) (faK 0 v4 fun a=>jd h a 1 false fun b=>jK .i64 1 h v17 fun c d=>gT b d 3 h fun e f=>tS n gB gF ij gT hO k j1 v4 v17 v79 v80 v81 (jJ e) f)
theorem ajg (J1:Q1):lo Jr (B2 n (je gB gF ij gT hO) k0 J1)=ul n gB gF ij gT hO (kap iv k0) (lo lb J1):=by obtain ⟨J7,u7⟩:=exi (B3 n (je gB gF ij gT hO) k0 J1); delta B2 ul; rw [← ahV,u7]; kernel_rfl
def I7 (J1:Q1):Q1:=(hG cf jr Rp (cJ p82 (hG cf jr TO (hG cf jr S2 (kJ Jr (B2 n cf k0 J1)))) (kJ iJ (CS cf k0))))
def xF (n:Nat) (gB:ad) (gF:aI) (ij:aX) (gT:bp) (hO:ad) (k:ab) (j1:aH) (v4:AV) (v79:AV) (v80:Int) (v81:Int) (h:Heap):aa:=ifB (ltF v81 v80) (eld 5 h v79 v81 5 true fun a b=>lG h (.cells [(.int .i64 0),(.int .i64 0),.nilslice,(.int .i64 0),.nilslice] true 0) fun c d=>jh d (.ptr c 0) 5 b fun e=>jK .i64 0 e (.ptr c 0) fun f g=>ifB (ltF g 0) (ul n gB gF ij gT hO k j1 v4 (.ptr c 0) v79 v80 v81 true e) (faK 0 (.ptr c 0) fun i=>ldI .i64 e i fun l=>ul n gB gF ij gT hO k j1 v4 (.ptr c 0) v79 v80 v81 (jJ (ltF l 16)) e)) (Di n gB gF ij gT hO k h)
def JZ:Nat→Q1:=lpS (I7 n cf k0)
def nq (n:Nat) (gB:ad) (gF:aI) (ij:aX) (gT:bp) (hO:ad) (k:ab):Nat→aH:=lpF lb (xF n gB gF ij gT hO k)
theorem ahX (k:ab) (m:Nat):nq n gB gF ij gT hO k (m+1)=xF n gB gF ij gT hO k (nq n gB gF ij gT hO k m):=rfl
theorem aje (m:Nat):lo lb (JZ n (je gB gF ij gT hO) k0 m)=nq n gB gF ij gT hO (kap iv k0) m:=mG (fun J1=>(by obtain ⟨J0,u0⟩:=exi (CS (je gB gF ij gT hO) k0); obtain ⟨J6,u6⟩:=exi (B2 n (je gB gF ij gT hO) k0 J1); delta I7 xF; rw [← ajZ,u0, ← ajg,u6]; kernel_rfl:lo lb (I7 n (je gB gF ij gT hO) k0 J1)=xF n gB gF ij gT hO (kap iv k0) (lo lb J1))) m
def B8:Q1:=(hG cf jr TK (kJ lb (JZ n cf k0 n)))
def xc (n:Nat) (gB:ad) (gF:aI) (ij:aX) (gT:bp) (hO:ad) (k:ab) (v4:AV) (h:Heap):aa:=fld 4 h v4 1 false fun a b=>jA b fun c=>nq n gB gF ij gT hO k n v4 b c 0 h
theorem ai2:lo uh (B8 n (je gB gF ij gT hO) k0)=xc n gB gF ij gT hO (kap iv k0):=by obtain ⟨J1,u1⟩:=exi (JZ n (je gB gF ij gT hO) k0 n); delta B8 xc; rw [← aje,u1]; kernel_rfl
def A6 (J9:Q1):Q1:=(cJ p76 (hG cf jr jg (jk iv k0)) (hG cf jr RQ (kJ pV J9)))
def rU (n:Nat) (gB:ad) (gF:aI) (ij:aX) (gT:bp) (hO:ad) (k:ab) (j9:da) (v2:Int) (v3:AV) (v4:AV) (v12:Int) (v56:AV) (v57:Int) (v58:Int) (v76:Bool) (h:Heap):aa:=ifB v76 (k false h) (kY .i64 v58 1 fun a=>j9 v2 v3 v4 v12 v56 v57 a h)
theorem af1 (J9:Q1):lo HN (A6 (je gB gF ij gT hO) k0 J9)=rU n gB gF ij gT hO (kap iv k0) (lo pV J9):=by delta A6 rU; kernel_rfl
def Jm (J9:Q1):Q1:=(hG cf jr RV (cJ p59 (hG cf jr Th (hG cf jr Sf (kJ HN (A6 cf k0 J9)))) (kJ uh (B8 n cf k0))))
def xA (n:Nat) (gB:ad) (gF:aI) (ij:aX) (gT:bp) (hO:ad) (k:ab) (j9:da) (v2:Int) (v3:AV) (v4:AV) (v12:Int) (v56:AV) (v57:Int) (v58:Int) (h:Heap):aa:=ifB (ltF v58 v57) (Ma .i64 1 h v56 v58 fun a b=>ifB (ltF b v12) (rU n gB gF ij gT hO k j9 v2 v3 v4 v12 v56 v57 v58 true h) (fld 16 h v3 1 false fun c d=>Bm 8 d v2 fun e=>jK .i64 7 h e fun f g=>kY .i64 v12 g fun i=>rU n gB gF ij gT hO k j9 v2 v3 v4 v12 v56 v57 v58 (jJ (ltF b i)) h)) (xc n gB gF ij gT hO k v4 h)
def Ke:Nat→Q1:=lpS (Jm n cf k0)
def tp (n:Nat) (gB:ad) (gF:aI) (ij:aX) (gT:bp) (hO:ad) (k:ab):Nat→da:=lpF pV (xA n gB gF ij gT hO k)
theorem ain (k:ab) (m:Nat):tp n gB gF ij gT hO k (m+1)=xA n gB gF ij gT hO k (tp n gB gF ij gT hO k m):=rfl
theorem aiF (m:Nat):lo pV (Ke n (je gB gF ij gT hO) k0 m)=tp n gB gF ij gT hO (kap iv k0) m:=mG (fun J9=>(by obtain ⟨J8,u8⟩:=exi (B8 n (je gB gF ij gT hO) k0); obtain ⟨J10,u10⟩:=exi (A6 (je gB gF ij gT hO) k0 J9); delta Jm xA; rw [← ai2,u8, ← af1,u10]; kernel_rfl:lo pV (Jm n (je gB gF ij gT hO) k0 J9)=xA n gB gF ij gT hO (kap iv k0) (lo pV J9))) m
def Ay:Q1:=(hG cf jr TE (hG cf jr TV (cJ p54 (hG cf jr jg (jk iv k0)) (hG cf jr Te (kJ pV (Ke n cf k0 n))))))
def vH (n:Nat) (gB:ad) (gF:aI) (ij:aX) (gT:bp) (hO:ad) (k:ab) (v2:Int) (v3:AV) (v4:AV) (h:Heap):aa:=jd h v3 17 true fun a=>ij a v2 h fun b c d=>ifB (jJ (eqF c 0)) (k false d) (fld 3 d v4 1 false fun e f=>jA f fun g=>tp n gB gF ij gT hO k n v2 v3 v4 b f g 0 d)
theorem agf:lo Hc (Ay n (je gB gF ij gT hO) k0)=vH n gB gF ij gT hO (kap iv k0):=by obtain ⟨J9,u9⟩:=exi (Ke n (je gB gF ij gT hO) k0 n); delta Ay vH; rw [← aiF,u9]; kernel_rfl
def Ab (J12:Q1):Q1:=(cJ p45 (hG cf jr jg (jk iv k0)) (hG cf jr SU (kJ nD J12)))
def rN (n:Nat) (gB:ad) (gF:aI) (ij:aX) (gT:bp) (hO:ad) (k:ab) (j12:cj) (v2:Int) (v3:AV) (v4:AV) (v21:AV) (v22:Int) (v23:Int) (v45:Bool) (h:Heap):aa:=ifB v45 (k false h) (kY .i64 v23 1 fun a=>j12 v2 v3 v4 v21 v22 a h)
theorem agU (J12:Q1):lo Hk (Ab (je gB gF ij gT hO) k0 J12)=rN n gB gF ij gT hO (kap iv k0) (lo nD J12):=by delta Ab rN; kernel_rfl
def AL (J12:Q1):Q1:=(hG cf jr RL (kJ Hk (Ab cf k0 J12)))
def vi (n:Nat) (gB:ad) (gF:aI) (ij:aX) (gT:bp) (hO:ad) (k:ab) (j12:cj) (v2:Int) (v3:AV) (v4:AV) (v9:Int) (v21:AV) (v22:Int) (v23:Int) (v40:Bool) (h:Heap):aa:=ifB v40 (rN n gB gF ij gT hO k j12 v2 v3 v4 v21 v22 v23 true h) (rN n gB gF ij gT hO k j12 v2 v3 v4 v21 v22 v23 (jJ (eqF v9 v2)) h)
theorem agC (J12:Q1):lo Hx (AL (je gB gF ij gT hO) k0 J12)=vi n gB gF ij gT hO (kap iv k0) (lo nD J12):=by obtain ⟨J14,u14⟩:=exi (Ab (je gB gF ij gT hO) k0 J12); delta AL vi; rw [← agU,u14]; kernel_rfl
def HK (J12:Q1):Q1:=(hG cf jr TC (cJ p24 (hG cf jr Q4 (hG cf jr R4 (hG cf jr RW (kJ Hx (AL cf k0 J12))))) (kJ Hc (Ay n cf k0))))
def vO (n:Nat) (gB:ad) (gF:aI) (ij:aX) (gT:bp) (hO:ad) (k:ab) (j12:cj) (v2:Int) (v3:AV) (v4:AV) (v21:AV) (v22:Int) (v23:Int) (h:Heap):aa:=ifB (ltF v23 v22) (eld 2 h v21 v23 2 true fun a b=>lG h (.cells [(.int .i64 0),(.int .u8 0)] true 0) fun c d=>jh d (.ptr c 0) 2 b fun e=>jd e v3 17 true fun f=>jK .i64 0 e (.ptr c 0) fun g i=>gF f i e fun l m o p=>ifB (jJ (eqF o 0)) (vi n gB gF ij gT hO k j12 v2 v3 v4 l v21 v22 v23 true p) (vi n gB gF ij gT hO k j12 v2 v3 v4 l v21 v22 v23 (jJ m) p)) (vH n gB gF ij gT hO k v2 v3 v4 h)
def HJ:Nat→Q1:=lpS (HK n cf k0)
def rE (n:Nat) (gB:ad) (gF:aI) (ij:aX) (gT:bp) (hO:ad) (k:ab):Nat→cj:=lpF nD (vO n gB gF ij gT hO k)
theorem agW (k:ab) (m:Nat):rE n gB gF ij gT hO k (m+1)=vO n gB gF ij gT hO k (rE n gB gF ij gT hO k m):=rfl
theorem agb (m:Nat):lo nD (HJ n (je gB gF ij gT hO) k0 m)=rE n gB gF ij gT hO (kap iv k0) m:=mG (fun J12=>(by obtain ⟨J11,u11⟩:=exi (Ay n (je gB gF ij gT hO) k0); obtain ⟨J13,u13⟩:=exi (AL (je gB gF ij gT hO) k0 J12); delta HK vO; rw [← agf,u11, ← agC,u13]; kernel_rfl:lo nD (HK n (je gB gF ij gT hO) k0 J12)=vO n gB gF ij gT hO (kap iv k0) (lo nD J12))) m
def acr:Q1:=(hG cf jr Ak (hG cf jr Rn (kJ nD (HJ n cf k0 n))))
def HW (n:Nat) (gB:ad) (gF:aI) (ij:aX) (gT:bp) (hO:ad) (k:ab) (a0:AV) (a1:AV) (a2:Int) (h:Heap):aa:=pZ h a0 fun a b=>pZ b a1 fun c d=>fld 0 d (.ptr c 0) 1 false fun e f=>jA f fun g=>rE n gB gF ij gT hO k n a2 (.ptr a 0) (.ptr c 0) f g 0 d
def Qz (n:Nat) (gB:ad) (gF:aI) (ij:aX) (gT:bp) (hO:ad) (a0:AV) (a1:AV) (a2:Int) (h:Heap) (k:ab):aa:=HW n gB gF ij gT hO k a0 a1 a2 h
theorem amw:DZ cf jr n aaz iv k0=acr n cf k0:=by funext s; kernel_rfl
theorem am8:lo lN (DZ (je gB gF ij gT hO) jr n aaz iv k0)=cmp lN (Qz n gB gF ij gT hO) (kap iv k0):=(congrArg (lo lN) (amw n (je gB gF ij gT hO) k0)).trans (show _=HW n gB gF ij gT hO (kap iv k0) by obtain ⟨J12,u12⟩:=exi (HJ n (je gB gF ij gT hO) k0 n); delta acr HW; rw [← agb,u12]; kernel_rfl)
end
def bl (n:Nat):aM:=Qz n (al n) (aV n) (bJ n) (bs n) (bu n)
abbrev bf:=AV→Heap→(AV→Bool→Heap→aa)→aa
abbrev cM:=AV→Bool→Heap→aa
abbrev Kd (g:bf):Wr:=wrT ir mF g
def mm:bg:=lp []
abbrev dJ:Type:=AV→AV→Bool→AV→Int→Int→Heap→aa
section
variable (k0:Q0)
def yi:Q1:=(hG cf lV MW (jk mF k0))
def yG (n:Nat) (k:cM) (v2:AV) (v4:AV) (v5:Bool) (h:Heap):aa:=jd h v4 7 true fun a=>jh h v2 7 a fun b=>jd b v2 7 true fun c=>k c v5 b
theorem aed:lo Ej (yi mm k0)=yG n (kap mF k0):=by delta yi yG; kernel_rfl
def te (J1:Q1):Q1:=(hG cf lV NE (kJ kV J1))
def tC (n:Nat) (k:cM) (j1:dJ) (v2:AV) (v4:AV) (v5:Bool) (v8:AV) (v9:Int) (v10:Int) (h:Heap):aa:=kY .i64 v10 1 fun a=>j1 v2 v4 v5 v8 v9 a h
theorem ac0 (J1:Q1):lo kV (te mm J1)=tC n (kap mF k0) (lo kV J1):=by delta te tC; kernel_rfl
def yP (J1:Q1):Q1:=(cJ p21 (hG cf lV Nd (kJ kV (te cf J1))) (hG cf lV PG (kJ kV (te cf J1))))
def qZ (n:Nat) (k:cM) (j1:dJ) (v2:AV) (v4:AV) (v5:Bool) (v7:AV) (v8:AV) (v9:Int) (v10:Int) (v21:Bool) (h:Heap):aa:=ifB v21 (jK .u8 1 h v7 fun a b=>DD 1 7 v4 b fun c=>ldI .i64 h c fun d=>kY .i64 d 1 fun e=>DD 1 7 v4 b fun f=>jh h f 1 (.int .i64 e) fun g=>tC n k j1 v2 v4 v5 v8 v9 v10 g) (tC n k j1 v2 v4 false v8 v9 v10 h)
theorem aeo (J1:Q1):lo Ef (yP mm J1)=qZ n (kap mF k0) (lo kV J1):=by obtain ⟨J2,u2⟩:=exi (te mm J1); delta yP qZ; rw [← ac0,u2]; kernel_rfl
def EH (J1:Q1):Q1:=(hG cf lV FO (cJ p11 (hG cf lV Px (hG cf lV Ov (kJ Ef (yP cf J1)))) (kJ Ej (yi cf k0))))
def sL (n:Nat) (k:cM) (j1:dJ) (v2:AV) (v4:AV) (v5:Bool) (v8:AV) (v9:Int) (v10:Int) (h:Heap):aa:=ifB (ltF v10 v9) (eld 2 h v8 v10 2 true fun a b=>lG h (.cells [(.int .i64 0),(.int .u8 0)] true 0) fun c d=>jh d (.ptr c 0) 2 b fun e=>jK .u8 1 e (.ptr c 0) fun f g=>ifB (jJ (ltF g 1)) (faK 1 (.ptr c 0) fun i=>ldI .u8 e i fun l=>qZ n k j1 v2 v4 v5 (.ptr c 0) v8 v9 v10 (jJ (ltF 6 l)) e) (qZ n k j1 v2 v4 v5 (.ptr c 0) v8 v9 v10 false e)) (yG n k v2 v4 v5 h)
def D6:Nat→Q1:=lpS (EH cf k0)
def qQ (n:Nat) (k:cM):Nat→dJ:=lpF kV (sL n k)
theorem ada (k:cM) (m:Nat):qQ n k (m+1)=sL n k (qQ n k m):=rfl
theorem ad2 (m:Nat):lo kV (D6 mm k0 m)=qQ n (kap mF k0) m:=mG (fun J1=>(by obtain ⟨J0,u0⟩:=exi (yi mm k0); obtain ⟨J3,u3⟩:=exi (yP mm J1); delta EH sL; rw [← aed,u0, ← aeo,u3]; kernel_rfl:lo kV (EH mm k0 J1)=sL n (kap mF k0) (lo kV J1))) m
def VU:Q1:=(hG cf lV K0 (hG cf lV N2 (hG cf lV Nx (hG cf lV FS (kJ kV (D6 cf k0 n))))))
def Dv (n:Nat) (k:cM) (a0:AV) (h:Heap):aa:=lG h (.cells [(.int .i64 0),(.int .i64 0),(.int .i64 0),(.int .i64 0),(.int .i64 0),(.int .i64 0),(.int .i64 0)] true 0) fun a b=>lG b (.cells [(.int .i64 0),(.int .i64 0),(.int .i64 0),(.int .i64 0),(.int .i64 0),(.int .i64 0),(.int .i64 0)] true 0) fun c d=>jA a0 fun e=>qQ n k n (.ptr a 0) (.ptr c 0) true a0 e 0 d
def JY (n:Nat) (a0:AV) (h:Heap) (k:cM):aa:=Dv n k a0 h
theorem aie:DZ cf lV n Uy mF k0=VU n cf k0:=by funext s; kernel_rfl
theorem ajT:lo ir (DZ mm lV n Uy mF k0)=cmp ir (JY n) (kap mF k0):=(congrArg (lo ir) (aie n mm k0)).trans (show _=Dv n (kap mF k0) by obtain ⟨J1,u1⟩:=exi (D6 mm k0 n); delta VU Dv; rw [← ad2,u1]; kernel_rfl)
end
def bB (n:Nat):bf:=JY n
abbrev cH:=AV→Heap→(Int→Int→Heap→aa)→aa
abbrev afr (g:cH):Wr:=wrT ir jN g
def uJ (iq:ah):bg:=lp [(F9,Gf iq)]
section
variable (iq:ah) (k0:Q0)
def FA:Q1:=(hG cf nJ YV (jk jN k0))
def FE (n:Nat) (iq:ah) (k:aU) (v5:Int) (h:Heap):aa:=k v5 0 h
theorem akB:lo wd (FA (uJ iq) k0)=FE n iq (kap jN k0):=by delta FA FE; kernel_rfl
def Mn (J1:Q1):Q1:=(hG cf nJ wh (cJ p16 (hG cf nJ FL (hG cf nJ ZQ (hG cf nJ YP (kJ sr J1)))) (kJ wd (FA cf k0))))
def zL (n:Nat) (iq:ah) (k:aU) (j1:dl) (v5:Int) (v13:AV) (v14:Int) (v15:Int) (h:Heap):aa:=ifB (ltF v15 v14) (eld 3 h v13 v15 3 true fun a b=>lG h (.cells [(.int .i64 0),(.int .i64 0),(.int .u8 0)] true 0) fun c d=>jh d (.ptr c 0) 3 b fun e=>jK .i64 1 e (.ptr c 0) fun f g=>kY .i64 v5 g fun i=>kY .i64 v15 1 fun l=>j1 i v13 v14 l e) (FE n iq k v5 h)
def LZ:Nat→Q1:=lpS (Mn cf k0)
def zG (n:Nat) (iq:ah) (k:aU):Nat→dl:=lpF sr (zL n iq k)
theorem akG (k:aU) (m:Nat):zG n iq k (m+1)=zL n iq k (zG n iq k m):=rfl
theorem alb (m:Nat):lo sr (LZ (uJ iq) k0 m)=zG n iq (kap jN k0) m:=mG (fun J1=>(by obtain ⟨J0,u0⟩:=exi (FA (uJ iq) k0); delta Mn zL; rw [← akB,u0]; kernel_rfl:lo sr (Mn (uJ iq) k0 J1)=zL n iq (kap jN k0) (lo sr J1))) m
def afz:Q1:=(hG cf nJ Ct (hG cf nJ Fm (hG cf nJ FG (cJ p11 (hG cf nJ X5 (jk jN k0)) (hG cf nJ we (hG cf nJ wj (kJ sr (LZ cf k0 n))))))))
def Ls (n:Nat) (iq:ah) (k:aU) (a0:AV) (h:Heap):aa:=iq a0 h fun a b=>ifB (jJ (eqF a 0)) (k 0 a b) (jA a0 fun c=>zG n iq k n 0 a0 c 0 b)
def Wf (n:Nat) (iq:ah) (a0:AV) (h:Heap) (k:aU):aa:=Ls n iq k a0 h
theorem aoE:DZ cf nJ n ae6 jN k0=afz n cf k0:=by funext s; kernel_rfl
theorem aoW:lo ir (DZ (uJ iq) nJ n ae6 jN k0)=cmp ir (Wf n iq) (kap jN k0):=(congrArg (lo ir) (aoE n (uJ iq) k0)).trans (show _=Ls n iq (kap jN k0) by obtain ⟨J1,u1⟩:=exi (LZ (uJ iq) k0 n); delta afz Ls; rw [← alb,u1]; kernel_rfl)
end
def eB (n:Nat):cH:=Wf n (cD n)
abbrev bo:=AV→Heap→(AV→Int→Heap→aa)→aa
abbrev bH:=AV→Int→Heap→aa
abbrev afH (g:bo):Wr:=wrT ir qP g
def uK (iq:ah):bg:=lp [(F9,Gf iq)]
section
variable (iq:ah) (k0:Q0)
def Fd:Q1:=(hG cf nO XZ (jk qP k0))
def FQ (n:Nat) (iq:ah) (k:bH) (v5:AV) (h:Heap):aa:=k v5 0 h
theorem aki:lo qS (Fd (uK iq) k0)=FQ n iq (kap qP k0):=by delta Fd FQ; kernel_rfl
def Mq (J1:Q1):Q1:=(hG cf nO wh (cJ p16 (hG cf nO FL (hG cf nO X9 (hG cf nO Yn (kJ sA J1)))) (kJ qS (Fd cf k0))))
def zz (n:Nat) (iq:ah) (k:bH) (j1:aH) (v5:AV) (v13:AV) (v14:Int) (v15:Int) (h:Heap):aa:=ifB (ltF v15 v14) (eld 3 h v13 v15 3 true fun a b=>lG h (.cells [(.int .i64 0),(.int .i64 0),(.int .u8 0)] true 0) fun c d=>jh d (.ptr c 0) 3 b fun e=>jK .i64 0 e (.ptr c 0) fun f g=>jK .i64 1 e (.ptr c 0) fun i l=>lh [(.int .i64 0),(.int .i64 0)] [(0,1,(.int .i64 g)),(1,1,(.int .i64 l))] fun m=>mI e 1 [(.int .i64 0),(.int .i64 0)] [(0,2,m)] fun o p=>Iv p 2 v5 o fun q r=>kY .i64 v15 1 fun s=>j1 q v13 v14 s r) (FQ n iq k v5 h)
def L6:Nat→Q1:=lpS (Mq cf k0)
def zE (n:Nat) (iq:ah) (k:bH):Nat→aH:=lpF sA (zz n iq k)
theorem akI (k:bH) (m:Nat):zE n iq k (m+1)=zz n iq k (zE n iq k m):=rfl
theorem akd (m:Nat):lo sA (L6 (uK iq) k0 m)=zE n iq (kap qP k0) m:=mG (fun J1=>(by obtain ⟨J0,u0⟩:=exi (Fd (uK iq) k0); delta Mq zz; rw [← aki,u0]; kernel_rfl:lo sA (Mq (uK iq) k0 J1)=zz n iq (kap qP k0) (lo sA J1))) m
def aeD:Q1:=(hG cf nO Ud (hG cf nO Fm (hG cf nO FG (cJ p11 (hG cf nO X8 (jk qP k0)) (hG cf nO Yc (hG cf nO wj (kJ sA (L6 cf k0 n))))))))
def KO (n:Nat) (iq:ah) (k:bH) (a0:AV) (h:Heap):aa:=iq a0 h fun a b=>ifB (jJ (eqF a 0)) (k .nilslice a b) (jA a0 fun c=>zE n iq k n .nilslice a0 c 0 b)
def VV (n:Nat) (iq:ah) (a0:AV) (h:Heap) (k:bH):aa:=KO n iq k a0 h
theorem aov:DZ cf nO n aeU qP k0=aeD n cf k0:=by funext s; kernel_rfl
theorem aps:lo ir (DZ (uK iq) nO n aeU qP k0)=cmp ir (VV n iq) (kap qP k0):=(congrArg (lo ir) (aov n (uK iq) k0)).trans (show _=KO n iq (kap qP k0) by obtain ⟨J1,u1⟩:=exi (L6 (uK iq) k0 n); delta aeD KO; rw [← akd,u1]; kernel_rfl)
end
def ez (n:Nat):bo:=VV n (cD n)
abbrev YF (g:cH):Wr:=wrT ir jN g
def jv (ik:Wr):bg:=lp [(VA,ik)]
abbrev eG:Type:=AV→Int→Int→Int→AV→Int→Int→Heap→aa
section
variable (ik:Wr) (k0:Q0)
def Az:Q1:=(hG cf jq SA (jk jN k0))
def AF (n:Nat) (ik:Wr) (k:aU) (v7:Int) (h:Heap):aa:=k v7 0 h
theorem agP:lo GP (Az (jv ik) k0)=AF n ik (kap jN k0):=by delta Az AF; kernel_rfl
def A3 (J1:Q1):Q1:=(hG cf jq R3 (kJ lr J1))
def An (n:Nat) (ik:Wr) (k:aU) (j1:bM) (v4:AV) (v7:Int) (v8:Int) (h:Heap):aa:=kY .i64 v8 1 fun a=>j1 v4 v7 a h
theorem ag4 (J1:Q1):lo lr (A3 (jv ik) J1)=An n ik (kap jN k0) (lo lr J1):=by delta A3 An; kernel_rfl
def ve (J3:Q1):Q1:=(hG cf jq SS (kJ lP J3))
def wa (n:Nat) (ik:Wr) (k:aU) (j3:eG) (v4:AV) (v7:Int) (v8:Int) (v9:Int) (v58:AV) (v59:Int) (v60:Int) (h:Heap):aa:=kY .i64 v60 1 fun a=>j3 v4 v7 v8 v9 v58 v59 a h
theorem agj (J3:Q1):lo lP (ve (jv ik) J3)=wa n ik (kap jN k0) (lo lP J3):=by delta ve wa; kernel_rfl
def GK (J1:Q1) (J3:Q1):Q1:=(hG cf jq TJ (cJ p61 (hG cf jq Tt (hG cf jq R7 (hG cf jq Q3 (hG cf jq Q7 (cJ p85 (hG cf jq SR (hG cf jq RY (kJ lP (ve cf J3)))) (kJ lP (ve cf J3))))))) (kJ lr (A3 cf J1))))
def uZ (n:Nat) (ik:Wr) (k:aU) (j1:bM) (j3:eG) (v4:AV) (v7:Int) (v8:Int) (v9:Int) (v58:AV) (v59:Int) (v60:Int) (h:Heap):aa:=ifB (ltF v60 v59) (eld 2 h v58 v60 2 true fun a b=>lG h (.cells [(.int .i64 0),(.int .i64 0)] true 0) fun c d=>jh d (.ptr c 0) 2 b fun e=>jK .i64 0 e (.ptr c 0) fun f g=>kY .i64 v8 1 fun i=>Dx .i64 5 i fun l=>shrK .i64 g l fun m=>jK .i64 0 e (.ptr c 0) fun o p=>jK .i64 1 e (.ptr c 0) fun q r=>kY .i64 p r fun s=>Ky .i64 s 1 fun t=>kY .i64 v8 1 fun u=>Dx .i64 5 u fun w=>shrK .i64 t w fun x=>yY true [(.int .i64 m),(.int .i64 v9)] fun y=>Gc .i64 y fun z=>ifB (jJ (ltF x z)) (Ky .i64 x z fun A=>kY .i64 A 1 fun B=>kY .i64 v7 B fun C=>kY .i64 x 1 fun E=>wa n ik k j3 v4 C v8 E v58 v59 v60 e) (wa n ik k j3 v4 v7 v8 v9 v58 v59 v60 e)) (An n ik k j1 v4 v7 v8 h)
def G9 (J1:Q1):Nat→Q1:=lpS (GK cf J1)
def vw (n:Nat) (ik:Wr) (k:aU) (j1:bM):Nat→eG:=lpF lP (uZ n ik k j1)
theorem ag7 (k:aU) (j1:bM) (m:Nat):vw n ik k j1 (m+1)=uZ n ik k j1 (vw n ik k j1 m):=rfl
theorem agK (J1:Q1) (m:Nat):lo lP (G9 (jv ik) J1 m)=vw n ik (kap jN k0) (lo lr J1) m:=mG (fun J3=>(by obtain ⟨J2,u2⟩:=exi (A3 (jv ik) J1); obtain ⟨J4,u4⟩:=exi (ve (jv ik) J3); delta GK uZ; rw [← ag4,u2, ← agj,u4]; kernel_rfl:lo lP (GK (jv ik) J1 J3)=uZ n ik (kap jN k0) (lo lr J1) (lo lP J3))) m
def Hv (J1:Q1):Q1:=(hG cf jq OE (cJ p55 (hG cf jq MO (hG cf jq Pf (kJ lP (G9 cf J1 n)))) (kJ GP (Az cf k0))))
def vR (n:Nat) (ik:Wr) (k:aU) (j1:bM) (v4:AV) (v7:Int) (v8:Int) (h:Heap):aa:=ifB (ltF v8 3) (jA v4 fun a=>vw n ik k j1 n v4 v7 v8 0 v4 a 0 h) (AF n ik k v7 h)
def G7:Nat→Q1:=lpS (Hv n cf k0)
def rF (n:Nat) (ik:Wr) (k:aU):Nat→bM:=lpF lr (vR n ik k)
theorem agF (k:aU) (m:Nat):rF n ik k (m+1)=vR n ik k (rF n ik k m):=rfl
theorem agY (m:Nat):lo lr (G7 n (jv ik) k0 m)=rF n ik (kap jN k0) m:=mG (fun J1=>(by obtain ⟨J0,u0⟩:=exi (Az (jv ik) k0); obtain ⟨J3,u3⟩:=exi (G9 (jv ik) J1 n); delta Hv vR; rw [← agP,u0, ← agK,u3]; kernel_rfl:lo lr (Hv n (jv ik) k0 J1)=vR n ik (kap jN k0) (lo lr J1))) m
def Al:Q1:=(hG cf jq O7 (hG cf jq O3 (hG cf jq nP (kJ lr (G7 n cf k0 n)))))
def AQ (n:Nat) (ik:Wr) (k:aU) (v4:AV) (h:Heap):aa:=ik [v4,(.func 83 [] [])] h fun a b=>rF n ik k n v4 1 0 b
theorem agI:lo uh (Al n (jv ik) k0)=AQ n ik (kap jN k0):=by obtain ⟨J1,u1⟩:=exi (G7 n (jv ik) k0 n); delta Al AQ; rw [← agY,u1]; kernel_rfl
def vE (J6:Q1):Q1:=(hG cf jq NJ (kJ kP J6))
def vo (n:Nat) (ik:Wr) (k:aU) (j6:aH) (v4:AV) (v17:AV) (v18:Int) (v19:Int) (h:Heap):aa:=kY .i64 v19 1 fun a=>j6 v4 v17 v18 a h
theorem af2 (J6:Q1):lo kP (vE (jv ik) J6)=vo n ik (kap jN k0) (lo kP J6):=by delta vE vo; kernel_rfl
def x0 (J6:Q1):Q1:=(cJ p43 (hG cf jq Pa (jk jN k0)) (hG cf jq NC (cJ p46 (hG cf jq N1 (kJ kP (vE cf J6))) (kJ kP (vE cf J6)))))
def sY (n:Nat) (ik:Wr) (k:aU) (j6:aH) (v4:AV) (v6:AV) (v17:AV) (v18:Int) (v19:Int) (v43:Bool) (h:Heap):aa:=ifB v43 (k 0 2 h) (jK .i64 1 h v6 fun a b=>ifB (ltF 0 b) (jd h v6 2 true fun c=>mI h 1 [(.int .i64 0),(.int .i64 0)] [(0,2,c)] fun d e=>Iv e 2 v4 d fun f g=>vo n ik k j6 f v17 v18 v19 g) (vo n ik k j6 v4 v17 v18 v19 h))
theorem adJ (J6:Q1):lo Ec (x0 (jv ik) k0 J6)=sY n ik (kap jN k0) (lo kP J6):=by obtain ⟨J7,u7⟩:=exi (vE (jv ik) J6); delta x0 sY; rw [← af2,u7]; kernel_rfl
def AE (J6:Q1):Q1:=(hG cf jq Pm (kJ Ec (x0 cf k0 J6)))
def uU (n:Nat) (ik:Wr) (k:aU) (j6:aH) (v4:AV) (v6:AV) (v17:AV) (v18:Int) (v19:Int) (v35:Bool) (h:Heap):aa:=ifB v35 (sY n ik k j6 v4 v6 v17 v18 v19 true h) (faK 1 v6 fun a=>ldI .i64 h a fun b=>jK .i64 0 h v6 fun c d=>Ky .i64 1048576 d fun e=>sY n ik k j6 v4 v6 v17 v18 v19 (ltF e b) h)
theorem agd (J6:Q1):lo GO (AE (jv ik) k0 J6)=uU n ik (kap jN k0) (lo kP J6):=by obtain ⟨J10,u10⟩:=exi (x0 (jv ik) k0 J6); delta AE uU; rw [← adJ,u10]; kernel_rfl
def Av (J6:Q1):Q1:=(hG cf jq N7 (kJ GO (AE cf k0 J6)))
def vW (n:Nat) (ik:Wr) (k:aU) (j6:aH) (v4:AV) (v6:AV) (v17:AV) (v18:Int) (v19:Int) (v30:Bool) (h:Heap):aa:=ifB v30 (uU n ik k j6 v4 v6 v17 v18 v19 true h) (faK 0 v6 fun a=>ldI .i64 h a fun b=>uU n ik k j6 v4 v6 v17 v18 v19 (ltF 1048576 b) h)
theorem agZ (J6:Q1):lo GW (Av (jv ik) k0 J6)=vW n ik (kap jN k0) (lo kP J6):=by obtain ⟨J9,u9⟩:=exi (AE (jv ik) k0 J6); delta Av vW; rw [← agd,u9]; kernel_rfl
def HE (J6:Q1):Q1:=(hG cf jq Of (cJ p20 (hG cf jq PT (hG cf jq MP (kJ GW (Av cf k0 J6)))) (kJ uh (Al n cf k0))))
def vq (n:Nat) (ik:Wr) (k:aU) (j6:aH) (v4:AV) (v17:AV) (v18:Int) (v19:Int) (h:Heap):aa:=ifB (ltF v19 v18) (eld 2 h v17 v19 2 true fun a b=>lG h (.cells [(.int .i64 0),(.int .i64 0)] true 0) fun c d=>jh d (.ptr c 0) 2 b fun e=>jK .i64 0 e (.ptr c 0) fun f g=>ifB (ltF g 0) (vW n ik k j6 v4 (.ptr c 0) v17 v18 v19 true e) (faK 1 (.ptr c 0) fun i=>ldI .i64 e i fun l=>vW n ik k j6 v4 (.ptr c 0) v17 v18 v19 (ltF l 0) e)) (AQ n ik k v4 h)
def HD:Nat→Q1:=lpS (HE n cf k0)
def uW (n:Nat) (ik:Wr) (k:aU):Nat→aH:=lpF kP (vq n ik k)
theorem agB (k:aU) (m:Nat):uW n ik k (m+1)=vq n ik k (uW n ik k m):=rfl
theorem af5 (m:Nat):lo kP (HD n (jv ik) k0 m)=uW n ik (kap jN k0) m:=mG (fun J6=>(by obtain ⟨J5,u5⟩:=exi (Al n (jv ik) k0); obtain ⟨J8,u8⟩:=exi (Av (jv ik) k0 J6); delta HE vq; rw [← agI,u5, ← agZ,u8]; kernel_rfl:lo kP (HE n (jv ik) k0 J6)=vq n ik (kap jN k0) (lo kP J6))) m
def ZG:Q1:=(hG cf jq Ct (hG cf jq PB (cJ p16 (hG cf jq O4 (jk jN k0)) (hG cf jq N4 (hG cf jq M0 (kJ kP (HD n cf k0 n)))))))
def FH (n:Nat) (ik:Wr) (k:aU) (a0:AV) (h:Heap):aa:=jA a0 fun a=>ifB (ltF 1024 a) (k 0 3 h) (jA a0 fun b=>uW n ik k n .nilslice a0 b 0 h)
def L5 (n:Nat) (ik:Wr) (a0:AV) (h:Heap) (k:aU):aa:=FH n ik k a0 h
theorem alg:DZ cf jq n X4 jN k0=ZG n cf k0:=by funext s; kernel_rfl
theorem akM:lo ir (DZ (jv ik) jq n X4 jN k0)=cmp ir (L5 n ik) (kap jN k0):=(congrArg (lo ir) (alg n (jv ik) k0)).trans (show _=FH n ik (kap jN k0) by obtain ⟨J6,u6⟩:=exi (HD n (jv ik) k0 n); delta ZG FH; rw [← af5,u6]; kernel_rfl)
end
def dM (n:Nat):cH:=L5 n (lq cO)
abbrev YC (g:bo):Wr:=wrT ir km g
def UW (jH:ah) (qO:cH) (qN:bo) (nZ:cH):bg:=lp [(LU,Mm jH),(aeX,afr qO),(afj,afH qN),(Zd,YF nZ)]
section
variable (jH:ah) (qO:cH) (qN:bo) (nZ:cH) (k0:Q0)
def Yo:Q1:=(hG cf li OS (hG cf li Pz (hG cf li OI (cJ p12 (hG cf li PK (jk km k0)) (hG cf li Sw (hG cf li SV (cJ p22 (hG cf li SH (jk km k0)) (hG cf li S3 (hG cf li TG (cJ p32 (hG cf li Ta (jk km k0)) (hG cf li TI (hG cf li R9 (cJ p41 (hG cf li Rc (jk km k0)) (hG cf li Ru (jk km k0)))))))))))))))
def FD (n:Nat) (jH:ah) (qO:cH) (qN:bo) (nZ:cH) (k:bH) (a0:AV) (h:Heap):aa:=pZ h a0 fun a b=>lG b (.cells [(.int .i64 0),(.int .i64 0),(.int .i64 0),(.int .i64 0)] true 0) fun c d=>jd d (.ptr a 0) 2 true fun e=>jH e d fun f g=>ifB (jJ (eqF f 0)) (lh [(.int .i64 0),(.int .i64 0),(.int .i64 0),(.int .i64 0)] [] fun i=>jh g (.ptr c 0) 4 i fun l=>jd l (.ptr c 0) 4 true fun m=>k m f l) (fld 0 g (.ptr a 0) 1 false fun o p=>qO p g fun q r s=>ifB (jJ (eqF r 0)) (lh [(.int .i64 0),(.int .i64 0),(.int .i64 0),(.int .i64 0)] [] fun t=>jh s (.ptr c 0) 4 t fun u=>jd u (.ptr c 0) 4 true fun w=>k w r u) (fld 0 s (.ptr a 0) 1 false fun x y=>qN y s fun z A B=>ifB (jJ (eqF A 0)) (lh [(.int .i64 0),(.int .i64 0),(.int .i64 0),(.int .i64 0)] [] fun C=>jh B (.ptr c 0) 4 C fun E=>jd E (.ptr c 0) 4 true fun F=>k F A E) (nZ z B fun G I K=>ifB (jJ (eqF I 0)) (lh [(.int .i64 0),(.int .i64 0),(.int .i64 0),(.int .i64 0)] [] fun L=>jh K (.ptr c 0) 4 L fun M=>jd M (.ptr c 0) 4 true fun N=>k N I M) (jA z fun O=>lh [(.int .i64 0),(.int .i64 0),(.int .i64 0),(.int .i64 0)] [(0,1,(.int .i64 1)),(1,1,(.int .i64 q)),(2,1,(.int .i64 G)),(3,1,(.int .i64 O))] fun P=>jh K (.ptr c 0) 4 P fun Q=>jd Q (.ptr c 0) 4 true fun R=>k R 0 Q))))
def MC (n:Nat) (jH:ah) (qO:cH) (qN:bo) (nZ:cH) (a0:AV) (h:Heap) (k:bH):aa:=FD n jH qO qN nZ k a0 h
theorem aky:DZ cf li n Y0 km k0=Yo cf k0:=by funext s; kernel_rfl
theorem ak3:lo ir (DZ (UW jH qO qN nZ) li n Y0 km k0)=cmp ir (MC n jH qO qN nZ) (kap km k0):=(congrArg (lo ir) (aky n (UW jH qO qN nZ) k0)).trans (show _=FD n jH qO qN nZ (kap km k0) by delta Yo FD; kernel_rfl)
end
def du (n:Nat):bo:=MC n (di n) (eB n) (ez n) (dM n)
abbrev aeO (g:bo):Wr:=wrT ir km g
def uM (jI:bo):bg:=lp [(YM,YC jI)]
section
variable (jI:bo) (k0:Q0)
def Fq:Q1:=(hG cf lJ YZ (jk km k0))
def Fv (n:Nat) (jI:bo) (k:bH) (v2:AV) (v4:AV) (h:Heap):aa:=jd h v4 4 true fun a=>jh h v2 4 a fun b=>jd b v2 4 true fun c=>k c 0 b
theorem ale:lo Mk (Fq (uM jI) k0)=Fv n jI (kap km k0):=by delta Fq Fv; kernel_rfl
def L0 (J1:Q1):Q1:=(hG cf lJ wh (cJ p16 (hG cf lJ Y8 (hG cf lJ Zw (hG cf lJ Zx (cJ p25 (hG cf lJ Zs (jk km k0)) (hG cf lJ X7 (hG cf lJ Yg (hG cf lJ X3 (hG cf lJ ZO (hG cf lJ Zo (kJ sw J1)))))))))) (kJ Mk (Fq cf k0))))
def zU (n:Nat) (jI:bo) (k:bH) (j1:bE) (v2:AV) (v4:AV) (v13:AV) (v14:Int) (v15:Int) (h:Heap):aa:=ifB (ltF v15 v14) (eld 2 h v13 v15 2 true fun a b=>lG h (.cells [.nilslice,(.int .i64 0)] true 0) fun c d=>jh d (.ptr c 0) 2 b fun e=>jd e (.ptr c 0) 2 true fun f=>jI f e fun g i l=>lG l (.cells [(.int .i64 0),(.int .i64 0),(.int .i64 0),(.int .i64 0)] true 0) fun m o=>jh o (.ptr m 0) 4 g fun p=>ifB (jJ (eqF i 0)) (lh [(.int .i64 0),(.int .i64 0),(.int .i64 0),(.int .i64 0)] [] fun q=>jh p v2 4 q fun r=>jd r v2 4 true fun s=>k s i r) (jK .i64 0 p v4 fun t u=>jK .i64 0 p (.ptr m 0) fun w x=>kY .i64 u x fun y=>fst 0 p v4 1 (.int .i64 y) fun z A=>jK .i64 1 A v4 fun B C=>jK .i64 1 A (.ptr m 0) fun E F=>kY .i64 C F fun G=>fst 1 A v4 1 (.int .i64 G) fun I K=>jK .i64 2 K v4 fun L M=>jK .i64 2 K (.ptr m 0) fun N O=>kY .i64 M O fun P=>fst 2 K v4 1 (.int .i64 P) fun Q R=>jK .i64 3 R v4 fun S T=>jK .i64 3 R (.ptr m 0) fun U V=>kY .i64 T V fun X=>fst 3 R v4 1 (.int .i64 X) fun Y Z=>kY .i64 v15 1 fun qa=>j1 v2 v4 v13 v14 qa Z)) (Fv n jI k v2 v4 h)
def Mc:Nat→Q1:=lpS (L0 cf k0)
def zR (n:Nat) (jI:bo) (k:bH):Nat→bE:=lpF sw (zU n jI k)
theorem ak7 (k:bH) (m:Nat):zR n jI k (m+1)=zU n jI k (zR n jI k m):=rfl
theorem akY (m:Nat):lo sw (Mc (uM jI) k0 m)=zR n jI (kap km k0) m:=mG (fun J1=>(by obtain ⟨J0,u0⟩:=exi (Fq (uM jI) k0); delta L0 zU; rw [← ale,u0]; kernel_rfl:lo sw (L0 (uM jI) k0 J1)=zU n jI (kap km k0) (lo sw J1))) m
def aeV:Q1:=(hG cf lJ UU (hG cf lJ Ut (cJ p11 (hG cf lJ WV (jk km k0)) (hG cf lJ VS (hG cf lJ wj (kJ sw (Mc cf k0 n)))))))
def KP (n:Nat) (jI:bo) (k:bH) (a0:AV) (h:Heap):aa:=lG h (.cells [(.int .i64 0),(.int .i64 0),(.int .i64 0),(.int .i64 0)] true 0) fun a b=>jA a0 fun c=>ifB (ltF 16 c) (lh [(.int .i64 0),(.int .i64 0),(.int .i64 0),(.int .i64 0)] [] fun d=>jh b (.ptr a 0) 4 d fun e=>jd e (.ptr a 0) 4 true fun f=>k f 3 e) (lG b (.cells [(.int .i64 0),(.int .i64 0),(.int .i64 0),(.int .i64 0)] true 0) fun g i=>jA a0 fun l=>zR n jI k n (.ptr a 0) (.ptr g 0) a0 l 0 i)
def UX (n:Nat) (jI:bo) (a0:AV) (h:Heap) (k:bH):aa:=KP n jI k a0 h
theorem aoi:DZ cf lJ n ae0 km k0=aeV n cf k0:=by funext s; kernel_rfl
theorem apB:lo ir (DZ (uM jI) lJ n ae0 km k0)=cmp ir (UX n jI) (kap km k0):=(congrArg (lo ir) (aoi n (uM jI) k0)).trans (show _=KP n jI (kap km k0) by obtain ⟨J1,u1⟩:=exi (Mc (uM jI) k0 n); delta aeV KP; rw [← akY,u1]; kernel_rfl)
end
def bR (n:Nat):bo:=UX n (du n)
abbrev dI:=AV→Int→Heap→(AV→Int→Heap→aa)→aa
abbrev aci (g:dI):Wr:=wrT gW uQ g
def Zm (jy:ae) (iB:bN):bg:=lp [(H6,H7 jy),(Qc,Qw iB)]
section
variable (jy:ae) (iB:bN) (k0:Q0)
def abX:Q1:=(hG cf uL W4 (hG cf uL wc (hG cf uL wq (cJ p11 (hG cf uL VW (jk uQ k0)) (hG cf uL WH (jk uQ k0))))))
def HY (n:Nat) (jy:ae) (iB:bN) (k:bH) (a0:AV) (a1:Int) (h:Heap):aa:=pZ h a0 fun a b=>lG b (.cells [(.int .i64 0),(.int .i64 0),(.int .i64 0),(.int .i64 0)] true 0) fun c d=>jd d (.ptr a 0) 17 true fun e=>jy e a1 d fun f g=>ifB (jJ (eqF f 0)) (lh [(.int .i64 0),(.int .i64 0),(.int .i64 0),(.int .i64 0)] [] fun i=>jh g (.ptr c 0) 4 i fun l=>jd l (.ptr c 0) 4 true fun m=>k m f l) (jd g (.ptr a 0) 17 true fun o=>iB o a1 g fun p q=>jh q (.ptr c 0) 4 p fun r=>jd r (.ptr c 0) 4 true fun s=>k s 0 r)
def Qu (n:Nat) (jy:ae) (iB:bN) (a0:AV) (a1:Int) (h:Heap) (k:bH):aa:=HY n jy iB k a0 a1 h
theorem am9:DZ cf uL n acG uQ k0=abX cf k0:=by funext s; kernel_rfl
theorem ami:lo gW (DZ (Zm jy iB) uL n acG uQ k0)=cmp gW (Qu n jy iB) (kap uQ k0):=(congrArg (lo gW) (am9 n (Zm jy iB) k0)).trans (show _=HY n jy iB (kap uQ k0) by delta abX HY; kernel_rfl)
end
def eo (n:Nat):dI:=Qu n (cT n) (cS n)
abbrev aaB (g:aX):Wr:=wrT gW jx g
def Zp (py:dI):bg:=lp [(abu,aci py)]
section
variable (py:dI) (k0:Q0)
def abT:Q1:=(hG cf Df ws (hG cf Df VL (hG cf Df UF (jk jx k0))))
def Iu (n:Nat) (py:dI) (k:aU) (a0:AV) (a1:Int) (h:Heap):aa:=pZ h a0 fun a b=>jd b (.ptr a 0) 17 true fun c=>py c a1 b fun d e f=>lG f (.cells [(.int .i64 0),(.int .i64 0),(.int .i64 0),(.int .i64 0)] true 0) fun g i=>jh i (.ptr g 0) 4 d fun l=>jK .i64 2 l (.ptr g 0) fun m o=>k o e l
def QE (n:Nat) (py:dI) (a0:AV) (a1:Int) (h:Heap) (k:aU):aa:=Iu n py k a0 a1 h
theorem ang:DZ cf Df n aaK jx k0=abT cf k0:=by funext s; kernel_rfl
theorem anH:lo gW (DZ (Zp py) Df n aaK jx k0)=cmp gW (QE n py) (kap jx k0):=(congrArg (lo gW) (ang n (Zp py) k0)).trans (show _=Iu n py (kap jx k0) by delta abT Iu; kernel_rfl)
end
def d8 (n:Nat):aX:=QE n (eo n)
abbrev bF:=AV→Int→AV→Heap→(Bool→Int→Heap→aa)→aa
abbrev ed:=Bool→Int→Heap→aa
abbrev abN (g:bF):Wr:=wrT Ip oh g
def qM (jR:aX):bg:=lp [(aaP,aaB jR)]
section
variable (jR:aX) (k0:Q0)
def Cq:Q1:=(hG cf me UB (jk oh k0))
def xw (n:Nat) (jR:aX) (k:ed) (v66:Bool) (h:Heap):aa:=k v66 0 h
theorem aiX:lo Jz (Cq (qM jR) k0)=xw n jR (kap oh k0):=by delta Cq xw; kernel_rfl
def DC:Q1:=(hG cf me Uc (kJ Jz (Cq cf k0)))
def wS (n:Nat) (jR:aX) (k:ed) (v5:AV) (v8:Int) (v60:Bool) (h:Heap):aa:=ifB v60 (faK 1 v5 fun a=>ldI .i64 h a fun b=>xw n jR k (jJ (ltF v8 b)) h) (xw n jR k false h)
theorem aiC:lo I2 (DC (qM jR) k0)=wS n jR (kap oh k0):=by obtain ⟨J2,u2⟩:=exi (Cq (qM jR) k0); delta DC wS; rw [← aiX,u2]; kernel_rfl
def CB:Q1:=(hG cf me VM (kJ I2 (DC cf k0)))
def w0 (n:Nat) (jR:aX) (k:ed) (v5:AV) (v8:Int) (v10:AV) (v53:Bool) (h:Heap):aa:=ifB v53 (faK 2 v5 fun a=>ldI .i64 h a fun b=>jK .i64 3 h v10 fun c d=>wS n jR k v5 v8 (jJ (ltF d b)) h) (wS n jR k v5 v8 false h)
theorem aj3:lo Kv (CB (qM jR) k0)=w0 n jR (kap oh k0):=by obtain ⟨J1,u1⟩:=exi (DC (qM jR) k0); delta CB w0; rw [← aiC,u1]; kernel_rfl
def aaE:Q1:=(hG cf me RC (hG cf me SF (hG cf me Tc (cJ p20 (hG cf me WX (jk oh k0)) (hG cf me Ub (cJ p31 (hG cf me U1 (jk oh k0)) (hG cf me WB (hG cf me WW (hG cf me WD (hG cf me Uk (kJ Kv (CB cf k0))))))))))))
def Iw (n:Nat) (jR:aX) (k:ed) (a0:AV) (a1:Int) (a2:AV) (h:Heap):aa:=pZ h a0 fun a b=>pZ b a2 fun c d=>jd d (.ptr a 0) 17 true fun e=>jR e a1 d fun f g i=>ifB (jJ (eqF g 0)) (k false g i) (jK .i64 0 i (.ptr c 0) fun l m=>jK .i64 1 i (.ptr c 0) fun o p=>jK .i64 2 i (.ptr c 0) fun q r=>jK .i64 3 i (.ptr c 0) fun s t=>yY false [(.int .i64 m),(.int .i64 p),(.int .i64 r),(.int .i64 t)] fun u=>Gc .i64 u fun w=>ifB (ltF w 0) (k false 2 i) (fld 16 i (.ptr a 0) 1 false fun x y=>eld 8 i y a1 8 true fun z A=>lG i (.cells [.nilslice,(.int .i64 0),(.int .i64 0),(.int .i64 0),(.int .i64 0),(.int .i64 0),(.int .i64 0),(.int .i64 0)] true 0) fun B C=>jh C (.ptr B 0) 8 A fun E=>jK .i64 4 E (.ptr B 0) fun F G=>Dx .i64 G 4 fun I=>yY false [(.int .i64 16),(.int .i64 I)] fun K=>Gc .i64 K fun L=>jK .i64 5 E (.ptr B 0) fun M N=>Dx .i64 N 8 fun O=>jK .i64 0 E (.ptr c 0) fun P Q=>ifB (jJ (ltF L Q)) (faK 3 (.ptr c 0) fun R=>ldI .i64 E R fun S=>w0 n jR k (.ptr c 0) f (.ptr B 0) (jJ (ltF O S)) E) (w0 n jR k (.ptr c 0) f (.ptr B 0) false E)))
def QP (n:Nat) (jR:aX) (a0:AV) (a1:Int) (a2:AV) (h:Heap) (k:ed):aa:=Iw n jR k a0 a1 a2 h
theorem anI:DZ cf me n aaJ oh k0=aaE cf k0:=by funext s; kernel_rfl
theorem amC:lo Ip (DZ (qM jR) me n aaJ oh k0)=cmp Ip (QP n jR) (kap oh k0):=(congrArg (lo Ip) (anI n (qM jR) k0)).trans (show _=Iw n jR (kap oh k0) by obtain ⟨J0,u0⟩:=exi (CB (qM jR) k0); delta aaE Iw; rw [← aj3,u0]; kernel_rfl)
end
def bO (n:Nat):bF:=QP n (d8 n)
abbrev acs (g:aM):Wr:=wrT lN iv g
def jf (ig:aZ) (gQ:bf) (il:bo) (ii:bF):bg:=lp [(Uw,U7 ig),(JG,Kd gQ),(aeT,aeO il),(ab6,abN ii)]
abbrev WQ:Type:=Int→AV→AV→AV→AV→Int→Int→Heap→aa
abbrev Vs:Type:=Int→AV→AV→AV→Bool→AV→Int→Heap→aa
abbrev cZ:Type:=Int→AV→AV→AV→AV→AV→Int→Int→Heap→aa
section
variable (ig:aZ) (gQ:bf) (il:bo) (ii:bF) (k0:Q0)
def C6:Q1:=(hG cf jb Xo (jk iv k0))
def xE (n:Nat) (ig:aZ) (gQ:bf) (il:bo) (ii:bF) (k:ab) (v188:Bool) (h:Heap):aa:=k v188 h
theorem ajY:lo JI (C6 (jf ig gQ il ii) k0)=xE n ig gQ il ii (kap iv k0):=by delta C6 xE; kernel_rfl
def C1:Q1:=(cJ p176 (hG cf jb jg (jk iv k0)) (hG cf jb Xa (hG cf jb WG (kJ JI (C6 cf k0)))))
def ue (n:Nat) (ig:aZ) (gQ:bf) (il:bo) (ii:bF) (k:ab) (v2:Int) (v3:AV) (v22:AV) (v176:Bool) (h:Heap):aa:=ifB v176 (k false h) (jd h v3 17 true fun a=>jd h v22 4 true fun b=>ii a v2 b h fun c d e=>ifB (eqF d 0) (xE n ig gQ il ii k c e) (xE n ig gQ il ii k false e))
theorem ahB:lo JH (C1 (jf ig gQ il ii) k0)=ue n ig gQ il ii (kap iv k0):=by obtain ⟨J0,u0⟩:=exi (C6 (jf ig gQ il ii) k0); delta C1 ue; rw [← ajY,u0]; kernel_rfl
def Cu:Q1:=(hG cf jb W3 (hG cf jb W5 (kJ JH (C1 cf k0))))
def xL (n:Nat) (ig:aZ) (gQ:bf) (il:bo) (ii:bF) (k:ab) (v2:Int) (v3:AV) (v15:AV) (v19:AV) (h:Heap):aa:=il v19 h fun a b c=>lG c (.cells [(.int .i64 0),(.int .i64 0),(.int .i64 0),(.int .i64 0)] true 0) fun d e=>jh e (.ptr d 0) 4 a fun f=>ifB (jJ (eqF b 0)) (ue n ig gQ il ii k v2 v3 (.ptr d 0) true f) (faK 2 (.ptr d 0) fun g=>ldI .i64 f g fun i=>DD 1 7 v15 3 fun l=>ldI .i64 f l fun m=>ue n ig gQ il ii k v2 v3 (.ptr d 0) (jJ (eqF i m)) f)
theorem ajE:lo Ko (Cu (jf ig gQ il ii) k0)=xL n ig gQ il ii (kap iv k0):=by obtain ⟨J1,u1⟩:=exi (C1 (jf ig gQ il ii) k0); delta Cu xL; rw [← ahB,u1]; kernel_rfl
def Ji (J3:Q1):Q1:=(hG cf jb Xp (cJ p154 (hG cf jb WK (hG cf jb Vt (hG cf jb Wo (kJ rl J3)))) (kJ Ko (Cu cf k0))))
def xR (n:Nat) (ig:aZ) (gQ:bf) (il:bo) (ii:bF) (k:ab) (j3:WQ) (v2:Int) (v3:AV) (v15:AV) (v19:AV) (v151:AV) (v152:Int) (v153:Int) (h:Heap):aa:=ifB (ltF v153 v152) (eld 5 h v151 v153 5 true fun a b=>lG h (.cells [(.int .i64 0),(.int .i64 0),.nilslice,(.int .i64 0),.nilslice] true 0) fun c d=>jh d (.ptr c 0) 5 b fun e=>fld 2 e (.ptr c 0) 2 true fun f g=>mI e 1 [.nilslice,(.int .i64 0)] [(0,2,g)] fun i l=>Iv l 2 v19 i fun m o=>kY .i64 v153 1 fun p=>j3 v2 v3 v15 m v151 v152 p o) (xL n ig gQ il ii k v2 v3 v15 v19 h)
def Jj:Nat→Q1:=lpS (Ji cf k0)
def wU (n:Nat) (ig:aZ) (gQ:bf) (il:bo) (ii:bF) (k:ab):Nat→WQ:=lpF rl (xR n ig gQ il ii k)
theorem ahK (k:ab) (m:Nat):wU n ig gQ il ii k (m+1)=xR n ig gQ il ii k (wU n ig gQ il ii k m):=rfl
theorem ajW (m:Nat):lo rl (Jj (jf ig gQ il ii) k0 m)=wU n ig gQ il ii (kap iv k0) m:=mG (fun J3=>(by obtain ⟨J2,u2⟩:=exi (Cu (jf ig gQ il ii) k0); delta Ji xR; rw [← ajE,u2]; kernel_rfl:lo rl (Ji (jf ig gQ il ii) k0 J3)=xR n ig gQ il ii (kap iv k0) (lo rl J3))) m
def CT:Q1:=(cJ ai1 (hG cf jb jg (jk iv k0)) (hG cf jb TF (hG cf jb R6 (kJ rl (Jj cf k0 n)))))
def tD (n:Nat) (ig:aZ) (gQ:bf) (il:bo) (ii:bF) (k:ab) (v2:Int) (v3:AV) (v4:AV) (v15:AV) (v149:Bool) (h:Heap):aa:=ifB v149 (k false h) (fld 4 h v4 1 false fun a b=>jA b fun c=>wU n ig gQ il ii k n v2 v3 v15 .nilslice b c 0 h)
theorem ajv:lo IZ (CT n (jf ig gQ il ii) k0)=tD n ig gQ il ii (kap iv k0):=by obtain ⟨J3,u3⟩:=exi (Jj (jf ig gQ il ii) k0 n); delta CT tD; rw [← ajW,u3]; kernel_rfl
def C0:Q1:=(hG cf jb Rd (kJ IZ (CT n cf k0)))
def tE (n:Nat) (ig:aZ) (gQ:bf) (il:bo) (ii:bF) (k:ab) (v2:Int) (v3:AV) (v4:AV) (v15:AV) (v138:Bool) (h:Heap):aa:=ifB v138 (tD n ig gQ il ii k v2 v3 v4 v15 true h) (faK 2 v4 fun a=>ldB h a fun b=>fld 0 h v4 1 false fun c d=>jA d fun e=>DD 1 7 v15 1 fun f=>ldI .i64 h f fun g=>tD n ig gQ il ii k v2 v3 v4 v15 (xorB true (eqBB b (eqF e g))) h)
theorem aj8:lo JV (C0 n (jf ig gQ il ii) k0)=tE n ig gQ il ii (kap iv k0):=by obtain ⟨J5,u5⟩:=exi (CT n (jf ig gQ il ii) k0); delta C0 tE; rw [← ajv,u5]; kernel_rfl
def Ck:Q1:=(hG cf jb Sk (kJ JV (C0 n cf k0)))
def CX (n:Nat) (ig:aZ) (gQ:bf) (il:bo) (ii:bF) (k:ab) (v2:Int) (v3:AV) (v4:AV) (v15:AV) (v16:Bool) (v17:AV) (h:Heap):aa:=ifB (jJ v16) (tE n ig gQ il ii k v2 v3 v4 v15 true h) (DD 1 7 v15 1 fun a=>ldI .i64 h a fun b=>DD 1 7 v17 1 fun c=>ldI .i64 h c fun d=>tE n ig gQ il ii k v2 v3 v4 v15 (jJ (eqF b d)) h)
theorem aj5:lo IX (Ck n (jf ig gQ il ii) k0)=CX n ig gQ il ii (kap iv k0):=by obtain ⟨J4,u4⟩:=exi (C0 n (jf ig gQ il ii) k0); delta Ck CX; rw [← aj8,u4]; kernel_rfl
def Jv (J7:Q1):Q1:=(hG cf jb RX (cJ ad1 (hG cf jb SL (hG cf jb Tf (cJ T7 (hG cf jb jg (jk iv k0)) (hG cf jb Rl (kJ rq J7))))) (kJ IX (Ck n cf k0))))
def xJ (n:Nat) (ig:aZ) (gQ:bf) (il:bo) (ii:bF) (k:ab) (j7:Vs) (v2:Int) (v3:AV) (v4:AV) (v15:AV) (v16:Bool) (v17:AV) (v119:Int) (h:Heap):aa:=ifB (ltF v119 7) (DD 1 7 v15 v119 fun a=>ldI .i64 h a fun b=>DD 1 7 v17 v119 fun c=>ldI .i64 h c fun d=>ifB (ltF d b) (k false h) (kY .i64 v119 1 fun e=>j7 v2 v3 v4 v15 v16 v17 e h)) (CX n ig gQ il ii k v2 v3 v4 v15 v16 v17 h)
def I1:Nat→Q1:=lpS (Jv n cf k0)
def wY (n:Nat) (ig:aZ) (gQ:bf) (il:bo) (ii:bF) (k:ab):Nat→Vs:=lpF rq (xJ n ig gQ il ii k)
theorem aiE (k:ab) (m:Nat):wY n ig gQ il ii k (m+1)=xJ n ig gQ il ii k (wY n ig gQ il ii k m):=rfl
theorem aiU (m:Nat):lo rq (I1 n (jf ig gQ il ii) k0 m)=wY n ig gQ il ii (kap iv k0) m:=mG (fun J7=>(by obtain ⟨J6,u6⟩:=exi (Ck n (jf ig gQ il ii) k0); delta Jv xJ; rw [← aj5,u6]; kernel_rfl:lo rq (Jv n (jf ig gQ il ii) k0 J7)=xJ n ig gQ il ii (kap iv k0) (lo rq J7))) m
def CH:Q1:=(hG cf jb Sa (hG cf jb Sn (hG cf jb Tj (kJ rq (I1 n cf k0 n)))))
def xm (n:Nat) (ig:aZ) (gQ:bf) (il:bo) (ii:bF) (k:ab) (v2:Int) (v3:AV) (v4:AV) (v7:AV) (h:Heap):aa:=fld 0 h v4 1 false fun a b=>gQ b h fun c d e=>lG e (.cells [(.int .i64 0),(.int .i64 0),(.int .i64 0),(.int .i64 0),(.int .i64 0),(.int .i64 0),(.int .i64 0)] true 0) fun f g=>jh g (.ptr f 0) 7 c fun i=>jK .i64 1 i v7 fun l m=>shlK .i64 1 m fun o=>jK .i64 2 i v7 fun p q=>jK .i64 3 i v7 fun r s=>jK .i64 4 i v7 fun t u=>jK .i64 5 i v7 fun w x=>jK .i64 6 i v7 fun y z=>lh [(.int .i64 0),(.int .i64 0),(.int .i64 0),(.int .i64 0),(.int .i64 0),(.int .i64 0),(.int .i64 0)] [(1,1,(.int .i64 o)),(2,1,(.int .i64 q)),(3,1,(.int .i64 s)),(4,1,(.int .i64 u)),(5,1,(.int .i64 x)),(6,1,(.int .i64 z))] fun A=>lG i (.cells [(.int .i64 0),(.int .i64 0),(.int .i64 0),(.int .i64 0),(.int .i64 0),(.int .i64 0),(.int .i64 0)] true 0) fun B C=>jh C (.ptr B 0) 7 A fun E=>wY n ig gQ il ii k n v2 v3 v4 (.ptr f 0) d (.ptr B 0) 0 E
theorem ajp:lo Ju (CH n (jf ig gQ il ii) k0)=xm n ig gQ il ii (kap iv k0):=by obtain ⟨J7,u7⟩:=exi (I1 n (jf ig gQ il ii) k0 n); delta CH xm; rw [← aiU,u7]; kernel_rfl
def A9 (J9:Q1):Q1:=(cJ p97 (hG cf jb jg (jk iv k0)) (hG cf jb RH (kJ pQ J9)))
def rD (n:Nat) (ig:aZ) (gQ:bf) (il:bo) (ii:bF) (k:ab) (j9:cZ) (v2:Int) (v3:AV) (v4:AV) (v7:AV) (v8:AV) (v68:AV) (v69:Int) (v70:Int) (v97:Bool) (h:Heap):aa:=ifB v97 (k false h) (kY .i64 v70 1 fun a=>j9 v2 v3 v4 v7 v8 v68 v69 a h)
theorem afT (J9:Q1):lo HF (A9 (jf ig gQ il ii) k0 J9)=rD n ig gQ il ii (kap iv k0) (lo pQ J9):=by delta A9 rD; kernel_rfl
def JC (J9:Q1):Q1:=(hG cf jb R5 (cJ p71 (hG cf jb S9 (hG cf jb Sd (kJ HF (A9 cf k0 J9)))) (kJ Ju (CH n cf k0))))
def xK (n:Nat) (ig:aZ) (gQ:bf) (il:bo) (ii:bF) (k:ab) (j9:cZ) (v2:Int) (v3:AV) (v4:AV) (v7:AV) (v8:AV) (v68:AV) (v69:Int) (v70:Int) (h:Heap):aa:=ifB (ltF v70 v69) (Ma .i64 1 h v68 v70 fun a b=>fld 1 h v4 1 false fun c d=>Ma .i64 1 h d v70 fun e f=>ifB (ltF f 0) (rD n ig gQ il ii k j9 v2 v3 v4 v7 v8 v68 v69 v70 true h) (faK 1 v4 fun g=>jd h g 1 false fun i=>Ma .i64 1 h i v70 fun l m=>jK .i64 0 h v3 fun o p=>jK .i64 1 h v3 fun q r=>quoK .i64 p r fun s=>DD 1 16 v8 b fun t=>ldI .i64 h t fun u=>Ky .i64 s u fun w=>rD n ig gQ il ii k j9 v2 v3 v4 v7 v8 v68 v69 v70 (jJ (eqF m w)) h)) (xm n ig gQ il ii k v2 v3 v4 v7 h)
def Jo:Nat→Q1:=lpS (JC n cf k0)
def tQ (n:Nat) (ig:aZ) (gQ:bf) (il:bo) (ii:bF) (k:ab):Nat→cZ:=lpF pQ (xK n ig gQ il ii k)
theorem ajh (k:ab) (m:Nat):tQ n ig gQ il ii k (m+1)=xK n ig gQ il ii k (tQ n ig gQ il ii k m):=rfl
theorem ahI (m:Nat):lo pQ (Jo n (jf ig gQ il ii) k0 m)=tQ n ig gQ il ii (kap iv k0) m:=mG (fun J9=>(by obtain ⟨J8,u8⟩:=exi (CH n (jf ig gQ il ii) k0); obtain ⟨J10,u10⟩:=exi (A9 (jf ig gQ il ii) k0 J9); delta JC xK; rw [← ajp,u8, ← afT,u10]; kernel_rfl:lo pQ (JC n (jf ig gQ il ii) k0 J9)=xK n ig gQ il ii (kap iv k0) (lo pQ J9))) m
def AP:Q1:=(hG cf jb R8 (kJ pQ (Jo n cf k0 n)))
def Ao (n:Nat) (ig:aZ) (gQ:bf) (il:bo) (ii:bF) (k:ab) (v2:Int) (v3:AV) (v4:AV) (v7:AV) (v8:AV) (h:Heap):aa:=fld 0 h v7 1 false fun a b=>jA b fun c=>tQ n ig gQ il ii k n v2 v3 v4 v7 v8 b c 0 h
theorem ahi:lo G8 (AP n (jf ig gQ il ii) k0)=Ao n ig gQ il ii (kap iv k0):=by obtain ⟨J9,u9⟩:=exi (Jo n (jf ig gQ il ii) k0 n); delta AP Ao; rw [← ahI,u9]; kernel_rfl
def vP (J12:Q1):Q1:=(hG cf jb TP (kJ ly J12))
def rP (n:Nat) (ig:aZ) (gQ:bf) (il:bo) (ii:bF) (k:ab) (j12:cZ) (v2:Int) (v3:AV) (v4:AV) (v7:AV) (v8:AV) (v38:AV) (v39:Int) (v40:Int) (h:Heap):aa:=kY .i64 v40 1 fun a=>j12 v2 v3 v4 v7 v8 v38 v39 a h
theorem agr (J12:Q1):lo ly (vP (jf ig gQ il ii) J12)=rP n ig gQ il ii (kap iv k0) (lo ly J12):=by delta vP rP; kernel_rfl
def Am (J12:Q1):Q1:=(cJ p60 (hG cf jb Sx (kJ ly (vP cf J12))) (kJ ly (vP cf J12)))
def qw (n:Nat) (ig:aZ) (gQ:bf) (il:bo) (ii:bF) (k:ab) (j12:cZ) (v2:Int) (v3:AV) (v4:AV) (v7:AV) (v8:AV) (v11:Int) (v38:AV) (v39:Int) (v40:Int) (v60:Bool) (h:Heap):aa:=ifB v60 (DD 1 16 v8 v11 fun a=>ldI .i64 h a fun b=>kY .i64 b 1 fun c=>DD 1 16 v8 v11 fun d=>jh h d 1 (.int .i64 c) fun e=>rP n ig gQ il ii k j12 v2 v3 v4 v7 v8 v38 v39 v40 e) (rP n ig gQ il ii k j12 v2 v3 v4 v7 v8 v38 v39 v40 h)
theorem afV (J12:Q1):lo Hn (Am (jf ig gQ il ii) J12)=qw n ig gQ il ii (kap iv k0) (lo ly J12):=by obtain ⟨J13,u13⟩:=exi (vP (jf ig gQ il ii) J12); delta Am qw; rw [← agr,u13]; kernel_rfl
def G5 (J12:Q1):Q1:=(hG cf jb RO (cJ p41 (hG cf jb Sy (hG cf jb Rt (hG cf jb TL (kJ Hn (Am cf J12))))) (kJ G8 (AP n cf k0))))
def vJ (n:Nat) (ig:aZ) (gQ:bf) (il:bo) (ii:bF) (k:ab) (j12:cZ) (v2:Int) (v3:AV) (v4:AV) (v7:AV) (v8:AV) (v38:AV) (v39:Int) (v40:Int) (h:Heap):aa:=ifB (ltF v40 v39) (eld 2 h v38 v40 2 true fun a b=>lG h (.cells [(.int .i64 0),(.int .u8 0)] true 0) fun c d=>jh d (.ptr c 0) 2 b fun e=>jK .i64 0 e (.ptr c 0) fun f g=>jK .i64 1 e v3 fun i l=>ig g l e fun m o p=>ifB (eqF o 0) (faK 0 (.ptr c 0) fun q=>ldI .i64 p q fun r=>jK .i64 0 p v3 fun s t=>qw n ig gQ il ii k j12 v2 v3 v4 v7 v8 m v38 v39 v40 (ltF r t) p) (qw n ig gQ il ii k j12 v2 v3 v4 v7 v8 m v38 v39 v40 false p)) (Ao n ig gQ il ii k v2 v3 v4 v7 v8 h)
def HM:Nat→Q1:=lpS (G5 n cf k0)
def qq (n:Nat) (ig:aZ) (gQ:bf) (il:bo) (ii:bF) (k:ab):Nat→cZ:=lpF ly (vJ n ig gQ il ii k)
theorem agy (k:ab) (m:Nat):qq n ig gQ il ii k (m+1)=vJ n ig gQ il ii k (qq n ig gQ il ii k m):=rfl
theorem afS (m:Nat):lo ly (HM n (jf ig gQ il ii) k0 m)=qq n ig gQ il ii (kap iv k0) m:=mG (fun J12=>(by obtain ⟨J11,u11⟩:=exi (AP n (jf ig gQ il ii) k0); obtain ⟨J14,u14⟩:=exi (Am (jf ig gQ il ii) J12); delta G5 vJ; rw [← ahi,u11, ← afV,u14]; kernel_rfl:lo ly (G5 n (jf ig gQ il ii) k0 J12)=vJ n ig gQ il ii (kap iv k0) (lo ly J12))) m
def aay:Q1:=(hG cf jb Ak (hG cf jb So (hG cf jb Rr (cJ p36 (hG cf jb jg (jk iv k0)) (hG cf jb RP (hG cf jb SG (kJ ly (HM n cf k0 n))))))))
def IM (n:Nat) (ig:aZ) (gQ:bf) (il:bo) (ii:bF) (k:ab) (a0:AV) (a1:AV) (a2:Int) (h:Heap):aa:=pZ h a0 fun a b=>pZ b a1 fun c d=>fld 16 d (.ptr a 0) 1 false fun e f=>eld 8 d f a2 8 true fun g i=>lG d (.cells [.nilslice,(.int .i64 0),(.int .i64 0),(.int .i64 0),(.int .i64 0),(.int .i64 0),(.int .i64 0),(.int .i64 0)] true 0) fun l m=>jh m (.ptr l 0) 8 i fun o=>fld 1 o (.ptr c 0) 1 false fun p q=>jA q fun r=>fld 0 o (.ptr l 0) 1 false fun s t=>jA t fun u=>ifB (jJ (eqF r u)) (k false o) (lG o (.cells [(.int .i64 0),(.int .i64 0),(.int .i64 0),(.int .i64 0),(.int .i64 0),(.int .i64 0),(.int .i64 0),(.int .i64 0),(.int .i64 0),(.int .i64 0),(.int .i64 0),(.int .i64 0),(.int .i64 0),(.int .i64 0),(.int .i64 0),(.int .i64 0)] true 0) fun w x=>fld 0 x (.ptr c 0) 1 false fun y z=>jA z fun A=>qq n ig gQ il ii k n a2 (.ptr a 0) (.ptr c 0) (.ptr l 0) (.ptr w 0) z A 0 x)
def QN (n:Nat) (ig:aZ) (gQ:bf) (il:bo) (ii:bF) (a0:AV) (a1:AV) (a2:Int) (h:Heap) (k:ab):aa:=IM n ig gQ il ii k a0 a1 a2 h
theorem anq:DZ cf jb n abf iv k0=aay n cf k0:=by funext s; kernel_rfl
theorem anh:lo lN (DZ (jf ig gQ il ii) jb n abf iv k0)=cmp lN (QN n ig gQ il ii) (kap iv k0):=(congrArg (lo lN) (anq n (jf ig gQ il ii) k0)).trans (show _=IM n ig gQ il ii (kap iv k0) by obtain ⟨J12,u12⟩:=exi (HM n (jf ig gQ il ii) k0 n); delta aay IM; rw [← afS,u12]; kernel_rfl)
end
def bj (n:Nat):aM:=QN n (bP n) (bB n) (bR n) (bO n)
abbrev BE (g:af):Wr:=wrT iJ ju g
def zY:bg:=lp []
section
variable (k0:Q0)
def BM:Q1:=(hG cf ja mT (hG cf ja mQ (hG cf ja zn (jk ju k0))))
def tO (n:Nat) (k:aL) (h:Heap):aa:=lG h (.mp []) fun a b=>lG b (.cells [.nilmap] true 0) fun c d=>jh d (.ptr c 0) 1 (.map a) fun e=>k (.func 38 [] [(.ptr c 0)]) e
def BI (n:Nat) (h:Heap) (k:aL):aa:=tO n k h
theorem M6:DZ cf ja n Bz ju k0=BM cf k0:=by funext s; kernel_rfl
theorem P6:lo iJ (DZ zY ja n Bz ju k0)=cmp iJ (BI n) (kap ju k0):=(congrArg (lo iJ) (M6 n zY k0)).trans (show _=tO n (kap ju k0) by delta BM tO; kernel_rfl)
end
def aG (n:Nat):af:=BI n
abbrev BN (g:af):Wr:=wrT iJ ju g
def zu:bg:=lp []
section
variable (k0:Q0)
def BX:Q1:=(hG cf ja mT (hG cf ja mQ (hG cf ja zh (jk ju k0))))
def tZ (n:Nat) (k:aL) (h:Heap):aa:=lG h (.mp []) fun a b=>lG b (.cells [.nilmap] true 0) fun c d=>jh d (.ptr c 0) 1 (.map a) fun e=>k (.func 39 [] [(.ptr c 0)]) e
def BJ (n:Nat) (h:Heap) (k:aL):aa:=tZ n k h
theorem Ob:DZ cf ja n B0 ju k0=BX cf k0:=by funext s; kernel_rfl
theorem NV:lo iJ (DZ zu ja n B0 ju k0)=cmp iJ (BJ n) (kap ju k0):=(congrArg (lo iJ) (Ob n zu k0)).trans (show _=tZ n (kap ju k0) by delta BX tZ; kernel_rfl)
end
def aE (n:Nat):af:=BJ n
abbrev abG (g:aZ):Wr:=wrT xh jx g
def Za (jV:bm):bg:=lp [(Qj,Qg jV)]
section
variable (jV:bm) (k0:Q0)
def abL:Q1:=(hG cf qD Fz (hG cf qD Wz (cJ p9 (hG cf qD W7 (jk jx k0)) (hG cf qD Xf (cJ p12 (hG cf qD FW (jk jx k0)) (hG cf qD V2 (hG cf qD Vk (jk jx k0))))))))
def Ig (n:Nat) (jV:bm) (k:aU) (a0:Int) (a1:Int) (h:Heap):aa:=ifB (jJ (ltF a0 1048576)) (k 0 10 h) (jV a1 h fun a b=>ifB (jJ a) (k 0 2 b) (quoK .u64 a0 256 fun c=>uB .i64 c fun d=>remK .u64 a0 256 fun e=>quoK .u64 e 16 fun f=>uB .i64 f fun g=>remK .i64 d a1 fun i=>Dx .i64 i 16 fun l=>kY .i64 l g fun m=>k m 0 b))
def Qv (n:Nat) (jV:bm) (a0:Int) (a1:Int) (h:Heap) (k:aU):aa:=Ig n jV k a0 a1 h
theorem amg:DZ cf qD n acl jx k0=abL cf k0:=by funext s; kernel_rfl
theorem anf:lo xh (DZ (Za jV) qD n acl jx k0)=cmp xh (Qv n jV) (kap jx k0):=(congrArg (lo xh) (amg n (Za jV) k0)).trans (show _=Ig n jV (kap jx k0) by delta abL Ig; kernel_rfl)
end
def cw (n:Nat):aZ:=Qv n (dq n)
abbrev acv (g:bG):Wr:=wrT sj mq g
def X1:bg:=lp []
section
variable (k0:Q0)
def abx:Q1:=(hG cf nF CJ (hG cf nF Vp (cJ p7 (hG cf nF Db (jk mq k0)) (hG cf nF Da (jk mq k0)))))
def Ir (n:Nat) (k:cU) (a0:Int) (h:Heap):aa:=shrK .u64 a0 20 fun a=>ifB (jJ (eqF a 0)) (k 0 0 10 h) (shrK .u64 a0 8 fun b=>uB .i64 b fun c=>agA .and .u64 a0 255 fun d=>uB .i64 d fun e=>k c e 0 h)
def QT (n:Nat) (a0:Int) (h:Heap) (k:cU):aa:=Ir n k a0 h
theorem al5:DZ cf nF n abs mq k0=abx cf k0:=by funext s; kernel_rfl
theorem ana:lo sj (DZ X1 nF n abs mq k0)=cmp sj (QT n) (kap mq k0):=(congrArg (lo sj) (al5 n X1 k0)).trans (show _=Ir n (kap mq k0) by delta abx Ir; kernel_rfl)
end
def cv (n:Nat):bG:=QT n
abbrev Un (g:ak):Wr:=wrT iQ hT g
def jL (gF:aI) (gT:bp) (iI:aZ) (iH:bG):bg:=lp [(wi,wm gF),(VR,WE gT),(acq,abG iI),(ab1,acv iH)]
section
variable (gF:aI) (gT:bp) (iI:aZ) (iH:bG) (k0:Q0)
def x8:Q1:=(hG cf jz oJ (jk hT k0))
def ym (n:Nat) (gF:aI) (gT:bp) (iI:aZ) (iH:bG) (k:ab) (h:Heap):aa:=k true h
theorem adL:lo iJ (x8 (jL gF gT iI iH) k0)=ym n gF gT iI iH (kap hT k0):=by delta x8 ym; kernel_rfl
def yH (J1:Q1):Q1:=(cJ XT (hG cf jz i7 (jk hT k0)) (hG cf jz PO (kJ mR J1)))
def rc (n:Nat) (gF:aI) (gT:bp) (iI:aZ) (iH:bG) (k:ab) (j1:bE) (v2:AV) (v3:AV) (v75:AV) (v76:Int) (v77:Int) (v106:Bool) (h:Heap):aa:=ifB v106 (k false h) (kY .i64 v77 1 fun a=>j1 v2 v3 v75 v76 a h)
theorem aeC (J1:Q1):lo D7 (yH (jL gF gT iI iH) k0 J1)=rc n gF gT iI iH (kap hT k0) (lo mR J1):=by delta yH rc; kernel_rfl
def yw (J1:Q1):Q1:=(hG cf jz M7 (kJ D7 (yH cf k0 J1)))
def pb (n:Nat) (gF:aI) (gT:bp) (iI:aZ) (iH:bG) (k:ab) (j1:bE) (v2:AV) (v3:AV) (v17:AV) (v75:AV) (v76:Int) (v77:Int) (v92:Bool) (h:Heap):aa:=ifB v92 (rc n gF gT iI iH k j1 v2 v3 v75 v76 v77 true h) (faK 0 v3 fun a=>jd h a 1 false fun b=>jK .i64 0 h v17 fun c d=>quoK .i64 d 16 fun e=>Bm 5 b e fun f=>fld 0 h f 1 false fun g i=>jK .i64 2 h v17 fun l m=>gT i m 2 h fun o p=>rc n gF gT iI iH k j1 v2 v3 v75 v76 v77 (jJ o) p)
theorem adv (J1:Q1):lo Ep (yw (jL gF gT iI iH) k0 J1)=pb n gF gT iI iH (kap hT k0) (lo mR J1):=by obtain ⟨J3,u3⟩:=exi (yH (jL gF gT iI iH) k0 J1); delta yw pb; rw [← aeC,u3]; kernel_rfl
def E1 (J1:Q1):Q1:=(hG cf jz M5 (cJ p78 (hG cf jz OP (hG cf jz N0 (kJ Ep (yw cf k0 J1)))) (kJ iJ (x8 cf k0))))
def td (n:Nat) (gF:aI) (gT:bp) (iI:aZ) (iH:bG) (k:ab) (j1:bE) (v2:AV) (v3:AV) (v75:AV) (v76:Int) (v77:Int) (h:Heap):aa:=ifB (ltF v77 v76) (eld 6 h v75 v77 6 true fun a b=>lG h (.cells [(.int .i64 0),(.int .i64 0),(.int .i64 0),(.bool false),(.bool false),(.bool false)] true 0) fun c d=>jh d (.ptr c 0) 6 b fun e=>jK .i64 0 e (.ptr c 0) fun f g=>ifB (ltF g 0) (pb n gF gT iI iH k j1 v2 v3 (.ptr c 0) v75 v76 v77 true e) (faK 0 (.ptr c 0) fun i=>ldI .i64 e i fun l=>fld 16 e v2 1 false fun m o=>jA o fun p=>Dx .i64 16 p fun q=>pb n gF gT iI iH k j1 v2 v3 (.ptr c 0) v75 v76 v77 (jJ (ltF l q)) e)) (ym n gF gT iI iH k h)
def Em:Nat→Q1:=lpS (E1 cf k0)
def oT (n:Nat) (gF:aI) (gT:bp) (iI:aZ) (iH:bG) (k:ab):Nat→bE:=lpF mR (td n gF gT iI iH k)
theorem ac3 (k:ab) (m:Nat):oT n gF gT iI iH k (m+1)=td n gF gT iI iH k (oT n gF gT iI iH k m):=rfl
theorem adg (m:Nat):lo mR (Em (jL gF gT iI iH) k0 m)=oT n gF gT iI iH (kap hT k0) m:=mG (fun J1=>(by obtain ⟨J0,u0⟩:=exi (x8 (jL gF gT iI iH) k0); obtain ⟨J2,u2⟩:=exi (yw (jL gF gT iI iH) k0 J1); delta E1 td; rw [← adL,u0, ← adv,u2]; kernel_rfl:lo mR (E1 (jL gF gT iI iH) k0 J1)=td n gF gT iI iH (kap hT k0) (lo mR J1))) m
def yc:Q1:=(hG cf jz O5 (kJ mR (Em cf k0 n)))
def sH (n:Nat) (gF:aI) (gT:bp) (iI:aZ) (iH:bG) (k:ab) (v2:AV) (v3:AV) (h:Heap):aa:=fld 2 h v3 1 false fun a b=>jA b fun c=>oT n gF gT iI iH k n v2 v3 b c 0 h
theorem ac7:lo D0 (yc n (jL gF gT iI iH) k0)=sH n gF gT iI iH (kap hT k0):=by obtain ⟨J1,u1⟩:=exi (Em (jL gF gT iI iH) k0 n); delta yc sH; rw [← adg,u1]; kernel_rfl
def yO (J5:Q1):Q1:=(cJ p72 (hG cf jz i7 (jk hT k0)) (hG cf jz No (kJ mn J5)))
def qV (n:Nat) (gF:aI) (gT:bp) (iI:aZ) (iH:bG) (k:ab) (j5:bE) (v2:AV) (v3:AV) (v19:AV) (v20:Int) (v21:Int) (v72:Bool) (h:Heap):aa:=ifB v72 (k false h) (kY .i64 v21 1 fun a=>j5 v2 v3 v19 v20 a h)
theorem ac8 (J5:Q1):lo EN (yO (jL gF gT iI iH) k0 J5)=qV n gF gT iI iH (kap hT k0) (lo mn J5):=by delta yO qV; kernel_rfl
def yj (J5:Q1):Q1:=(cJ p59 (hG cf jz i7 (jk hT k0)) (hG cf jz Lh (hG cf jz LC (kJ EN (yO cf k0 J5)))))
def tg (n:Nat) (gF:aI) (gT:bp) (iI:aZ) (iH:bG) (k:ab) (j5:bE) (v2:AV) (v3:AV) (v10:Int) (v19:AV) (v20:Int) (v21:Int) (v59:Bool) (h:Heap):aa:=ifB v59 (k false h) (jd h v2 17 true fun a=>gF a v10 h fun b c d e=>ifB (jJ (eqF d 0)) (qV n gF gT iI iH k j5 v2 v3 v19 v20 v21 true e) (qV n gF gT iI iH k j5 v2 v3 v19 v20 v21 (jJ c) e))
theorem ad0 (J5:Q1):lo DV (yj (jL gF gT iI iH) k0 J5)=tg n gF gT iI iH (kap hT k0) (lo mn J5):=by obtain ⟨J6,u6⟩:=exi (yO (jL gF gT iI iH) k0 J5); delta yj tg; rw [← ac8,u6]; kernel_rfl
def yI (J5:Q1):Q1:=(hG cf jz Lv (kJ DV (yj cf k0 J5)))
def uf (n:Nat) (gF:aI) (gT:bp) (iI:aZ) (iH:bG) (k:ab) (j5:bE) (v2:AV) (v3:AV) (v6:AV) (v8:Int) (v10:Int) (v19:AV) (v20:Int) (v21:Int) (v53:Bool) (h:Heap):aa:=ifB v53 (tg n gF gT iI iH k j5 v2 v3 v10 v19 v20 v21 true h) (jK .i64 0 h v6 fun a b=>tg n gF gT iI iH k j5 v2 v3 v10 v19 v20 v21 (jJ (eqF v8 b)) h)
theorem adD (J5:Q1):lo Es (yI (jL gF gT iI iH) k0 J5)=uf n gF gT iI iH (kap hT k0) (lo mn J5):=by obtain ⟨J8,u8⟩:=exi (yj (jL gF gT iI iH) k0 J5); delta yI uf; rw [← ad0,u8]; kernel_rfl
def Fb (J5:Q1):Q1:=(hG cf jz KK (cJ p22 (hG cf jz K5 (hG cf jz LD (cJ p31 (hG cf jz i7 (jk hT k0)) (hG cf jz KZ (hG cf jz LH (hG cf jz LN (hG cf jz KV (kJ Es (yI cf k0 J5))))))))) (kJ D0 (yc n cf k0))))
def sZ (n:Nat) (gF:aI) (gT:bp) (iI:aZ) (iH:bG) (k:ab) (j5:bE) (v2:AV) (v3:AV) (v19:AV) (v20:Int) (v21:Int) (h:Heap):aa:=ifB (ltF v21 v20) (eld 2 h v19 v21 2 true fun a b=>lG h (.cells [(.int .i64 0),(.int .u64 0)] true 0) fun c d=>jh d (.ptr c 0) 2 b fun e=>jK .u64 1 e (.ptr c 0) fun f g=>jK .i64 0 e v2 fun i l=>Dx .i64 l 16 fun m=>uB .u64 m fun o=>ifB (jJ (ltF g o)) (k false e) (jK .u64 1 e (.ptr c 0) fun p q=>Dx .u64 q 16 fun r=>jK .i64 1 e v2 fun s t=>iI r t e fun u w x=>iH r x fun y z A B=>ifB (jJ (eqF w 0)) (uf n gF gT iI iH k j5 v2 v3 (.ptr c 0) u y v19 v20 v21 true B) (uf n gF gT iI iH k j5 v2 v3 (.ptr c 0) u y v19 v20 v21 (jJ (eqF A 0)) B))) (sH n gF gT iI iH k v2 v3 h)
def Er:Nat→Q1:=lpS (Fb n cf k0)
def qT (n:Nat) (gF:aI) (gT:bp) (iI:aZ) (iH:bG) (k:ab):Nat→bE:=lpF mn (sZ n gF gT iI iH k)
theorem adR (k:ab) (m:Nat):qT n gF gT iI iH k (m+1)=sZ n gF gT iI iH k (qT n gF gT iI iH k m):=rfl
theorem aeu (m:Nat):lo mn (Er n (jL gF gT iI iH) k0 m)=qT n gF gT iI iH (kap hT k0) m:=mG (fun J5=>(by obtain ⟨J4,u4⟩:=exi (yc n (jL gF gT iI iH) k0); obtain ⟨J7,u7⟩:=exi (yI (jL gF gT iI iH) k0 J5); delta Fb sZ; rw [← ac7,u4, ← adD,u7]; kernel_rfl:lo mn (Fb n (jL gF gT iI iH) k0 J5)=sZ n gF gT iI iH (kap hT k0) (lo mn J5))) m
def W9:Q1:=(hG cf jz wD (hG cf jz Lu (kJ mn (Er n cf k0 n))))
def Cs (n:Nat) (gF:aI) (gT:bp) (iI:aZ) (iH:bG) (k:ab) (a0:AV) (a1:AV) (h:Heap):aa:=pZ h a0 fun a b=>pZ b a1 fun c d=>fld 1 d (.ptr c 0) 1 false fun e f=>jA f fun g=>qT n gF gT iI iH k n (.ptr a 0) (.ptr c 0) f g 0 d
def Jc (n:Nat) (gF:aI) (gT:bp) (iI:aZ) (iH:bG) (a0:AV) (a1:AV) (h:Heap) (k:ab):aa:=Cs n gF gT iI iH k a0 a1 h
theorem ajy:DZ cf jz n Uz hT k0=W9 n cf k0:=by funext s; kernel_rfl
theorem aiu:lo iQ (DZ (jL gF gT iI iH) jz n Uz hT k0)=cmp iQ (Jc n gF gT iI iH) (kap hT k0):=(congrArg (lo iQ) (ajy n (jL gF gT iI iH) k0)).trans (show _=Cs n gF gT iI iH (kap hT k0) by obtain ⟨J5,u5⟩:=exi (Er n (jL gF gT iI iH) k0 n); delta W9 Cs; rw [← aeu,u5]; kernel_rfl)
end
def be (n:Nat):ak:=Jc n (aV n) (bs n) (cw n) (cv n)
abbrev xq (g:aj):Wr:=wrT oq j8 g
def wK:bg:=lp []
section
variable (k0:Q0)
def wW:Q1:=(hG cf mE o0 (hG cf mE oQ (hG cf mE oP (jk j8 k0))))
def ov (n:Nat) (k:ab) (a0:Int) (a1:AV) (h:Heap):aa:=jd h a1 1 false fun a=>Cb h (.cell .int) (.int .i64 0) a (.int .u64 a0) fun b b2=>Gc .i64 b fun c=>kY .i64 c 1 fun d=>aaD h (.cell .int) a (.int .u64 a0) (.int .i64 d) fun e=>jd e a1 1 false fun f=>Cb e (.cell .int) (.int .i64 0) f (.int .u64 a0) fun g b8=>Gc .i64 g fun i=>k (ltF 1 i) e
def ru (n:Nat) (a0:Int) (a1:AV) (h:Heap) (k:ab):aa:=ov n k a0 a1 h
theorem JR:DZ cf mE n xb j8 k0=wW cf k0:=by funext s; kernel_rfl
theorem I5:lo oq (DZ wK mE n xb j8 k0)=cmp oq (ru n) (kap j8 k0):=(congrArg (lo oq) (JR n wK k0)).trans (show _=ov n (kap j8 k0) by delta wW ov; kernel_rfl)
end
def ar (n:Nat):aj:=ru n
abbrev Fy (g:bi):Wr:=wrT iQ jt g
def iK (gI:ai) (gN:aq) (gL:aj) (gM:aq) (gJ:af) (gY:aM) (gZ:aM) (gH:af) (gG:af) (gR:ak) (gC:aj) (gD:aj) (gE:Wr):bg:=lp [(Bj,Bk gI),(vG,GM gN),(s9,ED gL),(D5,ES gM),(Gz,Gx gJ),(acm,aaq gY),(abO,acs gZ),(BG,BE gH),(Bw,BN gG),(UP,Un gR),(sJ,tu gC),(wR,xq gD),(xz,gE)]
abbrev eE:Type:=AV→AV→AV→AV→Bool→AV→AV→Int→Int→Heap→aa
abbrev eD:Type:=AV→AV→AV→AV→Bool→AV→AV→AV→Int→Int→Heap→aa
abbrev eC:Type:=AV→AV→AV→AV→AV→AV→Int→AV→Bool→AV→AV→Int→Int→AV→Int→Int→Heap→aa
abbrev cW:Type:=AV→AV→AV→AV→AV→AV→Int→AV→Bool→AV→Int→Int→AV→Int→Int→Heap→aa
abbrev bL:Type:=AV→AV→AV→AV→AV→AV→AV→Int→Int→Heap→aa
section
variable (gI:ai) (gN:aq) (gL:aj) (gM:aq) (gJ:af) (gY:aM) (gZ:aM) (gH:af) (gG:af) (gR:ak) (gC:aj) (gD:aj) (gE:Wr) (k0:Q0)
def A4:Q1:=(hG cf iO Ry (hG cf iO Se (hG cf iO SW (jk jt k0))))
def vQ (n:Nat) (gI:ai) (gN:aq) (gL:aj) (gM:aq) (gJ:af) (gY:aM) (gZ:aM) (gH:af) (gG:af) (gR:ak) (gC:aj) (gD:aj) (gE:Wr) (k:aL) (v2:AV) (v3:AV) (v5:AV) (v6:AV) (v19:Bool) (h:Heap):aa:=fld 16 h v2 1 false fun a b=>jA b fun c=>iK gI gN gL gM gJ gY gZ gH gG gR gC gD gE v6 [(.bool v19),(.int .i64 280),(.int .i64 c)] h fun d e=>jd e v2 17 true fun f=>jd e v3 3 true fun g=>gR f g (e.shut true) fun i l=>fld 16 (l.back e.ro) v2 1 false fun m o=>jA o fun p=>iK gI gN gL gM gJ gY gZ gH gG gR gC gD gE v6 [(.bool (jJ i)),(.int .i64 281),(.int .i64 p)] (l.back e.ro) fun q r=>jd r v5 1 false fun s=>k s r
theorem ag9:lo Hr (A4 (iK gI gN gL gM gJ gY gZ gH gG gR gC gD gE) k0)=vQ n gI gN gL gM gJ gY gZ gH gG gR gC gD gE (kap jt k0):=by delta A4 vQ; kernel_rfl
def Au (J1:Q1):Q1:=(hG cf iO Tn (hG cf iO Tu (kJ oK J1)))
def rL (n:Nat) (gI:ai) (gN:aq) (gL:aj) (gM:aq) (gJ:af) (gY:aM) (gZ:aM) (gH:af) (gG:af) (gR:ak) (gC:aj) (gD:aj) (gE:Wr) (k:aL) (j1:eE) (v2:AV) (v3:AV) (v5:AV) (v6:AV) (v21:AV) (v135:AV) (v136:Int) (v137:Int) (v150:Bool) (h:Heap):aa:=kY .i64 v137 1 fun a=>j1 v2 v3 v5 v6 v150 v21 v135 v136 a h
theorem afZ (J1:Q1):lo Hw (Au (iK gI gN gL gM gJ gY gZ gH gG gR gC gD gE) J1)=rL n gI gN gL gM gJ gY gZ gH gG gR gC gD gE (kap jt k0) (lo oK J1):=by delta Au rL; kernel_rfl
def GU (J1:Q1):Q1:=(hG cf iO Q9 (cJ adM (hG cf iO Tm (hG cf iO SX (kJ Hw (Au cf J1)))) (kJ Hr (A4 cf k0))))
def vA (n:Nat) (gI:ai) (gN:aq) (gL:aj) (gM:aq) (gJ:af) (gY:aM) (gZ:aM) (gH:af) (gG:af) (gR:ak) (gC:aj) (gD:aj) (gE:Wr) (k:aL) (j1:eE) (v2:AV) (v3:AV) (v5:AV) (v6:AV) (v19:Bool) (v21:AV) (v135:AV) (v136:Int) (v137:Int) (h:Heap):aa:=ifB (ltF v137 v136) (eld 6 h v135 v137 6 true fun a b=>lG h (.cells [(.int .i64 0),(.int .i64 0),(.int .i64 0),(.bool false),(.bool false),(.bool false)] true 0) fun c d=>jh d (.ptr c 0) 6 b fun e=>jK .i64 0 e (.ptr c 0) fun f g=>jK .i64 1 e (.ptr c 0) fun i l=>lh [(.int .i64 0),(.int .i64 0)] [(0,1,(.int .i64 g)),(1,1,(.int .i64 l))] fun m=>iK gI gN gL gM gJ gY gZ gH gG gR gC gD gE v21 [m] e fun o p=>Kf o fun q=>ifB q (rL n gI gN gL gM gJ gY gZ gH gG gR gC gD gE k j1 v2 v3 v5 v6 v21 v135 v136 v137 true p) (rL n gI gN gL gM gJ gY gZ gH gG gR gC gD gE k j1 v2 v3 v5 v6 v21 v135 v136 v137 v19 p)) (vQ n gI gN gL gM gJ gY gZ gH gG gR gC gD gE k v2 v3 v5 v6 v19 h)
def Ho:Nat→Q1:=lpS (GU cf k0)
def rW (n:Nat) (gI:ai) (gN:aq) (gL:aj) (gM:aq) (gJ:af) (gY:aM) (gZ:aM) (gH:af) (gG:af) (gR:ak) (gC:aj) (gD:aj) (gE:Wr) (k:aL):Nat→eE:=lpF oK (vA n gI gN gL gM gJ gY gZ gH gG gR gC gD gE k)
theorem agx (k:aL) (m:Nat):rW n gI gN gL gM gJ gY gZ gH gG gR gC gD gE k (m+1)=vA n gI gN gL gM gJ gY gZ gH gG gR gC gD gE k (rW n gI gN gL gM gJ gY gZ gH gG gR gC gD gE k m):=rfl
theorem afY (m:Nat):lo oK (Ho (iK gI gN gL gM gJ gY gZ gH gG gR gC gD gE) k0 m)=rW n gI gN gL gM gJ gY gZ gH gG gR gC gD gE (kap jt k0) m:=mG (fun J1=>(by obtain ⟨J0,u0⟩:=exi (A4 (iK gI gN gL gM gJ gY gZ gH gG gR gC gD gE) k0); obtain ⟨J2,u2⟩:=exi (Au (iK gI gN gL gM gJ gY gZ gH gG gR gC gD gE) J1); delta GU vA; rw [← ag9,u0, ← afZ,u2]; kernel_rfl:lo oK (GU (iK gI gN gL gM gJ gY gZ gH gG gR gC gD gE) k0 J1)=vA n gI gN gL gM gJ gY gZ gH gG gR gC gD gE (kap jt k0) (lo oK J1))) m
def A7:Q1:=(hG cf iO Sg (kJ oK (Ho cf k0 n)))
def AK (n:Nat) (gI:ai) (gN:aq) (gL:aj) (gM:aq) (gJ:af) (gY:aM) (gZ:aM) (gH:af) (gG:af) (gR:ak) (gC:aj) (gD:aj) (gE:Wr) (k:aL) (v2:AV) (v3:AV) (v5:AV) (v6:AV) (v19:Bool) (v21:AV) (h:Heap):aa:=fld 2 h v3 1 false fun a b=>jA b fun c=>rW n gI gN gL gM gJ gY gZ gH gG gR gC gD gE k n v2 v3 v5 v6 v19 v21 b c 0 h
theorem agM:lo Hs (A7 n (iK gI gN gL gM gJ gY gZ gH gG gR gC gD gE) k0)=AK n gI gN gL gM gJ gY gZ gH gG gR gC gD gE (kap jt k0):=by obtain ⟨J1,u1⟩:=exi (Ho (iK gI gN gL gM gJ gY gZ gH gG gR gC gD gE) k0 n); delta A7 AK; rw [← afY,u1]; kernel_rfl
def Bh (J4:Q1):Q1:=(hG cf iO NQ (hG cf iO TQ (kJ oG J4)))
def rQ (n:Nat) (gI:ai) (gN:aq) (gL:aj) (gM:aq) (gJ:af) (gY:aM) (gZ:aM) (gH:af) (gG:af) (gR:ak) (gC:aj) (gD:aj) (gE:Wr) (k:aL) (j4:eD) (v2:AV) (v3:AV) (v5:AV) (v6:AV) (v20:AV) (v21:AV) (v120:AV) (v121:Int) (v122:Int) (v132:Bool) (h:Heap):aa:=kY .i64 v122 1 fun a=>j4 v2 v3 v5 v6 v132 v20 v21 v120 v121 a h
theorem agG (J4:Q1):lo Ht (Bh (iK gI gN gL gM gJ gY gZ gH gG gR gC gD gE) J4)=rQ n gI gN gL gM gJ gY gZ gH gG gR gC gD gE (kap jt k0) (lo oG J4):=by delta Bh rQ; kernel_rfl
def G3 (J4:Q1):Q1:=(hG cf iO PY (cJ p123 (hG cf iO M3 (hG cf iO PX (kJ Ht (Bh cf J4)))) (kJ Hs (A7 n cf k0))))
def vV (n:Nat) (gI:ai) (gN:aq) (gL:aj) (gM:aq) (gJ:af) (gY:aM) (gZ:aM) (gH:af) (gG:af) (gR:ak) (gC:aj) (gD:aj) (gE:Wr) (k:aL) (j4:eD) (v2:AV) (v3:AV) (v5:AV) (v6:AV) (v19:Bool) (v20:AV) (v21:AV) (v120:AV) (v121:Int) (v122:Int) (h:Heap):aa:=ifB (ltF v122 v121) (eld 2 h v120 v122 2 true fun a b=>lG h (.cells [(.int .i64 0),(.int .u64 0)] true 0) fun c d=>jh d (.ptr c 0) 2 b fun e=>jK .u64 1 e (.ptr c 0) fun f g=>iK gI gN gL gM gJ gY gZ gH gG gR gC gD gE v20 [(.int .u64 g)] e fun i l=>Kf i fun m=>ifB m (rQ n gI gN gL gM gJ gY gZ gH gG gR gC gD gE k j4 v2 v3 v5 v6 v20 v21 v120 v121 v122 true l) (rQ n gI gN gL gM gJ gY gZ gH gG gR gC gD gE k j4 v2 v3 v5 v6 v20 v21 v120 v121 v122 v19 l)) (AK n gI gN gL gM gJ gY gZ gH gG gR gC gD gE k v2 v3 v5 v6 v19 v21 h)
def HH:Nat→Q1:=lpS (G3 n cf k0)
def rK (n:Nat) (gI:ai) (gN:aq) (gL:aj) (gM:aq) (gJ:af) (gY:aM) (gZ:aM) (gH:af) (gG:af) (gR:ak) (gC:aj) (gD:aj) (gE:Wr) (k:aL):Nat→eD:=lpF oG (vV n gI gN gL gM gJ gY gZ gH gG gR gC gD gE k)
theorem agL (k:aL) (m:Nat):rK n gI gN gL gM gJ gY gZ gH gG gR gC gD gE k (m+1)=vV n gI gN gL gM gJ gY gZ gH gG gR gC gD gE k (rK n gI gN gL gM gJ gY gZ gH gG gR gC gD gE k m):=rfl
theorem af9 (m:Nat):lo oG (HH n (iK gI gN gL gM gJ gY gZ gH gG gR gC gD gE) k0 m)=rK n gI gN gL gM gJ gY gZ gH gG gR gC gD gE (kap jt k0) m:=mG (fun J4=>(by obtain ⟨J3,u3⟩:=exi (A7 n (iK gI gN gL gM gJ gY gZ gH gG gR gC gD gE) k0); obtain ⟨J5,u5⟩:=exi (Bh (iK gI gN gL gM gJ gY gZ gH gG gR gC gD gE) J4); delta G3 vV; rw [← agM,u3, ← agG,u5]; kernel_rfl:lo oG (G3 n (iK gI gN gL gM gJ gY gZ gH gG gR gC gD gE) k0 J4)=vV n gI gN gL gM gJ gY gZ gH gG gR gC gD gE (kap jt k0) (lo oG J4))) m
def Ad:Q1:=(hG cf iO N5 (hG cf iO PZ (hG cf iO MU (kJ oG (HH n cf k0 n)))))
def rM (n:Nat) (gI:ai) (gN:aq) (gL:aj) (gM:aq) (gJ:af) (gY:aM) (gZ:aM) (gH:af) (gG:af) (gR:ak) (gC:aj) (gD:aj) (gE:Wr) (k:aL) (v2:AV) (v3:AV) (v5:AV) (v6:AV) (h:Heap):aa:=gH h fun a b=>gG b fun c d=>fld 1 d v3 1 false fun e f=>jA f fun g=>rK n gI gN gL gM gJ gY gZ gH gG gR gC gD gE k n v2 v3 v5 v6 false a c f g 0 d
theorem af6:lo HB (Ad n (iK gI gN gL gM gJ gY gZ gH gG gR gC gD gE) k0)=rM n gI gN gL gM gJ gY gZ gH gG gR gC gD gE (kap jt k0):=by obtain ⟨J4,u4⟩:=exi (HH n (iK gI gN gL gM gJ gY gZ gH gG gR gC gD gE) k0 n); delta Ad rM; rw [← af9,u4]; kernel_rfl
def Ar (J7:Q1):Q1:=(hG cf iO M8 (hG cf iO OD (hG cf iO Py (hG cf iO Oo (kJ kK J7)))))
def rO (n:Nat) (gI:ai) (gN:aq) (gL:aj) (gM:aq) (gJ:af) (gY:aM) (gZ:aM) (gH:af) (gG:af) (gR:ak) (gC:aj) (gD:aj) (gE:Wr) (k:aL) (j7:bL) (v2:AV) (v3:AV) (v5:AV) (v6:AV) (v7:AV) (v8:AV) (v9:Int) (v10:AV) (v11:Bool) (v44:AV) (v45:Int) (v46:Int) (h:Heap):aa:=iK gI gN gL gM gJ gY gZ gH gG gR gC gD gE v6 [(.bool v11),(.int .i64 280),(.int .i64 v9)] h fun a b=>jd b v2 17 true fun c=>jd b v10 5 true fun d=>gY c d v9 b fun e f=>iK gI gN gL gM gJ gY gZ gH gG gR gC gD gE v6 [(.bool (jJ e)),(.int .i64 281),(.int .i64 v9)] f fun g i=>jd i v2 17 true fun l=>jd i v10 5 true fun m=>gZ l m v9 i fun o p=>iK gI gN gL gM gJ gY gZ gH gG gR gC gD gE v6 [(.bool (jJ o)),(.int .i64 282),(.int .i64 v9)] p fun q r=>kY .i64 v46 1 fun s=>j7 v2 v3 v5 v6 v7 v8 v44 v45 s r
theorem agT (J7:Q1):lo nI (Ar (iK gI gN gL gM gJ gY gZ gH gG gR gC gD gE) J7)=rO n gI gN gL gM gJ gY gZ gH gG gR gC gD gE (kap jt k0) (lo kK J7):=by delta Ar rO; kernel_rfl
def yt (J9:Q1):Q1:=(hG cf iO Oc (hG cf iO P9 (kJ oI J9)))
def qR (n:Nat) (gI:ai) (gN:aq) (gL:aj) (gM:aq) (gJ:af) (gY:aM) (gZ:aM) (gH:af) (gG:af) (gR:ak) (gC:aj) (gD:aj) (gE:Wr) (k:aL) (j9:eC) (v2:AV) (v3:AV) (v5:AV) (v6:AV) (v7:AV) (v8:AV) (v9:Int) (v10:AV) (v16:AV) (v44:AV) (v45:Int) (v46:Int) (v82:AV) (v83:Int) (v84:Int) (v94:Bool) (h:Heap):aa:=kY .i64 v84 1 fun a=>j9 v2 v3 v5 v6 v7 v8 v9 v10 v94 v16 v44 v45 v46 v82 v83 a h
theorem ad7 (J9:Q1):lo DU (yt (iK gI gN gL gM gJ gY gZ gH gG gR gC gD gE) J9)=qR n gI gN gL gM gJ gY gZ gH gG gR gC gD gE (kap jt k0) (lo oI J9):=by delta yt qR; kernel_rfl
def HO (J7:Q1) (J9:Q1):Q1:=(hG cf iO NN (cJ p85 (hG cf iO OR (hG cf iO Pl (kJ DU (yt cf J9)))) (kJ nI (Ar cf J7))))
def vC (n:Nat) (gI:ai) (gN:aq) (gL:aj) (gM:aq) (gJ:af) (gY:aM) (gZ:aM) (gH:af) (gG:af) (gR:ak) (gC:aj) (gD:aj) (gE:Wr) (k:aL) (j7:bL) (j9:eC) (v2:AV) (v3:AV) (v5:AV) (v6:AV) (v7:AV) (v8:AV) (v9:Int) (v10:AV) (v11:Bool) (v16:AV) (v44:AV) (v45:Int) (v46:Int) (v82:AV) (v83:Int) (v84:Int) (h:Heap):aa:=ifB (ltF v84 v83) (eld 5 h v82 v84 5 true fun a b=>lG h (.cells [(.int .i64 0),(.int .i64 0),.nilslice,(.int .i64 0),.nilslice] true 0) fun c d=>jh d (.ptr c 0) 5 b fun e=>jK .i64 0 e (.ptr c 0) fun f g=>iK gI gN gL gM gJ gY gZ gH gG gR gC gD gE v16 [(.int .i64 g)] e fun i l=>Kf i fun m=>ifB m (qR n gI gN gL gM gJ gY gZ gH gG gR gC gD gE k j9 v2 v3 v5 v6 v7 v8 v9 v10 v16 v44 v45 v46 v82 v83 v84 true l) (qR n gI gN gL gM gJ gY gZ gH gG gR gC gD gE k j9 v2 v3 v5 v6 v7 v8 v9 v10 v16 v44 v45 v46 v82 v83 v84 v11 l)) (rO n gI gN gL gM gJ gY gZ gH gG gR gC gD gE k j7 v2 v3 v5 v6 v7 v8 v9 v10 v11 v44 v45 v46 h)
def Hh (J7:Q1):Nat→Q1:=lpS (HO cf J7)
def rG (n:Nat) (gI:ai) (gN:aq) (gL:aj) (gM:aq) (gJ:af) (gY:aM) (gZ:aM) (gH:af) (gG:af) (gR:ak) (gC:aj) (gD:aj) (gE:Wr) (k:aL) (j7:bL):Nat→eC:=lpF oI (vC n gI gN gL gM gJ gY gZ gH gG gR gC gD gE k j7)
theorem ahg (k:aL) (j7:bL) (m:Nat):rG n gI gN gL gM gJ gY gZ gH gG gR gC gD gE k j7 (m+1)=vC n gI gN gL gM gJ gY gZ gH gG gR gC gD gE k j7 (rG n gI gN gL gM gJ gY gZ gH gG gR gC gD gE k j7 m):=rfl
theorem agR (J7:Q1) (m:Nat):lo oI (Hh (iK gI gN gL gM gJ gY gZ gH gG gR gC gD gE) J7 m)=rG n gI gN gL gM gJ gY gZ gH gG gR gC gD gE (kap jt k0) (lo kK J7) m:=mG (fun J9=>(by obtain ⟨J8,u8⟩:=exi (Ar (iK gI gN gL gM gJ gY gZ gH gG gR gC gD gE) J7); obtain ⟨J10,u10⟩:=exi (yt (iK gI gN gL gM gJ gY gZ gH gG gR gC gD gE) J9); delta HO vC; rw [← agT,u8, ← ad7,u10]; kernel_rfl:lo oI (HO (iK gI gN gL gM gJ gY gZ gH gG gR gC gD gE) J7 J9)=vC n gI gN gL gM gJ gY gZ gH gG gR gC gD gE (kap jt k0) (lo kK J7) (lo oI J9))) m
def yU (J7:Q1):Q1:=(hG cf iO Np (hG cf iO Nr (kJ oI (Hh cf J7 n))))
def uc (n:Nat) (gI:ai) (gN:aq) (gL:aj) (gM:aq) (gJ:af) (gY:aM) (gZ:aM) (gH:af) (gG:af) (gR:ak) (gC:aj) (gD:aj) (gE:Wr) (k:aL) (j7:bL) (v2:AV) (v3:AV) (v5:AV) (v6:AV) (v7:AV) (v8:AV) (v9:Int) (v10:AV) (v11:Bool) (v44:AV) (v45:Int) (v46:Int) (h:Heap):aa:=gJ h fun a b=>fld 4 b v10 1 false fun c d=>jA d fun e=>rG n gI gN gL gM gJ gY gZ gH gG gR gC gD gE k j7 n v2 v3 v5 v6 v7 v8 v9 v10 v11 a v44 v45 v46 d e 0 b
theorem ac2 (J7:Q1):lo nI (yU n (iK gI gN gL gM gJ gY gZ gH gG gR gC gD gE) J7)=uc n gI gN gL gM gJ gY gZ gH gG gR gC gD gE (kap jt k0) (lo kK J7):=by obtain ⟨J9,u9⟩:=exi (Hh (iK gI gN gL gM gJ gY gZ gH gG gR gC gD gE) J7 n); delta yU uc; rw [← agR,u9]; kernel_rfl
def yh (J12:Q1):Q1:=(hG cf iO MM (hG cf iO NI (kJ nN J12)))
def rf (n:Nat) (gI:ai) (gN:aq) (gL:aj) (gM:aq) (gJ:af) (gY:aM) (gZ:aM) (gH:af) (gG:af) (gR:ak) (gC:aj) (gD:aj) (gE:Wr) (k:aL) (j12:cW) (v2:AV) (v3:AV) (v5:AV) (v6:AV) (v7:AV) (v8:AV) (v9:Int) (v10:AV) (v44:AV) (v45:Int) (v46:Int) (v67:AV) (v68:Int) (v69:Int) (v78:Bool) (h:Heap):aa:=kY .i64 v69 1 fun a=>j12 v2 v3 v5 v6 v7 v8 v9 v10 v78 v44 v45 v46 v67 v68 a h
theorem adc (J12:Q1):lo Fa (yh (iK gI gN gL gM gJ gY gZ gH gG gR gC gD gE) J12)=rf n gI gN gL gM gJ gY gZ gH gG gR gC gD gE (kap jt k0) (lo nN J12):=by delta yh rf; kernel_rfl
def Ea (J7:Q1) (J12:Q1):Q1:=(hG cf iO PI (cJ p70 (hG cf iO OX (hG cf iO Ot (kJ Fa (yh cf J12)))) (kJ nI (yU n cf J7))))
def tx (n:Nat) (gI:ai) (gN:aq) (gL:aj) (gM:aq) (gJ:af) (gY:aM) (gZ:aM) (gH:af) (gG:af) (gR:ak) (gC:aj) (gD:aj) (gE:Wr) (k:aL) (j7:bL) (j12:cW) (v2:AV) (v3:AV) (v5:AV) (v6:AV) (v7:AV) (v8:AV) (v9:Int) (v10:AV) (v11:Bool) (v44:AV) (v45:Int) (v46:Int) (v67:AV) (v68:Int) (v69:Int) (h:Heap):aa:=ifB (ltF v69 v68) (Ma .i64 1 h v67 v69 fun a b=>iK gI gN gL gM gJ gY gZ gH gG gR gC gD gE v8 [(.int .i64 b)] h fun c d=>Kf c fun e=>ifB e (rf n gI gN gL gM gJ gY gZ gH gG gR gC gD gE k j12 v2 v3 v5 v6 v7 v8 v9 v10 v44 v45 v46 v67 v68 v69 true d) (rf n gI gN gL gM gJ gY gZ gH gG gR gC gD gE k j12 v2 v3 v5 v6 v7 v8 v9 v10 v44 v45 v46 v67 v68 v69 v11 d)) (uc n gI gN gL gM gJ gY gZ gH gG gR gC gD gE k j7 v2 v3 v5 v6 v7 v8 v9 v10 v11 v44 v45 v46 h)
def D4 (J7:Q1):Nat→Q1:=lpS (Ea n cf J7)
def qU (n:Nat) (gI:ai) (gN:aq) (gL:aj) (gM:aq) (gJ:af) (gY:aM) (gZ:aM) (gH:af) (gG:af) (gR:ak) (gC:aj) (gD:aj) (gE:Wr) (k:aL) (j7:bL):Nat→cW:=lpF nN (tx n gI gN gL gM gJ gY gZ gH gG gR gC gD gE k j7)
theorem ad3 (k:aL) (j7:bL) (m:Nat):qU n gI gN gL gM gJ gY gZ gH gG gR gC gD gE k j7 (m+1)=tx n gI gN gL gM gJ gY gZ gH gG gR gC gD gE k j7 (qU n gI gN gL gM gJ gY gZ gH gG gR gC gD gE k j7 m):=rfl
theorem adr (J7:Q1) (m:Nat):lo nN (D4 n (iK gI gN gL gM gJ gY gZ gH gG gR gC gD gE) J7 m)=qU n gI gN gL gM gJ gY gZ gH gG gR gC gD gE (kap jt k0) (lo kK J7) m:=mG (fun J12=>(by obtain ⟨J11,u11⟩:=exi (yU n (iK gI gN gL gM gJ gY gZ gH gG gR gC gD gE) J7); obtain ⟨J13,u13⟩:=exi (yh (iK gI gN gL gM gJ gY gZ gH gG gR gC gD gE) J12); delta Ea tx; rw [← ac2,u11, ← adc,u13]; kernel_rfl:lo nN (Ea n (iK gI gN gL gM gJ gY gZ gH gG gR gC gD gE) J7 J12)=tx n gI gN gL gM gJ gY gZ gH gG gR gC gD gE (kap jt k0) (lo kK J7) (lo nN J12))) m
def yz (J7:Q1):Q1:=(hG cf iO O0 (kJ nN (D4 n cf J7 n)))
def sG (n:Nat) (gI:ai) (gN:aq) (gL:aj) (gM:aq) (gJ:af) (gY:aM) (gZ:aM) (gH:af) (gG:af) (gR:ak) (gC:aj) (gD:aj) (gE:Wr) (k:aL) (j7:bL) (v2:AV) (v3:AV) (v5:AV) (v6:AV) (v7:AV) (v8:AV) (v9:Int) (v10:AV) (v11:Bool) (v44:AV) (v45:Int) (v46:Int) (h:Heap):aa:=fld 3 h v10 1 false fun a b=>jA b fun c=>qU n gI gN gL gM gJ gY gZ gH gG gR gC gD gE k j7 n v2 v3 v5 v6 v7 v8 v9 v10 v11 v44 v45 v46 b c 0 h
theorem aes (J7:Q1):lo nI (yz n (iK gI gN gL gM gJ gY gZ gH gG gR gC gD gE) J7)=sG n gI gN gL gM gJ gY gZ gH gG gR gC gD gE (kap jt k0) (lo kK J7):=by obtain ⟨J12,u12⟩:=exi (D4 n (iK gI gN gL gM gJ gY gZ gH gG gR gC gD gE) J7 n); delta yz sG; rw [← adr,u12]; kernel_rfl
def yr (J15:Q1):Q1:=(hG cf iO OC (hG cf iO OB (kJ nL J15)))
def rb (n:Nat) (gI:ai) (gN:aq) (gL:aj) (gM:aq) (gJ:af) (gY:aM) (gZ:aM) (gH:af) (gG:af) (gR:ak) (gC:aj) (gD:aj) (gE:Wr) (k:aL) (j15:cW) (v2:AV) (v3:AV) (v5:AV) (v6:AV) (v7:AV) (v8:AV) (v9:Int) (v10:AV) (v44:AV) (v45:Int) (v46:Int) (v52:AV) (v53:Int) (v54:Int) (v64:Bool) (h:Heap):aa:=kY .i64 v54 1 fun a=>j15 v2 v3 v5 v6 v7 v8 v9 v10 v64 v44 v45 v46 v52 v53 a h
theorem adu (J15:Q1):lo DT (yr (iK gI gN gL gM gJ gY gZ gH gG gR gC gD gE) J15)=rb n gI gN gL gM gJ gY gZ gH gG gR gC gD gE (kap jt k0) (lo nL J15):=by delta yr rb; kernel_rfl
def EM (J7:Q1) (J15:Q1):Q1:=(hG cf iO MT (cJ p55 (hG cf iO MY (hG cf iO ML (kJ DT (yr cf J15)))) (kJ nI (yz n cf J7))))
def sF (n:Nat) (gI:ai) (gN:aq) (gL:aj) (gM:aq) (gJ:af) (gY:aM) (gZ:aM) (gH:af) (gG:af) (gR:ak) (gC:aj) (gD:aj) (gE:Wr) (k:aL) (j7:bL) (j15:cW) (v2:AV) (v3:AV) (v5:AV) (v6:AV) (v7:AV) (v8:AV) (v9:Int) (v10:AV) (v11:Bool) (v44:AV) (v45:Int) (v46:Int) (v52:AV) (v53:Int) (v54:Int) (h:Heap):aa:=ifB (ltF v54 v53) (eld 2 h v52 v54 2 true fun a b=>lG h (.cells [(.int .i64 0),(.int .u8 0)] true 0) fun c d=>jh d (.ptr c 0) 2 b fun e=>jK .i64 0 e (.ptr c 0) fun f g=>iK gI gN gL gM gJ gY gZ gH gG gR gC gD gE v7 [(.int .i64 g)] e fun i l=>Kf i fun m=>ifB m (rb n gI gN gL gM gJ gY gZ gH gG gR gC gD gE k j15 v2 v3 v5 v6 v7 v8 v9 v10 v44 v45 v46 v52 v53 v54 true l) (rb n gI gN gL gM gJ gY gZ gH gG gR gC gD gE k j15 v2 v3 v5 v6 v7 v8 v9 v10 v44 v45 v46 v52 v53 v54 v11 l)) (sG n gI gN gL gM gJ gY gZ gH gG gR gC gD gE k j7 v2 v3 v5 v6 v7 v8 v9 v10 v11 v44 v45 v46 h)
def EC (J7:Q1):Nat→Q1:=lpS (EM n cf J7)
def re (n:Nat) (gI:ai) (gN:aq) (gL:aj) (gM:aq) (gJ:af) (gY:aM) (gZ:aM) (gH:af) (gG:af) (gR:ak) (gC:aj) (gD:aj) (gE:Wr) (k:aL) (j7:bL):Nat→cW:=lpF nL (sF n gI gN gL gM gJ gY gZ gH gG gR gC gD gE k j7)
theorem adV (k:aL) (j7:bL) (m:Nat):re n gI gN gL gM gJ gY gZ gH gG gR gC gD gE k j7 (m+1)=sF n gI gN gL gM gJ gY gZ gH gG gR gC gD gE k j7 (re n gI gN gL gM gJ gY gZ gH gG gR gC gD gE k j7 m):=rfl
theorem ad6 (J7:Q1) (m:Nat):lo nL (EC n (iK gI gN gL gM gJ gY gZ gH gG gR gC gD gE) J7 m)=re n gI gN gL gM gJ gY gZ gH gG gR gC gD gE (kap jt k0) (lo kK J7) m:=mG (fun J15=>(by obtain ⟨J14,u14⟩:=exi (yz n (iK gI gN gL gM gJ gY gZ gH gG gR gC gD gE) J7); obtain ⟨J16,u16⟩:=exi (yr (iK gI gN gL gM gJ gY gZ gH gG gR gC gD gE) J15); delta EM sF; rw [← aes,u14, ← adu,u16]; kernel_rfl:lo nL (EM n (iK gI gN gL gM gJ gY gZ gH gG gR gC gD gE) J7 J15)=sF n gI gN gL gM gJ gY gZ gH gG gR gC gD gE (kap jt k0) (lo kK J7) (lo nL J15))) m
def G6 (J7:Q1):Q1:=(hG cf iO NF (cJ p47 (hG cf iO O8 (hG cf iO OV (hG cf iO NO (kJ nL (EC n cf J7 n))))) (kJ HB (Ad n cf k0))))
def vN (n:Nat) (gI:ai) (gN:aq) (gL:aj) (gM:aq) (gJ:af) (gY:aM) (gZ:aM) (gH:af) (gG:af) (gR:ak) (gC:aj) (gD:aj) (gE:Wr) (k:aL) (j7:bL) (v2:AV) (v3:AV) (v5:AV) (v6:AV) (v7:AV) (v8:AV) (v44:AV) (v45:Int) (v46:Int) (h:Heap):aa:=ifB (ltF v46 v45) (eld 5 h v44 v46 5 true fun a b=>lG h (.cells [.nilslice,.nilslice,(.bool false),.nilslice,.nilslice] true 0) fun c d=>jh d (.ptr c 0) 5 b fun e=>fld 0 e (.ptr c 0) 1 false fun f g=>jA g fun i=>re n gI gN gL gM gJ gY gZ gH gG gR gC gD gE k j7 n v2 v3 v5 v6 v7 v8 v46 (.ptr c 0) false v44 v45 v46 g i 0 e) (rM n gI gN gL gM gJ gY gZ gH gG gR gC gD gE k v2 v3 v5 v6 h)
def GG:Nat→Q1:=lpS (G6 n cf k0)
def nB (n:Nat) (gI:ai) (gN:aq) (gL:aj) (gM:aq) (gJ:af) (gY:aM) (gZ:aM) (gH:af) (gG:af) (gR:ak) (gC:aj) (gD:aj) (gE:Wr) (k:aL):Nat→bL:=lpF kK (vN n gI gN gL gM gJ gY gZ gH gG gR gC gD gE k)
theorem agE (k:aL) (m:Nat):nB n gI gN gL gM gJ gY gZ gH gG gR gC gD gE k (m+1)=vN n gI gN gL gM gJ gY gZ gH gG gR gC gD gE k (nB n gI gN gL gM gJ gY gZ gH gG gR gC gD gE k m):=rfl
theorem agQ (m:Nat):lo kK (GG n (iK gI gN gL gM gJ gY gZ gH gG gR gC gD gE) k0 m)=nB n gI gN gL gM gJ gY gZ gH gG gR gC gD gE (kap jt k0) m:=mG (fun J7=>(by obtain ⟨J6,u6⟩:=exi (Ad n (iK gI gN gL gM gJ gY gZ gH gG gR gC gD gE) k0); obtain ⟨J15,u15⟩:=exi (EC n (iK gI gN gL gM gJ gY gZ gH gG gR gC gD gE) J7 n); delta G6 vN; rw [← af6,u6, ← ad6,u15]; kernel_rfl:lo kK (G6 n (iK gI gN gL gM gJ gY gZ gH gG gR gC gD gE) k0 J7)=vN n gI gN gL gM gJ gY gZ gH gG gR gC gD gE (kap jt k0) (lo kK J7))) m
def Zt:Q1:=(hG cf iO P0 (hG cf iO NX (cJ p28 (hG cf iO Og (jk jt k0)) (hG cf iO NW (cJ p37 (hG cf iO Oe (jk jt k0)) (hG cf iO MZ (hG cf iO OU (hG cf iO NK (hG cf iO NU (kJ kK (GG n cf k0 n)))))))))))
def FR (n:Nat) (gI:ai) (gN:aq) (gL:aj) (gM:aq) (gJ:af) (gY:aM) (gZ:aM) (gH:af) (gG:af) (gR:ak) (gC:aj) (gD:aj) (gE:Wr) (k:aL) (a0:AV) (a1:AV) (h:Heap):aa:=pZ h a0 fun a b=>pZ b a1 fun c d=>jd d (.ptr a 0) 17 true fun e=>gI e d fun f g=>ifB (jJ f) (lh [(.int .i64 0),(.int .i64 0)] [(0,1,(.int .i64 5))] fun i=>mI g 1 [(.int .i64 0),(.int .i64 0)] [(0,2,i)] fun l m=>k l m) (fld 0 g (.ptr c 0) 1 false fun o p=>jA p fun q=>fld 16 g (.ptr a 0) 1 false fun r s=>jA s fun t=>ifB (jJ (eqF q t)) (lh [(.int .i64 0),(.int .i64 0)] [(0,1,(.int .i64 2))] fun u=>mI g 1 [(.int .i64 0),(.int .i64 0)] [(0,2,u)] fun w x=>k w x) (lG g (.cells [.nilslice] true 0) fun y z=>gJ z fun A B=>gJ B fun C E=>fld 0 E (.ptr c 0) 1 false fun F G=>jA G fun I=>nB n gI gN gL gM gJ gY gZ gH gG gR gC gD gE k n (.ptr a 0) (.ptr c 0) (.ptr y 0) (.func 17 [] [(.ptr y 0)]) A C G I 0 E))
def MA (n:Nat) (gI:ai) (gN:aq) (gL:aj) (gM:aq) (gJ:af) (gY:aM) (gZ:aM) (gH:af) (gG:af) (gR:ak) (gC:aj) (gD:aj) (gE:Wr) (a0:AV) (a1:AV) (h:Heap) (k:aL):aa:=FR n gI gN gL gM gJ gY gZ gH gG gR gC gD gE k a0 a1 h
theorem akZ:DZ cf iO n YK jt k0=Zt n cf k0:=by funext s; kernel_rfl
theorem ak4:lo iQ (DZ (iK gI gN gL gM gJ gY gZ gH gG gR gC gD gE) iO n YK jt k0)=cmp iQ (MA n gI gN gL gM gJ gY gZ gH gG gR gC gD gE) (kap jt k0):=(congrArg (lo iQ) (akZ n (iK gI gN gL gM gJ gY gZ gH gG gR gC gD gE) k0)).trans (show _=FR n gI gN gL gM gJ gY gZ gH gG gR gC gD gE (kap jt k0) by obtain ⟨J7,u7⟩:=exi (GG n (iK gI gN gL gM gJ gY gZ gH gG gR gC gD gE) k0 n); delta Zt FR; rw [← agQ,u7]; kernel_rfl)
end
def bT (n:Nat):bi:=MA n (bb n) (aY n) (aO n) (aQ n) (aK n) (bl n) (bj n) (aG n) (aE n) (be n) (au n) (ar n) (lq aw)
abbrev tW (g:af):Wr:=wrT iJ mz g
def zt:bg:=lp []
section
variable (k0:Q0)
def BU:Q1:=(hG cf ja zk (hG cf ja zj (hG cf ja zl (hG cf ja zp (jk mz k0)))))
def sX (n:Nat) (k:aL) (h:Heap):aa:=lG h (.cells [.nilslice,.nilslice,.nilslice] true 0) fun a b=>lh [(.int .i64 0),(.int .u8 0)] [(0,1,(.int .i64 0)),(1,1,(.int .u8 1))] fun c=>lh [(.int .i64 0),(.int .u8 0)] [(0,1,(.int .i64 4)),(1,1,(.int .u8 1))] fun d=>mI b 2 [(.int .i64 0),(.int .u8 0),(.int .i64 0),(.int .u8 0)] [(0,2,c),(2,2,d)] fun e f=>mI f 2 [(.int .i64 0),(.int .i64 0)] [(0,1,(.int .i64 14)),(1,1,(.int .i64 16))] fun g i=>lh [.nilslice,.nilslice,(.bool false),.nilslice,.nilslice] [(0,1,e),(1,1,g),(2,1,(.bool true))] fun l=>lG i (.cells [.nilslice,.nilslice,(.bool false),.nilslice,.nilslice] true 0) fun m o=>jh o (.ptr m 0) 5 l fun p=>lh [(.int .i64 0),(.int .u8 0)] [(0,1,(.int .i64 2)),(1,1,(.int .u8 1))] fun q=>mI p 1 [(.int .i64 0),(.int .u8 0)] [(0,2,q)] fun r s=>mI s 1 [(.int .i64 0)] [(0,1,(.int .i64 15))] fun t u=>lh [.nilslice,.nilslice,(.bool false),.nilslice,.nilslice] [(0,1,r),(1,1,t),(2,1,(.bool true))] fun w=>lG u (.cells [.nilslice,.nilslice,(.bool false),.nilslice,.nilslice] true 0) fun x y=>jh y (.ptr x 0) 5 w fun z=>jd z (.ptr m 0) 5 true fun A=>jd z (.ptr x 0) 5 true fun B=>mI z 2 [.nilslice,.nilslice,(.bool false),.nilslice,.nilslice,.nilslice,.nilslice,(.bool false),.nilslice,.nilslice] [(0,5,A),(5,5,B)] fun C E=>lh [.nilslice,.nilslice,.nilslice] [(0,1,C)] fun F=>jh E (.ptr a 0) 3 F fun G=>jd G (.ptr a 0) 3 true fun I=>k I G
def Bt (n:Nat) (h:Heap) (k:aL):aa:=sX n k h
theorem Nl:DZ cf ja n BT mz k0=BU cf k0:=by funext s; kernel_rfl
theorem Pj:lo iJ (DZ zt ja n BT mz k0)=cmp iJ (Bt n) (kap mz k0):=(congrArg (lo iJ) (Nl n zt k0)).trans (show _=sX n (kap mz k0) by delta BU sX; kernel_rfl)
end
def dm (n:Nat):af:=Bt n
abbrev wz (g:af):Wr:=wrT iJ np g
def CG:bg:=lp []
section
variable (k0:Q0)
def DQ:Q1:=(hG cf ja BP (hG cf ja Bx (hG cf ja BB (hG cf ja BC (jk np k0)))))
def ww (n:Nat) (k:aL) (h:Heap):aa:=lG h (.cells [(.int .i64 0),(.int .i64 0),(.int .i64 0),(.int .i64 0),(.int .i64 0),(.int .i64 0),(.int .u64 0),(.int .u64 0),(.int .u64 0),(.int .u64 0),(.int .u64 0),(.int .u64 0),(.int .u64 0),(.int .u64 0),(.int .u64 0),.nilslice,.nilslice] true 0) fun a b=>mI b 2 [(.int .i64 0),(.int .i64 0)] [(0,1,(.int .i64 0)),(1,1,(.int .i64 1))] fun c d=>lh [.nilslice,(.int .i64 0),(.int .i64 0),(.int .i64 0),(.int .i64 0),(.int .i64 0),(.int .i64 0),(.int .i64 0)] [(0,1,c),(1,1,(.int .i64 1)),(2,1,(.int .i64 4)),(3,1,(.int .i64 8)),(4,1,(.int .i64 1)),(5,1,(.int .i64 1)),(6,1,(.int .i64 1)),(7,1,(.int .i64 3))] fun e=>lG d (.cells [.nilslice,(.int .i64 0),(.int .i64 0),(.int .i64 0),(.int .i64 0),(.int .i64 0),(.int .i64 0),(.int .i64 0)] true 0) fun f g=>jh g (.ptr f 0) 8 e fun i=>mI i 1 [(.int .i64 0)] [(0,1,(.int .i64 2))] fun l m=>lh [.nilslice,(.int .i64 0),(.int .i64 0),(.int .i64 0),(.int .i64 0),(.int .i64 0),(.int .i64 0),(.int .i64 0)] [(0,1,l),(2,1,(.int .i64 2)),(3,1,(.int .i64 6)),(4,1,(.int .i64 1)),(5,1,(.int .i64 1)),(6,1,(.int .i64 1)),(7,1,(.int .i64 3))] fun o=>lG m (.cells [.nilslice,(.int .i64 0),(.int .i64 0),(.int .i64 0),(.int .i64 0),(.int .i64 0),(.int .i64 0),(.int .i64 0)] true 0) fun p q=>jh q (.ptr p 0) 8 o fun r=>
 lh [(.int .u64 0),(.int .u64 0),(.int .u64 0),(.int .u64 0),(.int .u64 0),(.int .u64 0)] [(0,1,(.int .u64 1)),(1,1,(.int .u64 4)),(2,1,(.int .u64 10)),(3,1,(.int .u64 5)),(4,1,(.int .u64 1)),(5,1,(.int .u64 20))] fun s=>mI r 2 [(.int .i64 0),(.int .i64 0)] [(0,1,(.int .i64 0)),(1,1,(.int .i64 1))] fun t u=>jd u (.ptr f 0) 8 true fun w=>jd u (.ptr p 0) 8 true fun x=>mI u 2 [.nilslice,(.int .i64 0),(.int .i64 0),(.int .i64 0),(.int .i64 0),(.int .i64 0),(.int .i64 0),(.int .i64 0),.nilslice,(.int .i64 0),(.int .i64 0),(.int .i64 0),(.int .i64 0),(.int .i64 0),(.int .i64 0),(.int .i64 0)] [(0,8,w),(8,8,x)] fun y z=>lh [(.int .i64 0),(.int .i64 0),(.int .i64 0),(.int .i64 0),(.int .i64 0),(.int .i64 0),(.int .u64 0),(.int .u64 0),(.int .u64 0),(.int .u64 0),(.int .u64 0),(.int .u64 0),(.int .u64 0),(.int .u64 0),(.int .u64 0),.nilslice,.nilslice] [(0,1,(.int .i64 64)),(1,1,(.int .i64 4)),(2,1,(.int .i64 2)),(3,1,(.int .i64 4)),(4,1,(.int .i64 2)),(5,1,(.int .i64 4)),(6,6,s),(12,1,(.int .u64 4000)),(13,1,(.int .u64 20)),(15,1,t),(16,1,y)] fun A=>jh z (.ptr a 0) 17 A fun B=>jd B (.ptr a 0) 17 true fun C=>k C B
def DM (n:Nat) (h:Heap) (k:aL):aa:=ww n k h
theorem T0:DZ cf ja n DI np k0=DQ cf k0:=by funext s; kernel_rfl
theorem T8:lo iJ (DZ CG ja n DI np k0)=cmp iJ (DM n) (kap np k0):=(congrArg (lo iJ) (T0 n CG k0)).trans (show _=ww n (kap np k0) by delta DQ ww; kernel_rfl)
end
def dz (n:Nat):af:=DM n
abbrev wx (g:ak):Wr:=wrT iQ hT g
def mf:bg:=lp []
abbrev cq:Type:=AV→AV→Int→Heap→aa
section
variable (k0:Q0)
def qk:Q1:=(hG cf kz oJ (jk hT k0))
def sO (n:Nat) (k:ab) (h:Heap):aa:=k true h
theorem Om:lo iJ (qk mf k0)=sO n (kap hT k0):=by delta qk sO; kernel_rfl
def tc (J1:Q1):Q1:=(hG cf kz BR (cJ p14 (hG cf kz BA (cJ p25 (hG cf kz i7 (jk hT k0)) (hG cf kz BV (kJ lW J1)))) (kJ iJ (qk cf k0))))
def tB (n:Nat) (k:ab) (j1:cq) (v0:AV) (v1:AV) (v5:Int) (h:Heap):aa:=jA v0 fun a=>ifB (ltF v5 a) (eld 2 h v0 v5 2 true fun b c=>eld 2 h v1 v5 2 true fun d e=>eqRK (.plain [.int,.int]) c e fun f=>ifB (xorB true f) (k false h) (kY .i64 v5 1 fun g=>j1 v0 v1 g h)) (sO n k h)
def sU:Nat→Q1:=lpS (tc cf k0)
def BK (n:Nat) (k:ab):Nat→cq:=lpF lW (tB n k)
theorem Nh (m:Nat):lo lW (sU mf k0 m)=BK n (kap hT k0) m:=mG (fun J1=>(by obtain ⟨J0,u0⟩:=exi (qk mf k0); delta tc tB; rw [← Om,u0]; kernel_rfl:lo lW (tc mf k0 J1)=tB n (kap hT k0) (lo lW J1))) m
def DH:Q1:=(hG cf kz i7 (hG cf kz Bu (cJ p10 (hG cf kz i7 (jk hT k0)) (hG cf kz we (kJ lW (sU cf k0 n))))))
def wv (n:Nat) (k:ab) (a0:AV) (a1:AV) (h:Heap):aa:=jA a0 fun a=>jA a1 fun b=>ifB (jJ (eqF a b)) (k false h) (BK n k n a0 a1 0 h)
def DP (n:Nat) (a0:AV) (a1:AV) (h:Heap) (k:ab):aa:=wv n k a0 a1 h
theorem TZ:DZ cf kz n DK hT k0=DH n cf k0:=by funext s; kernel_rfl
theorem T3:lo iQ (DZ mf kz n DK hT k0)=cmp iQ (DP n) (kap hT k0):=(congrArg (lo iQ) (TZ n mf k0)).trans (show _=wv n (kap hT k0) by obtain ⟨J1,u1⟩:=exi (sU mf k0 n); delta DH wv; rw [← Nh,u1]; kernel_rfl)
end
def dx (n:Nat):ak:=DP n
abbrev abW (g:aX):Wr:=wrT gW jx g
def Yi (jy:ae) (iA:ae):bg:=lp [(H6,H7 jy),(QL,QY iA)]
section
variable (jy:ae) (iA:ae) (k0:Q0)
def aau:Q1:=(hG cf uO ws (hG cf uO wc (hG cf uO wq (cJ p11 (hG cf uO Fi (jk jx k0)) (hG cf uO Uf (jk jx k0))))))
def H8 (n:Nat) (jy:ae) (iA:ae) (k:aU) (a0:AV) (a1:Int) (h:Heap):aa:=pZ h a0 fun a b=>jd b (.ptr a 0) 17 true fun c=>jy c a1 b fun d e=>ifB (jJ (eqF d 0)) (k 0 d e) (jd e (.ptr a 0) 17 true fun f=>iA f a1 e fun g i=>k g 0 i)
def QM (n:Nat) (jy:ae) (iA:ae) (a0:AV) (a1:Int) (h:Heap) (k:aU):aa:=H8 n jy iA k a0 a1 h
theorem anN:DZ cf uO n abC jx k0=aau cf k0:=by funext s; kernel_rfl
theorem anJ:lo gW (DZ (Yi jy iA) uO n abC jx k0)=cmp gW (QM n jy iA) (kap jx k0):=(congrArg (lo gW) (anN n (Yi jy iA) k0)).trans (show _=H8 n jy iA (kap jx k0) by delta aau H8; kernel_rfl)
end
def cx (n:Nat):aX:=QM n (cT n) (db n)
abbrev cC:=AV→AV→Int→Heap→(Int→Heap→aa)→aa
abbrev Yv (g:cC):Wr:=wrT lN n0 g
def DA (gI:ai):bg:=lp [(Bj,Bk gI)]
section
variable (gI:ai) (k0:Q0)
def AJ:Q1:=(hG cf nv Q8 (cJ p19 (hG cf nv RR (jk n0 k0)) (hG cf nv AY (jk n0 k0))))
def vZ (n:Nat) (gI:ai) (k:am) (v28:Bool) (h:Heap):aa:=ifB v28 (k 270 h) (k 0 h)
theorem age:lo GY (AJ (DA gI) k0)=vZ n gI (kap n0 k0):=by delta AJ vZ; kernel_rfl
def Yy:Q1:=(hG cf nv SY (hG cf nv Ss (cJ p7 (hG cf nv Sj (jk n0 k0)) (hG cf nv Sc (cJ p11 (hG cf nv Ri (jk n0 k0)) (hG cf nv RF (kJ GY (AJ cf k0))))))))
def FV (n:Nat) (gI:ai) (k:am) (a0:AV) (a1:AV) (a2:Int) (h:Heap):aa:=pZ h a0 fun a b=>pZ b a1 fun c d=>jd d (.ptr a 0) 17 true fun e=>gI e d fun f g=>ifB (jJ f) (k 5 g) (fld 0 g (.ptr c 0) 1 false fun i l=>jA l fun m=>fld 16 g (.ptr a 0) 1 false fun o p=>jA p fun q=>ifB (jJ (eqF m q)) (k 2 g) (ifB (ltF a2 0) (vZ n gI k true g) (fld 16 g (.ptr a 0) 1 false fun r s=>jA s fun t=>vZ n gI k (jJ (ltF a2 t)) g)))
def L3 (n:Nat) (gI:ai) (a0:AV) (a1:AV) (a2:Int) (h:Heap) (k:am):aa:=FV n gI k a0 a1 a2 h
theorem akm:DZ cf nv n Ym n0 k0=Yy cf k0:=by funext s; kernel_rfl
theorem akl:lo lN (DZ (DA gI) nv n Ym n0 k0)=cmp lN (L3 n gI) (kap n0 k0):=(congrArg (lo lN) (akm n (DA gI) k0)).trans (show _=FV n gI (kap n0 k0) by obtain ⟨J0,u0⟩:=exi (AJ (DA gI) k0); delta Yy FV; rw [← age,u0]; kernel_rfl)
end
def dv (n:Nat):cC:=L3 n (bb n)
abbrev bv:=AV→AV→Int→Heap→(AV→Int→Heap→aa)→aa
abbrev Xs (g:bv):Wr:=wrT lN ml g
def mj (jc:cC) (gQ:bf):bg:=lp [(Zr,Yv jc),(JG,Kd gQ)]
section
variable (jc:cC) (gQ:bf) (k0:Q0)
def yF:Q1:=(hG cf lz M9 (jk ml k0))
def yo (n:Nat) (jc:cC) (gQ:bf) (k:bH) (v6:AV) (v9:AV) (h:Heap):aa:=jd h v9 7 true fun a=>jh h v6 7 a fun b=>jd b v6 7 true fun c=>k c 0 b
theorem aef:lo EO (yF (mj jc gQ) k0)=yo n jc gQ (kap ml k0):=by delta yF yo; kernel_rfl
def tI (J1:Q1):Q1:=(hG cf lz N3 (kJ kW J1))
def s0 (n:Nat) (jc:cC) (gQ:bf) (k:bH) (j1:bE) (v6:AV) (v9:AV) (v36:AV) (v37:Int) (v38:Int) (h:Heap):aa:=kY .i64 v38 1 fun a=>j1 v6 v9 v36 v37 a h
theorem adF (J1:Q1):lo kW (tI (mj jc gQ) J1)=s0 n jc gQ (kap ml k0) (lo kW J1):=by delta tI s0; kernel_rfl
def x7 (J1:Q1):Q1:=(cJ p47 (hG cf lz NR (kJ kW (tI cf J1))) (kJ kW (tI cf J1)))
def tT (n:Nat) (jc:cC) (gQ:bf) (k:bH) (j1:bE) (v6:AV) (v9:AV) (v12:Int) (v36:AV) (v37:Int) (v38:Int) (v47:Bool) (h:Heap):aa:=ifB v47 (DD 1 7 v9 0 fun a=>ldI .i64 h a fun b=>kY .i64 b v12 fun c=>DD 1 7 v9 0 fun d=>jh h d 1 (.int .i64 c) fun e=>s0 n jc gQ k j1 v6 v9 v36 v37 v38 e) (s0 n jc gQ k j1 v6 v9 v36 v37 v38 h)
theorem ad5 (J1:Q1):lo E5 (x7 (mj jc gQ) J1)=tT n jc gQ (kap ml k0) (lo kW J1):=by obtain ⟨J2,u2⟩:=exi (tI (mj jc gQ) J1); delta x7 tT; rw [← adF,u2]; kernel_rfl
def Ez (J1:Q1):Q1:=(hG cf lz Oj (cJ p39 (hG cf lz MS (hG cf lz NH (kJ E5 (x7 cf J1)))) (kJ EO (yF cf k0))))
def tP (n:Nat) (jc:cC) (gQ:bf) (k:bH) (j1:bE) (v6:AV) (v9:AV) (v36:AV) (v37:Int) (v38:Int) (h:Heap):aa:=ifB (ltF v38 v37) (Ma .i64 1 h v36 v38 fun a b=>ifB (jJ (ltF b 0)) (tT n jc gQ k j1 v6 v9 b v36 v37 v38 (jJ (ltF 4096 b)) h) (tT n jc gQ k j1 v6 v9 b v36 v37 v38 false h)) (yo n jc gQ k v6 v9 h)
def EV:Nat→Q1:=lpS (Ez cf k0)
def sR (n:Nat) (jc:cC) (gQ:bf) (k:bH):Nat→bE:=lpF kW (tP n jc gQ k)
theorem adB (k:bH) (m:Nat):sR n jc gQ k (m+1)=tP n jc gQ k (sR n jc gQ k m):=rfl
theorem ady (m:Nat):lo kW (EV (mj jc gQ) k0 m)=sR n jc gQ (kap ml k0) m:=mG (fun J1=>(by obtain ⟨J0,u0⟩:=exi (yF (mj jc gQ) k0); obtain ⟨J3,u3⟩:=exi (x7 (mj jc gQ) J1); delta Ez tP; rw [← aef,u0, ← ad5,u3]; kernel_rfl:lo kW (Ez (mj jc gQ) k0 J1)=tP n jc gQ (kap ml k0) (lo kW J1))) m
def VK:Q1:=(hG cf lz LR (hG cf lz LL (hG cf lz PL (cJ p18 (hG cf lz Oa (jk ml k0)) (hG cf lz Pi (hG cf lz P3 (kJ kW (EV cf k0 n))))))))
def Ch (n:Nat) (jc:cC) (gQ:bf) (k:bH) (a0:AV) (a1:AV) (a2:Int) (h:Heap):aa:=pZ h a0 fun a b=>pZ b a1 fun c d=>lG d (.cells [(.int .i64 0),(.int .i64 0),(.int .i64 0),(.int .i64 0),(.int .i64 0),(.int .i64 0),(.int .i64 0)] true 0) fun e f=>jd f (.ptr a 0) 17 true fun g=>jd f (.ptr c 0) 3 true fun i=>jc g i a2 f fun l m=>ifB (jJ (eqF l 0)) (lh [(.int .i64 0),(.int .i64 0),(.int .i64 0),(.int .i64 0),(.int .i64 0),(.int .i64 0),(.int .i64 0)] [] fun o=>jh m (.ptr e 0) 7 o fun p=>jd p (.ptr e 0) 7 true fun q=>k q l p) (fld 0 m (.ptr c 0) 1 false fun r s=>Bm 5 s a2 fun t=>fld 0 m t 1 false fun u w=>gQ w m fun x y z=>lG z (.cells [(.int .i64 0),(.int .i64 0),(.int .i64 0),(.int .i64 0),(.int .i64 0),(.int .i64 0),(.int .i64 0)] true 0) fun A B=>jh B (.ptr A 0) 7 x fun C=>fld 0 C (.ptr c 0) 1 false fun E F=>Bm 5 F a2 fun G=>fld 1 C G 1 false fun I K=>jA K fun L=>sR n jc gQ k n (.ptr e 0) (.ptr A 0) K L 0 C)
def Jd (n:Nat) (jc:cC) (gQ:bf) (a0:AV) (a1:AV) (a2:Int) (h:Heap) (k:bH):aa:=Ch n jc gQ k a0 a1 a2 h
theorem ajq:DZ cf lz n UE ml k0=VK n cf k0:=by funext s; kernel_rfl
theorem ah9:lo lN (DZ (mj jc gQ) lz n UE ml k0)=cmp lN (Jd n jc gQ) (kap ml k0):=(congrArg (lo lN) (ajq n (mj jc gQ) k0)).trans (show _=Ch n jc gQ (kap ml k0) by obtain ⟨J1,u1⟩:=exi (EV (mj jc gQ) k0 n); delta VK Ch; rw [← ady,u1]; kernel_rfl)
end
def bX (n:Nat):bv:=Jd n (dv n) (bB n)
abbrev wF (g:ak):Wr:=wrT iQ hT g
def ip (gI:ai) (ic:aX) (gK:Wr) (gF:aI) (ib:bi) (gX:bv):bg:=lp [(Bj,Bk gI),(aa3,abW ic),(uS,gK),(wi,wm gF),(Ft,Fy ib),(U9,Xs gX)]
abbrev dn:Type:=AV→AV→AV→Int→AV→Int→Int→Int→Int→Int→Heap→aa
abbrev bh:Type:=AV→AV→AV→Int→Heap→aa
section
variable (gI:ai) (ic:aX) (gK:Wr) (gF:aI) (ib:bi) (gX:bv) (k0:Q0)
def nl:Q1:=(hG cf io uy (jk hT k0))
def nc (n:Nat) (gI:ai) (ic:aX) (gK:Wr) (gF:aI) (ib:bi) (gX:bv) (k:ab) (v2:AV) (h:Heap):aa:=jd h v2 17 true fun a=>gI a h fun b c=>k b c
theorem Gl:lo pP (nl (ip gI ic gK gF ib gX) k0)=nc n gI ic gK gF ib gX (kap hT k0):=by delta nl nc; kernel_rfl
def nd (J1:Q1):Q1:=(hG cf io uu (kJ i8 J1))
def nf (n:Nat) (gI:ai) (ic:aX) (gK:Wr) (gF:aI) (ib:bi) (gX:bv) (k:ab) (j1:bh) (v2:AV) (v3:AV) (v7:AV) (v8:Int) (h:Heap):aa:=kY .i64 v8 1 fun a=>j1 v2 v3 v7 a h
theorem Gs (J1:Q1):lo i8 (nd (ip gI ic gK gF ib gX) J1)=nf n gI ic gK gF ib gX (kap hT k0) (lo i8 J1):=by delta nd nf; kernel_rfl
def nh (J3:Q1):Q1:=(cJ p191 (hG cf io i7 (jk hT k0)) (hG cf io uC (hG cf io uD (kJ jP J3))))
def mc (n:Nat) (gI:ai) (ic:aX) (gK:Wr) (gF:aI) (ib:bi) (gX:bv) (k:ab) (j3:bE) (v2:AV) (v3:AV) (v7:AV) (v8:Int) (v15:Int) (v16:Int) (v191:Bool) (h:Heap):aa:=ifB v191 (k false h) (est 1 h v7 v16 1 (.int .i64 1) fun a b=>kY .i64 v15 1 fun c=>j3 v2 v3 v7 v8 c b)
theorem GA (J3:Q1):lo pS (nh (ip gI ic gK gF ib gX) k0 J3)=mc n gI ic gK gF ib gX (kap hT k0) (lo jP J3):=by delta nh mc; kernel_rfl
def ni (J3:Q1):Q1:=(hG cf io ux (kJ pS (nh cf k0 J3)))
def l5 (n:Nat) (gI:ai) (ic:aX) (gK:Wr) (gF:aI) (ib:bi) (gX:bv) (k:ab) (j3:bE) (v2:AV) (v3:AV) (v7:AV) (v8:Int) (v15:Int) (v16:Int) (v184:Bool) (h:Heap):aa:=ifB v184 (mc n gI ic gK gF ib gX k j3 v2 v3 v7 v8 v15 v16 true h) (Ma .i64 1 h v7 v16 fun a b=>mc n gI ic gK gF ib gX k j3 v2 v3 v7 v8 v15 v16 (jJ (eqF b 0)) h)
theorem Gp (J3:Q1):lo pO (ni (ip gI ic gK gF ib gX) k0 J3)=l5 n gI ic gK gF ib gX (kap hT k0) (lo jP J3):=by obtain ⟨J6,u6⟩:=exi (nh (ip gI ic gK gF ib gX) k0 J3); delta ni l5; rw [← GA,u6]; kernel_rfl
def nj (J3:Q1):Q1:=(hG cf io uF (kJ pO (ni cf k0 J3)))
def l8 (n:Nat) (gI:ai) (ic:aX) (gK:Wr) (gF:aI) (ib:bi) (gX:bv) (k:ab) (j3:bE) (v2:AV) (v3:AV) (v7:AV) (v8:Int) (v15:Int) (v16:Int) (v17:Int) (v179:Bool) (h:Heap):aa:=ifB v179 (l5 n gI ic gK gF ib gX k j3 v2 v3 v7 v8 v15 v16 true h) (l5 n gI ic gK gF ib gX k j3 v2 v3 v7 v8 v15 v16 (jJ (eqF v17 v8)) h)
theorem F8 (J3:Q1):lo pM (nj (ip gI ic gK gF ib gX) k0 J3)=l8 n gI ic gK gF ib gX (kap hT k0) (lo jP J3):=by obtain ⟨J5,u5⟩:=exi (ni (ip gI ic gK gF ib gX) k0 J3); delta nj l8; rw [← Gp,u5]; kernel_rfl
def pH (J1:Q1) (J3:Q1):Q1:=(hG cf io sK (cJ p154 (hG cf io ut (hG cf io uz (hG cf io uv (kJ pM (nj cf k0 J3))))) (kJ i8 (nd cf J1))))
def l7 (n:Nat) (gI:ai) (ic:aX) (gK:Wr) (gF:aI) (ib:bi) (gX:bv) (k:ab) (j1:bh) (j3:bE) (v2:AV) (v3:AV) (v7:AV) (v8:Int) (v15:Int) (h:Heap):aa:=fld 0 h v3 1 false fun a b=>Bm 5 b v8 fun c=>fld 0 h c 1 false fun d e=>jA e fun f=>ifB (ltF v15 f) (fld 0 h v3 1 false fun g i=>Bm 5 i v8 fun l=>fld 0 h l 1 false fun m o=>Bm 2 o v15 fun p=>jK .i64 0 h p fun q r=>jd h v2 17 true fun s=>gF s r h fun t u w x=>ifB (jJ (eqF w 0)) (l8 n gI ic gK gF ib gX k j3 v2 v3 v7 v8 v15 r t true x) (l8 n gI ic gK gF ib gX k j3 v2 v3 v7 v8 v15 r t (jJ u) x)) (nf n gI ic gK gF ib gX k j1 v2 v3 v7 v8 h)
def pK (J1:Q1):Nat→Q1:=lpS (pH cf k0 J1)
def l0 (n:Nat) (gI:ai) (ic:aX) (gK:Wr) (gF:aI) (ib:bi) (gX:bv) (k:ab) (j1:bh):Nat→bE:=lpF jP (l7 n gI ic gK gF ib gX k j1)
theorem Gb (k:ab) (j1:bh) (m:Nat):l0 n gI ic gK gF ib gX k j1 (m+1)=l7 n gI ic gK gF ib gX k j1 (l0 n gI ic gK gF ib gX k j1 m):=rfl
theorem Gv (J1:Q1) (m:Nat):lo jP (pK (ip gI ic gK gF ib gX) k0 J1 m)=l0 n gI ic gK gF ib gX (kap hT k0) (lo i8 J1) m:=mG (fun J3=>(by obtain ⟨J2,u2⟩:=exi (nd (ip gI ic gK gF ib gX) J1); obtain ⟨J4,u4⟩:=exi (nj (ip gI ic gK gF ib gX) k0 J3); delta pH l7; rw [← Gs,u2, ← F8,u4]; kernel_rfl:lo jP (pH (ip gI ic gK gF ib gX) k0 J1 J3)=l7 n gI ic gK gF ib gX (kap hT k0) (lo i8 J1) (lo jP J3))) m
def na (J1:Q1):Q1:=(cJ p145 (hG cf io i7 (jk hT k0)) (hG cf io tj (kJ jP (pK cf k0 J1 n))))
def lZ (n:Nat) (gI:ai) (ic:aX) (gK:Wr) (gF:aI) (ib:bi) (gX:bv) (k:ab) (j1:bh) (v2:AV) (v3:AV) (v7:AV) (v8:Int) (v145:Bool) (h:Heap):aa:=ifB v145 (k false h) (l0 n gI ic gK gF ib gX k j1 n v2 v3 v7 v8 0 h)
theorem GB (J1:Q1):lo pX (na n (ip gI ic gK gF ib gX) k0 J1)=lZ n gI ic gK gF ib gX (kap hT k0) (lo i8 J1):=by obtain ⟨J3,u3⟩:=exi (pK (ip gI ic gK gF ib gX) k0 J1 n); delta na lZ; rw [← Gv,u3]; kernel_rfl
def nk (J1:Q1):Q1:=(hG cf io sW (kJ pX (na n cf k0 J1)))
def mb (n:Nat) (gI:ai) (ic:aX) (gK:Wr) (gF:aI) (ib:bi) (gX:bv) (k:ab) (j1:bh) (v2:AV) (v3:AV) (v7:AV) (v8:Int) (v11:Int) (v13:Int) (v140:Bool) (h:Heap):aa:=ifB v140 (lZ n gI ic gK gF ib gX k j1 v2 v3 v7 v8 true h) (lZ n gI ic gK gF ib gX k j1 v2 v3 v7 v8 (jJ (eqF v13 v11)) h)
theorem Gj (J1:Q1):lo pL (nk n (ip gI ic gK gF ib gX) k0 J1)=mb n gI ic gK gF ib gX (kap hT k0) (lo i8 J1):=by obtain ⟨J8,u8⟩:=exi (na n (ip gI ic gK gF ib gX) k0 J1); delta nk mb; rw [← GB,u8]; kernel_rfl
def nb (J1:Q1):Q1:=(hG cf io tz (kJ pL (nk n cf k0 J1)))
def l9 (n:Nat) (gI:ai) (ic:aX) (gK:Wr) (gF:aI) (ib:bi) (gX:bv) (k:ab) (j1:bh) (v2:AV) (v3:AV) (v7:AV) (v8:Int) (v10:Int) (v11:Int) (v12:Int) (v13:Int) (h:Heap):aa:=ifB (jJ (eqF v10 0)) (mb n gI ic gK gF ib gX k j1 v2 v3 v7 v8 v11 v13 true h) (mb n gI ic gK gF ib gX k j1 v2 v3 v7 v8 v11 v13 (jJ (eqF v12 0)) h)
theorem Ge (J1:Q1):lo pJ (nb n (ip gI ic gK gF ib gX) k0 J1)=l9 n gI ic gK gF ib gX (kap hT k0) (lo i8 J1):=by obtain ⟨J7,u7⟩:=exi (nk n (ip gI ic gK gF ib gX) k0 J1); delta nb l9; rw [← Gj,u7]; kernel_rfl
def pi (J1:Q1) (J10:Q1):Q1:=(hG cf io tq (cJ ac4 (hG cf io ub (hG cf io tV (kJ kG J10))) (kJ pJ (nb n cf k0 J1))))
def lT (n:Nat) (gI:ai) (ic:aX) (gK:Wr) (gF:aI) (ib:bi) (gX:bv) (k:ab) (j1:bh) (j10:dn) (v2:AV) (v3:AV) (v7:AV) (v8:Int) (v9:AV) (v10:Int) (v11:Int) (v12:Int) (v13:Int) (v14:Int) (h:Heap):aa:=ifB (ltF v14 7) (DD 1 7 v9 v14 fun a=>ldI .i64 h a fun b=>kY .i64 v13 b fun c=>kY .i64 v14 1 fun d=>j10 v2 v3 v7 v8 v9 v10 v11 v12 c d h) (l9 n gI ic gK gF ib gX k j1 v2 v3 v7 v8 v10 v11 v12 v13 h)
def pl (J1:Q1):Nat→Q1:=lpS (pi n cf k0 J1)
def lS (n:Nat) (gI:ai) (ic:aX) (gK:Wr) (gF:aI) (ib:bi) (gX:bv) (k:ab) (j1:bh):Nat→dn:=lpF kG (lT n gI ic gK gF ib gX k j1)
theorem Fc (k:ab) (j1:bh) (m:Nat):lS n gI ic gK gF ib gX k j1 (m+1)=lT n gI ic gK gF ib gX k j1 (lS n gI ic gK gF ib gX k j1 m):=rfl
theorem EW (J1:Q1) (m:Nat):lo kG (pl n (ip gI ic gK gF ib gX) k0 J1 m)=lS n gI ic gK gF ib gX (kap hT k0) (lo i8 J1) m:=mG (fun J10=>(by obtain ⟨J9,u9⟩:=exi (nb n (ip gI ic gK gF ib gX) k0 J1); delta pi lT; rw [← Ge,u9]; kernel_rfl:lo kG (pi n (ip gI ic gK gF ib gX) k0 J1 J10)=lT n gI ic gK gF ib gX (kap hT k0) (lo i8 J1) (lo kG J10))) m
def pI (J1:Q1):Q1:=(hG cf io tN (cJ p110 (hG cf io tU (hG cf io sS (hG cf io AZ (hG cf io sV (kJ kG (pl n cf k0 J1 n)))))) (kJ pP (nl cf k0))))
def md (n:Nat) (gI:ai) (ic:aX) (gK:Wr) (gF:aI) (ib:bi) (gX:bv) (k:ab) (j1:bh) (v2:AV) (v3:AV) (v7:AV) (v8:Int) (h:Heap):aa:=fld 0 h v3 1 false fun a b=>jA b fun c=>ifB (ltF v8 c) (jd h v2 17 true fun d=>jd h v3 3 true fun e=>gX d e v8 h fun f g i=>lG i (.cells [(.int .i64 0),(.int .i64 0),(.int .i64 0),(.int .i64 0),(.int .i64 0),(.int .i64 0),(.int .i64 0)] true 0) fun l m=>jh m (.ptr l 0) 7 f fun o=>jd o v2 17 true fun p=>ic p v8 o fun q r s=>lS n gI ic gK gF ib gX k j1 n v2 v3 v7 v8 (.ptr l 0) g q r 0 0 s) (nc n gI ic gK gF ib gX k v2 h)
def pU:Nat→Q1:=lpS (pI n cf k0)
def kN (n:Nat) (gI:ai) (ic:aX) (gK:Wr) (gF:aI) (ib:bi) (gX:bv) (k:ab):Nat→bh:=lpF i8 (md n gI ic gK gF ib gX k)
theorem Gy (k:ab) (m:Nat):kN n gI ic gK gF ib gX k (m+1)=md n gI ic gK gF ib gX k (kN n gI ic gK gF ib gX k m):=rfl
theorem Gr (m:Nat):lo i8 (pU n (ip gI ic gK gF ib gX) k0 m)=kN n gI ic gK gF ib gX (kap hT k0) m:=mG (fun J1=>(by obtain ⟨J0,u0⟩:=exi (nl (ip gI ic gK gF ib gX) k0); obtain ⟨J10,u10⟩:=exi (pl n (ip gI ic gK gF ib gX) k0 J1 n); delta pI md; rw [← Gl,u0, ← EW,u10]; kernel_rfl:lo i8 (pI n (ip gI ic gK gF ib gX) k0 J1)=md n gI ic gK gF ib gX (kap hT k0) (lo i8 J1))) m
def mX:Q1:=(hG cf io oJ (jk hT k0))
def mU (n:Nat) (gI:ai) (ic:aX) (gK:Wr) (gF:aI) (ib:bi) (gX:bv) (k:ab) (h:Heap):aa:=k true h
theorem Et:lo iJ (mX (ip gI ic gK gF ib gX) k0)=mU n gI ic gK gF ib gX (kap hT k0):=by delta mX mU; kernel_rfl
def mN (J12:Q1):Q1:=(cJ EI (hG cf io i7 (jk hT k0)) (hG cf io tY (kJ jG J12)))
def jU (n:Nat) (gI:ai) (ic:aX) (gK:Wr) (gF:aI) (ib:bi) (gX:bv) (k:ab) (j12:cq) (v2:AV) (v5:AV) (v6:Int) (v104:Bool) (h:Heap):aa:=ifB v104 (k false h) (kY .i64 v6 1 fun a=>j12 v2 v5 a h)
theorem ER (J12:Q1):lo oU (mN (ip gI ic gK gF ib gX) k0 J12)=jU n gI ic gK gF ib gX (kap hT k0) (lo jG J12):=by delta mN jU; kernel_rfl
def mV (J12:Q1):Q1:=(hG cf io sM (kJ oU (mN cf k0 J12)))
def lX (n:Nat) (gI:ai) (ic:aX) (gK:Wr) (gF:aI) (ib:bi) (gX:bv) (k:ab) (j12:cq) (v2:AV) (v5:AV) (v6:Int) (v58:Bool) (h:Heap):aa:=ifB v58 (jU n gI ic gK gF ib gX k j12 v2 v5 v6 true h) (ifB (ltF 0 v6) (Bm 2 v5 v6 fun a=>jK .i64 1 h a fun b c=>Ky .i64 v6 1 fun d=>Bm 2 v5 d fun e=>jK .i64 1 h e fun f g=>ifB (ltF c g) (jU n gI ic gK gF ib gX k j12 v2 v5 v6 true h) (Bm 2 v5 v6 fun i=>jK .i64 1 h i fun l m=>Ky .i64 v6 1 fun o=>Bm 2 v5 o fun p=>jK .i64 1 h p fun q r=>ifB (eqF m r) (Bm 2 v5 v6 fun s=>jK .i64 0 h s fun t u=>Ky .i64 v6 1 fun w=>Bm 2 v5 w fun x=>jK .i64 0 h x fun y z=>jU n gI ic gK gF ib gX k j12 v2 v5 v6 (jJ (ltF z u)) h) (jU n gI ic gK gF ib gX k j12 v2 v5 v6 false h))) (jU n gI ic gK gF ib gX k j12 v2 v5 v6 false h))
theorem DR (J12:Q1):lo ph (mV (ip gI ic gK gF ib gX) k0 J12)=lX n gI ic gK gF ib gX (kap hT k0) (lo jG J12):=by obtain ⟨J15,u15⟩:=exi (mN (ip gI ic gK gF ib gX) k0 J12); delta mV lX; rw [← ER,u15]; kernel_rfl
def mP (J12:Q1):Q1:=(hG cf io s7 (kJ ph (mV cf k0 J12)))
def lU (n:Nat) (gI:ai) (ic:aX) (gK:Wr) (gF:aI) (ib:bi) (gX:bv) (k:ab) (j12:cq) (v2:AV) (v5:AV) (v6:Int) (v47:Bool) (h:Heap):aa:=ifB v47 (lX n gI ic gK gF ib gX k j12 v2 v5 v6 true h) (Bm 2 v5 v6 fun a=>jK .i64 1 h a fun b c=>fld 16 h v2 1 false fun d e=>jA e fun f=>lX n gI ic gK gF ib gX k j12 v2 v5 v6 (ltF f c) h)
theorem DW (J12:Q1):lo pq (mP (ip gI ic gK gF ib gX) k0 J12)=lU n gI ic gK gF ib gX (kap hT k0) (lo jG J12):=by obtain ⟨J14,u14⟩:=exi (mV (ip gI ic gK gF ib gX) k0 J12); delta mP lU; rw [← DR,u14]; kernel_rfl
def pk (J12:Q1):Q1:=(hG cf io uk (cJ p31 (hG cf io ud (kJ pq (mP cf k0 J12))) (kJ iJ (mX cf k0))))
def lY (n:Nat) (gI:ai) (ic:aX) (gK:Wr) (gF:aI) (ib:bi) (gX:bv) (k:ab) (j12:cq) (v2:AV) (v5:AV) (v6:Int) (h:Heap):aa:=jA v5 fun a=>ifB (ltF v6 a) (Bm 2 v5 v6 fun b=>jK .i64 0 h b fun c d=>ifB (eqF d 0) (lU n gI ic gK gF ib gX k j12 v2 v5 v6 true h) (Bm 2 v5 v6 fun e=>jK .i64 1 h e fun f g=>lU n gI ic gK gF ib gX k j12 v2 v5 v6 (ltF g 0) h)) (mU n gI ic gK gF ib gX k h)
def oV:Nat→Q1:=lpS (pk cf k0)
def kX (n:Nat) (gI:ai) (ic:aX) (gK:Wr) (gF:aI) (ib:bi) (gX:bv) (k:ab):Nat→cq:=lpF jG (lY n gI ic gK gF ib gX k)
theorem E8 (k:ab) (m:Nat):kX n gI ic gK gF ib gX k (m+1)=lY n gI ic gK gF ib gX k (kX n gI ic gK gF ib gX k m):=rfl
theorem E9 (m:Nat):lo jG (oV (ip gI ic gK gF ib gX) k0 m)=kX n gI ic gK gF ib gX (kap hT k0) m:=mG (fun J12=>(by obtain ⟨J11,u11⟩:=exi (mX (ip gI ic gK gF ib gX) k0); obtain ⟨J13,u13⟩:=exi (mP (ip gI ic gK gF ib gX) k0 J12); delta pk lY; rw [← Et,u11, ← DW,u13]; kernel_rfl:lo jG (pk (ip gI ic gK gF ib gX) k0 J12)=lY n gI ic gK gF ib gX (kap hT k0) (lo jG J12))) m
def wM:Q1:=(hG cf io wD (hG cf io uq (cJ p21 (hG cf io i7 (jk hT k0)) (hG cf io tX (hG cf io tk (cJ p27 (hG cf io AY (kJ jG (oV cf k0 n))) (hG cf io uj (hG cf io nP (kJ i8 (pU n cf k0 n))))))))))
def nT (n:Nat) (gI:ai) (ic:aX) (gK:Wr) (gF:aI) (ib:bi) (gX:bv) (k:ab) (a0:AV) (a1:AV) (h:Heap):aa:=pZ h a0 fun a b=>pZ b a1 fun c d=>gK [] d fun e f=>Kf e fun g=>ifB (jJ g) (k false f) (jd f (.ptr a 0) 17 true fun i=>jd f (.ptr c 0) 3 true fun l=>ib i l f fun m o=>jA m fun p=>ifB (ltF 0 p) (kX n gI ic gK gF ib gX k n (.ptr a 0) m 0 o) (mkK o [(.int .i64 0)] 4096 4096 fun q r=>kN n gI ic gK gF ib gX k n (.ptr a 0) (.ptr c 0) q 0 r))
def qK (n:Nat) (gI:ai) (ic:aX) (gK:Wr) (gF:aI) (ib:bi) (gX:bv) (a0:AV) (a1:AV) (h:Heap) (k:ab):aa:=nT n gI ic gK gF ib gX k a0 a1 h
theorem IG:DZ cf io n qI hT k0=wM n cf k0:=by funext s; kernel_rfl
theorem H9:lo iQ (DZ (ip gI ic gK gF ib gX) io n qI hT k0)=cmp iQ (qK n gI ic gK gF ib gX) (kap hT k0):=(congrArg (lo iQ) (IG n (ip gI ic gK gF ib gX) k0)).trans (show _=nT n gI ic gK gF ib gX (kap hT k0) by obtain ⟨J1,u1⟩:=exi (pU n (ip gI ic gK gF ib gX) k0 n); obtain ⟨J12,u12⟩:=exi (oV (ip gI ic gK gF ib gX) k0 n); delta wM nT; rw [← Gr,u1, ← E9,u12]; kernel_rfl)
end
def cE (n:Nat):ak:=qK n (bb n) (cx n) (lq bD) (aV n) (bT n) (bX n)
end
end Go.Proofs.YtpoobhhdgjgdgaaGreat.Sh
