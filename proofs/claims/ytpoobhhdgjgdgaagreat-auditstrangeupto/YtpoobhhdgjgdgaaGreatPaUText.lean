/- The program's functions in continuation style: printed by a program, held against their code by the kernel. -/
import Derived.Test.YtpoobhhdgjgdgaaGreatPaUCode
import Derived.Test.YtpoobhhdgjgdgaaGreatAiMemoSPaUPrims
import Derived.KernelRfl
set_option linter.all false
namespace Go.Proofs.YtpoobhhdgjgdgaaGreat.Sh
open Go.Ai
set_option maxRecDepth 100000
noncomputable section
variable (n:Nat) (cf:bf)
abbrev aq:=Bool→Int→Int→AV→Heap→(Heap→aa)→aa
abbrev dQ:=Heap→aa
abbrev GR (g:aq):Wr:=wrT oo lf g
def Nv:bf:=lC []
section
variable (k0:Q0)
def RM:Q1:=(gZ cf A5 K8 (cJ p8 (gZ cf A5 Lq (jk lf k0)) (jk lf k0)))
def AI (n:Nat) (k:dQ) (a0:Bool) (a1:Int) (a2:Int) (a3:AV) (h:Heap):aa:=ifB (jK a0) (jg h a3 1 false fun a=>kM [(.int .i64 0),(.int .i64 0)] [(0,1,(.int .i64 a1)),(1,1,(.int .i64 a2))] fun b=>l8 h 1 [(.int .i64 0),(.int .i64 0)] [(0,2,b)] fun c d=>rX d 2 a c fun e f=>jf f a3 1 e fun g=>k g) (k h)
def HB (n:Nat) (a0:Bool) (a1:Int) (a2:Int) (a3:AV) (h:Heap) (k:dQ):aa:=AI n k a0 a1 a2 a3 h
theorem agr:DZ cf A5 n Rf lf k0=RM cf k0:=by funext s; kernel_rfl
theorem af3:lo oo (DZ Nv A5 n Rf lf k0)=cmp oo (HB n) (kap lf k0):=(congrArg (lo oo) (agr n Nv k0)).trans (show _=AI n (kap lf k0) by delta RM AI; kernel_rfl)
end
def aW (n:Nat):aq:=HB n
abbrev az:=Int→Int→Int→Heap→(Bool→Heap→aa)→aa
abbrev ab:=Bool→Heap→aa
abbrev wd (g:az):Wr:=wrT mN hO g
def Cq:bf:=lC []
section
variable (k0:Q0)
def zW:Q1:=(gZ cf lF rH (jk hO k0))
def vq (n:Nat) (k:ab) (v14:Bool) (h:Heap):aa:=k v14 h
theorem afL:lo l0 (zW Cq k0)=vq n (kap hO k0):=by delta zW vq; kernel_rfl
def XA:Q1:=(gZ cf lF iZ (gZ cf lF rz (kJ l0 (zW cf k0))))
def Fw (n:Nat) (k:ab) (a0:Int) (a1:Int) (a2:Int) (h:Heap):aa:=ifB (jK (ltF a0 a1)) (vq n k (jK (ltF a2 a0)) h) (vq n k false h)
def Mk (n:Nat) (a0:Int) (a1:Int) (a2:Int) (h:Heap) (k:ab):aa:=Fw n k a0 a1 a2 h
theorem ajR:DZ cf lF n Xz hO k0=XA cf k0:=by funext s; kernel_rfl
theorem ajG:lo mN (DZ Cq lF n Xz hO k0)=cmp mN (Mk n) (kap hO k0):=(congrArg (lo mN) (ajR n Cq k0)).trans (show _=Fw n (kap hO k0) by obtain ⟨J0,u0⟩:=exi (zW Cq k0); delta XA Fw; rw [← afL,u0]; kernel_rfl)
end
def bZ (n:Nat):az:=Mk n
abbrev bG:=Int→Int→Heap→(Bool→Heap→aa)→aa
abbrev aad (g:bG):Wr:=wrT lX ii g
def Fn (gO:az):bf:=lC [(wt,wd gO)]
section
variable (gO:az) (k0:Q0)
def Cc:Q1:=(gZ cf Df Vy (jk ii k0))
def xi (n:Nat) (gO:az) (k:ab) (v14:Bool) (h:Heap):aa:=k v14 h
theorem aiA:lo l0 (Cc (Fn gO) k0)=xi n gO (kap ii k0):=by delta Cc xi; kernel_rfl
def abK:Q1:=(gZ cf Df i9 (gZ cf Df T5 (kJ l0 (Cc cf k0))))
def HZ (n:Nat) (gO:az) (k:ab) (a0:Int) (a1:Int) (h:Heap):aa:=gO a0 1 a1 h fun a b=>ifB a (PU .i64 a0 1 fun c=>ae8 .and .i64 a0 c fun d=>xi n gO k (eqF d 0) b) (xi n gO k false b)
def Qx (n:Nat) (gO:az) (a0:Int) (a1:Int) (h:Heap) (k:ab):aa:=HZ n gO k a0 a1 h
theorem amj:DZ cf Df n Z4 ii k0=abK cf k0:=by funext s; kernel_rfl
theorem al1:lo lX (DZ (Fn gO) Df n Z4 ii k0)=cmp lX (Qx n gO) (kap ii k0):=(congrArg (lo lX) (amj n (Fn gO) k0)).trans (show _=HZ n gO (kap ii k0) by obtain ⟨J0,u0⟩:=exi (Cc (Fn gO) k0); delta abK HZ; rw [← aiA,u0]; kernel_rfl)
end
def ei (n:Nat):bG:=Qx n (bZ n)
abbrev ak:=AV→Heap→(Bool→Heap→aa)→aa
abbrev CI (g:ak):Wr:=wrT ip ir g
def kH (iX:bG) (gO:az):bf:=lC [(abk,aad iX),(wt,wd gO)]
section
variable (iX:bG) (gO:az) (k0:Q0)
def xS:Q1:=(gZ cf mJ Mq (jk ir k0))
def tY (n:Nat) (iX:bG) (gO:az) (k:ab) (v44:Bool) (h:Heap):aa:=k v44 h
theorem adm:lo qU (xS (kH iX gO) k0)=tY n iX gO (kap ir k0):=by delta xS tY; kernel_rfl
def x7:Q1:=(gZ cf mJ M1 (kJ qU (xS cf k0)))
def tD (n:Nat) (iX:bG) (gO:az) (k:ab) (v1:AV) (v38:Bool) (h:Heap):aa:=ifB v38 (faK 16 v1 fun a=>jg h a 1 false fun b=>jC b fun c=>gO c 1 8 h fun d e=>tY n iX gO k d e) (tY n iX gO k false h)
theorem acM:lo Ek (x7 (kH iX gO) k0)=tD n iX gO (kap ir k0):=by obtain ⟨J6,u6⟩:=exi (xS (kH iX gO) k0); delta x7 tD; rw [← adm,u6]; kernel_rfl
def yq:Q1:=(gZ cf mJ OK (kJ Ek (x7 cf k0)))
def tW (n:Nat) (iX:bG) (gO:az) (k:ab) (v1:AV) (v33:Bool) (h:Heap):aa:=ifB v33 (faK 5 v1 fun a=>ldI .i64 h a fun b=>gO b 1 64 h fun c d=>tD n iX gO k v1 c d) (tD n iX gO k v1 false h)
theorem adM:lo EM (yq (kH iX gO) k0)=tW n iX gO (kap ir k0):=by obtain ⟨J5,u5⟩:=exi (x7 (kH iX gO) k0); delta yq tW; rw [← acM,u5]; kernel_rfl
def yg:Q1:=(gZ cf mJ Ph (kJ EM (yq cf k0)))
def uv (n:Nat) (iX:bG) (gO:az) (k:ab) (v1:AV) (v28:Bool) (h:Heap):aa:=ifB v28 (faK 4 v1 fun a=>ldI .i64 h a fun b=>gO b 1 16 h fun c d=>tW n iX gO k v1 c d) (tW n iX gO k v1 false h)
theorem acp:lo E6 (yg (kH iX gO) k0)=uv n iX gO (kap ir k0):=by obtain ⟨J4,u4⟩:=exi (yq (kH iX gO) k0); delta yg uv; rw [← adM,u4]; kernel_rfl
def x0:Q1:=(gZ cf mJ OE (kJ E6 (yg cf k0)))
def uu (n:Nat) (iX:bG) (gO:az) (k:ab) (v1:AV) (v23:Bool) (h:Heap):aa:=ifB v23 (faK 2 v1 fun a=>ldI .i64 h a fun b=>gO b 1 16 h fun c d=>uv n iX gO k v1 c d) (uv n iX gO k v1 false h)
theorem acP:lo Et (x0 (kH iX gO) k0)=uu n iX gO (kap ir k0):=by obtain ⟨J3,u3⟩:=exi (yg (kH iX gO) k0); delta x0 uu; rw [← acp,u3]; kernel_rfl
def yK:Q1:=(gZ cf mJ NH (kJ Et (x0 cf k0)))
def tU (n:Nat) (iX:bG) (gO:az) (k:ab) (v1:AV) (v18:Bool) (h:Heap):aa:=ifB v18 (faK 3 v1 fun a=>ldI .i64 h a fun b=>iX b 4096 h fun c d=>uu n iX gO k v1 c d) (uu n iX gO k v1 false h)
theorem acL:lo Eo (yK (kH iX gO) k0)=tU n iX gO (kap ir k0):=by obtain ⟨J2,u2⟩:=exi (x0 (kH iX gO) k0); delta yK tU; rw [← acP,u2]; kernel_rfl
def yj:Q1:=(gZ cf mJ MZ (kJ Eo (yK cf k0)))
def tB (n:Nat) (iX:bG) (gO:az) (k:ab) (v1:AV) (v10:Bool) (h:Heap):aa:=ifB v10 (faK 0 v1 fun a=>ldI .i64 h a fun b=>jy .i64 1 h v1 fun c d=>afl .i64 b d fun e=>tU n iX gO k v1 (eqF e 0) h) (tU n iX gO k v1 false h)
theorem ada:lo Ed (yj (kH iX gO) k0)=tB n iX gO (kap ir k0):=by obtain ⟨J1,u1⟩:=exi (yK (kH iX gO) k0); delta yj tB; rw [← acL,u1]; kernel_rfl
def Vw:Q1:=(gZ cf mJ nB (gZ cf mJ Nu (kJ Ed (yj cf k0))))
def CU (n:Nat) (iX:bG) (gO:az) (k:ab) (a0:AV) (h:Heap):aa:=qR h a0 fun a b=>jy .i64 1 b (.ptr a 0) fun c d=>iX d 16 b fun e f=>ifB e (faK 0 (.ptr a 0) fun g=>ldI .i64 f g fun i=>gO i 1 4096 f fun l m=>tB n iX gO k (.ptr a 0) l m) (tB n iX gO k (.ptr a 0) false f)
def Jb (n:Nat) (iX:bG) (gO:az) (a0:AV) (h:Heap) (k:ab):aa:=CU n iX gO k a0 h
theorem aiw:DZ cf mJ n Vz ir k0=Vw cf k0:=by funext s; kernel_rfl
theorem aiG:lo ip (DZ (kH iX gO) mJ n Vz ir k0)=cmp ip (Jb n iX gO) (kap ir k0):=(congrArg (lo ip) (aiw n (kH iX gO) k0)).trans (show _=CU n iX gO (kap ir k0) by obtain ⟨J0,u0⟩:=exi (yj (kH iX gO) k0); delta Vw CU; rw [← ada,u0]; kernel_rfl)
end
def bV (n:Nat):ak:=Jb n (ei n) (bZ n)
abbrev af:=AV→Heap→(Int→Heap→aa)→aa
abbrev am:=Int→Heap→aa
abbrev Dh (g:af):Wr:=wrT ip iJ g
def lu:bf:=lC []
abbrev bK:Type:=AV→Int→Int→Heap→aa
abbrev eL:Type:=AV→Int→AV→Int→Int→Heap→aa
section
variable (k0:Q0)
def Dc:Q1:=(gZ cf ll ni (jk iJ k0))
def Cm (n:Nat) (k:am) (h:Heap):aa:=k 0 h
theorem aij:lo iH (Dc lu k0)=Cm n (kap iJ k0):=by delta Dc Cm; kernel_rfl
def BP (J1:Q1):Q1:=(cJ p46 (gZ cf ll BR (jk iJ k0)) (gZ cf ll WQ (kJ pK J1)))
def wS (n:Nat) (k:am) (j1:bK) (v35:AV) (v36:Int) (v37:Int) (v46:Bool) (h:Heap):aa:=ifB v46 (k 100 h) (la .i64 v37 1 fun a=>j1 v35 v36 a h)
theorem ahp (J1:Q1):lo JA (BP lu k0 J1)=wS n (kap iJ k0) (lo pK J1):=by delta BP wS; kernel_rfl
def JF (J1:Q1):Q1:=(gZ cf ll UZ (cJ p38 (gZ cf ll V3 (gZ cf ll Um (kJ JA (BP cf k0 J1)))) (kJ iH (Dc cf k0))))
def wP (n:Nat) (k:am) (j1:bK) (v35:AV) (v36:Int) (v37:Int) (h:Heap):aa:=ifB (ltF v37 v36) (Xg .u64 1 h v35 v37 fun a b=>ifB (ltF b 1) (wS n k j1 v35 v36 v37 true h) (wS n k j1 v35 v36 v37 (ltF 65536 b) h)) (Cm n k h)
def I4:Nat→Q1:=lpS (JF cf k0)
def Di (n:Nat) (k:am):Nat→bK:=lpF pK (wP n k)
theorem ah5 (m:Nat):lo pK (I4 lu k0 m)=Di n (kap iJ k0) m:=mQ (fun J1=>(by obtain ⟨J0,u0⟩:=exi (Dc lu k0); obtain ⟨J2,u2⟩:=exi (BP lu k0 J1); delta JF wP; rw [← aij,u0, ← ahp,u2]; kernel_rfl:lo pK (JF lu k0 J1)=wP n (kap iJ k0) (lo pK J1))) m
def Ck:Q1:=(gZ cf ll VZ (kJ pK (I4 cf k0 n)))
def w8 (n:Nat) (k:am) (v1:AV) (h:Heap):aa:=jy .u64 3 h v1 fun a b=>jy .u64 4 h v1 fun c d=>jy .u64 5 h v1 fun e f=>l8 h 3 [(.int .u64 0),(.int .u64 0),(.int .u64 0)] [(0,1,(.int .u64 b)),(1,1,(.int .u64 d)),(2,1,(.int .u64 f))] fun g i=>jC g fun l=>Di n k n g l 0 i
theorem ai1:lo IZ (Ck n lu k0)=w8 n (kap iJ k0):=by obtain ⟨J1,u1⟩:=exi (I4 lu k0 n); delta Ck w8; rw [← ah5,u1]; kernel_rfl
def Cn (J4:Q1):Q1:=(cJ p26 (gZ cf ll BR (jk iJ k0)) (gZ cf ll V1 (gZ cf ll Wi (kJ pM J4))))
def wR (n:Nat) (k:am) (j4:eL) (v1:AV) (v5:Int) (v14:AV) (v15:Int) (v16:Int) (v26:Bool) (h:Heap):aa:=ifB v26 (k 100 h) (la .i64 v16 1 fun a=>j4 v1 v5 v14 v15 a h)
theorem agR (J4:Q1):lo I8 (Cn lu k0 J4)=wR n (kap iJ k0) (lo pM J4):=by delta Cn wR; kernel_rfl
def Jt (J4:Q1):Q1:=(gZ cf ll Tp (cJ p17 (gZ cf ll Sd (gZ cf ll Rn (kJ I8 (Cn cf k0 J4)))) (kJ IZ (Ck n cf k0))))
def xt (n:Nat) (k:am) (j4:eL) (v1:AV) (v3:Int) (v14:AV) (v15:Int) (v16:Int) (h:Heap):aa:=ifB (ltF v16 v15) (Xg .u64 1 h v14 v16 fun a b=>ifB (ltF b v3) (wR n k j4 v1 b v14 v15 v16 true h) (wR n k j4 v1 b v14 v15 v16 (ltF 65536 b) h)) (w8 n k v1 h)
def JY:Nat→Q1:=lpS (Jt n cf k0)
def Dl (n:Nat) (k:am):Nat→eL:=lpF pM (xt n k)
theorem aiN (m:Nat):lo pM (JY n lu k0 m)=Dl n (kap iJ k0) m:=mQ (fun J4=>(by obtain ⟨J3,u3⟩:=exi (Ck n lu k0); obtain ⟨J5,u5⟩:=exi (Cn lu k0 J4); delta Jt xt; rw [← ai1,u3, ← agR,u5]; kernel_rfl:lo pM (Jt n lu k0 J4)=xt n (kap iJ k0) (lo pM J4))) m
def aaP:Q1:=(gZ cf ll ot (gZ cf ll RI (gZ cf ll RL (kJ pM (JY n cf k0 n)))))
def HV (n:Nat) (k:am) (a0:AV) (h:Heap):aa:=qR h a0 fun a b=>jy .u64 0 b (.ptr a 0) fun c d=>jy .u64 1 b (.ptr a 0) fun e f=>jy .u64 2 b (.ptr a 0) fun g i=>l8 b 3 [(.int .u64 0),(.int .u64 0),(.int .u64 0)] [(0,1,(.int .u64 d)),(1,1,(.int .u64 f)),(2,1,(.int .u64 i))] fun l m=>jC l fun o=>Dl n k n (.ptr a 0) 1 l o 0 m
def P9 (n:Nat) (a0:AV) (h:Heap) (k:am):aa:=HV n k a0 h
theorem amc:DZ cf ll n aay iJ k0=aaP n cf k0:=by funext s; kernel_rfl
theorem ams:lo ip (DZ lu ll n aay iJ k0)=cmp ip (P9 n) (kap iJ k0):=(congrArg (lo ip) (amc n lu k0)).trans (show _=HV n (kap iJ k0) by obtain ⟨J4,u4⟩:=exi (JY n lu k0 n); delta aaP HV; rw [← aiN,u4]; kernel_rfl)
end
def b7 (n:Nat):af:=P9 n
abbrev ah:=AV→Int→Heap→(Int→Heap→aa)→aa
abbrev y9 (g:ah):Wr:=wrT gX gQ g
def lj:bf:=lC []
abbrev ct:Type:=AV→Int→Int→Int→Heap→aa
section
variable (k0:Q0)
def nM:Q1:=(gZ cf j0 lL (jk gQ k0))
def nN (n:Nat) (k:am) (h:Heap):aa:=k (-1) h
theorem HQ:lo iH (nM lj k0)=nN n (kap gQ k0):=by delta nM nN; kernel_rfl
def qy (J1:Q1):Q1:=(gZ cf j0 kE (cJ p9 (gZ cf j0 lJ (gZ cf j0 wF (cJ p16 (gZ cf j0 lK (jk gQ k0)) (gZ cf j0 lI (kJ k9 J1))))) (kJ iH (nM cf k0))))
def mn (n:Nat) (k:am) (j1:ct) (v0:AV) (v1:Int) (v7:Int) (v8:Int) (h:Heap):aa:=ifB (ltF v8 v7) (Xg .i64 1 h v0 v8 fun a b=>ifB (eqF v1 b) (k v8 h) (la .i64 v8 1 fun c=>j1 v0 v1 v7 c h)) (nN n k h)
def qp:Nat→Q1:=lpS (qy cf k0)
def nO (n:Nat) (k:am):Nat→ct:=lpF k9 (mn n k)
theorem HT (m:Nat):lo k9 (qp lj k0 m)=nO n (kap gQ k0) m:=mQ (fun J1=>(by obtain ⟨J0,u0⟩:=exi (nM lj k0); delta qy mn; rw [← HQ,u0]; kernel_rfl:lo k9 (qy lj k0 J1)=mn n (kap gQ k0) (lo k9 J1))) m
def y0:Q1:=(gZ cf j0 jj (gZ cf j0 kD (kJ k9 (qp cf k0 n))))
def oS (n:Nat) (k:am) (a0:AV) (a1:Int) (h:Heap):aa:=jC a0 fun a=>nO n k n a0 a1 a 0 h
def rt (n:Nat) (a0:AV) (a1:Int) (h:Heap) (k:am):aa:=oS n k a0 a1 h
theorem Kd:DZ cf j0 n yY gQ k0=y0 n cf k0:=by funext s; kernel_rfl
theorem Kf:lo gX (DZ lj j0 n yY gQ k0)=cmp gX (rt n) (kap gQ k0):=(congrArg (lo gX) (Kd n lj k0)).trans (show _=oS n (kap gQ k0) by obtain ⟨J1,u1⟩:=exi (qp lj k0 n); delta y0 oS; rw [← HT,u1]; kernel_rfl)
end
def cx (n:Nat):ah:=rt n
abbrev ad:=AV→Int→Heap→(Bool→Heap→aa)→aa
abbrev nv (g:ad):Wr:=wrT gX ii g
def uK (j8:ah):bf:=lC [(za,y9 j8)]
section
variable (j8:ah) (k0:Q0)
def vi:Q1:=(gZ cf nu i9 (gZ cf nu ti (jk ii k0)))
def ny (n:Nat) (j8:ah) (k:ab) (a0:AV) (a1:Int) (h:Heap):aa:=j8 a0 a1 h fun a b=>k (jK (ltF a 0)) b
def qh (n:Nat) (j8:ah) (a0:AV) (a1:Int) (h:Heap) (k:ab):aa:=ny n j8 k a0 a1 h
theorem Hr:DZ cf nu n vA ii k0=vi cf k0:=by funext s; kernel_rfl
theorem Hy:lo gX (DZ (uK j8) nu n vA ii k0)=cmp gX (qh n j8) (kap ii k0):=(congrArg (lo gX) (Hr n (uK j8) k0)).trans (show _=ny n j8 (kap ii k0) by delta vi ny; kernel_rfl)
end
def al (n:Nat):ad:=qh n (cx n)
abbrev UT:=Bool→Heap→aa
abbrev Vr (g:ad):Wr:=wrT gX ii g
def kG (gA:ad):bf:=lC [(nw,nv gA)]
abbrev eU:Type:=Int→AV→AV→Int→AV→Int→Int→AV→Int→Int→Heap→aa
abbrev ce:Type:=Int→AV→AV→AV→Int→Int→Heap→aa
section
variable (gA:ad) (k0:Q0)
def xO:Q1:=(gZ cf kx NF (jk ii k0))
def xQ (n:Nat) (gA:ad) (k:ab) (v5:AV) (h:Heap):aa:=jC v5 fun a=>k (ltF 0 a) h
theorem adk:lo qQ (xO (kG gA) k0)=xQ n gA (kap ii k0):=by delta xO xQ; kernel_rfl
def xX (J1:Q1):Q1:=(gZ cf kx PC (kJ kF J1))
def yl (n:Nat) (gA:ad) (k:ab) (j1:ce) (v1:Int) (v2:AV) (v5:AV) (v16:AV) (v17:Int) (v18:Int) (h:Heap):aa:=la .i64 v18 1 fun a=>j1 v1 v2 v5 v16 v17 a h
theorem adJ (J1:Q1):lo kF (xX (kG gA) J1)=yl n gA (kap ii k0) (lo kF J1):=by delta xX yl; kernel_rfl
def EJ (J1:Q1) (J3:Q1):Q1:=(gZ cf kx Of (cJ p50 (gZ cf kx NC (gZ cf kx NE (cJ p56 (gZ cf kx i9 (jk ii k0)) (gZ cf kx NG (kJ pb J3))))) (kJ kF (xX cf J1))))
def tK (n:Nat) (gA:ad) (k:ab) (j1:ce) (j3:eU) (v1:Int) (v2:AV) (v5:AV) (v7:Int) (v16:AV) (v17:Int) (v18:Int) (v47:AV) (v48:Int) (v49:Int) (h:Heap):aa:=ifB (ltF v49 v48) (eld 8 h v47 v49 8 true fun a b=>lG h (.cells [.nilslice,(.int .i64 0),(.int .i64 0),(.int .i64 0),(.int .i64 0),(.int .i64 0),(.int .i64 0),(.int .i64 0)] true 0) fun c d=>jf d (.ptr c 0) 8 b fun e=>fld 0 e (.ptr c 0) 1 false fun f g=>gA g v7 e fun i l=>ifB i (k false l) (la .i64 v49 1 fun m=>j3 v1 v2 v5 v7 v16 v17 v18 v47 v48 m l)) (yl n gA k j1 v1 v2 v5 v16 v17 v18 h)
def EO (J1:Q1):Nat→Q1:=lpS (EJ cf k0 J1)
def uj (n:Nat) (gA:ad) (k:ab) (j1:ce):Nat→eU:=lpF pb (tK n gA k j1)
theorem ade (J1:Q1) (m:Nat):lo pb (EO (kG gA) k0 J1 m)=uj n gA (kap ii k0) (lo kF J1) m:=mQ (fun J3=>(by obtain ⟨J2,u2⟩:=exi (xX (kG gA) J1); delta EJ tK; rw [← adJ,u2]; kernel_rfl:lo pb (EJ (kG gA) k0 J1 J3)=tK n gA (kap ii k0) (lo kF J1) (lo pb J3))) m
def yJ (J1:Q1):Q1:=(cJ p43 (gZ cf kx i9 (jk ii k0)) (gZ cf kx M0 (kJ pb (EO cf k0 J1 n))))
def qH (n:Nat) (gA:ad) (k:ab) (j1:ce) (v1:Int) (v2:AV) (v5:AV) (v7:Int) (v16:AV) (v17:Int) (v18:Int) (v43:Bool) (h:Heap):aa:=ifB v43 (k false h) (fld 16 h v2 1 false fun a b=>slK (.sl 8) b none (some (.int .i64 v1)) none fun c=>jC c fun d=>uj n gA k j1 n v1 v2 v5 v7 v16 v17 v18 c d 0 h)
theorem acD (J1:Q1):lo D4 (yJ n (kG gA) k0 J1)=qH n gA (kap ii k0) (lo kF J1):=by obtain ⟨J3,u3⟩:=exi (EO (kG gA) k0 J1 n); delta yJ qH; rw [← ade,u3]; kernel_rfl
def yz (J1:Q1):Q1:=(gZ cf kx Lh (kJ D4 (yJ n cf k0 J1)))
def tR (n:Nat) (gA:ad) (k:ab) (j1:ce) (v1:Int) (v2:AV) (v5:AV) (v6:Int) (v7:Int) (v16:AV) (v17:Int) (v18:Int) (v30:Bool) (h:Heap):aa:=ifB v30 (qH n gA k j1 v1 v2 v5 v7 v16 v17 v18 true h) (ifB (ltF 0 v6) (PU .i64 v6 1 fun a=>Xg .i64 1 h v5 a fun b c=>qH n gA k j1 v1 v2 v5 v7 v16 v17 v18 (jK (ltF c v7)) h) (qH n gA k j1 v1 v2 v5 v7 v16 v17 v18 false h))
theorem adv (J1:Q1):lo EE (yz n (kG gA) k0 J1)=tR n gA (kap ii k0) (lo kF J1):=by obtain ⟨J5,u5⟩:=exi (yJ n (kG gA) k0 J1); delta yz tR; rw [← acD,u5]; kernel_rfl
def E5 (J1:Q1):Q1:=(gZ cf kx Lw (cJ p19 (gZ cf kx Lv (gZ cf kx O4 (kJ EE (yz n cf k0 J1)))) (kJ qQ (xO cf k0))))
def tr (n:Nat) (gA:ad) (k:ab) (j1:ce) (v1:Int) (v2:AV) (v5:AV) (v16:AV) (v17:Int) (v18:Int) (h:Heap):aa:=ifB (ltF v18 v17) (Xg .i64 1 h v16 v18 fun a b=>ifB (ltF b 0) (tR n gA k j1 v1 v2 v5 v18 b v16 v17 v18 true h) (jy .i64 1 h v2 fun c d=>tR n gA k j1 v1 v2 v5 v18 b v16 v17 v18 (jK (ltF b d)) h)) (xQ n gA k v5 h)
def EY:Nat→Q1:=lpS (E5 n cf k0)
def qN (n:Nat) (gA:ad) (k:ab):Nat→ce:=lpF kF (tr n gA k)
theorem ab6 (m:Nat):lo kF (EY n (kG gA) k0 m)=qN n gA (kap ii k0) m:=mQ (fun J1=>(by obtain ⟨J0,u0⟩:=exi (xO (kG gA) k0); obtain ⟨J4,u4⟩:=exi (yz n (kG gA) k0 J1); delta E5 tr; rw [← adk,u0, ← adv,u4]; kernel_rfl:lo kF (E5 n (kG gA) k0 J1)=tr n gA (kap ii k0) (lo kF J1))) m
def VC:Q1:=(gZ cf kx pO (gZ cf kx KX (gZ cf kx KU (kJ kF (EY n cf k0 n)))))
def B6 (n:Nat) (gA:ad) (k:ab) (a0:AV) (a1:Int) (h:Heap):aa:=qR h a0 fun a b=>fld 16 b (.ptr a 0) 1 false fun c d=>Qc 8 d a1 fun e=>fld 0 b e 1 false fun f g=>jC g fun i=>qN n gA k n a1 (.ptr a 0) g g i 0 b
def IM (n:Nat) (gA:ad) (a0:AV) (a1:Int) (h:Heap) (k:ab):aa:=B6 n gA k a0 a1 h
theorem ajh:DZ cf kx n Wk ii k0=VC n cf k0:=by funext s; kernel_rfl
theorem aiT:lo gX (DZ (kG gA) kx n Wk ii k0)=cmp gX (IM n gA) (kap ii k0):=(congrArg (lo gX) (ajh n (kG gA) k0)).trans (show _=B6 n gA (kap ii k0) by obtain ⟨J1,u1⟩:=exi (EY n (kG gA) k0 n); delta VC B6; rw [← ab6,u1]; kernel_rfl)
end
def dE (n:Nat):ad:=IM n (al n)
abbrev VN (g:af):Wr:=wrT ip iJ g
def aai:bf:=lC []
section
variable (k0:Q0)
def aeu:Q1:=(gZ cf uJ ot (gZ cf uJ X3 (jk iJ k0)))
def KJ (n:Nat) (k:am) (a0:AV) (h:Heap):aa:=qR h a0 fun a b=>jy .i64 0 b (.ptr a 0) fun c d=>jy .i64 1 b (.ptr a 0) fun e f=>quoK .i64 d f fun g=>k g b
def Wf (n:Nat) (a0:AV) (h:Heap) (k:am):aa:=KJ n k a0 h
theorem anJ:DZ cf uJ n aeU iJ k0=aeu cf k0:=by funext s; kernel_rfl
theorem aov:lo ip (DZ aai uJ n aeU iJ k0)=cmp ip (Wf n) (kap iJ k0):=(congrArg (lo ip) (anJ n aai k0)).trans (show _=KJ n (kap iJ k0) by delta aeu KJ; kernel_rfl)
end
def dn (n:Nat):af:=Wf n
abbrev aav (g:ah):Wr:=wrT gX gQ g
def Y4 (iB:af):bf:=lC [(Vb,VN iB)]
section
variable (iB:af) (k0:Q0)
def aam:Q1:=(gZ cf Ig um (gZ cf Ig Ug (jk gQ k0)))
def H6 (n:Nat) (iB:af) (k:am) (a0:AV) (a1:Int) (h:Heap):aa:=qR h a0 fun a b=>fld 16 b (.ptr a 0) 1 false fun c d=>Qc 8 d a1 fun e=>fld 0 b e 1 false fun f g=>jC g fun i=>jg b (.ptr a 0) 17 true fun l=>iB l (b.shut true) fun m o=>A7 .i64 i m fun p=>k p (o.back b.ro)
def PS (n:Nat) (iB:af) (a0:AV) (a1:Int) (h:Heap) (k:am):aa:=H6 n iB k a0 a1 h
theorem alp:DZ cf Ig n aa7 gQ k0=aam cf k0:=by funext s; kernel_rfl
theorem amJ:lo gX (DZ (Y4 iB) Ig n aa7 gQ k0)=cmp gX (PS n iB) (kap gQ k0):=(congrArg (lo gX) (alp n (Y4 iB) k0)).trans (show _=H6 n iB (kap gQ k0) by delta aam H6; kernel_rfl)
end
def dF (n:Nat):ah:=PS n (dn n)
abbrev ajK:=Bool→Heap→aa
abbrev Ya (g:ad):Wr:=wrT gX ii g
def jO (iE:ah) (gL:ak) (iB:af) (gO:az):bf:=lC [(aaI,aav iE),(CB,CI gL),(Vb,VN iB),(wt,wd gO)]
abbrev c0:Type:=Int→AV→AV→Int→AV→Int→Int→Heap→aa
abbrev SG:Type:=Int→AV→AV→AV→Int→Heap→aa
section
variable (iE:ah) (gL:ak) (iB:af) (gO:az) (k0:Q0)
def AO:Q1:=(gZ cf jA Rh (jk ii k0))
def vg (n:Nat) (iE:ah) (gL:ak) (iB:af) (gO:az) (k:ab) (v104:Bool) (h:Heap):aa:=k v104 h
theorem afQ:lo Hj (AO (jO iE gL iB gO) k0)=vg n iE gL iB gO (kap ii k0):=by delta AO vg; kernel_rfl
def AX:Q1:=(cJ p72 (gZ cf jA i9 (jk ii k0)) (gZ cf jA RX (cJ p75 (gZ cf jA rL (jk ii k0)) (gZ cf jA QS (gZ cf jA Sg (kJ Hj (AO cf k0)))))))
def vY (n:Nat) (iE:ah) (gL:ak) (iB:af) (gO:az) (k:ab) (v1:Int) (v2:AV) (v5:AV) (v72:Bool) (h:Heap):aa:=ifB v72 (k false h) (jg h v2 17 true fun a=>gL a h fun b c=>ifB (jK b) (k true c) (jy .i64 1 c v5 fun d e=>shlK .i64 1 e fun f=>jg c v2 17 true fun g=>iB g c fun i l=>ifB (jK (ltF i f)) (jy .i64 2 l v5 fun m o=>la .i64 f o fun p=>jy .i64 3 l v5 fun q r=>la .i64 p r fun s=>jy .i64 4 l v5 fun t u=>la .i64 s u fun w=>jy .i64 5 l v5 fun x y=>la .i64 w y fun z=>jy .i64 6 l v5 fun A B=>la .i64 z B fun C=>jg l v2 17 true fun E=>iE E v1 (l.shut true) fun F G=>vg n iE gL iB gO k (jK (ltF F C)) (G.back l.ro)) (vg n iE gL iB gO k false l)))
theorem aga:lo G4 (AX (jO iE gL iB gO) k0)=vY n iE gL iB gO (kap ii k0):=by obtain ⟨J0,u0⟩:=exi (AO (jO iE gL iB gO) k0); delta AX vY; rw [← afQ,u0]; kernel_rfl
def Aq:Q1:=(gZ cf jA Tq (kJ G4 (AX cf k0)))
def vN (n:Nat) (iE:ah) (gL:ak) (iB:af) (gO:az) (k:ab) (v1:Int) (v2:AV) (v5:AV) (v8:Int) (h:Heap):aa:=jy .i64 7 h v5 fun a b=>gO b 1 1024 h fun c d=>ifB (jK c) (vY n iE gL iB gO k v1 v2 v5 true d) (vY n iE gL iB gO k v1 v2 v5 (ltF 1024 v8) d)
theorem afm:lo Gw (Aq (jO iE gL iB gO) k0)=vN n iE gL iB gO (kap ii k0):=by obtain ⟨J1,u1⟩:=exi (AX (jO iE gL iB gO) k0); delta Aq vN; rw [← aga,u1]; kernel_rfl
def vw (J3:Q1):Q1:=(gZ cf jA Tk (kJ lY J3))
def vZ (n:Nat) (iE:ah) (gL:ak) (iB:af) (gO:az) (k:ab) (j3:c0) (v1:Int) (v2:AV) (v5:AV) (v8:Int) (v51:AV) (v52:Int) (v53:Int) (h:Heap):aa:=la .i64 v53 1 fun a=>j3 v1 v2 v5 v8 v51 v52 a h
theorem afy (J3:Q1):lo lY (vw (jO iE gL iB gO) J3)=vZ n iE gL iB gO (kap ii k0) (lo lY J3):=by delta vw vZ; kernel_rfl
def Hn (J3:Q1):Q1:=(gZ cf jA NL (cJ p54 (gZ cf jA MD (gZ cf jA RW (cJ p59 (gZ cf jA RA (kJ lY (vw cf J3))) (kJ lY (vw cf J3))))) (kJ Gw (Aq cf k0))))
def vf (n:Nat) (iE:ah) (gL:ak) (iB:af) (gO:az) (k:ab) (j3:c0) (v1:Int) (v2:AV) (v5:AV) (v8:Int) (v51:AV) (v52:Int) (v53:Int) (h:Heap):aa:=ifB (ltF v53 v52) (eld 8 h v51 v53 8 true fun a b=>lG h (.cells [.nilslice,(.int .i64 0),(.int .i64 0),(.int .i64 0),(.int .i64 0),(.int .i64 0),(.int .i64 0),(.int .i64 0)] true 0) fun c d=>jf d (.ptr c 0) 8 b fun e=>jy .i64 7 e (.ptr c 0) fun f g=>gO g 1 1024 e fun i l=>ifB i (jy .i64 7 l (.ptr c 0) fun m o=>la .i64 v8 o fun p=>vZ n iE gL iB gO k j3 v1 v2 v5 p v51 v52 v53 l) (vZ n iE gL iB gO k j3 v1 v2 v5 v8 v51 v52 v53 l)) (vN n iE gL iB gO k v1 v2 v5 v8 h)
def GB:Nat→Q1:=lpS (Hn cf k0)
def vG (n:Nat) (iE:ah) (gL:ak) (iB:af) (gO:az) (k:ab):Nat→c0:=lpF lY (vf n iE gL iB gO k)
theorem agl (k:ab) (m:Nat):vG n iE gL iB gO k (m+1)=vf n iE gL iB gO k (vG n iE gL iB gO k m):=rfl
theorem afp (m:Nat):lo lY (GB (jO iE gL iB gO) k0 m)=vG n iE gL iB gO (kap ii k0) m:=mQ (fun J3=>(by obtain ⟨J2,u2⟩:=exi (Aq (jO iE gL iB gO) k0); obtain ⟨J4,u4⟩:=exi (vw (jO iE gL iB gO) J3); delta Hn vf; rw [← afm,u2, ← afy,u4]; kernel_rfl:lo lY (Hn (jO iE gL iB gO) k0 J3)=vf n iE gL iB gO (kap ii k0) (lo lY J3))) m
def AH:Q1:=(gZ cf jA qO (gZ cf jA Mr (kJ lY (GB cf k0 n))))
def AD (n:Nat) (iE:ah) (gL:ak) (iB:af) (gO:az) (k:ab) (v1:Int) (v2:AV) (v5:AV) (h:Heap):aa:=fld 16 h v2 1 false fun a b=>la .i64 v1 1 fun c=>slK (.sl 8) b none (some (.int .i64 c)) none fun d=>jC d fun e=>vG n iE gL iB gO k n v1 v2 v5 0 d e 0 h
theorem agc:lo Ho (AH n (jO iE gL iB gO) k0)=AD n iE gL iB gO (kap ii k0):=by obtain ⟨J3,u3⟩:=exi (GB (jO iE gL iB gO) k0 n); delta AH AD; rw [← afp,u3]; kernel_rfl
def Hq (J6:Q1):Q1:=(gZ cf jA Pq (cJ p41 (gZ cf jA Nt (gZ cf jA Nr (cJ p45 (gZ cf jA i9 (jk ii k0)) (gZ cf jA O8 (kJ pX J6))))) (kJ Ho (AH n cf k0))))
def vx (n:Nat) (iE:ah) (gL:ak) (iB:af) (gO:az) (k:ab) (j6:SG) (v1:Int) (v2:AV) (v5:AV) (v39:AV) (v40:Int) (h:Heap):aa:=ifB (ltF v40 3) (aeA 1 3 false v39 v40 fun a=>D9 .i64 a fun b=>gO b 1 4096 h fun c d=>ifB (jK c) (k false d) (la .i64 v40 1 fun e=>j6 v1 v2 v5 v39 e d)) (AD n iE gL iB gO k v1 v2 v5 h)
def GL:Nat→Q1:=lpS (Hq n cf k0)
def Ak (n:Nat) (iE:ah) (gL:ak) (iB:af) (gO:az) (k:ab):Nat→SG:=lpF pX (vx n iE gL iB gO k)
theorem afW (k:ab) (m:Nat):Ak n iE gL iB gO k (m+1)=vx n iE gL iB gO k (Ak n iE gL iB gO k m):=rfl
theorem afM (m:Nat):lo pX (GL n (jO iE gL iB gO) k0 m)=Ak n iE gL iB gO (kap ii k0) m:=mQ (fun J6=>(by obtain ⟨J5,u5⟩:=exi (AH n (jO iE gL iB gO) k0); delta Hq vx; rw [← agc,u5]; kernel_rfl:lo pX (Hq n (jO iE gL iB gO) k0 J6)=vx n iE gL iB gO (kap ii k0) (lo pX J6))) m
def zY:Q1:=(cJ p32 (gZ cf jA i9 (jk ii k0)) (gZ cf jA Nq (kJ pX (GL n cf k0 n))))
def vQ (n:Nat) (iE:ah) (gL:ak) (iB:af) (gO:az) (k:ab) (v1:Int) (v2:AV) (v5:AV) (v32:Bool) (h:Heap):aa:=ifB v32 (k false h) (jy .i64 4 h v5 fun a b=>jy .i64 5 h v5 fun c d=>jy .i64 6 h v5 fun e f=>kM [(.int .i64 0),(.int .i64 0),(.int .i64 0)] [(0,1,(.int .i64 b)),(1,1,(.int .i64 d)),(2,1,(.int .i64 f))] fun g=>Ak n iE gL iB gO k n v1 v2 v5 g 0 h)
theorem ags:lo GI (zY n (jO iE gL iB gO) k0)=vQ n iE gL iB gO (kap ii k0):=by obtain ⟨J6,u6⟩:=exi (GL n (jO iE gL iB gO) k0 n); delta zY vQ; rw [← afM,u6]; kernel_rfl
def Aw:Q1:=(gZ cf jA Pz (kJ GI (zY n cf k0)))
def vM (n:Nat) (iE:ah) (gL:ak) (iB:af) (gO:az) (k:ab) (v1:Int) (v2:AV) (v5:AV) (v26:Bool) (h:Heap):aa:=ifB v26 (vQ n iE gL iB gO k v1 v2 v5 true h) (faK 3 v5 fun a=>ldI .i64 h a fun b=>gO b 4 4096 h fun c d=>vQ n iE gL iB gO k v1 v2 v5 (jK c) d)
theorem af9:lo Gy (Aw n (jO iE gL iB gO) k0)=vM n iE gL iB gO (kap ii k0):=by obtain ⟨J8,u8⟩:=exi (zY n (jO iE gL iB gO) k0); delta Aw vM; rw [← ags,u8]; kernel_rfl
def XB:Q1:=(gZ cf jA pO (gZ cf jA PJ (gZ cf jA Ns (kJ Gy (Aw n cf k0)))))
def Fc (n:Nat) (iE:ah) (gL:ak) (iB:af) (gO:az) (k:ab) (a0:AV) (a1:Int) (h:Heap):aa:=qR h a0 fun a b=>fld 16 b (.ptr a 0) 1 false fun c d=>eld 8 b d a1 8 true fun e f=>lG b (.cells [.nilslice,(.int .i64 0),(.int .i64 0),(.int .i64 0),(.int .i64 0),(.int .i64 0),(.int .i64 0),(.int .i64 0)] true 0) fun g i=>jf i (.ptr g 0) 8 f fun l=>jy .i64 1 l (.ptr g 0) fun m o=>gO o 0 3 l fun p q=>ifB (jK p) (vM n iE gL iB gO k a1 (.ptr a 0) (.ptr g 0) true q) (faK 2 (.ptr g 0) fun r=>ldI .i64 q r fun s=>gO s 2 4096 q fun t u=>vM n iE gL iB gO k a1 (.ptr a 0) (.ptr g 0) (jK t) u)
def Mi (n:Nat) (iE:ah) (gL:ak) (iB:af) (gO:az) (a0:AV) (a1:Int) (h:Heap) (k:ab):aa:=Fc n iE gL iB gO k a0 a1 h
theorem ajF:DZ cf jA n XG ii k0=XB n cf k0:=by funext s; kernel_rfl
theorem ajx:lo gX (DZ (jO iE gL iB gO) jA n XG ii k0)=cmp gX (Mi n iE gL iB gO) (kap ii k0):=(congrArg (lo gX) (ajF n (jO iE gL iB gO) k0)).trans (show _=Fc n iE gL iB gO (kap ii k0) by obtain ⟨J7,u7⟩:=exi (Aw n (jO iE gL iB gO) k0); delta XB Fc; rw [← af9,u7]; kernel_rfl)
end
def dK (n:Nat):ad:=Mi n (dF n) (bV n) (dn n) (bZ n)
abbrev T8 (g:ah):Wr:=wrT gX gQ g
def aal (nh:ad) (nR:ad):bf:=lC [(WT,Vr nh),(Yf,Ya nR)]
section
variable (nh:ad) (nR:ad) (k0:Q0)
def aeN:Q1:=(gZ cf uM um (gZ cf uM YY (cJ p5 (gZ cf uM YF (jk gQ k0)) (gZ cf uM Ys (cJ p10 (gZ cf uM XZ (jk gQ k0)) (gZ cf uM jj (jk gQ k0)))))))
def Lo (n:Nat) (nh:ad) (nR:ad) (k:am) (a0:AV) (a1:Int) (h:Heap):aa:=qR h a0 fun a b=>jg b (.ptr a 0) 17 true fun c=>nh c a1 b fun d e=>ifB (jK d) (k 110 e) (jg e (.ptr a 0) 17 true fun f=>nR f a1 e fun g i=>ifB (jK g) (k 111 i) (k 0 i))
def V2 (n:Nat) (nh:ad) (nR:ad) (a0:AV) (a1:Int) (h:Heap) (k:am):aa:=Lo n nh nR k a0 a1 h
theorem aok:DZ cf uM n aeW gQ k0=aeN cf k0:=by funext s; kernel_rfl
theorem aos:lo gX (DZ (aal nh nR) uM n aeW gQ k0)=cmp gX (V2 n nh nR) (kap gQ k0):=(congrArg (lo gX) (aok n (aal nh nR) k0)).trans (show _=Lo n nh nR (kap gQ k0) by delta aeN Lo; kernel_rfl)
end
def cM (n:Nat):ah:=V2 n (dE n) (dK n)
abbrev L8 (g:az):Wr:=wrT mN hO g
def C9:bf:=lC []
section
variable (k0:Q0)
def AJ:Q1:=(gZ cf lF rH (jk hO k0))
def wc (n:Nat) (k:ab) (v14:Bool) (h:Heap):aa:=k v14 h
theorem afC:lo l0 (AJ C9 k0)=wc n (kap hO k0):=by delta AJ wc; kernel_rfl
def XC:Q1:=(gZ cf lF iZ (gZ cf lF rz (kJ l0 (AJ cf k0))))
def Fm (n:Nat) (k:ab) (a0:Int) (a1:Int) (a2:Int) (h:Heap):aa:=ifB (jK (ltF a0 a1)) (wc n k (jK (ltF a2 a0)) h) (wc n k false h)
def LA (n:Nat) (a0:Int) (a1:Int) (a2:Int) (h:Heap) (k:ab):aa:=Fm n k a0 a1 a2 h
theorem ajD:DZ cf lF n YS hO k0=XC cf k0:=by funext s; kernel_rfl
theorem aj1:lo mN (DZ C9 lF n YS hO k0)=cmp mN (LA n) (kap hO k0):=(congrArg (lo mN) (ajD n C9 k0)).trans (show _=Fm n (kap hO k0) by obtain ⟨J0,u0⟩:=exi (AJ C9 k0); delta XC Fm; rw [← afC,u0]; kernel_rfl)
end
def cL (n:Nat):az:=LA n
abbrev bR:=AV→Int→Int→Heap→(Int→Int→Heap→aa)→aa
abbrev aX:=Int→Int→Heap→aa
abbrev Yx (g:bR):Wr:=wrT qB pk g
def Dn (gU:af) (iz:az):bf:=lC [(Cv,Dh gU),(LX,L8 iz)]
section
variable (gU:af) (iz:az) (k0:Q0)
def Ax:Q1:=(cJ p21 (gZ cf pq Re (jk pk k0)) (gZ cf pq SO (jk pk k0)))
def vL (n:Nat) (gU:af) (iz:az) (k:aX) (v1:Int) (v2:Int) (v3:AV) (v21:Bool) (h:Heap):aa:=ifB v21 (k 0 2 h) (la .i64 v1 v2 fun a=>uq .u64 a fun b=>jy .u64 4 h v3 fun c d=>A7 .u64 b d fun e=>k e 0 h)
theorem agm:lo Hl (Ax (Dn gU iz) k0)=vL n gU iz (kap pk k0):=by delta Ax vL; kernel_rfl
def X5:Q1:=(gZ cf pq SM (gZ cf pq S5 (gZ cf pq RT (cJ p12 (gZ cf pq Sl (jk pk k0)) (gZ cf pq R1 (kJ Hl (Ax cf k0)))))))
def Fo (n:Nat) (gU:af) (iz:az) (k:aX) (a0:AV) (a1:Int) (a2:Int) (h:Heap):aa:=qR h a0 fun a b=>jg b (.ptr a 0) 6 true fun c=>gU c b fun d e=>ifB (jK (eqF d 0)) (k 0 d e) (iz a1 0 65536 e fun f g=>ifB (jK f) (vL n gU iz k a1 a2 (.ptr a 0) true g) (iz a2 0 64 g fun i l=>vL n gU iz k a1 a2 (.ptr a 0) (jK i) l))
def Mo (n:Nat) (gU:af) (iz:az) (a0:AV) (a1:Int) (a2:Int) (h:Heap) (k:aX):aa:=Fo n gU iz k a0 a1 a2 h
theorem ajU:DZ cf pq n Yw pk k0=X5 cf k0:=by funext s; kernel_rfl
theorem ako:lo qB (DZ (Dn gU iz) pq n Yw pk k0)=cmp qB (Mo n gU iz) (kap pk k0):=(congrArg (lo qB) (ajU n (Dn gU iz) k0)).trans (show _=Fo n gU iz (kap pk k0) by obtain ⟨J0,u0⟩:=exi (Ax (Dn gU iz) k0); delta X5 Fo; rw [← agm,u0]; kernel_rfl)
end
def de (n:Nat):bR:=Mo n (b7 n) (cL n)
abbrev aS:=AV→AV→Heap→(Int→Heap→aa)→aa
abbrev Z7 (g:aS):Wr:=wrT i5 gQ g
def lH (gU:af) (iz:az):bf:=lC [(Cv,Dh gU),(LX,L8 iz)]
abbrev cC:Type:=AV→Bool→Int→Heap→aa
section
variable (gU:af) (iz:az) (k0:Q0)
def B3:Q1:=(cJ p44 (gZ cf lq T3 (jk gQ k0)) (gZ cf lq jj (jk gQ k0)))
def wT (n:Nat) (gU:af) (iz:az) (k:am) (v44:Bool) (h:Heap):aa:=ifB v44 (k 2 h) (k 0 h)
theorem ahr:lo qU (B3 (lH gU iz) k0)=wT n gU iz (kap gQ k0):=by delta B3 wT; kernel_rfl
def Dm:Q1:=(gZ cf lq Vs (kJ qU (B3 cf k0)))
def xG (n:Nat) (gU:af) (iz:az) (k:am) (v3:AV) (v38:Bool) (h:Heap):aa:=ifB v38 (wT n gU iz k true h) (faK 3 v3 fun a=>ldI .i64 h a fun b=>iz b 1 4096 h fun c d=>wT n gU iz k (jK c) d)
theorem aiu:lo I7 (Dm (lH gU iz) k0)=xG n gU iz (kap gQ k0):=by obtain ⟨J2,u2⟩:=exi (B3 (lH gU iz) k0); delta Dm xG; rw [← ahr,u2]; kernel_rfl
def Cr:Q1:=(gZ cf lq UQ (kJ I7 (Dm cf k0)))
def wL (n:Nat) (gU:af) (iz:az) (k:am) (v3:AV) (v32:Bool) (h:Heap):aa:=ifB v32 (xG n gU iz k v3 true h) (faK 2 v3 fun a=>ldI .i64 h a fun b=>iz b 1 5120 h fun c d=>xG n gU iz k v3 (jK c) d)
theorem ajk:lo IK (Cr (lH gU iz) k0)=wL n gU iz (kap gQ k0):=by obtain ⟨J1,u1⟩:=exi (Dm (lH gU iz) k0); delta Cr wL; rw [← aiu,u1]; kernel_rfl
def CT:Q1:=(gZ cf lq Vp (kJ IK (Cr cf k0)))
def xy (n:Nat) (gU:af) (iz:az) (k:am) (v3:AV) (v6:Bool) (h:Heap):aa:=ifB (jK v6) (wL n gU iz k v3 true h) (faK 1 v3 fun a=>ldI .i64 h a fun b=>iz b 2 4096 h fun c d=>wL n gU iz k v3 (jK c) d)
theorem aiQ:lo IR (CT (lH gU iz) k0)=xy n gU iz (kap gQ k0):=by obtain ⟨J0,u0⟩:=exi (Cr (lH gU iz) k0); delta CT xy; rw [← ajk,u0]; kernel_rfl
def Dp (J4:Q1):Q1:=(gZ cf lq Vc (gZ cf lq VI (kJ pD J4)))
def xE (n:Nat) (gU:af) (iz:az) (k:am) (j4:cC) (v3:AV) (v13:Int) (v23:Bool) (h:Heap):aa:=la .i64 v13 1 fun a=>j4 v3 v23 a h
theorem aii (J4:Q1):lo Je (Dp (lH gU iz) J4)=xE n gU iz (kap gQ k0) (lo pD J4):=by delta Dp xE; kernel_rfl
def IH (J4:Q1):Q1:=(gZ cf lq VH (cJ p14 (gZ cf lq V6 (gZ cf lq UU (kJ Je (Dp cf J4)))) (kJ IR (CT cf k0))))
def w9 (n:Nat) (gU:af) (iz:az) (k:am) (j4:cC) (v3:AV) (v6:Bool) (v13:Int) (h:Heap):aa:=ifB (ltF v13 4) (ifB v6 (xE n gU iz k j4 v3 v13 true h) (faK 0 v3 fun a=>ldI .i64 h a fun b=>shlK .i64 1 v13 fun c=>xE n gU iz k j4 v3 v13 (eqF b c) h)) (xy n gU iz k v3 v6 h)
def ID:Nat→Q1:=lpS (IH cf k0)
def xg (n:Nat) (gU:af) (iz:az) (k:am):Nat→cC:=lpF pD (w9 n gU iz k)
theorem ahT (k:am) (m:Nat):xg n gU iz k (m+1)=w9 n gU iz k (xg n gU iz k m):=rfl
theorem agV (m:Nat):lo pD (ID (lH gU iz) k0 m)=xg n gU iz (kap gQ k0) m:=mQ (fun J4=>(by obtain ⟨J3,u3⟩:=exi (CT (lH gU iz) k0); obtain ⟨J5,u5⟩:=exi (Dp (lH gU iz) J4); delta IH w9; rw [← aiQ,u3, ← aii,u5]; kernel_rfl:lo pD (IH (lH gU iz) k0 J4)=w9 n gU iz (kap gQ k0) (lo pD J4))) m
def abv:Q1:=(gZ cf lq SZ (gZ cf lq Q7 (gZ cf lq RJ (cJ p11 (gZ cf lq Sb (jk gQ k0)) (gZ cf lq iZ (gZ cf lq z7 (kJ pD (ID cf k0 n))))))))
def H2 (n:Nat) (gU:af) (iz:az) (k:am) (a0:AV) (a1:AV) (h:Heap):aa:=qR h a0 fun a b=>qR b a1 fun c d=>jg d (.ptr a 0) 6 true fun e=>gU e d fun f g=>ifB (jK (eqF f 0)) (k f g) (xg n gU iz k n (.ptr c 0) false 0 g)
def PL (n:Nat) (gU:af) (iz:az) (a0:AV) (a1:AV) (h:Heap) (k:am):aa:=H2 n gU iz k a0 a1 h
theorem alx:DZ cf lq n abQ gQ k0=abv n cf k0:=by funext s; kernel_rfl
theorem amE:lo i5 (DZ (lH gU iz) lq n abQ gQ k0)=cmp i5 (PL n gU iz) (kap gQ k0):=(congrArg (lo i5) (alx n (lH gU iz) k0)).trans (show _=H2 n gU iz (kap gQ k0) by obtain ⟨J4,u4⟩:=exi (ID (lH gU iz) k0 n); delta abv H2; rw [← agV,u4]; kernel_rfl)
end
def du (n:Nat):aS:=PL n (b7 n) (cL n)
abbrev bo:=AV→AV→Heap→(AV→Heap→aa)→aa
abbrev aL:=AV→Heap→aa
abbrev YB (g:bo):Wr:=wrT i5 wq g
def VX:bf:=lC []
section
variable (k0:Q0)
def Yp:Q1:=(gZ cf nj RF (gZ cf nj QJ (gZ cf nj Tm (gZ cf nj Rj (gZ cf nj SB (gZ cf nj SN (gZ cf nj Rd (gZ cf nj Rz (gZ cf nj Su (jk wq k0))))))))))
def FB (n:Nat) (k:aL) (a0:AV) (a1:AV) (h:Heap):aa:=qR h a0 fun a b=>qR b a1 fun c d=>lG d (.cells [.nilfunc,.nilfunc,.nilfunc,.nilfunc,.nilfunc,.nilfunc,.nilfunc,.nilfunc,.nilfunc,.nilfunc,.nilfunc] true 0) fun e f=>jy .u64 2 f (.ptr a 0) fun g i=>lG f (.cells [(.int .u64 0)] true 0) fun l m=>jf m (.ptr l 0) 1 (.int .u64 i) fun o=>jy .u64 4 o (.ptr a 0) fun p q=>ldI .u64 o (.ptr l 0) fun r=>A7 .u64 2 r fun s=>la .u64 q s fun t=>lG o (.cells [(.int .u64 0)] true 0) fun u w=>jf w (.ptr u 0) 1 (.int .u64 t) fun x=>jy .i64 2 x (.ptr c 0) fun y z=>uq .u64 z fun A=>ldI .u64 x (.ptr u 0) fun B=>A7 .u64 A B fun C=>lG x (.cells [(.int .u64 0)] true 0) fun E F=>jf F (.ptr E 0) 1 (.int .u64 C) fun G=>jy .i64 1 G (.ptr c 0) fun I K=>uq .u64 K fun L=>A7 .u64 2 L fun M=>la .u64 M 1 fun N=>jy .u64 4 G (.ptr a 0) fun O P=>A7 .u64 N P fun Q=>jy .u64 5 G (.ptr a 0) fun R S=>la .u64 Q S fun T=>lG G (.cells [(.int .u64 0)] true 0) fun U V=>jf V (.ptr U 0) 1 (.int .u64 T) fun X=>lG X (.cells [.nilfunc] true 0) fun Y Z=>jf Z (.ptr Y 0) 1 (.func 84 [] [(.ptr l 0)]) fun qa=>lG qa (.cells [.nilfunc] true 0) fun qb qc=>jf qc (.ptr qb 0) 1 (.func 85 [] [(.ptr u 0)]) fun qd=>jg qd (.ptr Y 0) 1 false fun qe=>jg qd (.ptr qb 0) 1 false fun qf=>
 kM [.nilfunc,.nilfunc,.nilfunc,.nilfunc,.nilfunc,.nilfunc,.nilfunc,.nilfunc,.nilfunc,.nilfunc,.nilfunc] [(0,1,(.func 86 [] [])),(1,1,(.func 87 [] [(.ptr l 0)])),(2,1,(.func 88 [] [(.ptr E 0),(.ptr l 0)])),(3,1,(.func 89 [] [(.ptr l 0),(.ptr c 0),(.ptr E 0)])),(4,1,qe),(5,1,qf),(6,1,(.func 90 [] [(.ptr a 0),(.ptr l 0)])),(7,1,(.func 91 [] [(.ptr Y 0),(.ptr qb 0)])),(8,1,(.func 92 [] [(.ptr l 0),(.ptr a 0),(.ptr U 0)])),(9,1,(.func 93 [] [(.ptr l 0),(.ptr a 0),(.ptr U 0)])),(10,1,(.func 86 [] []))] fun qg=>jf qd (.ptr e 0) 11 qg fun qi=>jg qi (.ptr e 0) 11 true fun ql=>k ql qi
def LD (n:Nat) (a0:AV) (a1:AV) (h:Heap) (k:aL):aa:=FB n k a0 a1 h
theorem ajT:DZ cf nj n YJ wq k0=Yp cf k0:=by funext s; kernel_rfl
theorem akf:lo i5 (DZ VX nj n YJ wq k0)=cmp i5 (LD n) (kap wq k0):=(congrArg (lo i5) (ajT n VX k0)).trans (show _=FB n (kap wq k0) by delta Yp FB; kernel_rfl)
end
def dc (n:Nat):bo:=LD n
abbrev EU (g:af):Wr:=wrT ip jW g
def Kz:bf:=lC []
section
variable (k0:Q0)
def N1:Q1:=(gZ cf ly oW (gZ cf ly IG (jk jW k0)))
def yx (n:Nat) (k:am) (a0:AV) (h:Heap):aa:=ldI .u64 h a0 fun a=>A7 .u64 113 a fun b=>k b h
def Ef (n:Nat) (a0:AV) (h:Heap) (k:am):aa:=yx n k a0 h
theorem adg:DZ cf ly n PD jW k0=N1 cf k0:=by funext s; kernel_rfl
theorem act:lo ip (DZ Kz ly n PD jW k0)=cmp ip (Ef n) (kap jW k0):=(congrArg (lo ip) (adg n Kz k0)).trans (show _=yx n (kap jW k0) by delta N1 yx; kernel_rfl)
end
def bT (n:Nat):af:=Ef n
abbrev Ec (g:af):Wr:=wrT ip jW g
def K1:bf:=lC []
section
variable (k0:Q0)
def Og:Q1:=(gZ cf ly oW (gZ cf ly Jk (jk jW k0)))
def yT (n:Nat) (k:am) (a0:AV) (h:Heap):aa:=ldI .u64 h a0 fun a=>A7 .u64 64 a fun b=>k b h
def ET (n:Nat) (a0:AV) (h:Heap) (k:am):aa:=yT n k a0 h
theorem adf:DZ cf ly n Pr jW k0=Og cf k0:=by funext s; kernel_rfl
theorem acu:lo ip (DZ K1 ly n Pr jW k0)=cmp ip (ET n) (kap jW k0):=(congrArg (lo ip) (adf n K1 k0)).trans (show _=yT n (kap jW k0) by delta Og yT; kernel_rfl)
end
def bS (n:Nat):af:=ET n
abbrev bP:=Heap→(Int→Heap→aa)→aa
abbrev E0 (g:bP):Wr:=wrT iH qG g
def Kq:bf:=lC []
section
variable (k0:Q0)
def PE:Q1:=(gZ cf xW uU (gZ cf xW uU (jk qG k0)))
def ER (n:Nat) (k:am) (h:Heap):aa:=k 0 h
def Nh (n:Nat) (h:Heap) (k:am):aa:=ER n k h
theorem acb:DZ cf xW n N4 qG k0=PE cf k0:=by funext s; kernel_rfl
theorem adb:lo iH (DZ Kq xW n N4 qG k0)=cmp iH (Nh n) (kap qG k0):=(congrArg (lo iH) (acb n Kq k0)).trans (show _=ER n (kap qG k0) by delta PE ER; kernel_rfl)
end
def cw (n:Nat):bP:=Nh n
abbrev D6 (g:af):Wr:=wrT ip jW g
def Ki:bf:=lC []
section
variable (k0:Q0)
def N9:Q1:=(gZ cf ly oW (gZ cf ly Iw (jk jW k0)))
def x4 (n:Nat) (k:am) (a0:AV) (h:Heap):aa:=ldI .u64 h a0 fun a=>A7 .u64 17 a fun b=>k b h
def Ez (n:Nat) (a0:AV) (h:Heap) (k:am):aa:=x4 n k a0 h
theorem acx:DZ cf ly n MB jW k0=N9 cf k0:=by funext s; kernel_rfl
theorem adn:lo ip (DZ Ki ly n MB jW k0)=cmp ip (Ez n) (kap jW k0):=(congrArg (lo ip) (acx n Ki k0)).trans (show _=x4 n (kap jW k0) by delta N9 x4; kernel_rfl)
end
def ci (n:Nat):af:=Ez n
abbrev Em (g:aS):Wr:=wrT i5 jT g
def Kt:bf:=lC []
section
variable (k0:Q0)
def Oc:Q1:=(gZ cf xV ph (gZ cf xV IE (jk jT k0)))
def xR (n:Nat) (k:am) (a0:AV) (a1:AV) (h:Heap):aa:=ldI .u64 h a0 fun a=>ldI .u64 h a1 fun b=>la .u64 a b fun c=>k c h
def E2 (n:Nat) (a0:AV) (a1:AV) (h:Heap) (k:am):aa:=xR n k a0 a1 h
theorem ac1:DZ cf xV n Nm jT k0=Oc cf k0:=by funext s; kernel_rfl
theorem adh:lo i5 (DZ Kt xV n Nm jT k0)=cmp i5 (E2 n) (kap jT k0):=(congrArg (lo i5) (ac1 n Kt k0)).trans (show _=xR n (kap jT k0) by delta Oc xR; kernel_rfl)
end
def cb (n:Nat):aS:=E2 n
abbrev aV:=AV→AV→AV→Heap→(Int→Heap→aa)→aa
abbrev EK (g:aV):Wr:=wrT kc jV g
def Kv:bf:=lC []
section
variable (k0:Q0)
def MQ:Q1:=(gZ cf x8 pd (gZ cf x8 Jm (jk jV k0)))
def yp (n:Nat) (k:am) (a0:AV) (a1:AV) (a2:AV) (h:Heap):aa:=ldI .u64 h a0 fun a=>jy .i64 3 h a1 fun b c=>uq .u64 c fun d=>A7 .u64 16 d fun e=>ldI .u64 h a0 fun f=>A7 .u64 e f fun g=>la .u64 a g fun i=>ldI .u64 h a2 fun l=>la .u64 i l fun m=>k m h
def En (n:Nat) (a0:AV) (a1:AV) (a2:AV) (h:Heap) (k:am):aa:=yp n k a0 a1 a2 h
theorem adO:DZ cf x8 n Ou jV k0=MQ cf k0:=by funext s; kernel_rfl
theorem ac0:lo kc (DZ Kv x8 n Ou jV k0)=cmp kc (En n) (kap jV k0):=(congrArg (lo kc) (adO n Kv k0)).trans (show _=yp n (kap jV k0) by delta MQ yp; kernel_rfl)
end
def cm (n:Nat):aV:=En n
abbrev EA (g:aS):Wr:=wrT i5 jT g
def Ls:bf:=lC []
section
variable (k0:Q0)
def Oz:Q1:=(gZ cf yV ph (gZ cf yV JD (jk jT k0)))
def xU (n:Nat) (k:am) (a0:AV) (a1:AV) (h:Heap):aa:=jy .u64 4 h a0 fun a b=>ldI .u64 h a1 fun c=>la .u64 b c fun d=>A7 .u64 64 d fun e=>ldI .u64 h a1 fun f=>la .u64 e f fun g=>k g h
def EZ (n:Nat) (a0:AV) (a1:AV) (h:Heap) (k:am):aa:=xU n k a0 a1 h
theorem acY:DZ cf yV n M9 jT k0=Oz cf k0:=by funext s; kernel_rfl
theorem acN:lo i5 (DZ Ls yV n M9 jT k0)=cmp i5 (EZ n) (kap jT k0):=(congrArg (lo i5) (acY n Ls k0)).trans (show _=xU n (kap jT k0) by delta Oz xU; kernel_rfl)
end
def b9 (n:Nat):aS:=EZ n
abbrev EN (g:aV):Wr:=wrT kc jV g
def Lf:bf:=lC []
section
variable (k0:Q0)
def OP:Q1:=(gZ cf yd pd (gZ cf yd JL (jk jV k0)))
def yC (n:Nat) (k:am) (a0:AV) (a1:AV) (a2:AV) (h:Heap):aa:=ldI .u64 h a0 fun a=>A7 .u64 26 a fun b=>jy .u64 3 h a1 fun c d=>la .u64 b d fun e=>ldI .u64 h a2 fun f=>la .u64 e f fun g=>jy .u64 5 h a1 fun i l=>la .u64 g l fun m=>k m h
def Ev (n:Nat) (a0:AV) (a1:AV) (a2:AV) (h:Heap) (k:am):aa:=yC n k a0 a1 a2 h
theorem adq:DZ cf yd n OY jV k0=OP cf k0:=by funext s; kernel_rfl
theorem adr:lo kc (DZ Lf yd n OY jV k0)=cmp kc (Ev n) (kap jV k0):=(congrArg (lo kc) (adq n Lf k0)).trans (show _=yC n (kap jV k0) by delta OP yC; kernel_rfl)
end
def ck (n:Nat):aV:=Ev n
abbrev CN (g:aV):Wr:=wrT kc jV g
def JM:bf:=lC []
section
variable (k0:Q0)
def KK:Q1:=(gZ cf wC pd (gZ cf wC HD (jk jV k0)))
def wE (n:Nat) (k:am) (a0:AV) (a1:AV) (a2:AV) (h:Heap):aa:=ldI .u64 h a0 fun a=>A7 .u64 64 a fun b=>jy .u64 3 h a1 fun c d=>A7 .u64 2 d fun e=>la .u64 b e fun f=>ldI .u64 h a2 fun g=>A7 .u64 2 g fun i=>la .u64 f i fun l=>jy .u64 5 h a1 fun m o=>la .u64 l o fun p=>k p h
def C6 (n:Nat) (a0:AV) (a1:AV) (a2:AV) (h:Heap) (k:am):aa:=wE n k a0 a1 a2 h
theorem ZP:DZ cf wC n KA jV k0=KK cf k0:=by funext s; kernel_rfl
theorem ZY:lo kc (DZ JM wC n KA jV k0)=cmp kc (C6 n) (kap jV k0):=(congrArg (lo kc) (ZP n JM k0)).trans (show _=wE n (kap jV k0) by delta KK wE; kernel_rfl)
end
def bU (n:Nat):aV:=C6 n
abbrev Nz (g:aS):Wr:=wrT i5 jT g
def pW (iV:af) (iU:af) (iT:bP) (iQ:af) (iS:aS) (iP:aV) (iO:aS) (iR:aV) (iM:aV):bf:=lC [(mZ,EU iV),(mT,Ec iU),(tI,E0 iT),(yh,D6 iQ),(xZ,Em iS),(yf,EK iP),(yk,EA iO),(yu,EN iR),(wH,CN iM)]
section
variable (iV:af) (iU:af) (iT:bP) (iQ:af) (iS:aS) (iP:aV) (iO:aS) (iR:aV) (iM:aV) (k0:Q0)
def Py:Q1:=(gZ cf yA ph (gZ cf yA I5 (jk jT k0)))
def yw (n:Nat) (iV:af) (iU:af) (iT:bP) (iQ:af) (iS:aS) (iP:aV) (iO:aS) (iR:aV) (iM:aV) (k:am) (a0:AV) (a1:AV) (h:Heap):aa:=jg h a0 1 false fun a=>pW iV iU iT iQ iS iP iO iR iM a [] (h.shut true) fun b c=>D9 .u64 b fun d=>jg (c.back h.ro) a1 1 false fun e=>pW iV iU iT iQ iS iP iO iR iM e [] (c.back h.ro) fun f g=>D9 .u64 f fun i=>tg true [(.int .u64 d),(.int .u64 i)] fun l=>D9 .u64 l fun m=>k m g
def EW (n:Nat) (iV:af) (iU:af) (iT:bP) (iQ:af) (iS:aS) (iP:aV) (iO:aS) (iR:aV) (iM:aV) (a0:AV) (a1:AV) (h:Heap) (k:am):aa:=yw n iV iU iT iQ iS iP iO iR iM k a0 a1 h
theorem adl:DZ cf yA n Ot jT k0=Py cf k0:=by funext s; kernel_rfl
theorem acf:lo i5 (DZ (pW iV iU iT iQ iS iP iO iR iM) yA n Ot jT k0)=cmp i5 (EW n iV iU iT iQ iS iP iO iR iM) (kap jT k0):=(congrArg (lo i5) (adl n (pW iV iU iT iQ iS iP iO iR iM) k0)).trans (show _=yw n iV iU iT iQ iS iP iO iR iM (kap jT k0) by delta Py yw; kernel_rfl)
end
def cI (n:Nat):aS:=EW n (bT n) (bS n) (cw n) (ci n) (cb n) (cm n) (b9 n) (ck n) (bU n)
abbrev cq:=AV→AV→Heap→(Int→Int→Heap→aa)→aa
abbrev ad1 (g:cq):Wr:=wrT i5 lU g
def qx (jJ:aS) (ju:bo) (iV:af) (iU:af) (iT:bP) (iQ:af) (iS:aS) (iP:aV) (iO:aS) (je:aS) (iR:aV) (iM:aV):bf:=lC [(abt,Z7 jJ),(Yz,YB ju),(mZ,EU iV),(mT,Ec iU),(tI,E0 iT),(yh,D6 iQ),(xZ,Em iS),(yf,EK iP),(yk,EA iO),(EX,Nz je),(yu,EN iR),(wH,CN iM)]
abbrev Y8:Type:=AV→AV→Int→AV→Int→Heap→aa
section
variable (jJ:aS) (ju:bo) (iV:af) (iU:af) (iT:bP) (iQ:af) (iS:aS) (iP:aV) (iO:aS) (je:aS) (iR:aV) (iM:aV) (k0:Q0)
def FR:Q1:=(gZ cf nE XO (jk lU k0))
def Fs (n:Nat) (jJ:aS) (ju:bo) (iV:af) (iU:af) (iT:bP) (iQ:af) (iS:aS) (iP:aV) (iO:aS) (je:aS) (iR:aV) (iM:aV) (k:aX) (v2:AV) (v3:AV) (v7:Int) (h:Heap):aa:=jy .i64 0 h v3 fun a b=>uq .u64 b fun c=>jy .u64 2 h v2 fun d e=>A7 .u64 c e fun f=>la .u64 f v7 fun g=>k g 0 h
theorem ajQ:lo Me (FR (qx jJ ju iV iU iT iQ iS iP iO je iR iM) k0)=Fs n jJ ju iV iU iT iQ iS iP iO je iR iM (kap lU k0):=by delta FR Fs; kernel_rfl
def Mh (J1:Q1):Q1:=(gZ cf nE Xt (cJ p20 (gZ cf nE YZ (gZ cf nE Xn (gZ cf nE Y0 (kJ sV J1)))) (kJ Me (FR cf k0))))
def zO (n:Nat) (jJ:aS) (ju:bo) (iV:af) (iU:af) (iT:bP) (iQ:af) (iS:aS) (iP:aV) (iO:aS) (je:aS) (iR:aV) (iM:aV) (k:aX) (j1:Y8) (v2:AV) (v3:AV) (v7:Int) (v18:AV) (v19:Int) (h:Heap):aa:=ifB (ltF v19 11) (aeA 1 11 false v18 v19 fun a=>qx jJ ju iV iU iT iQ iS iP iO je iR iM a [] h fun b c=>D9 .u64 b fun d=>tg true [(.int .u64 v7),(.int .u64 d)] fun e=>D9 .u64 e fun f=>la .i64 v19 1 fun g=>j1 v2 v3 f v18 g c) (Fs n jJ ju iV iU iT iQ iS iP iO je iR iM k v2 v3 v7 h)
def L0:Nat→Q1:=lpS (Mh cf k0)
def zu (n:Nat) (jJ:aS) (ju:bo) (iV:af) (iU:af) (iT:bP) (iQ:af) (iS:aS) (iP:aV) (iO:aS) (je:aS) (iR:aV) (iM:aV) (k:aX):Nat→Y8:=lpF sV (zO n jJ ju iV iU iT iQ iS iP iO je iR iM k)
theorem ajN (k:aX) (m:Nat):zu n jJ ju iV iU iT iQ iS iP iO je iR iM k (m+1)=zO n jJ ju iV iU iT iQ iS iP iO je iR iM k (zu n jJ ju iV iU iT iQ iS iP iO je iR iM k m):=rfl
theorem akj (m:Nat):lo sV (L0 (qx jJ ju iV iU iT iQ iS iP iO je iR iM) k0 m)=zu n jJ ju iV iU iT iQ iS iP iO je iR iM (kap lU k0) m:=mQ (fun J1=>(by obtain ⟨J0,u0⟩:=exi (FR (qx jJ ju iV iU iT iQ iS iP iO je iR iM) k0); delta Mh zO; rw [← ajQ,u0]; kernel_rfl:lo sV (Mh (qx jJ ju iV iU iT iQ iS iP iO je iR iM) k0 J1)=zO n jJ ju iV iU iT iQ iS iP iO je iR iM (kap lU k0) (lo sV J1))) m
def aew:Q1:=(gZ cf nE UE (gZ cf nE Xq (gZ cf nE Fg (cJ p14 (gZ cf nE YN (jk lU k0)) (gZ cf nE XT (gZ cf nE YA (kJ sV (L0 cf k0 n))))))))
def KB (n:Nat) (jJ:aS) (ju:bo) (iV:af) (iU:af) (iT:bP) (iQ:af) (iS:aS) (iP:aV) (iO:aS) (je:aS) (iR:aV) (iM:aV) (k:aX) (a0:AV) (a1:AV) (h:Heap):aa:=qR h a0 fun a b=>qR b a1 fun c d=>jg d (.ptr a 0) 6 true fun e=>jg d (.ptr c 0) 4 true fun f=>jJ e f d fun g i=>ifB (jK (eqF g 0)) (k 0 g i) (jg i (.ptr a 0) 6 true fun l=>jg i (.ptr c 0) 4 true fun m=>ju l m i fun o p=>zu n jJ ju iV iU iT iQ iS iP iO je iR iM k n (.ptr a 0) (.ptr c 0) 0 o 0 p)
def Vn (n:Nat) (jJ:aS) (ju:bo) (iV:af) (iU:af) (iT:bP) (iQ:af) (iS:aS) (iP:aV) (iO:aS) (je:aS) (iR:aV) (iM:aV) (a0:AV) (a1:AV) (h:Heap) (k:aX):aa:=KB n jJ ju iV iU iT iQ iS iP iO je iR iM k a0 a1 h
theorem am5:DZ cf nE n aeF lU k0=aew n cf k0:=by funext s; kernel_rfl
theorem anK:lo i5 (DZ (qx jJ ju iV iU iT iQ iS iP iO je iR iM) nE n aeF lU k0)=cmp i5 (Vn n jJ ju iV iU iT iQ iS iP iO je iR iM) (kap lU k0):=(congrArg (lo i5) (am5 n (qx jJ ju iV iU iT iQ iS iP iO je iR iM) k0)).trans (show _=KB n jJ ju iV iU iT iQ iS iP iO je iR iM (kap lU k0) by obtain ⟨J1,u1⟩:=exi (L0 (qx jJ ju iV iU iT iQ iS iP iO je iR iM) k0 n); delta aew KB; rw [← akj,u1]; kernel_rfl)
end
def dA (n:Nat):cq:=Vn n (du n) (dc n) (bT n) (bS n) (cw n) (ci n) (cb n) (cm n) (b9 n) (cI n) (ck n) (bU n)
abbrev bL:=AV→Int→Heap→(AV→Heap→aa)→aa
abbrev PN (g:bL):Wr:=wrT gX yi g
def YO:bf:=lC []
section
variable (k0:Q0)
def aa6:Q1:=(gZ cf ye Wz (gZ cf ye Uf (gZ cf ye T6 (gZ cf ye UL (jk yi k0)))))
def HF (n:Nat) (k:aL) (a0:AV) (a1:Int) (h:Heap):aa:=qR h a0 fun a b=>lG b (.cells [(.int .i64 0),(.int .i64 0),(.int .i64 0),(.int .i64 0)] true 0) fun c d=>fld 16 d (.ptr a 0) 1 false fun e f=>eld 8 d f a1 8 true fun g i=>lG d (.cells [.nilslice,(.int .i64 0),(.int .i64 0),(.int .i64 0),(.int .i64 0),(.int .i64 0),(.int .i64 0),(.int .i64 0)] true 0) fun l m=>jf m (.ptr l 0) 8 i fun o=>jy .i64 1 o (.ptr l 0) fun p q=>shlK .i64 1 q fun r=>jy .i64 2 o (.ptr l 0) fun s t=>jy .i64 2 o (.ptr l 0) fun u w=>jy .i64 7 o (.ptr l 0) fun x y=>la .i64 w y fun z=>PU .i64 z 1 fun A=>jy .i64 6 o (.ptr l 0) fun B C=>A7 .i64 16 C fun E=>tg false [(.int .i64 A),(.int .i64 E)] fun F=>D9 .i64 F fun G=>jy .i64 3 o (.ptr l 0) fun I K=>kM [(.int .i64 0),(.int .i64 0),(.int .i64 0),(.int .i64 0)] [(0,1,(.int .i64 r)),(1,1,(.int .i64 t)),(2,1,(.int .i64 G)),(3,1,(.int .i64 K))] fun L=>jf o (.ptr c 0) 4 L fun M=>jg M (.ptr c 0) 4 true fun N=>k N M
def PP (n:Nat) (a0:AV) (a1:Int) (h:Heap) (k:aL):aa:=HF n k a0 a1 h
theorem alz:DZ cf ye n Z8 yi k0=aa6 cf k0:=by funext s; kernel_rfl
theorem alN:lo gX (DZ YO ye n Z8 yi k0)=cmp gX (PP n) (kap yi k0):=(congrArg (lo gX) (alz n YO k0)).trans (show _=HF n (kap yi k0) by delta aa6 HF; kernel_rfl)
end
def cR (n:Nat):bL:=PP n
abbrev Y6 (g:ak):Wr:=wrT ip ir g
def jQ (gL:ak) (gU:af) (iq:ah) (iA:bR) (iK:cq) (iw:bL):bf:=lC [(CB,CI gL),(Cv,Dh gU),(VG,T8 iq),(YH,Yx iA),(ae0,ad1 iK),(P5,PN iw)]
section
variable (gL:ak) (gU:af) (iq:ah) (iA:bR) (iK:cq) (iw:bL) (k0:Q0)
def AQ:Q1:=(gZ cf kh Ao (jk ir k0))
def Ad (n:Nat) (gL:ak) (gU:af) (iq:ah) (iA:bR) (iK:cq) (iw:bL) (k:ab) (h:Heap):aa:=k true h
theorem af5:lo iH (AQ (jQ gL gU iq iA iK iw) k0)=Ad n gL gU iq iA iK iw (kap ir k0):=by delta AQ Ad; kernel_rfl
def rD (J1:Q1):Q1:=(gZ cf kh So (kJ lz J1))
def rG (n:Nat) (gL:ak) (gU:af) (iq:ah) (iA:bR) (iK:cq) (iw:bL) (k:ab) (j1:bK) (v1:AV) (v58:Int) (v59:Int) (h:Heap):aa:=la .i64 v59 1 fun a=>j1 v1 v58 a h
theorem SI (J1:Q1):lo lz (rD (jQ gL gU iq iA iK iw) J1)=rG n gL gU iq iA iK iw (kap ir k0) (lo lz J1):=by delta rD rG; kernel_rfl
def A1 (J1:Q1):Q1:=(cJ p82 (gZ cf kh lg (jk ir k0)) (kJ lz (rD cf J1)))
def uV (n:Nat) (gL:ak) (gU:af) (iq:ah) (iA:bR) (iK:cq) (iw:bL) (k:ab) (j1:bK) (v1:AV) (v58:Int) (v59:Int) (v82:Bool) (h:Heap):aa:=ifB v82 (k false h) (rG n gL gU iq iA iK iw k j1 v1 v58 v59 h)
theorem afU (J1:Q1):lo G0 (A1 (jQ gL gU iq iA iK iw) k0 J1)=uV n gL gU iq iA iK iw (kap ir k0) (lo lz J1):=by obtain ⟨J2,u2⟩:=exi (rD (jQ gL gU iq iA iK iw) J1); delta A1 uV; rw [← SI,u2]; kernel_rfl
def GN (J1:Q1):Q1:=(gZ cf kh Se (cJ p60 (gZ cf kh QW (gZ cf kh QZ (cJ p65 (kJ lz (rD cf J1)) (gZ cf kh QT (gZ cf kh SQ (kJ G0 (A1 cf k0 J1))))))) (kJ iH (AQ cf k0))))
def vn (n:Nat) (gL:ak) (gU:af) (iq:ah) (iA:bR) (iK:cq) (iw:bL) (k:ab) (j1:bK) (v1:AV) (v58:Int) (v59:Int) (h:Heap):aa:=ifB (ltF v59 v58) (jg h v1 17 true fun a=>iq a v59 h fun b c=>ifB (jK (eqF b 0)) (rG n gL gU iq iA iK iw k j1 v1 v58 v59 c) (fld 6 c v1 6 true fun d e=>jg c v1 17 true fun f=>iw f v59 (c.shut true) fun g i=>iK e g (i.back c.ro) fun l m o=>ifB (jK (eqF m 0)) (uV n gL gU iq iA iK iw k j1 v1 v58 v59 true o) (faK 12 v1 fun p=>ldI .u64 o p fun q=>uV n gL gU iq iA iK iw k j1 v1 v58 v59 (ltF q l) o))) (Ad n gL gU iq iA iK iw k h)
def GH:Nat→Q1:=lpS (GN cf k0)
def rv (n:Nat) (gL:ak) (gU:af) (iq:ah) (iA:bR) (iK:cq) (iw:bL) (k:ab):Nat→bK:=lpF lz (vn n gL gU iq iA iK iw k)
theorem agA (k:ab) (m:Nat):rv n gL gU iq iA iK iw k (m+1)=vn n gL gU iq iA iK iw k (rv n gL gU iq iA iK iw k m):=rfl
theorem afE (m:Nat):lo lz (GH (jQ gL gU iq iA iK iw) k0 m)=rv n gL gU iq iA iK iw (kap ir k0) m:=mQ (fun J1=>(by obtain ⟨J0,u0⟩:=exi (AQ (jQ gL gU iq iA iK iw) k0); obtain ⟨J2,u2⟩:=exi (rD (jQ gL gU iq iA iK iw) J1); obtain ⟨J3,u3⟩:=exi (A1 (jQ gL gU iq iA iK iw) k0 J1); delta GN vn; rw [← af5,u0, ← SI,u2, ← afU,u3]; kernel_rfl:lo lz (GN (jQ gL gU iq iA iK iw) k0 J1)=vn n gL gU iq iA iK iw (kap ir k0) (lo lz J1))) m
def AG:Q1:=(cJ p55 (gZ cf kh lg (jk ir k0)) (gZ cf kh RO (kJ lz (GH cf k0 n))))
def ve (n:Nat) (gL:ak) (gU:af) (iq:ah) (iA:bR) (iK:cq) (iw:bL) (k:ab) (v1:AV) (v55:Bool) (h:Heap):aa:=ifB v55 (k false h) (fld 16 h v1 1 false fun a b=>jC b fun c=>rv n gL gU iq iA iK iw k n v1 c 0 h)
theorem agv:lo Gs (AG n (jQ gL gU iq iA iK iw) k0)=ve n gL gU iq iA iK iw (kap ir k0):=by obtain ⟨J1,u1⟩:=exi (GH (jQ gL gU iq iA iK iw) k0 n); delta AG ve; rw [← afE,u1]; kernel_rfl
def AU:Q1:=(cJ p34 (gZ cf kh Ao (jk ir k0)) (gZ cf kh Px (gZ cf kh Nx (kJ Gs (AG n cf k0)))))
def vO (n:Nat) (gL:ak) (gU:af) (iq:ah) (iA:bR) (iK:cq) (iw:bL) (k:ab) (v1:AV) (v34:Bool) (h:Heap):aa:=ifB v34 (k true h) (fld 6 h v1 6 true fun a b=>jy .i64 3 h v1 fun c d=>jy .i64 4 h v1 fun e f=>A7 .i64 d f fun g=>jy .i64 5 h v1 fun i l=>iA b g l h fun m o p=>ifB (jK (eqF o 0)) (ve n gL gU iq iA iK iw k v1 true p) (faK 13 v1 fun q=>ldI .u64 p q fun r=>ve n gL gU iq iA iK iw k v1 (ltF r m) p))
theorem agi:lo GV (AU n (jQ gL gU iq iA iK iw) k0)=vO n gL gU iq iA iK iw (kap ir k0):=by obtain ⟨J4,u4⟩:=exi (AG n (jQ gL gU iq iA iK iw) k0); delta AU vO; rw [← agv,u4]; kernel_rfl
def Av:Q1:=(cJ p25 (gZ cf kh lg (jk ir k0)) (gZ cf kh NB (kJ GV (AU n cf k0))))
def vv (n:Nat) (gL:ak) (gU:af) (iq:ah) (iA:bR) (iK:cq) (iw:bL) (k:ab) (v1:AV) (v25:Bool) (h:Heap):aa:=ifB v25 (k false h) (jg h v1 17 true fun a=>gL a h fun b c=>ifB (jK b) (vO n gL gU iq iA iK iw k v1 true c) (faK 6 v1 fun d=>jg c d 6 true fun e=>gU e c fun f g=>vO n gL gU iq iA iK iw k v1 (jK (eqF f 0)) g))
theorem agy:lo GP (Av n (jQ gL gU iq iA iK iw) k0)=vv n gL gU iq iA iK iw (kap ir k0):=by obtain ⟨J5,u5⟩:=exi (AU n (jQ gL gU iq iA iK iw) k0); delta Av vv; rw [← agi,u5]; kernel_rfl
def zS:Q1:=(gZ cf kh OF (kJ GP (Av n cf k0)))
def vD (n:Nat) (gL:ak) (gU:af) (iq:ah) (iA:bR) (iK:cq) (iw:bL) (k:ab) (v1:AV) (v20:Bool) (h:Heap):aa:=ifB v20 (vv n gL gU iq iA iK iw k v1 true h) (faK 14 v1 fun a=>ldI .u64 h a fun b=>vv n gL gU iq iA iK iw k v1 (jK (ltF b 1099511627776)) h)
theorem aft:lo rC (zS n (jQ gL gU iq iA iK iw) k0)=vD n gL gU iq iA iK iw (kap ir k0):=by obtain ⟨J8,u8⟩:=exi (Av n (jQ gL gU iq iA iK iw) k0); delta zS vD; rw [← agy,u8]; kernel_rfl
def AF:Q1:=(gZ cf kh Pi (kJ rC (zS n cf k0)))
def vV (n:Nat) (gL:ak) (gU:af) (iq:ah) (iA:bR) (iK:cq) (iw:bL) (k:ab) (v1:AV) (v15:Bool) (h:Heap):aa:=ifB v15 (vD n gL gU iq iA iK iw k v1 true h) (faK 13 v1 fun a=>ldI .u64 h a fun b=>vD n gL gU iq iA iK iw k v1 (ltF 4194304 b) h)
theorem agd:lo G3 (AF n (jQ gL gU iq iA iK iw) k0)=vV n gL gU iq iA iK iw (kap ir k0):=by obtain ⟨J7,u7⟩:=exi (zS n (jQ gL gU iq iA iK iw) k0); delta AF vV; rw [← aft,u7]; kernel_rfl
def Y3:Q1:=(gZ cf kh nB (gZ cf kh Po (kJ G3 (AF n cf k0))))
def FC (n:Nat) (gL:ak) (gU:af) (iq:ah) (iA:bR) (iK:cq) (iw:bL) (k:ab) (a0:AV) (h:Heap):aa:=qR h a0 fun a b=>jy .u64 12 b (.ptr a 0) fun c d=>ifB (ltF d 1) (vV n gL gU iq iA iK iw k (.ptr a 0) true b) (faK 12 (.ptr a 0) fun e=>ldI .u64 b e fun f=>vV n gL gU iq iA iK iw k (.ptr a 0) (ltF 4194304 f) b)
def L7 (n:Nat) (gL:ak) (gU:af) (iq:ah) (iA:bR) (iK:cq) (iw:bL) (a0:AV) (h:Heap) (k:ab):aa:=FC n gL gU iq iA iK iw k a0 h
theorem ajB:DZ cf kh n Zc ir k0=Y3 n cf k0:=by funext s; kernel_rfl
theorem ajJ:lo ip (DZ (jQ gL gU iq iA iK iw) kh n Zc ir k0)=cmp ip (L7 n gL gU iq iA iK iw) (kap ir k0):=(congrArg (lo ip) (ajB n (jQ gL gU iq iA iK iw) k0)).trans (show _=FC n gL gU iq iA iK iw (kap ir k0) by obtain ⟨J6,u6⟩:=exi (AF n (jQ gL gU iq iA iK iw) k0); delta Y3 FC; rw [← agd,u6]; kernel_rfl)
end
def da (n:Nat):ak:=L7 n (bV n) (b7 n) (cM n) (de n) (dA n) (cR n)
abbrev ai:=Int→AV→Heap→(Bool→Heap→aa)→aa
abbrev EB (g:ai):Wr:=wrT nC jU g
def Ks (gO:az):bf:=lC [(wt,wd gO)]
section
variable (gO:az) (k0:Q0)
def NZ:Q1:=(gZ cf yr pg (gZ cf yr Jx (jk jU k0)))
def x9 (n:Nat) (gO:az) (k:ab) (a0:Int) (a1:AV) (h:Heap):aa:=fld 16 h a1 1 false fun a b=>jC b fun c=>PU .i64 c 1 fun d=>gO a0 0 d h fun e f=>k (jK e) f
def EF (n:Nat) (gO:az) (a0:Int) (a1:AV) (h:Heap) (k:ab):aa:=x9 n gO k a0 a1 h
theorem acX:DZ cf yr n Nn jU k0=NZ cf k0:=by funext s; kernel_rfl
theorem ac9:lo nC (DZ (Ks gO) yr n Nn jU k0)=cmp nC (EF n gO) (kap jU k0):=(congrArg (lo nC) (acX n (Ks gO) k0)).trans (show _=x9 n gO (kap jU k0) by delta NZ x9; kernel_rfl)
end
def aR (n:Nat):ai:=EF n (bZ n)
abbrev uo (g:ai):Wr:=wrT nC jU g
def zP:bf:=lC []
section
variable (k0:Q0)
def BF:Q1:=(gZ cf nD pg (gZ cf nD oT (gZ cf nD oU (jk jU k0))))
def pP (n:Nat) (k:ab) (a0:Int) (a1:AV) (h:Heap):aa:=jg h a1 1 false fun a=>CD h (.cell .int) (.int .i64 0) a (.int .i64 a0) fun b b2=>D9 .i64 b fun c=>la .i64 c 1 fun d=>aaw h (.cell .int) a (.int .i64 a0) (.int .i64 d) fun e=>jg e a1 1 false fun f=>CD e (.cell .int) (.int .i64 0) f (.int .i64 a0) fun g b8=>D9 .i64 g fun i=>k (ltF 1 i) e
def ur (n:Nat) (a0:Int) (a1:AV) (h:Heap) (k:ab):aa:=pP n k a0 a1 h
theorem MU:DZ cf nD n Bj jU k0=BF cf k0:=by funext s; kernel_rfl
theorem Nj:lo nC (DZ zP nD n Bj jU k0)=cmp nC (ur n) (kap jU k0):=(congrArg (lo nC) (MU n zP k0)).trans (show _=pP n (kap jU k0) by delta BF pP; kernel_rfl)
end
def au (n:Nat):ai:=ur n
abbrev uG (g:aS):Wr:=wrT i5 gQ g
def jM (gJ:ai) (gB:ai):bf:=lC [(tq,EB gJ),(tV,uo gB)]
abbrev aG:Type:=AV→AV→Int→Int→Heap→aa
section
variable (gJ:ai) (gB:ai) (k0:Q0)
def mE:Q1:=(gZ cf jG lL (jk gQ k0))
def mF (n:Nat) (gJ:ai) (gB:ai) (k:am) (h:Heap):aa:=k (-1) h
theorem DC:lo iH (mE (jM gJ gB) k0)=mF n gJ gB (kap gQ k0):=by delta mE mF; kernel_rfl
def oD (J1:Q1):Q1:=(gZ cf jG kE (cJ p9 (gZ cf jG lJ (gZ cf jG tf (cJ p16 (gZ cf jG lK (jk gQ k0)) (gZ cf jG lI (kJ kp J1))))) (kJ iH (mE cf k0))))
def lR (n:Nat) (gJ:ai) (gB:ai) (k:am) (j1:aG) (v0:AV) (v1:AV) (v7:Int) (v8:Int) (h:Heap):aa:=ifB (ltF v8 v7) (Xg .i64 1 h v0 v8 fun a b=>jM gJ gB v1 [(.int .i64 b)] h fun c d=>JN c fun e=>ifB e (k v8 d) (la .i64 v8 1 fun f=>j1 v0 v1 v7 f d)) (mF n gJ gB k h)
def oK:Nat→Q1:=lpS (oD cf k0)
def lQ (n:Nat) (gJ:ai) (gB:ai) (k:am):Nat→aG:=lpF kp (lR n gJ gB k)
theorem Dx (k:am) (m:Nat):lQ n gJ gB k (m+1)=lR n gJ gB k (lQ n gJ gB k m):=rfl
theorem DG (m:Nat):lo kp (oK (jM gJ gB) k0 m)=lQ n gJ gB (kap gQ k0) m:=mQ (fun J1=>(by obtain ⟨J0,u0⟩:=exi (mE (jM gJ gB) k0); delta oD lR; rw [← DC,u0]; kernel_rfl:lo kp (oD (jM gJ gB) k0 J1)=lR n gJ gB (kap gQ k0) (lo kp J1))) m
def uH:Q1:=(gZ cf jG jj (gZ cf jG kD (kJ kp (oK cf k0 n))))
def nc (n:Nat) (gJ:ai) (gB:ai) (k:am) (a0:AV) (a1:AV) (h:Heap):aa:=jC a0 fun a=>lQ n gJ gB k n a0 a1 a 0 h
def pG (n:Nat) (gJ:ai) (gB:ai) (a0:AV) (a1:AV) (h:Heap) (k:am):aa:=nc n gJ gB k a0 a1 h
theorem Ge:DZ cf jG n uF gQ k0=uH n cf k0:=by funext s; kernel_rfl
theorem Gk:lo i5 (DZ (jM gJ gB) jG n uF gQ k0)=cmp i5 (pG n gJ gB) (kap gQ k0):=(congrArg (lo i5) (Ge n (jM gJ gB) k0)).trans (show _=nc n gJ gB (kap gQ k0) by obtain ⟨J1,u1⟩:=exi (oK (jM gJ gB) k0 n); delta uH nc; rw [← DG,u1]; kernel_rfl)
end
def cz (n:Nat):aS:=pG n (aR n) (au n)
abbrev aj:=AV→AV→Heap→(Bool→Heap→aa)→aa
abbrev sj (g:aj):Wr:=wrT i5 ii g
def rq (jF:aS):bf:=lC [(uI,uG jF)]
section
variable (jF:aS) (k0:Q0)
def sy:Q1:=(gZ cf jR i9 (gZ cf jR q0 (jk ii k0)))
def mj (n:Nat) (jF:aS) (k:ab) (a0:AV) (a1:AV) (h:Heap):aa:=jF a0 a1 h fun a b=>k (jK (ltF a 0)) b
def n3 (n:Nat) (jF:aS) (a0:AV) (a1:AV) (h:Heap) (k:ab):aa:=mj n jF k a0 a1 h
theorem CA:DZ cf jR n sB ii k0=sy cf k0:=by funext s; kernel_rfl
theorem CQ:lo i5 (DZ (rq jF) jR n sB ii k0)=cmp i5 (n3 n jF) (kap ii k0):=(congrArg (lo i5) (CA n (rq jF) k0)).trans (show _=mj n jF (kap ii k0) by delta sy mj; kernel_rfl)
end
def cr (n:Nat):aj:=n3 n (cz n)
abbrev X0 (g:ak):Wr:=wrT ip ir g
def B2 (gO:az) (i6:aj):bf:=lC [(wt,wd gO),(sN,sj i6)]
section
variable (gO:az) (i6:aj) (k0:Q0)
def Aj:Q1:=(gZ cf zz S1 (jk ir k0))
def vo (n:Nat) (gO:az) (i6:aj) (k:ab) (v13:Bool) (h:Heap):aa:=k v13 h
theorem afx:lo GQ (Aj (B2 gO i6) k0)=vo n gO i6 (kap ir k0):=by delta Aj vo; kernel_rfl
def YW:Q1:=(gZ cf zz nB (gZ cf zz Ts (kJ GQ (Aj cf k0))))
def FY (n:Nat) (gO:az) (i6:aj) (k:ab) (a0:AV) (h:Heap):aa:=qR h a0 fun a b=>fld 15 b (.ptr a 0) 1 false fun c d=>jC d fun e=>gO e 1 64 b fun f g=>ifB f (faK 15 (.ptr a 0) fun i=>jg g i 1 false fun l=>i6 l (.func 62 [] [(.ptr a 0)]) g fun m o=>vo n gO i6 k (jK m) o) (vo n gO i6 k false g)
def Mc (n:Nat) (gO:az) (i6:aj) (a0:AV) (h:Heap) (k:ab):aa:=FY n gO i6 k a0 h
theorem aj6:DZ cf zz n XU ir k0=YW cf k0:=by funext s; kernel_rfl
theorem aki:lo ip (DZ (B2 gO i6) zz n XU ir k0)=cmp ip (Mc n gO i6) (kap ir k0):=(congrArg (lo ip) (aj6 n (B2 gO i6) k0)).trans (show _=FY n gO i6 (kap ir k0) by obtain ⟨J0,u0⟩:=exi (Aj (B2 gO i6) k0); delta YW FY; rw [← afx,u0]; kernel_rfl)
end
def c9 (n:Nat):ak:=Mc n (bZ n) (cr n)
abbrev D8 (g:aq):Wr:=wrT oo lf g
def Kx:bf:=lC []
section
variable (k0:Q0)
def NJ:Q1:=(gZ cf yn JU (cJ p7 (gZ cf yn JR (jk lf k0)) (jk lf k0)))
def yM (n:Nat) (k:dQ) (a0:Bool) (a1:Int) (a2:Int) (a3:AV) (h:Heap):aa:=ifB a0 (jg h a3 1 false fun a=>kM [(.int .i64 0),(.int .i64 0)] [(0,1,(.int .i64 a1)),(1,1,(.int .i64 a2))] fun b=>l8 h 1 [(.int .i64 0),(.int .i64 0)] [(0,2,b)] fun c d=>rX d 2 a c fun e f=>jf f a3 1 e fun g=>k g) (k h)
def EC (n:Nat) (a0:Bool) (a1:Int) (a2:Int) (a3:AV) (h:Heap) (k:dQ):aa:=yM n k a0 a1 a2 a3 h
theorem adi:DZ cf yn n Pb lf k0=NJ cf k0:=by funext s; kernel_rfl
theorem ac8:lo oo (DZ Kx yn n Pb lf k0)=cmp oo (EC n) (kap lf k0):=(congrArg (lo oo) (adi n Kx k0)).trans (show _=yM n (kap lf k0) by delta NJ yM; kernel_rfl)
end
def aQ (n:Nat):aq:=EC n
abbrev dG:=AV→Heap→(AV→Heap→aa)→aa
abbrev abi (g:dG):Wr:=wrT ip qq g
def py (gK:aq) (gL:ak) (gU:af) (jx:ak) (jv:ak) (iq:ah) (gI:aq):bf:=lC [(vz,GR gK),(CB,CI gL),(Cv,Dh gU),(Xl,Y6 jx),(XV,X0 jv),(VG,T8 iq),(ES,D8 gI)]
abbrev cn:Type:=AV→AV→AV→Int→Int→Heap→aa
section
variable (gK:aq) (gL:ak) (gU:af) (jx:ak) (jv:ak) (iq:ah) (gI:aq) (k0:Q0)
def B4:Q1:=(gZ cf lW UX (jk qq k0))
def C5 (n:Nat) (gK:aq) (gL:ak) (gU:af) (jx:ak) (jv:ak) (iq:ah) (gI:aq) (k:aL) (v3:AV) (h:Heap):aa:=jg h v3 1 false fun a=>k a h
theorem aiW:lo JO (B4 (py gK gL gU jx jv iq gI) k0)=C5 n gK gL gU jx jv iq gI (kap qq k0):=by delta B4 C5; kernel_rfl
def Jp (J1:Q1):Q1:=(gZ cf lW Vj (cJ p31 (gZ cf lW UA (gZ cf lW TM (gZ cf lW V7 (gZ cf lW Uw (kJ rf J1))))) (kJ JO (B4 cf k0))))
def xF (n:Nat) (gK:aq) (gL:ak) (gU:af) (jx:ak) (jv:ak) (iq:ah) (gI:aq) (k:aL) (j1:cn) (v1:AV) (v3:AV) (v4:AV) (v29:Int) (v30:Int) (h:Heap):aa:=ifB (ltF v30 v29) (jg h v1 17 true fun a=>iq a v30 h fun b c=>la .i64 4 v30 fun d=>py gK gL gU jx jv iq gI v4 [(.bool (eqF b 0)),(.int .i64 b),(.int .i64 d)] c fun e f=>la .i64 v30 1 fun g=>j1 v1 v3 v4 v29 g f) (C5 n gK gL gU jx jv iq gI k v3 h)
def Ji:Nat→Q1:=lpS (Jp cf k0)
def xz (n:Nat) (gK:aq) (gL:ak) (gU:af) (jx:ak) (jv:ak) (iq:ah) (gI:aq) (k:aL):Nat→cn:=lpF rf (xF n gK gL gU jx jv iq gI k)
theorem aiv (k:aL) (m:Nat):xz n gK gL gU jx jv iq gI k (m+1)=xF n gK gL gU jx jv iq gI k (xz n gK gL gU jx jv iq gI k m):=rfl
theorem aiz (m:Nat):lo rf (Ji (py gK gL gU jx jv iq gI) k0 m)=xz n gK gL gU jx jv iq gI (kap qq k0) m:=mQ (fun J1=>(by obtain ⟨J0,u0⟩:=exi (B4 (py gK gL gU jx jv iq gI) k0); delta Jp xF; rw [← aiW,u0]; kernel_rfl:lo rf (Jp (py gK gL gU jx jv iq gI) k0 J1)=xF n gK gL gU jx jv iq gI (kap qq k0) (lo rf J1))) m
def ZN:Q1:=(gZ cf lW QN (gZ cf lW R5 (gZ cf lW RN (gZ cf lW S4 (gZ cf lW V9 (gZ cf lW VU (gZ cf lW U9 (gZ cf lW Wb (kJ rf (Ji cf k0 n))))))))))
def Ij (n:Nat) (gK:aq) (gL:ak) (gU:af) (jx:ak) (jv:ak) (iq:ah) (gI:aq) (k:aL) (a0:AV) (h:Heap):aa:=qR h a0 fun a b=>lG b (.cells [.nilslice] true 0) fun c d=>jg d (.ptr a 0) 17 true fun e=>gL e d fun f g=>gK f 114 0 (.ptr c 0) g fun i=>fld 6 i (.ptr a 0) 6 true fun l m=>gU m i fun o p=>gK (eqF o 0) 100 1 (.ptr c 0) p fun q=>jg q (.ptr a 0) 17 true fun r=>jx r q fun s t=>gK s 113 2 (.ptr c 0) t fun u=>jg u (.ptr a 0) 17 true fun w=>jv w u fun x y=>gK x 112 3 (.ptr c 0) y fun z=>fld 16 z (.ptr a 0) 1 false fun A B=>jC B fun C=>tg false [(.int .i64 C),(.int .i64 8)] fun E=>D9 .i64 E fun F=>xz n gK gL gU jx jv iq gI k n (.ptr a 0) (.ptr c 0) (.func 43 [] [(.ptr c 0)]) F 0 z
def Qp (n:Nat) (gK:aq) (gL:ak) (gU:af) (jx:ak) (jv:ak) (iq:ah) (gI:aq) (a0:AV) (h:Heap) (k:aL):aa:=Ij n gK gL gU jx jv iq gI k a0 h
theorem amt:DZ cf lW n ab5 qq k0=ZN n cf k0:=by funext s; kernel_rfl
theorem alw:lo ip (DZ (py gK gL gU jx jv iq gI) lW n ab5 qq k0)=cmp ip (Qp n gK gL gU jx jv iq gI) (kap qq k0):=(congrArg (lo ip) (amt n (py gK gL gU jx jv iq gI) k0)).trans (show _=Ij n gK gL gU jx jv iq gI (kap qq k0) by obtain ⟨J1,u1⟩:=exi (Ji (py gK gL gU jx jv iq gI) k0 n); delta ZN Ij; rw [← aiz,u1]; kernel_rfl)
end
def dZ (n:Nat):dG:=Qp n (aW n) (bV n) (b7 n) (da n) (c9 n) (cM n) (aQ n)
abbrev IX (g:ak):Wr:=wrT ip ir g
def aea (pr:dG):bf:=lC [(aaD,abi pr)]
section
variable (pr:dG) (k0:Q0)
def ai7:Q1:=(gZ cf QG nB (gZ cf QG abL (jk ir k0)))
def P4 (n:Nat) (pr:dG) (k:ab) (a0:AV) (h:Heap):aa:=qR h a0 fun a b=>jg b (.ptr a 0) 17 true fun c=>pr c b fun d e=>jC d fun f=>k (eqF f 0) e
def Zu (n:Nat) (pr:dG) (a0:AV) (h:Heap) (k:ab):aa:=P4 n pr k a0 h
theorem apc:DZ cf QG n aiH ir k0=ai7 cf k0:=by funext s; kernel_rfl
theorem aoY:lo ip (DZ (aea pr) QG n aiH ir k0)=cmp ip (Zu n pr) (kap ir k0):=(congrArg (lo ip) (apc n (aea pr) k0)).trans (show _=P4 n pr (kap ir k0) by delta ai7 P4; kernel_rfl)
end
def bp (n:Nat):ak:=Zu n (dZ n)
abbrev Hm (g:az):Wr:=wrT mN hO g
def yy:bf:=lC []
section
variable (k0:Q0)
def wG:Q1:=(gZ cf lF rH (jk hO k0))
def rY (n:Nat) (k:ab) (v14:Bool) (h:Heap):aa:=k v14 h
theorem Z9:lo l0 (wG yy k0)=rY n (kap hO k0):=by delta wG rY; kernel_rfl
def SR:Q1:=(gZ cf lF iZ (gZ cf lF rz (kJ l0 (wG cf k0))))
def A3 (n:Nat) (k:ab) (a0:Int) (a1:Int) (a2:Int) (h:Heap):aa:=ifB (jK (ltF a0 a1)) (rY n k (jK (ltF a2 a0)) h) (rY n k false h)
def GS (n:Nat) (a0:Int) (a1:Int) (a2:Int) (h:Heap) (k:ab):aa:=A3 n k a0 a1 a2 h
theorem afj:DZ cf lF n Te hO k0=SR cf k0:=by funext s; kernel_rfl
theorem afS:lo mN (DZ yy lF n Te hO k0)=cmp mN (GS n) (kap hO k0):=(congrArg (lo mN) (afj n yy k0)).trans (show _=A3 n (kap hO k0) by obtain ⟨J0,u0⟩:=exi (wG yy k0); delta SR A3; rw [← Z9,u0]; kernel_rfl)
end
def cQ (n:Nat):az:=GS n
abbrev bg:=Int→Heap→(Bool→Heap→aa)→aa
abbrev Qg (g:bg):Wr:=wrT nA ir g
def Yd (jl:az):bf:=lC [(Gz,Hm jl)]
section
variable (jl:az) (k0:Q0)
def ab3:Q1:=(gZ cf HH lg (gZ cf HH T7 (jk ir k0)))
def H9 (n:Nat) (jl:az) (k:ab) (a0:Int) (h:Heap):aa:=jl a0 1 16 h fun a b=>k a b
def PQ (n:Nat) (jl:az) (a0:Int) (h:Heap) (k:ab):aa:=H9 n jl k a0 h
theorem alv:DZ cf HH n aaT ir k0=ab3 cf k0:=by funext s; kernel_rfl
theorem alq:lo nA (DZ (Yd jl) HH n aaT ir k0)=cmp nA (PQ n jl) (kap ir k0):=(congrArg (lo nA) (alv n (Yd jl) k0)).trans (show _=H9 n jl (kap ir k0) by delta ab3 H9; kernel_rfl)
end
def dt (n:Nat):bg:=PQ n (cQ n)
abbrev aZ:=Int→Int→Heap→(Int→Int→Heap→aa)→aa
abbrev Vf (g:aZ):Wr:=wrT lX jS g
def HX (jl:az) (jN:bg):bf:=lC [(Gz,Hm jl),(P0,Qg jN)]
section
variable (jl:az) (jN:bg) (k0:Q0)
def F2:Q1:=(cJ p13 (gZ cf Bz FT (jk jS k0)) (gZ cf Bz Zd (jk jS k0)))
def zr (n:Nat) (jl:az) (jN:bg) (k:aX) (v0:Int) (v1:Int) (v13:Bool) (h:Heap):aa:=ifB v13 (k 0 2 h) (afl .i64 v0 v1 fun a=>k a 0 h)
theorem ajE:lo we (F2 (HX jl jN) k0)=zr n jl jN (kap jS k0):=by delta F2 zr; kernel_rfl
def ae3:Q1:=(gZ cf Bz Fr (gZ cf Bz XX (kJ we (F2 cf k0))))
def K6 (n:Nat) (jl:az) (jN:bg) (k:aX) (a0:Int) (a1:Int) (h:Heap):aa:=jl a0 0 4095 h fun a b=>ifB (jK a) (zr n jl jN k a0 a1 true b) (jN a1 b fun c d=>zr n jl jN k a0 a1 (jK c) d)
def VM (n:Nat) (jl:az) (jN:bg) (a0:Int) (a1:Int) (h:Heap) (k:aX):aa:=K6 n jl jN k a0 a1 h
theorem anb:DZ cf Bz n aey jS k0=ae3 cf k0:=by funext s; kernel_rfl
theorem anf:lo lX (DZ (HX jl jN) Bz n aey jS k0)=cmp lX (VM n jl jN) (kap jS k0):=(congrArg (lo lX) (anb n (HX jl jN) k0)).trans (show _=K6 n jl jN (kap jS k0) by obtain ⟨J0,u0⟩:=exi (F2 (HX jl jN) k0); delta ae3 K6; rw [← ajE,u0]; kernel_rfl)
end
def bN (n:Nat):aZ:=VM n (cQ n) (dt n)
abbrev aI:=AV→Int→Heap→(Int→Bool→Int→Heap→aa)→aa
abbrev cD:=Int→Bool→Int→Heap→aa
abbrev Z6 (g:aI):Wr:=wrT gX kl g
def pu (gT:ak) (gA:ad):bf:=lC [(II,IX gT),(nw,nv gA)]
abbrev dk:Type:=Int→AV→Int→Int→Heap→aa
section
variable (gT:ak) (gA:ad) (k0:Q0)
def CZ:Q1:=(gZ cf mb Vt (jk kl k0))
def CY (n:Nat) (gT:ak) (gA:ad) (k:cD) (h:Heap):aa:=k 0 false 0 h
theorem ait:lo iH (CZ (pu gT gA) k0)=CY n gT gA (kap kl k0):=by delta CZ CY; kernel_rfl
def Jq (J1:Q1):Q1:=(gZ cf mb Vm (cJ p26 (gZ cf mb Ud (gZ cf mb US (cJ p33 (gZ cf mb Wq (jk kl k0)) (gZ cf mb Uz (kJ rj J1))))) (kJ iH (CZ cf k0))))
def xr (n:Nat) (gT:ak) (gA:ad) (k:cD) (j1:dk) (v1:Int) (v23:AV) (v24:Int) (v25:Int) (h:Heap):aa:=ifB (ltF v25 v24) (eld 8 h v23 v25 8 true fun a b=>lG h (.cells [.nilslice,(.int .i64 0),(.int .i64 0),(.int .i64 0),(.int .i64 0),(.int .i64 0),(.int .i64 0),(.int .i64 0)] true 0) fun c d=>jf d (.ptr c 0) 8 b fun e=>fld 0 e (.ptr c 0) 1 false fun f g=>gA g v1 e fun i l=>ifB i (k v25 true 0 l) (la .i64 v25 1 fun m=>j1 v1 v23 v24 m l)) (CY n gT gA k h)
def Jc:Nat→Q1:=lpS (Jq cf k0)
def xf (n:Nat) (gT:ak) (gA:ad) (k:cD):Nat→dk:=lpF rj (xr n gT gA k)
theorem ag1 (k:cD) (m:Nat):xf n gT gA k (m+1)=xr n gT gA k (xf n gT gA k m):=rfl
theorem ai0 (m:Nat):lo rj (Jc (pu gT gA) k0 m)=xf n gT gA (kap kl k0) m:=mQ (fun J1=>(by obtain ⟨J0,u0⟩:=exi (CZ (pu gT gA) k0); delta Jq xr; rw [← ait,u0]; kernel_rfl:lo rj (Jq (pu gT gA) k0 J1)=xr n gT gA (kap kl k0) (lo rj J1))) m
def B9:Q1:=(gZ cf mb RK (cJ p13 (gZ cf mb CF (jk kl k0)) (gZ cf mb Ve (kJ rj (Jc cf k0 n)))))
def xc (n:Nat) (gT:ak) (gA:ad) (k:cD) (v1:Int) (v2:AV) (v21:Bool) (h:Heap):aa:=ifB v21 (k 0 false 2 h) (fld 16 h v2 1 false fun a b=>jC b fun c=>xf n gT gA k n v1 b c 0 h)
theorem aio:lo IB (B9 n (pu gT gA) k0)=xc n gT gA (kap kl k0):=by obtain ⟨J1,u1⟩:=exi (Jc (pu gT gA) k0 n); delta B9 xc; rw [← ai0,u1]; kernel_rfl
def abb:Q1:=(gZ cf mb AA (gZ cf mb SK (cJ p9 (gZ cf mb Dq (jk kl k0)) (gZ cf mb WP (kJ IB (B9 n cf k0))))))
def HP (n:Nat) (gT:ak) (gA:ad) (k:cD) (a0:AV) (a1:Int) (h:Heap):aa:=qR h a0 fun a b=>jg b (.ptr a 0) 17 true fun c=>gT c b fun d e=>ifB (jK d) (k 0 false 5 e) (ifB (ltF a1 0) (xc n gT gA k a1 (.ptr a 0) true e) (jy .i64 1 e (.ptr a 0) fun f g=>xc n gT gA k a1 (.ptr a 0) (jK (ltF a1 g)) e))
def Qu (n:Nat) (gT:ak) (gA:ad) (a0:AV) (a1:Int) (h:Heap) (k:cD):aa:=HP n gT gA k a0 a1 h
theorem amp:DZ cf mb n Z3 kl k0=abb n cf k0:=by funext s; kernel_rfl
theorem al7:lo gX (DZ (pu gT gA) mb n Z3 kl k0)=cmp gX (Qu n gT gA) (kap kl k0):=(congrArg (lo gX) (amp n (pu gT gA) k0)).trans (show _=HP n gT gA (kap kl k0) by obtain ⟨J2,u2⟩:=exi (B9 n (pu gT gA) k0); delta abb HP; rw [← aio,u2]; kernel_rfl)
end
def dY (n:Nat):aI:=Qu n (bp n) (al n)
abbrev wj (g:aI):Wr:=wrT gX kl g
def BU (gT:ak) (hT:aZ) (lV:aI):bf:=lC [(II,IX gT),(V4,Vf hT),(aax,Z6 lV)]
section
variable (gT:ak) (hT:aZ) (lV:aI) (k0:Q0)
def AY:Q1:=(cJ p19 (gZ cf nl CF (jk kl k0)) (gZ cf nl Sk (gZ cf nl R6 (cJ p28 (gZ cf nl Sn (jk kl k0)) (gZ cf nl SU (jk kl k0))))))
def vP (n:Nat) (gT:ak) (hT:aZ) (lV:aI) (k:cD) (v1:Int) (v2:AV) (v19:Bool) (h:Heap):aa:=ifB v19 (k 0 false 2 h) (jy .i64 1 h v2 fun a b=>hT v1 b h fun c d e=>ifB (jK (eqF d 0)) (k 0 false d e) (jg e v2 17 true fun f=>lV f c e fun g i l m=>k g i l m))
theorem afN:lo GM (AY (BU gT hT lV) k0)=vP n gT hT lV (kap kl k0):=by delta AY vP; kernel_rfl
def XI:Q1:=(gZ cf nl AA (gZ cf nl Ra (cJ p11 (gZ cf nl Dq (jk kl k0)) (gZ cf nl Sy (kJ GM (AY cf k0))))))
def FP (n:Nat) (gT:ak) (hT:aZ) (lV:aI) (k:cD) (a0:AV) (a1:Int) (h:Heap):aa:=qR h a0 fun a b=>jg b (.ptr a 0) 17 true fun c=>gT c b fun d e=>ifB (jK d) (k 0 false 5 e) (ifB (ltF a1 0) (vP n gT hT lV k a1 (.ptr a 0) true e) (jy .i64 0 e (.ptr a 0) fun f g=>vP n gT hT lV k a1 (.ptr a 0) (jK (ltF a1 g)) e))
def L6 (n:Nat) (gT:ak) (hT:aZ) (lV:aI) (a0:AV) (a1:Int) (h:Heap) (k:cD):aa:=FP n gT hT lV k a0 a1 h
theorem akq:DZ cf nl n XQ kl k0=XI cf k0:=by funext s; kernel_rfl
theorem ake:lo gX (DZ (BU gT hT lV) nl n XQ kl k0)=cmp gX (L6 n gT hT lV) (kap kl k0):=(congrArg (lo gX) (akq n (BU gT hT lV) k0)).trans (show _=FP n gT hT lV (kap kl k0) by obtain ⟨J0,u0⟩:=exi (AY (BU gT hT lV) k0); delta XI FP; rw [← afN,u0]; kernel_rfl)
end
def aK (n:Nat):aI:=L6 n (bp n) (bN n) (dY n)
abbrev ae:=Heap→(AV→Heap→aa)→aa
abbrev Gh (g:ae):Wr:=wrT iH jr g
def DX:bf:=lC []
section
variable (k0:Q0)
def Gi:Q1:=(gZ cf i7 mU (gZ cf i7 mW (gZ cf i7 Cf (jk jr k0))))
def wN (n:Nat) (k:aL) (h:Heap):aa:=lG h (.mp []) fun a b=>lG b (.cells [.nilmap] true 0) fun c d=>jf d (.ptr c 0) 1 (.map a) fun e=>k (.func 32 [] [(.ptr c 0)]) e
def Gc (n:Nat) (h:Heap) (k:aL):aa:=wN n k h
theorem T9:DZ cf i7 n Ga jr k0=Gi cf k0:=by funext s; kernel_rfl
theorem Ut:lo iH (DZ DX i7 n Ga jr k0)=cmp iH (Gc n) (kap jr k0):=(congrArg (lo iH) (T9 n DX k0)).trans (show _=wN n (kap jr k0) by delta Gi wN; kernel_rfl)
end
def aJ (n:Nat):ae:=Gc n
abbrev QB (g:ah):Wr:=wrT gX gQ g
def Fa (gT:ak):bf:=lC [(II,IX gT)]
section
variable (gT:ak) (k0:Q0)
def Du:Q1:=(gZ cf qv Ux (cJ p9 (gZ cf qv VT (jk gQ k0)) (gZ cf qv jj (jk gQ k0))))
def xB (n:Nat) (gT:ak) (k:am) (v18:Bool) (h:Heap):aa:=ifB v18 (k 270 h) (k 0 h)
theorem ajd:lo Jd (Du (Fa gT) k0)=xB n gT (kap gQ k0):=by delta Du xB; kernel_rfl
def aa4:Q1:=(gZ cf qv um (gZ cf qv VK (cJ p5 (gZ cf qv Un (jk gQ k0)) (gZ cf qv Wv (kJ Jd (Du cf k0))))))
def Ih (n:Nat) (gT:ak) (k:am) (a0:AV) (a1:Int) (h:Heap):aa:=qR h a0 fun a b=>jg b (.ptr a 0) 17 true fun c=>gT c b fun d e=>ifB (jK d) (k 5 e) (ifB (ltF a1 0) (xB n gT k true e) (fld 16 e (.ptr a 0) 1 false fun f g=>jC g fun i=>xB n gT k (jK (ltF a1 i)) e))
def PV (n:Nat) (gT:ak) (a0:AV) (a1:Int) (h:Heap) (k:am):aa:=Ih n gT k a0 a1 h
theorem alF:DZ cf qv n abF gQ k0=aa4 cf k0:=by funext s; kernel_rfl
theorem amU:lo gX (DZ (Fa gT) qv n abF gQ k0)=cmp gX (PV n gT) (kap gQ k0):=(congrArg (lo gX) (alF n (Fa gT) k0)).trans (show _=Ih n gT (kap gQ k0) by obtain ⟨J0,u0⟩:=exi (Du (Fa gT) k0); delta aa4 Ih; rw [← ajd,u0]; kernel_rfl)
end
def dq (n:Nat):ah:=PV n (bp n)
abbrev aae (g:af):Wr:=wrT ip iJ g
def sT:bf:=lC []
section
variable (k0:Q0)
def CM:Q1:=(gZ cf pA Wa (jk iJ k0))
def C4 (n:Nat) (k:am) (v3:Int) (h:Heap):aa:=k v3 h
theorem ajr:lo IL (CM sT k0)=C4 n (kap iJ k0):=by delta CM C4; kernel_rfl
def JT (J1:Q1):Q1:=(gZ cf pA kE (cJ p9 (gZ cf pA UY (gZ cf pA U6 (gZ cf pA VW (kJ rc J1)))) (kJ IL (CM cf k0))))
def wV (n:Nat) (k:am) (j1:dk) (v3:Int) (v6:AV) (v7:Int) (v8:Int) (h:Heap):aa:=ifB (ltF v8 v7) (eld 8 h v6 v8 8 true fun a b=>lG h (.cells [.nilslice,(.int .i64 0),(.int .i64 0),(.int .i64 0),(.int .i64 0),(.int .i64 0),(.int .i64 0),(.int .i64 0)] true 0) fun c d=>jf d (.ptr c 0) 8 b fun e=>jy .i64 7 e (.ptr c 0) fun f g=>la .i64 v3 g fun i=>la .i64 v8 1 fun l=>j1 i v6 v7 l e) (C4 n k v3 h)
def Jy:Nat→Q1:=lpS (JT cf k0)
def xq (n:Nat) (k:am):Nat→dk:=lpF rc (wV n k)
theorem aiE (k:am) (m:Nat):xq n k (m+1)=wV n k (xq n k m):=rfl
theorem ajb (m:Nat):lo rc (Jy sT k0 m)=xq n (kap iJ k0) m:=mQ (fun J1=>(by obtain ⟨J0,u0⟩:=exi (CM sT k0); delta JT wV; rw [← ajr,u0]; kernel_rfl:lo rc (JT sT k0 J1)=wV n (kap iJ k0) (lo rc J1))) m
def aaS:Q1:=(gZ cf pA ni (gZ cf pA Up (gZ cf pA kD (kJ rc (Jy cf k0 n)))))
def HG (n:Nat) (k:am) (a0:AV) (h:Heap):aa:=jC a0 fun a=>xq n k n 0 a0 a 0 h
def Qd (n:Nat) (a0:AV) (h:Heap) (k:am):aa:=HG n k a0 h
theorem al0:DZ cf pA n abV iJ k0=aaS n cf k0:=by funext s; kernel_rfl
theorem al6:lo ip (DZ sT pA n abV iJ k0)=cmp ip (Qd n) (kap iJ k0):=(congrArg (lo ip) (al0 n sT k0)).trans (show _=HG n (kap iJ k0) by obtain ⟨J1,u1⟩:=exi (Jy sT k0 n); delta aaS HG; rw [← ajb,u1]; kernel_rfl)
end
def d7 (n:Nat):af:=Qd n
abbrev bu:=AV→Int→Heap→(Int→Int→Heap→aa)→aa
abbrev aeZ (g:bu):Wr:=wrT gX jS g
def abI (kL:ah) (px:af):bf:=lC [(Qs,QB kL),(aan,aae px)]
section
variable (kL:ah) (px:af) (k0:Q0)
def aef:Q1:=(gZ cf xp FG (gZ cf xp FM (gZ cf xp Fq (cJ p11 (gZ cf xp Yl (jk jS k0)) (gZ cf xp X4 (jk jS k0))))))
def KI (n:Nat) (kL:ah) (px:af) (k:aX) (a0:AV) (a1:Int) (h:Heap):aa:=qR h a0 fun a b=>jg b (.ptr a 0) 17 true fun c=>kL c a1 b fun d e=>ifB (jK (eqF d 0)) (k 0 d e) (fld 16 e (.ptr a 0) 1 false fun f g=>slK (.sl 8) g none (some (.int .i64 a1)) none fun i=>px i e fun l m=>k l 0 m)
def VQ (n:Nat) (kL:ah) (px:af) (a0:AV) (a1:Int) (h:Heap) (k:aX):aa:=KI n kL px k a0 a1 h
theorem am1:DZ cf xp n aeV jS k0=aef cf k0:=by funext s; kernel_rfl
theorem am8:lo gX (DZ (abI kL px) xp n aeV jS k0)=cmp gX (VQ n kL px) (kap jS k0):=(congrArg (lo gX) (am1 n (abI kL px) k0)).trans (show _=KI n kL px (kap jS k0) by delta aef KI; kernel_rfl)
end
def bH (n:Nat):bu:=VQ n (dq n) (d7 n)
abbrev Si (g:aS):Wr:=wrT i5 gQ g
def pj:bf:=lC []
section
variable (k0:Q0)
def wI:Q1:=(gZ cf mM lL (jk gQ k0))
def wJ (n:Nat) (k:am) (h:Heap):aa:=k (-1) h
theorem abU:lo iH (wI pj k0)=wJ n (kap gQ k0):=by delta wI wJ; kernel_rfl
def B7 (J1:Q1):Q1:=(gZ cf mM kE (cJ p9 (gZ cf mM lJ (gZ cf mM KN (cJ p16 (gZ cf mM lK (jk gQ k0)) (gZ cf mM lI (kJ nW J1))))) (kJ iH (wI cf k0))))
def sQ (n:Nat) (k:am) (j1:aG) (v0:AV) (v3:AV) (v7:Int) (v8:Int) (h:Heap):aa:=ifB (ltF v8 v7) (jg h v3 2 true fun a=>eld 2 h v0 v8 2 true fun b c=>eqRK (.plain [.int,.int]) a c fun d=>ifB (xorB false d) (k v8 h) (la .i64 v8 1 fun e=>j1 v0 v3 v7 e h)) (wJ n k h)
def Db:Nat→Q1:=lpS (B7 cf k0)
def rS (n:Nat) (k:am):Nat→aG:=lpF nW (sQ n k)
theorem aaH (k:am) (m:Nat):rS n k (m+1)=sQ n k (rS n k m):=rfl
theorem aaQ (m:Nat):lo nW (Db pj k0 m)=rS n (kap gQ k0) m:=mQ (fun J1=>(by obtain ⟨J0,u0⟩:=exi (wI pj k0); delta B7 sQ; rw [← abU,u0]; kernel_rfl:lo nW (B7 pj k0 J1)=sQ n (kap gQ k0) (lo nW J1))) m
def Rm:Q1:=(gZ cf mM Ld (gZ cf mM kD (kJ nW (Db cf k0 n))))
def AB (n:Nat) (k:am) (a0:AV) (a1:AV) (h:Heap):aa:=qR h a1 fun a b=>jC a0 fun c=>rS n k n a0 (.ptr a 0) c 0 b
def Hk (n:Nat) (a0:AV) (a1:AV) (h:Heap) (k:am):aa:=AB n k a0 a1 h
theorem afk:DZ cf mM n RQ gQ k0=Rm n cf k0:=by funext s; kernel_rfl
theorem afY:lo i5 (DZ pj mM n RQ gQ k0)=cmp i5 (Hk n) (kap gQ k0):=(congrArg (lo i5) (afk n pj k0)).trans (show _=AB n (kap gQ k0) by obtain ⟨J1,u1⟩:=exi (Db pj k0 n); delta Rm AB; rw [← aaQ,u1]; kernel_rfl)
end
def dN (n:Nat):aS:=Hk n
abbrev Ry (g:aj):Wr:=wrT i5 ii g
def Ok (mO:aS):bf:=lC [(RU,Si mO)]
section
variable (mO:aS) (k0:Q0)
def RY:Q1:=(gZ cf jR Lr (gZ cf jR Lt (jk ii k0)))
def zV (n:Nat) (mO:aS) (k:ab) (a0:AV) (a1:AV) (h:Heap):aa:=qR h a1 fun a b=>jg b (.ptr a 0) 2 true fun c=>mO a0 c b fun d e=>k (jK (ltF d 0)) e
def GW (n:Nat) (mO:aS) (a0:AV) (a1:AV) (h:Heap) (k:ab):aa:=zV n mO k a0 a1 h
theorem afv:DZ cf jR n QP ii k0=RY cf k0:=by funext s; kernel_rfl
theorem afg:lo i5 (DZ (Ok mO) jR n QP ii k0)=cmp i5 (GW n mO) (kap ii k0):=(congrArg (lo i5) (afv n (Ok mO) k0)).trans (show _=zV n mO (kap ii k0) by delta RY zV; kernel_rfl)
end
def dP (n:Nat):aj:=GW n (dN n)
abbrev aU:=AV→Int→Int→Heap→(Bool→Heap→aa)→aa
abbrev VR (g:aU):Wr:=wrT Kh hO g
def ZO (mP:aj):bf:=lC [(QY,Ry mP)]
section
variable (mP:aj) (k0:Q0)
def aeM:Q1:=(gZ cf Km iZ (gZ cf Km Yu (jk hO k0)))
def KS (n:Nat) (mP:aj) (k:ab) (a0:AV) (a1:Int) (a2:Int) (h:Heap):aa:=kM [(.int .i64 0),(.int .u8 0)] [(0,1,(.int .i64 a1)),(1,1,(.int .u8 a2))] fun a=>mP a0 a h fun b c=>k b c
def Wn (n:Nat) (mP:aj) (a0:AV) (a1:Int) (a2:Int) (h:Heap) (k:ab):aa:=KS n mP k a0 a1 a2 h
theorem aow:DZ cf Km n aeR hO k0=aeM cf k0:=by funext s; kernel_rfl
theorem am4:lo Kh (DZ (ZO mP) Km n aeR hO k0)=cmp Kh (Wn n mP) (kap hO k0):=(congrArg (lo Kh) (aow n (ZO mP) k0)).trans (show _=KS n mP (kap hO k0) by delta aeM KS; kernel_rfl)
end
def br (n:Nat):aU:=Wn n (dP n)
abbrev Wt (g:bg):Wr:=wrT nA ir g
def AN:bf:=lC []
section
variable (k0:Q0)
def yb:Q1:=(gZ cf nm yS (jk ir k0))
def tS (n:Nat) (k:ab) (v8:Bool) (h:Heap):aa:=k v8 h
theorem acI:lo qP (yb AN k0)=tS n (kap ir k0):=by delta yb tS; kernel_rfl
def TY:Q1:=(gZ cf nm lg (gZ cf nm MW (kJ qP (yb cf k0))))
def Dt (n:Nat) (k:ab) (a0:Int) (h:Heap):aa:=ifB (jK (ltF a0 0)) (tS n k (ltF a0 1048576) h) (tS n k false h)
def I9 (n:Nat) (a0:Int) (h:Heap) (k:ab):aa:=Dt n k a0 h
theorem aik:DZ cf nm n UD ir k0=TY cf k0:=by funext s; kernel_rfl
theorem ahk:lo nA (DZ AN nm n UD ir k0)=cmp nA (I9 n) (kap ir k0):=(congrArg (lo nA) (aik n AN k0)).trans (show _=Dt n (kap ir k0) by obtain ⟨J0,u0⟩:=exi (yb AN k0); delta TY Dt; rw [← acI,u0]; kernel_rfl)
end
def dD (n:Nat):bg:=I9 n
abbrev XL (g:bg):Wr:=wrT nA ir g
def Cb:bf:=lC []
section
variable (k0:Q0)
def Ag:Q1:=(gZ cf nm yS (jk ir k0))
def vX (n:Nat) (k:ab) (v8:Bool) (h:Heap):aa:=k v8 h
theorem agq:lo qP (Ag Cb k0)=vX n (kap ir k0):=by delta Ag vX; kernel_rfl
def Yj:Q1:=(gZ cf nm lg (gZ cf nm Rp (kJ qP (Ag cf k0))))
def Fb (n:Nat) (k:ab) (a0:Int) (h:Heap):aa:=ifB (jK (ltF a0 0)) (vX n k (ltF a0 256) h) (vX n k false h)
def LQ (n:Nat) (a0:Int) (h:Heap) (k:ab):aa:=Fb n k a0 h
theorem aj0:DZ cf nm n Xr ir k0=Yj cf k0:=by funext s; kernel_rfl
theorem akl:lo nA (DZ Cb nm n Xr ir k0)=cmp nA (LQ n) (kap ir k0):=(congrArg (lo nA) (aj0 n Cb k0)).trans (show _=Fb n (kap ir k0) by obtain ⟨J0,u0⟩:=exi (Ag Cb k0); delta Yj Fb; rw [← agq,u0]; kernel_rfl)
end
def dM (n:Nat):bg:=LQ n
abbrev ae2 (g:aZ):Wr:=wrT lX lU g
def HL (kS:bg) (lw:bg):bf:=lC [(U4,Wt kS),(Yq,XL lw)]
section
variable (kS:bg) (lw:bg) (k0:Q0)
def FQ:Q1:=(cJ p13 (gZ cf BG Yh (jk lU k0)) (gZ cf BG Xv (jk lU k0)))
def zD (n:Nat) (kS:bg) (lw:bg) (k:aX) (v0:Int) (v1:Int) (v13:Bool) (h:Heap):aa:=ifB v13 (k 0 2 h) (uq .u64 v0 fun a=>shlK .u64 a 8 fun b=>uq .u64 v1 fun c=>ae8 .or .u64 b c fun d=>k d 0 h)
theorem akr:lo we (FQ (HL kS lw) k0)=zD n kS lw (kap lU k0):=by delta FQ zD; kernel_rfl
def aeY:Q1:=(gZ cf BG YQ (gZ cf BG Xu (kJ we (FQ cf k0))))
def KQ (n:Nat) (kS:bg) (lw:bg) (k:aX) (a0:Int) (a1:Int) (h:Heap):aa:=kS a0 h fun a b=>ifB (jK a) (zD n kS lw k a0 a1 true b) (lw a1 b fun c d=>zD n kS lw k a0 a1 (jK c) d)
def VD (n:Nat) (kS:bg) (lw:bg) (a0:Int) (a1:Int) (h:Heap) (k:aX):aa:=KQ n kS lw k a0 a1 h
theorem anS:DZ cf BG n aeL lU k0=aeY cf k0:=by funext s; kernel_rfl
theorem aof:lo lX (DZ (HL kS lw) BG n aeL lU k0)=cmp lX (VD n kS lw) (kap lU k0):=(congrArg (lo lX) (anS n (HL kS lw) k0)).trans (show _=KQ n kS lw (kap lU k0) by obtain ⟨J0,u0⟩:=exi (FQ (HL kS lw) k0); delta aeY KQ; rw [← akr,u0]; kernel_rfl)
end
def ez (n:Nat):aZ:=VD n (dD n) (dM n)
abbrev aeQ (g:bG):Wr:=wrT lX ii g
def rW:bf:=lC []
section
variable (k0:Q0)
def FN:Q1:=(gZ cf xn Yr (jk ii k0))
def zy (n:Nat) (k:ab) (v20:Bool) (h:Heap):aa:=k v20 h
theorem akv:lo LU (FN rW k0)=zy n (kap ii k0):=by delta FN zy; kernel_rfl
def FD:Q1:=(gZ cf xn YI (kJ LU (FN cf k0)))
def zt (n:Nat) (k:ab) (v0:Int) (v1:Int) (v14:Bool) (h:Heap):aa:=ifB v14 (PU .i64 1048576 v0 fun a=>zy n k (jK (ltF a v1)) h) (zy n k false h)
theorem ajS:lo L3 (FD rW k0)=zt n (kap ii k0):=by obtain ⟨J2,u2⟩:=exi (FN rW k0); delta FD zt; rw [← akv,u2]; kernel_rfl
def Fe:Q1:=(gZ cf xn Ye (kJ L3 (FD cf k0)))
def zN (n:Nat) (k:ab) (v0:Int) (v1:Int) (v10:Bool) (h:Heap):aa:=ifB v10 (zt n k v0 v1 (jK (ltF v1 1)) h) (zt n k v0 v1 false h)
theorem aj8:lo L9 (Fe rW k0)=zN n (kap ii k0):=by obtain ⟨J1,u1⟩:=exi (FD rW k0); delta Fe zN; rw [← ajS,u1]; kernel_rfl
def aeG:Q1:=(gZ cf xn i9 (gZ cf xn X7 (kJ L9 (Fe cf k0))))
def KL (n:Nat) (k:ab) (a0:Int) (a1:Int) (h:Heap):aa:=ifB (jK (ltF a0 1)) (zN n k a0 a1 (ltF a0 1048576) h) (zN n k a0 a1 false h)
def Uh (n:Nat) (a0:Int) (a1:Int) (h:Heap) (k:ab):aa:=KL n k a0 a1 h
theorem an7:DZ cf xn n aec ii k0=aeG cf k0:=by funext s; kernel_rfl
theorem aor:lo lX (DZ rW xn n aec ii k0)=cmp lX (Uh n) (kap ii k0):=(congrArg (lo lX) (an7 n rW k0)).trans (show _=KL n (kap ii k0) by obtain ⟨J0,u0⟩:=exi (Fe rW k0); delta aeG KL; rw [← aj8,u0]; kernel_rfl)
end
def dC (n:Nat):bG:=Uh n
abbrev adT (g:bg):Wr:=wrT KC ir g
def yP:bf:=lC []
section
variable (k0:Q0)
def Fi:Q1:=(gZ cf Bw Y2 (jk ir k0))
def zm (n:Nat) (k:ab) (v12:Bool) (h:Heap):aa:=k v12 h
theorem ajz:lo Mg (Fi yP k0)=zm n (kap ir k0):=by delta Fi zm; kernel_rfl
def FI:Q1:=(gZ cf Bw XE (kJ Mg (Fi cf k0)))
def zs (n:Nat) (k:ab) (v0:Int) (v8:Bool) (h:Heap):aa:=ifB v8 (zm n k true h) (zm n k (eqF v0 3) h)
theorem aj7:lo Mj (FI yP k0)=zs n (kap ir k0):=by obtain ⟨J1,u1⟩:=exi (Fi yP k0); delta FI zs; rw [← ajz,u1]; kernel_rfl
def aeH:Q1:=(gZ cf Bw lg (gZ cf Bw XY (kJ Mj (FI cf k0))))
def Kk (n:Nat) (k:ab) (a0:Int) (h:Heap):aa:=ifB (eqF a0 0) (zs n k a0 true h) (zs n k a0 (eqF a0 1) h)
def TP (n:Nat) (a0:Int) (h:Heap) (k:ab):aa:=Kk n k a0 h
theorem ank:DZ cf Bw n aee ir k0=aeH cf k0:=by funext s; kernel_rfl
theorem anY:lo KC (DZ yP Bw n aee ir k0)=cmp KC (TP n) (kap ir k0):=(congrArg (lo KC) (ank n yP k0)).trans (show _=Kk n (kap ir k0) by obtain ⟨J0,u0⟩:=exi (FI yP k0); delta aeH Kk; rw [← aj7,u0]; kernel_rfl)
end
def dB (n:Nat):bg:=TP n
abbrev adB (g:af):Wr:=wrT ip iJ g
def aiB:bf:=lC []
section
variable (k0:Q0)
def akM:Q1:=(gZ cf uJ ot (gZ cf uJ aeX (jk iJ k0)))
def W6 (n:Nat) (k:am) (a0:AV) (h:Heap):aa:=qR h a0 fun a b=>jy .i64 0 b (.ptr a 0) fun c d=>jy .i64 1 b (.ptr a 0) fun e f=>la .i64 d f fun g=>k g b
def acA (n:Nat) (a0:AV) (h:Heap) (k:am):aa:=W6 n k a0 h
theorem aqI:DZ cf uJ n akX iJ k0=akM cf k0:=by funext s; kernel_rfl
theorem aqH:lo ip (DZ aiB uJ n akX iJ k0)=cmp ip (acA n) (kap iJ k0):=(congrArg (lo ip) (aqI n aiB k0)).trans (show _=W6 n (kap iJ k0) by delta akM W6; kernel_rfl)
end
def dw (n:Nat):af:=acA n
abbrev Gb (g:af):Wr:=wrT ip iJ g
def ob (ji:bG) (jh:bg) (iY:af):bf:=lC [(ad2,aeQ ji),(adU,adT jh),(acy,adB iY)]
section
variable (ji:bG) (jh:bg) (iY:af) (k0:Q0)
def Fh:Q1:=(gZ cf nd ni (jk iJ k0))
def Fl (n:Nat) (ji:bG) (jh:bg) (iY:af) (k:am) (h:Heap):aa:=k 0 h
theorem aj9:lo iH (Fh (ob ji jh iY) k0)=Fl n ji jh iY (kap iJ k0):=by delta Fh Fl; kernel_rfl
def Fd (J1:Q1):Q1:=(cJ p61 (gZ cf nd nT (jk iJ k0)) (gZ cf nd X6 (kJ pl J1)))
def sW (n:Nat) (ji:bG) (jh:bg) (iY:af) (k:am) (j1:aG) (v0:AV) (v8:AV) (v9:Int) (v10:Int) (v61:Bool) (h:Heap):aa:=ifB v61 (k 2 h) (la .i64 v10 1 fun a=>j1 v0 v8 v9 a h)
theorem ajs (J1:Q1):lo LV (Fd (ob ji jh iY) k0 J1)=sW n ji jh iY (kap iJ k0) (lo pl J1):=by delta Fd sW; kernel_rfl
def FF (J1:Q1):Q1:=(cJ p26 (gZ cf nd nT (jk iJ k0)) (gZ cf nd YC (kJ LV (Fd cf k0 J1))))
def zx (n:Nat) (ji:bG) (jh:bg) (iY:af) (k:am) (j1:aG) (v0:AV) (v3:Int) (v4:AV) (v8:AV) (v9:Int) (v10:Int) (v26:Bool) (h:Heap):aa:=ifB v26 (k 2 h) (ifB (ltF 0 v3) (PU .i64 v3 1 fun a=>eld 3 h v0 a 3 true fun b c=>iY c (h.shut true) fun d e=>jy .i64 0 (e.back h.ro) v4 fun f g=>ifB (ltF g d) (sW n ji jh iY k j1 v0 v8 v9 v10 true (e.back h.ro)) (PU .i64 v3 1 fun i=>eld 3 (e.back h.ro) v0 i 3 true fun l m=>iY m ((e.back h.ro).shut true) fun o p=>jy .i64 0 (p.back (e.back h.ro).ro) v4 fun q r=>ifB (eqF o r) (PU .i64 v3 1 fun s=>Qc 3 v0 s fun t=>jy .u8 2 (p.back (e.back h.ro).ro) t fun u w=>jy .u8 2 (p.back (e.back h.ro).ro) v4 fun x y=>sW n ji jh iY k j1 v0 v8 v9 v10 (eqF w y) (p.back (e.back h.ro).ro)) (sW n ji jh iY k j1 v0 v8 v9 v10 false (p.back (e.back h.ro).ro)))) (sW n ji jh iY k j1 v0 v8 v9 v10 false h))
theorem akc (J1:Q1):lo Mf (FF (ob ji jh iY) k0 J1)=zx n ji jh iY (kap iJ k0) (lo pl J1):=by obtain ⟨J2,u2⟩:=exi (Fd (ob ji jh iY) k0 J1); delta FF zx; rw [← ajs,u2]; kernel_rfl
def L4 (J1:Q1):Q1:=(gZ cf nd FJ (cJ p11 (gZ cf nd Y1 (gZ cf nd X2 (kJ Mf (FF cf k0 J1)))) (kJ iH (Fh cf k0))))
def zK (n:Nat) (ji:bG) (jh:bg) (iY:af) (k:am) (j1:aG) (v0:AV) (v8:AV) (v9:Int) (v10:Int) (h:Heap):aa:=ifB (ltF v10 v9) (eld 3 h v8 v10 3 true fun a b=>lG h (.cells [(.int .i64 0),(.int .i64 0),(.int .u8 0)] true 0) fun c d=>jf d (.ptr c 0) 3 b fun e=>jy .i64 0 e (.ptr c 0) fun f g=>jy .i64 1 e (.ptr c 0) fun i l=>ji g l e fun m o=>ifB (jK m) (zx n ji jh iY k j1 v0 v10 (.ptr c 0) v8 v9 v10 true o) (faK 2 (.ptr c 0) fun p=>ldI .u8 o p fun q=>jh q o fun r s=>zx n ji jh iY k j1 v0 v10 (.ptr c 0) v8 v9 v10 (jK r) s)) (Fl n ji jh iY k h)
def LL:Nat→Q1:=lpS (L4 cf k0)
def wo (n:Nat) (ji:bG) (jh:bg) (iY:af) (k:am):Nat→aG:=lpF pl (zK n ji jh iY k)
theorem aks (k:am) (m:Nat):wo n ji jh iY k (m+1)=zK n ji jh iY k (wo n ji jh iY k m):=rfl
theorem ajX (m:Nat):lo pl (LL (ob ji jh iY) k0 m)=wo n ji jh iY (kap iJ k0) m:=mQ (fun J1=>(by obtain ⟨J0,u0⟩:=exi (Fh (ob ji jh iY) k0); obtain ⟨J3,u3⟩:=exi (FF (ob ji jh iY) k0 J1); delta L4 zK; rw [← aj9,u0, ← akc,u3]; kernel_rfl:lo pl (L4 (ob ji jh iY) k0 J1)=zK n ji jh iY (kap iJ k0) (lo pl J1))) m
def adQ:Q1:=(gZ cf nd ni (gZ cf nd V8 (cJ p7 (gZ cf nd XK (jk iJ k0)) (gZ cf nd F1 (kJ pl (LL cf k0 n))))))
def Kr (n:Nat) (ji:bG) (jh:bg) (iY:af) (k:am) (a0:AV) (h:Heap):aa:=jC a0 fun a=>ifB (ltF 1024 a) (k 3 h) (jC a0 fun b=>wo n ji jh iY k n a0 a0 b 0 h)
def Vl (n:Nat) (ji:bG) (jh:bg) (iY:af) (a0:AV) (h:Heap) (k:am):aa:=Kr n ji jh iY k a0 h
theorem an0:DZ cf nd n aet iJ k0=adQ n cf k0:=by funext s; kernel_rfl
theorem an8:lo ip (DZ (ob ji jh iY) nd n aet iJ k0)=cmp ip (Vl n ji jh iY) (kap iJ k0):=(congrArg (lo ip) (an0 n (ob ji jh iY) k0)).trans (show _=Kr n ji jh iY (kap iJ k0) by obtain ⟨J1,u1⟩:=exi (LL (ob ji jh iY) k0 n); delta adQ Kr; rw [← ajX,u1]; kernel_rfl)
end
def cB (n:Nat):af:=Vl n (dC n) (dB n) (dw n)
abbrev LY (g:af):Wr:=wrT ip iJ g
def ol (io:af):bf:=lC [(Gp,Gb io)]
section
variable (io:af) (k0:Q0)
def ry:Q1:=(gZ cf kO S8 (cJ p54 (gZ cf kO nT (jk iJ k0)) (gZ cf kO ni (jk iJ k0))))
def vJ (n:Nat) (io:af) (k:am) (v1:AV) (v4:Int) (h:Heap):aa:=jy .i64 1 h v1 fun a b=>ifB (jK (eqF v4 b)) (k 2 h) (k 0 h)
theorem RC:lo Ae (ry (ol io) k0)=vJ n io (kap iJ k0):=by delta ry vJ; kernel_rfl
def AL:Q1:=(cJ p50 (gZ cf kO nT (jk iJ k0)) (kJ Ae (ry cf k0)))
def rR (n:Nat) (io:af) (k:am) (v1:AV) (v4:Int) (v50:Bool) (h:Heap):aa:=ifB v50 (k 2 h) (vJ n io k v1 v4 h)
theorem ago:lo GA (AL (ol io) k0)=rR n io (kap iJ k0):=by obtain ⟨J0,u0⟩:=exi (ry (ol io) k0); delta AL rR; rw [← RC,u0]; kernel_rfl
def Ay:Q1:=(cJ p20 (gZ cf kO nT (jk iJ k0)) (gZ cf kO jj (gZ cf kO QK (gZ cf kO Rq (cJ p25 (gZ cf kO Th (gZ cf kO Rg (gZ cf kO SD (kJ GA (AL cf k0))))) (kJ Ae (ry cf k0)))))))
def wb (n:Nat) (io:af) (k:am) (v1:AV) (v20:Bool) (h:Heap):aa:=ifB v20 (k 2 h) (fld 0 h v1 1 false fun a b=>jC b fun c=>ifB (ltF 0 c) (fld 0 h v1 1 false fun d e=>PU .i64 c 1 fun f=>eld 3 h e f 3 true fun g i=>lG h (.cells [(.int .i64 0),(.int .i64 0),(.int .u8 0)] true 0) fun l m=>jf m (.ptr l 0) 3 i fun o=>jy .i64 0 o (.ptr l 0) fun p q=>jy .i64 1 o (.ptr l 0) fun r s=>la .i64 q s fun t=>PU .i64 t 524288 fun u=>tg true [(.int .i64 0),(.int .i64 u)] fun w=>D9 .i64 w fun x=>ifB (ltF 0 x) (faK 0 (.ptr l 0) fun y=>ldI .i64 o y fun z=>ifB (ltF 524288 z) (rR n io k v1 x true o) (faK 2 (.ptr l 0) fun A=>ldI .u8 o A fun B=>rR n io k v1 x (jK (eqF B 3)) o)) (rR n io k v1 x false o)) (vJ n io k v1 0 h))
theorem agk:lo rC (Ay (ol io) k0)=wb n io (kap iJ k0):=by obtain ⟨J0,u0⟩:=exi (ry (ol io) k0); obtain ⟨J1,u1⟩:=exi (AL (ol io) k0); delta Ay wb; rw [← RC,u0, ← ago,u1]; kernel_rfl
def XF:Q1:=(gZ cf kO ot (gZ cf kO NO (gZ cf kO Mz (cJ p11 (gZ cf kO N0 (jk iJ k0)) (gZ cf kO O3 (kJ rC (Ay cf k0)))))))
def Fk (n:Nat) (io:af) (k:am) (a0:AV) (h:Heap):aa:=qR h a0 fun a b=>fld 0 b (.ptr a 0) 1 false fun c d=>io d b fun e f=>ifB (jK (eqF e 0)) (k e f) (jy .i64 1 f (.ptr a 0) fun g i=>ifB (ltF i 0) (wb n io k (.ptr a 0) true f) (faK 1 (.ptr a 0) fun l=>ldI .i64 f l fun m=>wb n io k (.ptr a 0) (ltF 1024 m) f))
def LC (n:Nat) (io:af) (a0:AV) (h:Heap) (k:am):aa:=Fk n io k a0 h
theorem ajO:DZ cf kO n XH iJ k0=XF cf k0:=by funext s; kernel_rfl
theorem ajZ:lo ip (DZ (ol io) kO n XH iJ k0)=cmp ip (LC n io) (kap iJ k0):=(congrArg (lo ip) (ajO n (ol io) k0)).trans (show _=Fk n io (kap iJ k0) by obtain ⟨J2,u2⟩:=exi (Ay (ol io) k0); delta XF Fk; rw [← agk,u2]; kernel_rfl)
end
def db (n:Nat):af:=LC n (cB n)
abbrev bE:=Int→Heap→(Int→Int→Int→Heap→aa)→aa
abbrev cS:=Int→Int→Int→Heap→aa
abbrev ZT (g:bE):Wr:=wrT sa ml g
def Yc:bf:=lC []
section
variable (k0:Q0)
def abR:Q1:=(gZ cf nr C8 (gZ cf nr UP (cJ p7 (gZ cf nr Dd (jk ml k0)) (gZ cf nr BZ (jk ml k0)))))
def HO (n:Nat) (k:cS) (a0:Int) (h:Heap):aa:=shrK .u64 a0 28 fun a=>ifB (jK (eqF a 0)) (k 0 0 10 h) (shrK .u64 a0 8 fun b=>uq .i64 b fun c=>ae8 .and .u64 a0 255 fun d=>uq .i64 d fun e=>k c e 0 h)
def Qa (n:Nat) (a0:Int) (h:Heap) (k:cS):aa:=HO n k a0 h
theorem amH:DZ cf nr n abM ml k0=abR cf k0:=by funext s; kernel_rfl
theorem al9:lo sa (DZ Yc nr n abM ml k0)=cmp sa (Qa n) (kap ml k0):=(congrArg (lo sa) (amH n Yc k0)).trans (show _=HO n (kap ml k0) by delta abR HO; kernel_rfl)
end
def d9 (n:Nat):bE:=Qa n
abbrev dS:=Int→Int→Heap→(Int→Int→Int→Heap→aa)→aa
abbrev aiC (g:dS):Wr:=wrT xk sU g
def Bl (ku:bE):bf:=lC [(aaM,ZT ku)]
section
variable (ku:bE) (k0:Q0)
def H7:Q1:=(cJ p27 (gZ cf sR ab1 (jk sU k0)) (gZ cf sR ab4 (jk sU k0)))
def BO (n:Nat) (ku:bE) (k:cS) (v4:Int) (v5:Int) (v27:Bool) (h:Heap):aa:=ifB v27 (k 0 0 2 h) (k v4 v5 0 h)
theorem aln:lo PO (H7 (Bl ku) k0)=BO n ku (kap sU k0):=by delta H7 BO; kernel_rfl
def HK:Q1:=(gZ cf sR aa3 (kJ PO (H7 cf k0)))
def Dk (n:Nat) (ku:bE) (k:cS) (v1:Int) (v4:Int) (v5:Int) (v21:Bool) (h:Heap):aa:=ifB v21 (BO n ku k v4 v5 true h) (la .i64 v5 v1 fun a=>BO n ku k v4 v5 (ltF 256 a) h)
theorem al8:lo QF (HK (Bl ku) k0)=Dk n ku (kap sU k0):=by obtain ⟨J1,u1⟩:=exi (H7 (Bl ku) k0); delta HK Dk; rw [← aln,u1]; kernel_rfl
def aiJ:Q1:=(gZ cf sR abH (gZ cf sR aaW (gZ cf sR Fg (cJ p14 (gZ cf sR abd (jk sU k0)) (gZ cf sR aaE (kJ QF (HK cf k0)))))))
def Qk (n:Nat) (ku:bE) (k:cS) (a0:Int) (a1:Int) (h:Heap):aa:=ku a0 h fun a b c d=>ifB (jK (eqF c 0)) (k 0 0 c d) (ifB (ltF a1 1) (Dk n ku k a1 a b true d) (Dk n ku k a1 a b (ltF 8 a1) d))
def Zq (n:Nat) (ku:bE) (a0:Int) (a1:Int) (h:Heap) (k:cS):aa:=Qk n ku k a0 a1 h
theorem apm:DZ cf sR n ahQ sU k0=aiJ cf k0:=by funext s; kernel_rfl
theorem apf:lo xk (DZ (Bl ku) sR n ahQ sU k0)=cmp xk (Zq n ku) (kap sU k0):=(congrArg (lo xk) (apm n (Bl ku) k0)).trans (show _=Qk n ku (kap sU k0) by obtain ⟨J0,u0⟩:=exi (HK (Bl ku) k0); delta aiJ Qk; rw [← al8,u0]; kernel_rfl)
end
def eI (n:Nat):dS:=Zq n (d9 n)
abbrev ad8 (g:ah):Wr:=wrT gX gQ g
def qu (iY:af):bf:=lC [(acy,adB iY)]
section
variable (iY:af) (k0:Q0)
def FX:Q1:=(gZ cf wM Xp (jk gQ k0))
def Ft (n:Nat) (iY:af) (k:am) (v5:Int) (h:Heap):aa:=k v5 h
theorem ajP:lo ws (FX (qu iY) k0)=Ft n iY (kap gQ k0):=by delta FX Ft; kernel_rfl
def FS (J1:Q1):Q1:=(cJ p18 (gZ cf wM Yv (kJ qE J1)) (kJ ws (FX cf k0)))
def zC (n:Nat) (iY:af) (k:am) (j1:bK) (v0:AV) (v1:Int) (v5:Int) (v18:Bool) (h:Heap):aa:=ifB v18 (la .i64 v5 1 fun a=>j1 v0 v1 a h) (Ft n iY k v5 h)
theorem aj5 (J1:Q1):lo LM (FS (qu iY) k0 J1)=zC n iY (kap gQ k0) (lo qE J1):=by obtain ⟨J0,u0⟩:=exi (FX (qu iY) k0); delta FS zC; rw [← ajP,u0]; kernel_rfl
def Mb (J1:Q1):Q1:=(gZ cf wM Yi (kJ LM (FS cf k0 J1)))
def zF (n:Nat) (iY:af) (k:am) (j1:bK) (v0:AV) (v1:Int) (v5:Int) (h:Heap):aa:=jC v0 fun a=>ifB (ltF v5 a) (eld 3 h v0 v5 3 true fun b c=>iY c h fun d e=>zC n iY k j1 v0 v1 v5 (jK (ltF v1 d)) e) (zC n iY k j1 v0 v1 v5 false h)
def LK:Nat→Q1:=lpS (Mb cf k0)
def zp (n:Nat) (iY:af) (k:am):Nat→bK:=lpF qE (zF n iY k)
theorem aj2 (k:am) (m:Nat):zp n iY k (m+1)=zF n iY k (zp n iY k m):=rfl
theorem ajy (m:Nat):lo qE (LK (qu iY) k0 m)=zp n iY (kap gQ k0) m:=mQ (fun J1=>(by obtain ⟨J2,u2⟩:=exi (FS (qu iY) k0 J1); delta Mb zF; rw [← aj5,u2]; kernel_rfl:lo qE (Mb (qu iY) k0 J1)=zF n iY (kap gQ k0) (lo qE J1))) m
def aeD:Q1:=(gZ cf wM jj (gZ cf wM wl (kJ qE (LK cf k0 n))))
def K4 (n:Nat) (iY:af) (k:am) (a0:AV) (a1:Int) (h:Heap):aa:=zp n iY k n a0 a1 0 h
def WS (n:Nat) (iY:af) (a0:AV) (a1:Int) (h:Heap) (k:am):aa:=K4 n iY k a0 a1 h
theorem ans:DZ cf wM n aer gQ k0=aeD n cf k0:=by funext s; kernel_rfl
theorem anV:lo gX (DZ (qu iY) wM n aer gQ k0)=cmp gX (WS n iY) (kap gQ k0):=(congrArg (lo gX) (ans n (qu iY) k0)).trans (show _=K4 n iY (kap gQ k0) by obtain ⟨J1,u1⟩:=exi (LK (qu iY) k0 n); delta aeD K4; rw [← ajy,u1]; kernel_rfl)
end
def dV (n:Nat):ah:=WS n (dw n)
abbrev dU:=AV→Int→Heap→(AV→Bool→Int→Heap→aa)→aa
abbrev ahc (g:dU):Wr:=wrT gX rl g
def Bd (io:af) (kQ:ah):bf:=lC [(Gp,Gb io),(aes,ad8 kQ)]
section
variable (io:af) (kQ:ah) (k0:Q0)
def H3:Q1:=(cJ p37 (gZ cf qn ZX (jk rl k0)) (gZ cf qn abq (jk rl k0)))
def Ct (n:Nat) (io:af) (kQ:ah) (k:cC) (v0:AV) (v4:AV) (v8:Int) (v37:Bool) (h:Heap):aa:=ifB v37 (eld 3 h v0 v8 3 true fun a b=>jf h v4 3 b fun c=>jg c v4 3 true fun d=>k d true 0 c) (kM [(.int .i64 0),(.int .i64 0),(.int .u8 0)] [] fun e=>jf h v4 3 e fun f=>jg f v4 3 true fun g=>k g false 0 f)
theorem amr:lo Qf (H3 (Bd io kQ) k0)=Ct n io kQ (kap rl k0):=by delta H3 Ct; kernel_rfl
def H5:Q1:=(cJ p20 (gZ cf qn ZV (jk rl k0)) (gZ cf qn aba (gZ cf qn aa5 (kJ Qf (H3 cf k0)))))
def CR (n:Nat) (io:af) (kQ:ah) (k:cC) (v0:AV) (v1:Int) (v4:AV) (v20:Bool) (h:Heap):aa:=ifB v20 (kM [(.int .i64 0),(.int .i64 0),(.int .u8 0)] [] fun a=>jf h v4 3 a fun b=>jg b v4 3 true fun c=>k c false 2 b) (kQ v0 v1 h fun d e=>jC v0 fun f=>ifB (ltF d f) (Qc 3 v0 d fun g=>jy .i64 0 e g fun i l=>Ct n io kQ k v0 v4 d (jK (ltF v1 l)) e) (Ct n io kQ k v0 v4 d false e))
theorem alj:lo QH (H5 (Bd io kQ) k0)=CR n io kQ (kap rl k0):=by obtain ⟨J0,u0⟩:=exi (H3 (Bd io kQ) k0); delta H5 CR; rw [← amr,u0]; kernel_rfl
def ahA:Q1:=(gZ cf qn abJ (gZ cf qn ZS (gZ cf qn abS (cJ p12 (gZ cf qn abr (jk rl k0)) (gZ cf qn abX (kJ QH (H5 cf k0)))))))
def PY (n:Nat) (io:af) (kQ:ah) (k:cC) (a0:AV) (a1:Int) (h:Heap):aa:=lG h (.cells [(.int .i64 0),(.int .i64 0),(.int .u8 0)] true 0) fun a b=>io a0 b fun c d=>ifB (jK (eqF c 0)) (kM [(.int .i64 0),(.int .i64 0),(.int .u8 0)] [] fun e=>jf d (.ptr a 0) 3 e fun f=>jg f (.ptr a 0) 3 true fun g=>k g false c f) (ifB (ltF a1 0) (CR n io kQ k a0 a1 (.ptr a 0) true d) (CR n io kQ k a0 a1 (.ptr a 0) (jK (ltF a1 1048576)) d))
def ZH (n:Nat) (io:af) (kQ:ah) (a0:AV) (a1:Int) (h:Heap) (k:cC):aa:=PY n io kQ k a0 a1 h
theorem ao4:DZ cf qn n ahd rl k0=ahA cf k0:=by funext s; kernel_rfl
theorem apj:lo gX (DZ (Bd io kQ) qn n ahd rl k0)=cmp gX (ZH n io kQ) (kap rl k0):=(congrArg (lo gX) (ao4 n (Bd io kQ) k0)).trans (show _=PY n io kQ (kap rl k0) by obtain ⟨J1,u1⟩:=exi (H5 (Bd io kQ) k0); delta ahA PY; rw [← alj,u1]; kernel_rfl)
end
def eK (n:Nat):dU:=ZH n (cB n) (dV n)
abbrev cX:=AV→Int→Int→Bool→Heap→(Int→Heap→aa)→aa
abbrev VO (g:cX):Wr:=wrT Ci me g
def Au (jz:af) (na:dS) (nb:dU):bf:=lC [(Mm,LY jz),(aji,aiC na),(ah9,ahc nb)]
section
variable (jz:af) (na:dS) (nb:dU) (k0:Q0)
def tO:Q1:=(gZ cf kd Nk (cJ p43 (gZ cf kd O9 (jk me k0)) (gZ cf kd MP (cJ p46 (gZ cf kd Pd (jk me k0)) (gZ cf kd qO (jk me k0))))))
def tT (n:Nat) (jz:af) (na:dS) (nb:dU) (k:am) (v13:AV) (v14:Bool) (v15:Int) (h:Heap):aa:=ifB (jK v14) (k 170 h) (jy .u8 2 h v13 fun a b=>ae8 .and .u8 b v15 fun c=>ifB (eqF c 0) (k 172 h) (k 0 h))
theorem acW:lo yN (tO (Au jz na nb) k0)=tT n jz na nb (kap me k0):=by delta tO tT; kernel_rfl
def Uq:Q1:=(gZ cf kd Lj (gZ cf kd La (gZ cf kd KV (cJ p19 (gZ cf kd Kw (jk me k0)) (gZ cf kd Lu (gZ cf kd Lk (cJ p29 (gZ cf kd K3 (jk me k0)) (gZ cf kd Ko (gZ cf kd N6 (cJ p40 (gZ cf kd No (jk me k0)) (gZ cf kd Oj (gZ cf kd O1 (cJ p42 (gZ cf kd OD (kJ yN (tO cf k0))) (kJ yN (tO cf k0)))))))))))))))
def CX (n:Nat) (jz:af) (na:dS) (nb:dU) (k:am) (a0:AV) (a1:Int) (a2:Int) (a3:Bool) (h:Heap):aa:=qR h a0 fun a b=>jg b (.ptr a 0) 2 true fun c=>jz c b fun d e=>ifB (jK (eqF d 0)) (k d e) (na a1 a2 e fun f g i l=>ifB (jK (eqF i 0)) (k i l) (fld 0 l (.ptr a 0) 1 false fun m o=>nb o f l fun p q r s=>lG s (.cells [(.int .i64 0),(.int .i64 0),(.int .u8 0)] true 0) fun t u=>jf u (.ptr t 0) 3 p fun w=>ifB (jK (eqF r 0)) (k r w) (ifB a3 (tT n jz na nb k (.ptr t 0) q 2 w) (tT n jz na nb k (.ptr t 0) q 1 w))))
def Kb (n:Nat) (jz:af) (na:dS) (nb:dU) (a0:AV) (a1:Int) (a2:Int) (a3:Bool) (h:Heap) (k:am):aa:=CX n jz na nb k a0 a1 a2 a3 h
theorem ahf:DZ cf kd n Wu me k0=Uq cf k0:=by funext s; kernel_rfl
theorem aiI:lo Ci (DZ (Au jz na nb) kd n Wu me k0)=cmp Ci (Kb n jz na nb) (kap me k0):=(congrArg (lo Ci) (ahf n (Au jz na nb) k0)).trans (show _=CX n jz na nb (kap me k0) by obtain ⟨J0,u0⟩:=exi (tO (Au jz na nb) k0); delta Uq CX; rw [← acW,u0]; kernel_rfl)
end
def dz (n:Nat):cX:=Kb n (db n) (eI n) (eK n)
abbrev Wj (g:ad):Wr:=wrT gX ii g
def AZ (mg:aZ) (kR:cX):bf:=lC [(aeE,ae2 mg),(VJ,VO kR)]
section
variable (mg:aZ) (kR:cX) (k0:Q0)
def yc:Q1:=(gZ cf oa Nb (jk ii k0))
def uc (n:Nat) (mg:aZ) (kR:cX) (k:ab) (v22:Bool) (h:Heap):aa:=k v22 h
theorem ab9:lo Es (yc (AZ mg kR) k0)=uc n mg kR (kap ii k0):=by delta yc uc; kernel_rfl
def UG:Q1:=(gZ cf oa pO (gZ cf oa PH (gZ cf oa PG (cJ p13 (gZ cf oa i9 (jk ii k0)) (gZ cf oa OL (gZ cf oa M5 (kJ Es (yc cf k0))))))))
def B0 (n:Nat) (mg:aZ) (kR:cX) (k:ab) (a0:AV) (a1:Int) (h:Heap):aa:=qR h a0 fun a b=>mg a1 0 b fun c d e=>ifB (jK (eqF d 0)) (k false e) (jg e (.ptr a 0) 2 true fun f=>kR f c 1 false e fun g i=>ifB (eqF g 0) (uc n mg kR k true i) (uc n mg kR k (eqF g 172) i))
def IA (n:Nat) (mg:aZ) (kR:cX) (a0:AV) (a1:Int) (h:Heap) (k:ab):aa:=B0 n mg kR k a0 a1 h
theorem ai3:DZ cf oa n U3 ii k0=UG cf k0:=by funext s; kernel_rfl
theorem ahU:lo gX (DZ (AZ mg kR) oa n U3 ii k0)=cmp gX (IA n mg kR) (kap ii k0):=(congrArg (lo gX) (ai3 n (AZ mg kR) k0)).trans (show _=B0 n mg kR (kap ii k0) by obtain ⟨J0,u0⟩:=exi (yc (AZ mg kR) k0); delta UG B0; rw [← ab9,u0]; kernel_rfl)
end
def bs (n:Nat):ad:=IA n (ez n) (dz n)
abbrev aO:=AV→AV→Int→Heap→(Bool→Heap→aa)→aa
abbrev Z2 (g:aO):Wr:=wrT sD hO g
def ja (gA:ad) (gE:aI) (ij:bu) (gR:aU) (gY:ad):bf:=lC [(nw,nv gA),(wh,wj gE),(adY,aeZ ij),(Vo,VR gR),(UF,Wj gY)]
abbrev d8:Type:=AV→AV→AV→Int→Int→AV→Int→Int→Heap→aa
section
variable (gA:ad) (gE:aI) (ij:bu) (gR:aU) (gY:ad) (k0:Q0)
def BW:Q1:=(gZ cf jo pL (jk hO k0))
def Dv (n:Nat) (gA:ad) (gE:aI) (ij:bu) (gR:aU) (gY:ad) (k:ab) (h:Heap):aa:=k true h
theorem aja:lo iH (BW (ja gA gE ij gR gY) k0)=Dv n gA gE ij gR gY (kap hO k0):=by delta BW Dv; kernel_rfl
def C1 (J1:Q1):Q1:=(gZ cf jo Vg (kJ li J1))
def CG (n:Nat) (gA:ad) (gE:aI) (ij:bu) (gR:aU) (gY:ad) (k:ab) (j1:aG) (v4:AV) (v79:AV) (v80:Int) (v81:Int) (h:Heap):aa:=la .i64 v81 1 fun a=>j1 v4 v79 v80 a h
theorem aia (J1:Q1):lo li (C1 (ja gA gE ij gR gY) J1)=CG n gA gE ij gR gY (kap hO k0) (lo li J1):=by delta C1 CG; kernel_rfl
def C3 (J3:Q1):Q1:=(cJ Qn (gZ cf jo iZ (jk hO k0)) (gZ cf jo T0 (kJ oj J3)))
def qY (n:Nat) (gA:ad) (gE:aI) (ij:bu) (gR:aU) (gY:ad) (k:ab) (j3:d8) (v4:AV) (v17:AV) (v79:AV) (v80:Int) (v81:Int) (v102:AV) (v103:Int) (v104:Int) (v141:Bool) (h:Heap):aa:=ifB v141 (k false h) (la .i64 v104 1 fun a=>j3 v4 v17 v79 v80 v81 v102 v103 a h)
theorem ahC (J3:Q1):lo Jf (C3 (ja gA gE ij gR gY) k0 J3)=qY n gA gE ij gR gY (kap hO k0) (lo oj J3):=by delta C3 qY; kernel_rfl
def C7 (J3:Q1):Q1:=(gZ cf jo UH (kJ Jf (C3 cf k0 J3)))
def rg (n:Nat) (gA:ad) (gE:aI) (ij:bu) (gR:aU) (gY:ad) (k:ab) (j3:d8) (v4:AV) (v17:AV) (v19:AV) (v79:AV) (v80:Int) (v81:Int) (v102:AV) (v103:Int) (v104:Int) (v127:Bool) (h:Heap):aa:=ifB v127 (qY n gA gE ij gR gY k j3 v4 v17 v79 v80 v81 v102 v103 v104 true h) (faK 1 v19 fun a=>fldB 1 h a fun b c=>ifB c (faK 3 v4 fun d=>jg h d 1 false fun e=>faK 1 v19 fun f=>jy .i64 6 h f fun g i=>gA e i h fun l m=>qY n gA gE ij gR gY k j3 v4 v17 v79 v80 v81 v102 v103 v104 (jK l) m) (qY n gA gE ij gR gY k j3 v4 v17 v79 v80 v81 v102 v103 v104 false h))
theorem aic (J3:Q1):lo Jv (C7 (ja gA gE ij gR gY) k0 J3)=rg n gA gE ij gR gY (kap hO k0) (lo oj J3):=by obtain ⟨J5,u5⟩:=exi (C3 (ja gA gE ij gR gY) k0 J3); delta C7 rg; rw [← ahC,u5]; kernel_rfl
def JI (J1:Q1) (J3:Q1):Q1:=(gZ cf jo Ws (cJ Zh (gZ cf jo U0 (gZ cf jo VP (kJ Jv (C7 cf k0 J3)))) (kJ li (C1 cf J1))))
def xI (n:Nat) (gA:ad) (gE:aI) (ij:bu) (gR:aU) (gY:ad) (k:ab) (j1:aG) (j3:d8) (v4:AV) (v17:AV) (v79:AV) (v80:Int) (v81:Int) (v102:AV) (v103:Int) (v104:Int) (h:Heap):aa:=ifB (ltF v104 v103) (eld 8 h v102 v104 8 true fun a b=>lG h (.cells [(.int .i64 0),(.bool false),(.bool false),(.bool false),(.bool false),(.bool false),(.bool false),(.int .i64 0)] true 0) fun c d=>jf d (.ptr c 0) 8 b fun e=>fld 2 e v17 2 true fun f g=>jy .i64 0 e (.ptr c 0) fun i l=>gY g l e fun m o=>ifB (jK m) (rg n gA gE ij gR gY k j3 v4 v17 (.ptr c 0) v79 v80 v81 v102 v103 v104 true o) (faK 1 (.ptr c 0) fun p=>fldB 0 o p fun q r=>ifB r (faK 0 v4 fun s=>jg o s 1 false fun t=>faK 1 (.ptr c 0) fun u=>jy .i64 6 o u fun w x=>gR t x 2 o fun y z=>rg n gA gE ij gR gY k j3 v4 v17 (.ptr c 0) v79 v80 v81 v102 v103 v104 (jK y) z) (rg n gA gE ij gR gY k j3 v4 v17 (.ptr c 0) v79 v80 v81 v102 v103 v104 false o))) (CG n gA gE ij gR gY k j1 v4 v79 v80 v81 h)
def JB (J1:Q1):Nat→Q1:=lpS (JI cf k0 J1)
def re (n:Nat) (gA:ad) (gE:aI) (ij:bu) (gR:aU) (gY:ad) (k:ab) (j1:aG):Nat→d8:=lpF oj (xI n gA gE ij gR gY k j1)
theorem ah1 (k:ab) (j1:aG) (m:Nat):re n gA gE ij gR gY k j1 (m+1)=xI n gA gE ij gR gY k j1 (re n gA gE ij gR gY k j1 m):=rfl
theorem ajo (J1:Q1) (m:Nat):lo oj (JB (ja gA gE ij gR gY) k0 J1 m)=re n gA gE ij gR gY (kap hO k0) (lo li J1) m:=mQ (fun J3=>(by obtain ⟨J2,u2⟩:=exi (C1 (ja gA gE ij gR gY) J1); obtain ⟨J4,u4⟩:=exi (C7 (ja gA gE ij gR gY) k0 J3); delta JI xI; rw [← aia,u2, ← aic,u4]; kernel_rfl:lo oj (JI (ja gA gE ij gR gY) k0 J1 J3)=xI n gA gE ij gR gY (kap hO k0) (lo li J1) (lo oj J3))) m
def CW (J1:Q1):Q1:=(cJ Xj (gZ cf jo iZ (jk hO k0)) (gZ cf jo WU (kJ oj (JB cf k0 J1 n))))
def ul (n:Nat) (gA:ad) (gE:aI) (ij:bu) (gR:aU) (gY:ad) (k:ab) (j1:aG) (v4:AV) (v17:AV) (v79:AV) (v80:Int) (v81:Int) (v100:Bool) (h:Heap):aa:=ifB v100 (k false h) (fld 4 h v17 1 false fun a b=>jC b fun c=>re n gA gE ij gR gY k j1 n v4 v17 v79 v80 v81 b c 0 h)
theorem ahj (J1:Q1):lo JE (CW n (ja gA gE ij gR gY) k0 J1)=ul n gA gE ij gR gY (kap hO k0) (lo li J1):=by obtain ⟨J3,u3⟩:=exi (JB (ja gA gE ij gR gY) k0 J1 n); delta CW ul; rw [← ajo,u3]; kernel_rfl
def Ds (J1:Q1):Q1:=(gZ cf jo Sz (kJ JE (CW n cf k0 J1)))
def tv (n:Nat) (gA:ad) (gE:aI) (ij:bu) (gR:aU) (gY:ad) (k:ab) (j1:aG) (v4:AV) (v17:AV) (v79:AV) (v80:Int) (v81:Int) (v92:Bool) (h:Heap):aa:=ifB v92 (ul n gA gE ij gR gY k j1 v4 v17 v79 v80 v81 true h) (faK 0 v4 fun a=>jg h a 1 false fun b=>jy .i64 1 h v17 fun c d=>gR b d 3 h fun e f=>ul n gA gE ij gR gY k j1 v4 v17 v79 v80 v81 (jK e) f)
theorem ahZ (J1:Q1):lo Jw (Ds n (ja gA gE ij gR gY) k0 J1)=tv n gA gE ij gR gY (kap hO k0) (lo li J1):=by obtain ⟨J7,u7⟩:=exi (CW n (ja gA gE ij gR gY) k0 J1); delta Ds tv; rw [← ahj,u7]; kernel_rfl
def JS (J1:Q1):Q1:=(gZ cf jo Q3 (cJ p82 (gZ cf jo QR (gZ cf jo Q4 (kJ Jw (Ds n cf k0 J1)))) (kJ iH (BW cf k0))))
def xd (n:Nat) (gA:ad) (gE:aI) (ij:bu) (gR:aU) (gY:ad) (k:ab) (j1:aG) (v4:AV) (v79:AV) (v80:Int) (v81:Int) (h:Heap):aa:=ifB (ltF v81 v80) (eld 5 h v79 v81 5 true fun a b=>lG h (.cells [(.int .i64 0),(.int .i64 0),.nilslice,(.int .i64 0),.nilslice] true 0) fun c d=>jf d (.ptr c 0) 5 b fun e=>jy .i64 0 e (.ptr c 0) fun f g=>ifB (ltF g 0) (tv n gA gE ij gR gY k j1 v4 (.ptr c 0) v79 v80 v81 true e) (faK 0 (.ptr c 0) fun i=>ldI .i64 e i fun l=>tv n gA gE ij gR gY k j1 v4 (.ptr c 0) v79 v80 v81 (jK (ltF l 16)) e)) (Dv n gA gE ij gR gY k h)
def JH:Nat→Q1:=lpS (JS n cf k0)
def nk (n:Nat) (gA:ad) (gE:aI) (ij:bu) (gR:aU) (gY:ad) (k:ab):Nat→aG:=lpF li (xd n gA gE ij gR gY k)
theorem aih (k:ab) (m:Nat):nk n gA gE ij gR gY k (m+1)=xd n gA gE ij gR gY k (nk n gA gE ij gR gY k m):=rfl
theorem ag6 (m:Nat):lo li (JH n (ja gA gE ij gR gY) k0 m)=nk n gA gE ij gR gY (kap hO k0) m:=mQ (fun J1=>(by obtain ⟨J0,u0⟩:=exi (BW (ja gA gE ij gR gY) k0); obtain ⟨J6,u6⟩:=exi (Ds n (ja gA gE ij gR gY) k0 J1); delta JS xd; rw [← aja,u0, ← ahZ,u6]; kernel_rfl:lo li (JS n (ja gA gE ij gR gY) k0 J1)=xd n gA gE ij gR gY (kap hO k0) (lo li J1))) m
def Dj:Q1:=(gZ cf jo RG (kJ li (JH n cf k0 n)))
def wK (n:Nat) (gA:ad) (gE:aI) (ij:bu) (gR:aU) (gY:ad) (k:ab) (v4:AV) (h:Heap):aa:=fld 4 h v4 1 false fun a b=>jC b fun c=>nk n gA gE ij gR gY k n v4 b c 0 h
theorem ajg:lo tG (Dj n (ja gA gE ij gR gY) k0)=wK n gA gE ij gR gY (kap hO k0):=by obtain ⟨J1,u1⟩:=exi (JH n (ja gA gE ij gR gY) k0 n); delta Dj wK; rw [← ag6,u1]; kernel_rfl
def AP (J9:Q1):Q1:=(cJ p76 (gZ cf jo iZ (jk hO k0)) (gZ cf jo QX (kJ pI J9)))
def rP (n:Nat) (gA:ad) (gE:aI) (ij:bu) (gR:aU) (gY:ad) (k:ab) (j9:c0) (v2:Int) (v3:AV) (v4:AV) (v12:Int) (v56:AV) (v57:Int) (v58:Int) (v76:Bool) (h:Heap):aa:=ifB v76 (k false h) (la .i64 v58 1 fun a=>j9 v2 v3 v4 v12 v56 v57 a h)
theorem afn (J9:Q1):lo Hs (AP (ja gA gE ij gR gY) k0 J9)=rP n gA gE ij gR gY (kap hO k0) (lo pI J9):=by delta AP rP; kernel_rfl
def Js (J9:Q1):Q1:=(gZ cf jo S3 (cJ p59 (gZ cf jo Tt (gZ cf jo R8 (kJ Hs (AP cf k0 J9)))) (kJ tG (Dj n cf k0))))
def xu (n:Nat) (gA:ad) (gE:aI) (ij:bu) (gR:aU) (gY:ad) (k:ab) (j9:c0) (v2:Int) (v3:AV) (v4:AV) (v12:Int) (v56:AV) (v57:Int) (v58:Int) (h:Heap):aa:=ifB (ltF v58 v57) (Xg .i64 1 h v56 v58 fun a b=>ifB (ltF b v12) (rP n gA gE ij gR gY k j9 v2 v3 v4 v12 v56 v57 v58 true h) (fld 16 h v3 1 false fun c d=>Qc 8 d v2 fun e=>jy .i64 7 h e fun f g=>la .i64 v12 g fun i=>rP n gA gE ij gR gY k j9 v2 v3 v4 v12 v56 v57 v58 (jK (ltF b i)) h)) (wK n gA gE ij gR gY k v4 h)
def JC:Nat→Q1:=lpS (Js n cf k0)
def tZ (n:Nat) (gA:ad) (gE:aI) (ij:bu) (gR:aU) (gY:ad) (k:ab):Nat→c0:=lpF pI (xu n gA gE ij gR gY k)
theorem aip (k:ab) (m:Nat):tZ n gA gE ij gR gY k (m+1)=xu n gA gE ij gR gY k (tZ n gA gE ij gR gY k m):=rfl
theorem ahs (m:Nat):lo pI (JC n (ja gA gE ij gR gY) k0 m)=tZ n gA gE ij gR gY (kap hO k0) m:=mQ (fun J9=>(by obtain ⟨J8,u8⟩:=exi (Dj n (ja gA gE ij gR gY) k0); obtain ⟨J10,u10⟩:=exi (AP (ja gA gE ij gR gY) k0 J9); delta Js xu; rw [← ajg,u8, ← afn,u10]; kernel_rfl:lo pI (Js n (ja gA gE ij gR gY) k0 J9)=xu n gA gE ij gR gY (kap hO k0) (lo pI J9))) m
def zZ:Q1:=(gZ cf jo Q8 (gZ cf jo QV (cJ p54 (gZ cf jo iZ (jk hO k0)) (gZ cf jo Sa (kJ pI (JC n cf k0 n))))))
def uW (n:Nat) (gA:ad) (gE:aI) (ij:bu) (gR:aU) (gY:ad) (k:ab) (v2:Int) (v3:AV) (v4:AV) (h:Heap):aa:=jg h v3 17 true fun a=>ij a v2 h fun b c d=>ifB (jK (eqF c 0)) (k false d) (fld 3 d v4 1 false fun e f=>jC f fun g=>tZ n gA gE ij gR gY k n v2 v3 v4 b f g 0 d)
theorem afR:lo GC (zZ n (ja gA gE ij gR gY) k0)=uW n gA gE ij gR gY (kap hO k0):=by obtain ⟨J9,u9⟩:=exi (JC n (ja gA gE ij gR gY) k0 n); delta zZ uW; rw [← ahs,u9]; kernel_rfl
def z6 (J12:Q1):Q1:=(cJ p45 (gZ cf jo iZ (jk hO k0)) (gZ cf jo RE (kJ nq J12)))
def rF (n:Nat) (gA:ad) (gE:aI) (ij:bu) (gR:aU) (gY:ad) (k:ab) (j12:ce) (v2:Int) (v3:AV) (v4:AV) (v21:AV) (v22:Int) (v23:Int) (v45:Bool) (h:Heap):aa:=ifB v45 (k false h) (la .i64 v23 1 fun a=>j12 v2 v3 v4 v21 v22 a h)
theorem af7 (J12:Q1):lo Hi (z6 (ja gA gE ij gR gY) k0 J12)=rF n gA gE ij gR gY (kap hO k0) (lo nq J12):=by delta z6 rF; kernel_rfl
def Al (J12:Q1):Q1:=(gZ cf jo SP (kJ Hi (z6 cf k0 J12)))
def vk (n:Nat) (gA:ad) (gE:aI) (ij:bu) (gR:aU) (gY:ad) (k:ab) (j12:ce) (v2:Int) (v3:AV) (v4:AV) (v9:Int) (v21:AV) (v22:Int) (v23:Int) (v40:Bool) (h:Heap):aa:=ifB v40 (rF n gA gE ij gR gY k j12 v2 v3 v4 v21 v22 v23 true h) (rF n gA gE ij gR gY k j12 v2 v3 v4 v21 v22 v23 (jK (eqF v9 v2)) h)
theorem agn (J12:Q1):lo GG (Al (ja gA gE ij gR gY) k0 J12)=vk n gA gE ij gR gY (kap hO k0) (lo nq J12):=by obtain ⟨J14,u14⟩:=exi (z6 (ja gA gE ij gR gY) k0 J12); delta Al vk; rw [← af7,u14]; kernel_rfl
def GJ (J12:Q1):Q1:=(gZ cf jo Tg (cJ p24 (gZ cf jo QU (gZ cf jo Rl (gZ cf jo Sf (kJ GG (Al cf k0 J12))))) (kJ GC (zZ n cf k0))))
def uX (n:Nat) (gA:ad) (gE:aI) (ij:bu) (gR:aU) (gY:ad) (k:ab) (j12:ce) (v2:Int) (v3:AV) (v4:AV) (v21:AV) (v22:Int) (v23:Int) (h:Heap):aa:=ifB (ltF v23 v22) (eld 2 h v21 v23 2 true fun a b=>lG h (.cells [(.int .i64 0),(.int .u8 0)] true 0) fun c d=>jf d (.ptr c 0) 2 b fun e=>jg e v3 17 true fun f=>jy .i64 0 e (.ptr c 0) fun g i=>gE f i e fun l m o p=>ifB (jK (eqF o 0)) (vk n gA gE ij gR gY k j12 v2 v3 v4 l v21 v22 v23 true p) (vk n gA gE ij gR gY k j12 v2 v3 v4 l v21 v22 v23 (jK m) p)) (uW n gA gE ij gR gY k v2 v3 v4 h)
def G9:Nat→Q1:=lpS (GJ n cf k0)
def rM (n:Nat) (gA:ad) (gE:aI) (ij:bu) (gR:aU) (gY:ad) (k:ab):Nat→ce:=lpF nq (uX n gA gE ij gR gY k)
theorem afX (k:ab) (m:Nat):rM n gA gE ij gR gY k (m+1)=uX n gA gE ij gR gY k (rM n gA gE ij gR gY k m):=rfl
theorem afo (m:Nat):lo nq (G9 n (ja gA gE ij gR gY) k0 m)=rM n gA gE ij gR gY (kap hO k0) m:=mQ (fun J12=>(by obtain ⟨J11,u11⟩:=exi (zZ n (ja gA gE ij gR gY) k0); obtain ⟨J13,u13⟩:=exi (Al (ja gA gE ij gR gY) k0 J12); delta GJ uX; rw [← afR,u11, ← agn,u13]; kernel_rfl:lo nq (GJ n (ja gA gE ij gR gY) k0 J12)=uX n gA gE ij gR gY (kap hO k0) (lo nq J12))) m
def ZQ:Q1:=(gZ cf jo As (gZ cf jo SF (kJ nq (G9 n cf k0 n))))
def HN (n:Nat) (gA:ad) (gE:aI) (ij:bu) (gR:aU) (gY:ad) (k:ab) (a0:AV) (a1:AV) (a2:Int) (h:Heap):aa:=qR h a0 fun a b=>qR b a1 fun c d=>fld 0 d (.ptr c 0) 1 false fun e f=>jC f fun g=>rM n gA gE ij gR gY k n a2 (.ptr a 0) (.ptr c 0) f g 0 d
def PX (n:Nat) (gA:ad) (gE:aI) (ij:bu) (gR:aU) (gY:ad) (a0:AV) (a1:AV) (a2:Int) (h:Heap) (k:ab):aa:=HN n gA gE ij gR gY k a0 a1 a2 h
theorem amf:DZ cf jo n ZL hO k0=ZQ n cf k0:=by funext s; kernel_rfl
theorem alK:lo sD (DZ (ja gA gE ij gR gY) jo n ZL hO k0)=cmp sD (PX n gA gE ij gR gY) (kap hO k0):=(congrArg (lo sD) (amf n (ja gA gE ij gR gY) k0)).trans (show _=HN n gA gE ij gR gY (kap hO k0) by obtain ⟨J12,u12⟩:=exi (G9 n (ja gA gE ij gR gY) k0 n); delta ZQ HN; rw [← afo,u12]; kernel_rfl)
end
def bi (n:Nat):aO:=PX n (al n) (aK n) (bH n) (br n) (bs n)
abbrev bv:=AV→Heap→(AV→Bool→Heap→aa)→aa
abbrev cP:=AV→Bool→Heap→aa
abbrev WH (g:bv):Wr:=wrT ip mI g
def md:bf:=lC []
abbrev dH:Type:=AV→AV→Bool→AV→Int→Int→Heap→aa
section
variable (k0:Q0)
def xT:Q1:=(gZ cf l5 Pl (jk mI k0))
def yI (n:Nat) (k:cP) (v2:AV) (v4:AV) (v5:Bool) (h:Heap):aa:=jg h v4 7 true fun a=>jf h v2 7 a fun b=>jg b v2 7 true fun c=>k c v5 b
theorem adD:lo Eh (xT md k0)=yI n (kap mI k0):=by delta xT yI; kernel_rfl
def tL (J1:Q1):Q1:=(gZ cf l5 NW (kJ lb J1))
def tF (n:Nat) (k:cP) (j1:dH) (v2:AV) (v4:AV) (v5:Bool) (v8:AV) (v9:Int) (v10:Int) (h:Heap):aa:=la .i64 v10 1 fun a=>j1 v2 v4 v5 v8 v9 a h
theorem ab8 (J1:Q1):lo lb (tL md J1)=tF n (kap mI k0) (lo lb J1):=by delta tL tF; kernel_rfl
def xP (J1:Q1):Q1:=(cJ p21 (gZ cf l5 Pk (kJ lb (tL cf J1))) (gZ cf l5 NX (kJ lb (tL cf J1))))
def qV (n:Nat) (k:cP) (j1:dH) (v2:AV) (v4:AV) (v5:Bool) (v7:AV) (v8:AV) (v9:Int) (v10:Int) (v21:Bool) (h:Heap):aa:=ifB v21 (jy .u8 1 h v7 fun a b=>Iv 1 7 v4 b fun c=>ldI .i64 h c fun d=>la .i64 d 1 fun e=>Iv 1 7 v4 b fun f=>jf h f 1 (.int .i64 e) fun g=>tF n k j1 v2 v4 v5 v8 v9 v10 g) (tF n k j1 v2 v4 false v8 v9 v10 h)
theorem acS (J1:Q1):lo E3 (xP md J1)=qV n (kap mI k0) (lo lb J1):=by obtain ⟨J2,u2⟩:=exi (tL md J1); delta xP qV; rw [← ab8,u2]; kernel_rfl
def E7 (J1:Q1):Q1:=(gZ cf l5 FJ (cJ p11 (gZ cf l5 NI (gZ cf l5 Nw (kJ E3 (xP cf J1)))) (kJ Eh (xT cf k0))))
def ux (n:Nat) (k:cP) (j1:dH) (v2:AV) (v4:AV) (v5:Bool) (v8:AV) (v9:Int) (v10:Int) (h:Heap):aa:=ifB (ltF v10 v9) (eld 2 h v8 v10 2 true fun a b=>lG h (.cells [(.int .i64 0),(.int .u8 0)] true 0) fun c d=>jf d (.ptr c 0) 2 b fun e=>jy .u8 1 e (.ptr c 0) fun f g=>ifB (jK (ltF g 1)) (faK 1 (.ptr c 0) fun i=>ldI .u8 e i fun l=>qV n k j1 v2 v4 v5 (.ptr c 0) v8 v9 v10 (jK (ltF 6 l)) e) (qV n k j1 v2 v4 v5 (.ptr c 0) v8 v9 v10 false e)) (yI n k v2 v4 v5 h)
def Ew:Nat→Q1:=lpS (E7 cf k0)
def qF (n:Nat) (k:cP):Nat→dH:=lpF lb (ux n k)
theorem ack (k:cP) (m:Nat):qF n k (m+1)=ux n k (qF n k m):=rfl
theorem acO (m:Nat):lo lb (Ew md k0 m)=qF n (kap mI k0) m:=mQ (fun J1=>(by obtain ⟨J0,u0⟩:=exi (xT md k0); obtain ⟨J3,u3⟩:=exi (xP md J1); delta E7 ux; rw [← adD,u0, ← acS,u3]; kernel_rfl:lo lb (E7 md k0 J1)=ux n (kap mI k0) (lo lb J1))) m
def Ul:Q1:=(gZ cf l5 KG (gZ cf l5 M2 (gZ cf l5 Pj (gZ cf l5 F1 (kJ lb (Ew cf k0 n))))))
def B1 (n:Nat) (k:cP) (a0:AV) (h:Heap):aa:=lG h (.cells [(.int .i64 0),(.int .i64 0),(.int .i64 0),(.int .i64 0),(.int .i64 0),(.int .i64 0),(.int .i64 0)] true 0) fun a b=>lG b (.cells [(.int .i64 0),(.int .i64 0),(.int .i64 0),(.int .i64 0),(.int .i64 0),(.int .i64 0),(.int .i64 0)] true 0) fun c d=>jC a0 fun e=>qF n k n (.ptr a 0) (.ptr c 0) true a0 e 0 d
def JZ (n:Nat) (a0:AV) (h:Heap) (k:cP):aa:=B1 n k a0 h
theorem ahz:DZ cf l5 n VS mI k0=Ul n cf k0:=by funext s; kernel_rfl
theorem agX:lo ip (DZ md l5 n VS mI k0)=cmp ip (JZ n) (kap mI k0):=(congrArg (lo ip) (ahz n md k0)).trans (show _=B1 n (kap mI k0) by obtain ⟨J1,u1⟩:=exi (Ew md k0 n); delta Ul B1; rw [← acO,u1]; kernel_rfl)
end
def bF (n:Nat):bv:=JZ n
abbrev cE:=AV→Heap→(Int→Int→Heap→aa)→aa
abbrev ad5 (g:cE):Wr:=wrT ip jE g
def uQ (io:af):bf:=lC [(Gp,Gb io)]
section
variable (io:af) (k0:Q0)
def FW:Q1:=(gZ cf nF YD (jk jE k0))
def Fp (n:Nat) (io:af) (k:aX) (v5:Int) (h:Heap):aa:=k v5 0 h
theorem ajv:lo ws (FW (uQ io) k0)=Fp n io (kap jE k0):=by delta FW Fp; kernel_rfl
def LB (J1:Q1):Q1:=(gZ cf nF wm (cJ p16 (gZ cf nF FU (gZ cf nF YP (gZ cf nF Y5 (kJ sY J1)))) (kJ ws (FW cf k0))))
def zv (n:Nat) (io:af) (k:aX) (j1:dk) (v5:Int) (v13:AV) (v14:Int) (v15:Int) (h:Heap):aa:=ifB (ltF v15 v14) (eld 3 h v13 v15 3 true fun a b=>lG h (.cells [(.int .i64 0),(.int .i64 0),(.int .u8 0)] true 0) fun c d=>jf d (.ptr c 0) 3 b fun e=>jy .i64 1 e (.ptr c 0) fun f g=>la .i64 v5 g fun i=>la .i64 v15 1 fun l=>j1 i v13 v14 l e) (Fp n io k v5 h)
def Lz:Nat→Q1:=lpS (LB cf k0)
def zR (n:Nat) (io:af) (k:aX):Nat→dk:=lpF sY (zv n io k)
theorem ajI (k:aX) (m:Nat):zR n io k (m+1)=zv n io k (zR n io k m):=rfl
theorem ajt (m:Nat):lo sY (Lz (uQ io) k0 m)=zR n io (kap jE k0) m:=mQ (fun J1=>(by obtain ⟨J0,u0⟩:=exi (FW (uQ io) k0); delta LB zv; rw [← ajv,u0]; kernel_rfl:lo sY (LB (uQ io) k0 J1)=zv n io (kap jE k0) (lo sY J1))) m
def aeS:Q1:=(gZ cf nF Dr (gZ cf nF Fv (gZ cf nF Ff (cJ p11 (gZ cf nF Yb (jk jE k0)) (gZ cf nF wl (gZ cf nF wg (kJ sY (Lz cf k0 n))))))))
def KO (n:Nat) (io:af) (k:aX) (a0:AV) (h:Heap):aa:=io a0 h fun a b=>ifB (jK (eqF a 0)) (k 0 a b) (jC a0 fun c=>zR n io k n 0 a0 c 0 b)
def WC (n:Nat) (io:af) (a0:AV) (h:Heap) (k:aX):aa:=KO n io k a0 h
theorem anA:DZ cf nF n adR jE k0=aeS n cf k0:=by funext s; kernel_rfl
theorem am6:lo ip (DZ (uQ io) nF n adR jE k0)=cmp ip (WC n io) (kap jE k0):=(congrArg (lo ip) (anA n (uQ io) k0)).trans (show _=KO n io (kap jE k0) by obtain ⟨J1,u1⟩:=exi (Lz (uQ io) k0 n); delta aeS KO; rw [← ajt,u1]; kernel_rfl)
end
def eu (n:Nat):cE:=WC n (cB n)
abbrev bj:=AV→Heap→(AV→Int→Heap→aa)→aa
abbrev bW:=AV→Int→Heap→aa
abbrev aei (g:bj):Wr:=wrT ip qz g
def uO (io:af):bf:=lC [(Gp,Gb io)]
section
variable (io:af) (k0:Q0)
def Fj:Q1:=(gZ cf nJ Y7 (jk qz k0))
def Fx (n:Nat) (io:af) (k:bW) (v5:AV) (h:Heap):aa:=k v5 0 h
theorem akt:lo qQ (Fj (uO io) k0)=Fx n io (kap qz k0):=by delta Fj Fx; kernel_rfl
def LP (J1:Q1):Q1:=(gZ cf nJ wm (cJ p16 (gZ cf nJ FU (gZ cf nJ X1 (gZ cf nJ Yn (kJ sS J1)))) (kJ qQ (Fj cf k0))))
def zj (n:Nat) (io:af) (k:bW) (j1:aG) (v5:AV) (v13:AV) (v14:Int) (v15:Int) (h:Heap):aa:=ifB (ltF v15 v14) (eld 3 h v13 v15 3 true fun a b=>lG h (.cells [(.int .i64 0),(.int .i64 0),(.int .u8 0)] true 0) fun c d=>jf d (.ptr c 0) 3 b fun e=>jy .i64 0 e (.ptr c 0) fun f g=>jy .i64 1 e (.ptr c 0) fun i l=>kM [(.int .i64 0),(.int .i64 0)] [(0,1,(.int .i64 g)),(1,1,(.int .i64 l))] fun m=>l8 e 1 [(.int .i64 0),(.int .i64 0)] [(0,2,m)] fun o p=>rX p 2 v5 o fun q r=>la .i64 v15 1 fun s=>j1 q v13 v14 s r) (Fx n io k v5 h)
def Md:Nat→Q1:=lpS (LP cf k0)
def zk (n:Nat) (io:af) (k:bW):Nat→aG:=lpF sS (zj n io k)
theorem akg (k:bW) (m:Nat):zk n io k (m+1)=zj n io k (zk n io k m):=rfl
theorem akk (m:Nat):lo sS (Md (uO io) k0 m)=zk n io (kap qz k0) m:=mQ (fun J1=>(by obtain ⟨J0,u0⟩:=exi (Fj (uO io) k0); delta LP zj; rw [← akt,u0]; kernel_rfl:lo sS (LP (uO io) k0 J1)=zj n io (kap qz k0) (lo sS J1))) m
def aeB:Q1:=(gZ cf nJ TQ (gZ cf nJ Fv (gZ cf nJ Ff (cJ p11 (gZ cf nJ Xx (jk qz k0)) (gZ cf nJ XN (gZ cf nJ wg (kJ sS (Md cf k0 n))))))))
def Lp (n:Nat) (io:af) (k:bW) (a0:AV) (h:Heap):aa:=io a0 h fun a b=>ifB (jK (eqF a 0)) (k .nilslice a b) (jC a0 fun c=>zk n io k n .nilslice a0 c 0 b)
def Uj (n:Nat) (io:af) (a0:AV) (h:Heap) (k:bW):aa:=Lp n io k a0 h
theorem aoe:DZ cf nJ n ael qz k0=aeB n cf k0:=by funext s; kernel_rfl
theorem aoG:lo ip (DZ (uO io) nJ n ael qz k0)=cmp ip (Uj n io) (kap qz k0):=(congrArg (lo ip) (aoe n (uO io) k0)).trans (show _=Lp n io (kap qz k0) by obtain ⟨J1,u1⟩:=exi (Md (uO io) k0 n); delta aeB Lp; rw [← akk,u1]; kernel_rfl)
end
def et (n:Nat):bj:=Uj n (cB n)
abbrev YL (g:cE):Wr:=wrT ip jE g
def js (ik:Wr):bf:=lC [(Ua,ik)]
abbrev eA:Type:=AV→Int→Int→Int→AV→Int→Int→Heap→aa
section
variable (ik:Wr) (k0:Q0)
def zT:Q1:=(gZ cf jm S6 (jk jE k0))
def Aa (n:Nat) (ik:Wr) (k:aX) (v7:Int) (h:Heap):aa:=k v7 0 h
theorem agp:lo Hz (zT (js ik) k0)=Aa n ik (kap jE k0):=by delta zT Aa; kernel_rfl
def A0 (J1:Q1):Q1:=(gZ cf jm R4 (kJ lA J1))
def AW (n:Nat) (ik:Wr) (k:aX) (j1:bK) (v4:AV) (v7:Int) (v8:Int) (h:Heap):aa:=la .i64 v8 1 fun a=>j1 v4 v7 a h
theorem afe (J1:Q1):lo lA (A0 (js ik) J1)=AW n ik (kap jE k0) (lo lA J1):=by delta A0 AW; kernel_rfl
def vW (J3:Q1):Q1:=(gZ cf jm Sc (kJ lZ J3))
def vu (n:Nat) (ik:Wr) (k:aX) (j3:eA) (v4:AV) (v7:Int) (v8:Int) (v9:Int) (v58:AV) (v59:Int) (v60:Int) (h:Heap):aa:=la .i64 v60 1 fun a=>j3 v4 v7 v8 v9 v58 v59 a h
theorem afV (J3:Q1):lo lZ (vW (js ik) J3)=vu n ik (kap jE k0) (lo lZ J3):=by delta vW vu; kernel_rfl
def G7 (J1:Q1) (J3:Q1):Q1:=(gZ cf jm QM (cJ p61 (gZ cf jm SV (gZ cf jm RD (gZ cf jm SS (gZ cf jm Tf (cJ p85 (gZ cf jm S0 (gZ cf jm Tn (kJ lZ (vW cf J3)))) (kJ lZ (vW cf J3))))))) (kJ lA (A0 cf J1))))
def uY (n:Nat) (ik:Wr) (k:aX) (j1:bK) (j3:eA) (v4:AV) (v7:Int) (v8:Int) (v9:Int) (v58:AV) (v59:Int) (v60:Int) (h:Heap):aa:=ifB (ltF v60 v59) (eld 2 h v58 v60 2 true fun a b=>lG h (.cells [(.int .i64 0),(.int .i64 0)] true 0) fun c d=>jf d (.ptr c 0) 2 b fun e=>jy .i64 0 e (.ptr c 0) fun f g=>la .i64 v8 1 fun i=>A7 .i64 5 i fun l=>shrK .i64 g l fun m=>jy .i64 0 e (.ptr c 0) fun o p=>jy .i64 1 e (.ptr c 0) fun q r=>la .i64 p r fun s=>PU .i64 s 1 fun t=>la .i64 v8 1 fun u=>A7 .i64 5 u fun w=>shrK .i64 t w fun x=>tg true [(.int .i64 m),(.int .i64 v9)] fun y=>D9 .i64 y fun z=>ifB (jK (ltF x z)) (PU .i64 x z fun A=>la .i64 A 1 fun B=>la .i64 v7 B fun C=>la .i64 x 1 fun E=>vu n ik k j3 v4 C v8 E v58 v59 v60 e) (vu n ik k j3 v4 v7 v8 v9 v58 v59 v60 e)) (AW n ik k j1 v4 v7 v8 h)
def GY (J1:Q1):Nat→Q1:=lpS (G7 cf J1)
def vS (n:Nat) (ik:Wr) (k:aX) (j1:bK):Nat→eA:=lpF lZ (uY n ik k j1)
theorem afB (k:aX) (j1:bK) (m:Nat):vS n ik k j1 (m+1)=uY n ik k j1 (vS n ik k j1 m):=rfl
theorem agj (J1:Q1) (m:Nat):lo lZ (GY (js ik) J1 m)=vS n ik (kap jE k0) (lo lA J1) m:=mQ (fun J3=>(by obtain ⟨J2,u2⟩:=exi (A0 (js ik) J1); obtain ⟨J4,u4⟩:=exi (vW (js ik) J3); delta G7 uY; rw [← afe,u2, ← afV,u4]; kernel_rfl:lo lZ (G7 (js ik) J1 J3)=uY n ik (kap jE k0) (lo lA J1) (lo lZ J3))) m
def GZ (J1:Q1):Q1:=(gZ cf jm NY (cJ p55 (gZ cf jm Ob (gZ cf jm MA (kJ lZ (GY cf J1 n)))) (kJ Hz (zT cf k0))))
def vR (n:Nat) (ik:Wr) (k:aX) (j1:bK) (v4:AV) (v7:Int) (v8:Int) (h:Heap):aa:=ifB (ltF v8 3) (jC v4 fun a=>vS n ik k j1 n v4 v7 v8 0 v4 a 0 h) (Aa n ik k v7 h)
def G2:Nat→Q1:=lpS (GZ n cf k0)
def rE (n:Nat) (ik:Wr) (k:aX):Nat→bK:=lpF lA (vR n ik k)
theorem afc (k:aX) (m:Nat):rE n ik k (m+1)=vR n ik k (rE n ik k m):=rfl
theorem afP (m:Nat):lo lA (G2 n (js ik) k0 m)=rE n ik (kap jE k0) m:=mQ (fun J1=>(by obtain ⟨J0,u0⟩:=exi (zT (js ik) k0); obtain ⟨J3,u3⟩:=exi (GY (js ik) J1 n); delta GZ vR; rw [← agp,u0, ← agj,u3]; kernel_rfl:lo lA (GZ n (js ik) k0 J1)=vR n ik (kap jE k0) (lo lA J1))) m
def Af:Q1:=(gZ cf jm MF (gZ cf jm MJ (gZ cf jm qO (kJ lA (G2 n cf k0 n)))))
def Ab (n:Nat) (ik:Wr) (k:aX) (v4:AV) (h:Heap):aa:=ik [v4,(.func 83 [] [])] h fun a b=>rE n ik k n v4 1 0 b
theorem af6:lo tG (Af n (js ik) k0)=Ab n ik (kap jE k0):=by obtain ⟨J1,u1⟩:=exi (G2 n (js ik) k0 n); delta Af Ab; rw [← afP,u1]; kernel_rfl
def vH (J6:Q1):Q1:=(gZ cf jm MK (kJ kP J6))
def vm (n:Nat) (ik:Wr) (k:aX) (j6:aG) (v4:AV) (v17:AV) (v18:Int) (v19:Int) (h:Heap):aa:=la .i64 v19 1 fun a=>j6 v4 v17 v18 a h
theorem afO (J6:Q1):lo kP (vH (js ik) J6)=vm n ik (kap jE k0) (lo kP J6):=by delta vH vm; kernel_rfl
def ym (J6:Q1):Q1:=(cJ p43 (gZ cf jm PF (jk jE k0)) (gZ cf jm PI (cJ p46 (gZ cf jm Om (kJ kP (vH cf J6))) (kJ kP (vH cf J6)))))
def tM (n:Nat) (ik:Wr) (k:aX) (j6:aG) (v4:AV) (v6:AV) (v17:AV) (v18:Int) (v19:Int) (v43:Bool) (h:Heap):aa:=ifB v43 (k 0 2 h) (jy .i64 1 h v6 fun a b=>ifB (ltF 0 b) (jg h v6 2 true fun c=>l8 h 1 [(.int .i64 0),(.int .i64 0)] [(0,2,c)] fun d e=>rX e 2 v4 d fun f g=>vm n ik k j6 f v17 v18 v19 g) (vm n ik k j6 v4 v17 v18 v19 h))
theorem acC (J6:Q1):lo EI (ym (js ik) k0 J6)=tM n ik (kap jE k0) (lo kP J6):=by obtain ⟨J7,u7⟩:=exi (vH (js ik) J6); delta ym tM; rw [← afO,u7]; kernel_rfl
def Ac (J6:Q1):Q1:=(gZ cf jm OR (kJ EI (ym cf k0 J6)))
def vj (n:Nat) (ik:Wr) (k:aX) (j6:aG) (v4:AV) (v6:AV) (v17:AV) (v18:Int) (v19:Int) (v35:Bool) (h:Heap):aa:=ifB v35 (tM n ik k j6 v4 v6 v17 v18 v19 true h) (faK 1 v6 fun a=>ldI .i64 h a fun b=>jy .i64 0 h v6 fun c d=>PU .i64 1048576 d fun e=>tM n ik k j6 v4 v6 v17 v18 v19 (ltF e b) h)
theorem af8 (J6:Q1):lo Hh (Ac (js ik) k0 J6)=vj n ik (kap jE k0) (lo kP J6):=by obtain ⟨J10,u10⟩:=exi (ym (js ik) k0 J6); delta Ac vj; rw [← acC,u10]; kernel_rfl
def Am (J6:Q1):Q1:=(gZ cf jm NN (kJ Hh (Ac cf k0 J6)))
def vU (n:Nat) (ik:Wr) (k:aX) (j6:aG) (v4:AV) (v6:AV) (v17:AV) (v18:Int) (v19:Int) (v30:Bool) (h:Heap):aa:=ifB v30 (vj n ik k j6 v4 v6 v17 v18 v19 true h) (faK 0 v6 fun a=>ldI .i64 h a fun b=>vj n ik k j6 v4 v6 v17 v18 v19 (ltF 1048576 b) h)
theorem afb (J6:Q1):lo G6 (Am (js ik) k0 J6)=vU n ik (kap jE k0) (lo kP J6):=by obtain ⟨J9,u9⟩:=exi (Ac (js ik) k0 J6); delta Am vU; rw [← af8,u9]; kernel_rfl
def Gu (J6:Q1):Q1:=(gZ cf jm Na (cJ p20 (gZ cf jm OW (gZ cf jm NQ (kJ G6 (Am cf k0 J6)))) (kJ tG (Af n cf k0))))
def wa (n:Nat) (ik:Wr) (k:aX) (j6:aG) (v4:AV) (v17:AV) (v18:Int) (v19:Int) (h:Heap):aa:=ifB (ltF v19 v18) (eld 2 h v17 v19 2 true fun a b=>lG h (.cells [(.int .i64 0),(.int .i64 0)] true 0) fun c d=>jf d (.ptr c 0) 2 b fun e=>jy .i64 0 e (.ptr c 0) fun f g=>ifB (ltF g 0) (vU n ik k j6 v4 (.ptr c 0) v17 v18 v19 true e) (faK 1 (.ptr c 0) fun i=>ldI .i64 e i fun l=>vU n ik k j6 v4 (.ptr c 0) v17 v18 v19 (ltF l 0) e)) (Ab n ik k v4 h)
def HA:Nat→Q1:=lpS (Gu n cf k0)
def vI (n:Nat) (ik:Wr) (k:aX):Nat→aG:=lpF kP (wa n ik k)
theorem afA (k:aX) (m:Nat):vI n ik k (m+1)=wa n ik k (vI n ik k m):=rfl
theorem ae9 (m:Nat):lo kP (HA n (js ik) k0 m)=vI n ik (kap jE k0) m:=mQ (fun J6=>(by obtain ⟨J5,u5⟩:=exi (Af n (js ik) k0); obtain ⟨J8,u8⟩:=exi (Am (js ik) k0 J6); delta Gu wa; rw [← af6,u5, ← afb,u8]; kernel_rfl:lo kP (Gu n (js ik) k0 J6)=wa n ik (kap jE k0) (lo kP J6))) m
def Xy:Q1:=(gZ cf jm Dr (gZ cf jm Pe (cJ p16 (gZ cf jm NK (jk jE k0)) (gZ cf jm Mu (gZ cf jm Oh (kJ kP (HA n cf k0 n)))))))
def FE (n:Nat) (ik:Wr) (k:aX) (a0:AV) (h:Heap):aa:=jC a0 fun a=>ifB (ltF 1024 a) (k 0 3 h) (jC a0 fun b=>vI n ik k n .nilslice a0 b 0 h)
def LN (n:Nat) (ik:Wr) (a0:AV) (h:Heap) (k:aX):aa:=FE n ik k a0 h
theorem aj4:DZ cf jm n YM jE k0=Xy n cf k0:=by funext s; kernel_rfl
theorem ajW:lo ip (DZ (js ik) jm n YM jE k0)=cmp ip (LN n ik) (kap jE k0):=(congrArg (lo ip) (aj4 n (js ik) k0)).trans (show _=FE n ik (kap jE k0) by obtain ⟨J6,u6⟩:=exi (HA n (js ik) k0 n); delta Xy FE; rw [← ae9,u6]; kernel_rfl)
end
def dL (n:Nat):cE:=LN n (kT cO)
abbrev Y9 (g:bj):Wr:=wrT ip ki g
def Vi (jz:af) (qA:cE) (qC:bj) (nS:cE):bf:=lC [(Mm,LY jz),(ad0,ad5 qA),(adX,aei qC),(XJ,YL nS)]
section
variable (jz:af) (qA:cE) (qC:bj) (nS:cE) (k0:Q0)
def Ym:Q1:=(gZ cf lv O7 (gZ cf lv OV (gZ cf lv Od (cJ p12 (gZ cf lv O2 (jk ki k0)) (gZ cf lv Rt (gZ cf lv Td (cJ p22 (gZ cf lv To (jk ki k0)) (gZ cf lv RS (gZ cf lv Sj (cJ p32 (gZ cf lv SW (jk ki k0)) (gZ cf lv RZ (gZ cf lv RV (cJ p41 (gZ cf lv Tc (jk ki k0)) (gZ cf lv Rc (jk ki k0)))))))))))))))
def Fz (n:Nat) (jz:af) (qA:cE) (qC:bj) (nS:cE) (k:bW) (a0:AV) (h:Heap):aa:=qR h a0 fun a b=>lG b (.cells [(.int .i64 0),(.int .i64 0),(.int .i64 0),(.int .i64 0)] true 0) fun c d=>jg d (.ptr a 0) 2 true fun e=>jz e d fun f g=>ifB (jK (eqF f 0)) (kM [(.int .i64 0),(.int .i64 0),(.int .i64 0),(.int .i64 0)] [] fun i=>jf g (.ptr c 0) 4 i fun l=>jg l (.ptr c 0) 4 true fun m=>k m f l) (fld 0 g (.ptr a 0) 1 false fun o p=>qA p g fun q r s=>ifB (jK (eqF r 0)) (kM [(.int .i64 0),(.int .i64 0),(.int .i64 0),(.int .i64 0)] [] fun t=>jf s (.ptr c 0) 4 t fun u=>jg u (.ptr c 0) 4 true fun w=>k w r u) (fld 0 s (.ptr a 0) 1 false fun x y=>qC y s fun z A B=>ifB (jK (eqF A 0)) (kM [(.int .i64 0),(.int .i64 0),(.int .i64 0),(.int .i64 0)] [] fun C=>jf B (.ptr c 0) 4 C fun E=>jg E (.ptr c 0) 4 true fun F=>k F A E) (nS z B fun G I K=>ifB (jK (eqF I 0)) (kM [(.int .i64 0),(.int .i64 0),(.int .i64 0),(.int .i64 0)] [] fun L=>jf K (.ptr c 0) 4 L fun M=>jg M (.ptr c 0) 4 true fun N=>k N I M) (jC z fun O=>kM [(.int .i64 0),(.int .i64 0),(.int .i64 0),(.int .i64 0)] [(0,1,(.int .i64 1)),(1,1,(.int .i64 q)),(2,1,(.int .i64 G)),(3,1,(.int .i64 O))] fun P=>jf K (.ptr c 0) 4 P fun Q=>jg Q (.ptr c 0) 4 true fun R=>k R 0 Q))))
def L2 (n:Nat) (jz:af) (qA:cE) (qC:bj) (nS:cE) (a0:AV) (h:Heap) (k:bW):aa:=Fz n jz qA qC nS k a0 h
theorem akx:DZ cf lv n X8 ki k0=Ym cf k0:=by funext s; kernel_rfl
theorem ajY:lo ip (DZ (Vi jz qA qC nS) lv n X8 ki k0)=cmp ip (L2 n jz qA qC nS) (kap ki k0):=(congrArg (lo ip) (akx n (Vi jz qA qC nS) k0)).trans (show _=Fz n jz qA qC nS (kap ki k0) by delta Ym Fz; kernel_rfl)
end
def dv (n:Nat):bj:=L2 n (db n) (eu n) (et n) (dL n)
abbrev adS (g:bj):Wr:=wrT ip ki g
def uS (jB:bj):bf:=lC [(Za,Y9 jB)]
section
variable (jB:bj) (k0:Q0)
def FA:Q1:=(gZ cf lT XS (jk ki k0))
def FO (n:Nat) (jB:bj) (k:bW) (v2:AV) (v4:AV) (h:Heap):aa:=jg h v4 4 true fun a=>jf h v2 4 a fun b=>jg b v2 4 true fun c=>k c 0 b
theorem akh:lo LR (FA (uS jB) k0)=FO n jB (kap ki k0):=by delta FA FO; kernel_rfl
def L5 (J1:Q1):Q1:=(gZ cf lT wm (cJ p16 (gZ cf lT XP (gZ cf lT Zb (gZ cf lT XW (cJ p25 (gZ cf lT Xw (jk ki k0)) (gZ cf lT YV (gZ cf lT Xm (gZ cf lT Yo (gZ cf lT Yk (gZ cf lT X9 (kJ sX J1)))))))))) (kJ LR (FA cf k0))))
def zi (n:Nat) (jB:bj) (k:bW) (j1:cn) (v2:AV) (v4:AV) (v13:AV) (v14:Int) (v15:Int) (h:Heap):aa:=ifB (ltF v15 v14) (eld 2 h v13 v15 2 true fun a b=>lG h (.cells [.nilslice,(.int .i64 0)] true 0) fun c d=>jf d (.ptr c 0) 2 b fun e=>jg e (.ptr c 0) 2 true fun f=>jB f e fun g i l=>lG l (.cells [(.int .i64 0),(.int .i64 0),(.int .i64 0),(.int .i64 0)] true 0) fun m o=>jf o (.ptr m 0) 4 g fun p=>ifB (jK (eqF i 0)) (kM [(.int .i64 0),(.int .i64 0),(.int .i64 0),(.int .i64 0)] [] fun q=>jf p v2 4 q fun r=>jg r v2 4 true fun s=>k s i r) (jy .i64 0 p v4 fun t u=>jy .i64 0 p (.ptr m 0) fun w x=>la .i64 u x fun y=>fst 0 p v4 1 (.int .i64 y) fun z A=>jy .i64 1 A v4 fun B C=>jy .i64 1 A (.ptr m 0) fun E F=>la .i64 C F fun G=>fst 1 A v4 1 (.int .i64 G) fun I K=>jy .i64 2 K v4 fun L M=>jy .i64 2 K (.ptr m 0) fun N O=>la .i64 M O fun P=>fst 2 K v4 1 (.int .i64 P) fun Q R=>jy .i64 3 R v4 fun S T=>jy .i64 3 R (.ptr m 0) fun U V=>la .i64 T V fun X=>fst 3 R v4 1 (.int .i64 X) fun Y Z=>la .i64 v15 1 fun qa=>j1 v2 v4 v13 v14 qa Z)) (FO n jB k v2 v4 h)
def LI:Nat→Q1:=lpS (L5 cf k0)
def zJ (n:Nat) (jB:bj) (k:bW):Nat→cn:=lpF sX (zi n jB k)
theorem akd (k:bW) (m:Nat):zJ n jB k (m+1)=zi n jB k (zJ n jB k m):=rfl
theorem akp (m:Nat):lo sX (LI (uS jB) k0 m)=zJ n jB (kap ki k0) m:=mQ (fun J1=>(by obtain ⟨J0,u0⟩:=exi (FA (uS jB) k0); delta L5 zi; rw [← akh,u0]; kernel_rfl:lo sX (L5 (uS jB) k0 J1)=zi n jB (kap ki k0) (lo sX J1))) m
def aeb:Q1:=(gZ cf lT Ur (gZ cf lT TX (cJ p11 (gZ cf lT VA (jk ki k0)) (gZ cf lT V0 (gZ cf lT wg (kJ sX (LI cf k0 n)))))))
def Ll (n:Nat) (jB:bj) (k:bW) (a0:AV) (h:Heap):aa:=lG h (.cells [(.int .i64 0),(.int .i64 0),(.int .i64 0),(.int .i64 0)] true 0) fun a b=>jC a0 fun c=>ifB (ltF 16 c) (kM [(.int .i64 0),(.int .i64 0),(.int .i64 0),(.int .i64 0)] [] fun d=>jf b (.ptr a 0) 4 d fun e=>jg e (.ptr a 0) 4 true fun f=>k f 3 e) (lG b (.cells [(.int .i64 0),(.int .i64 0),(.int .i64 0),(.int .i64 0)] true 0) fun g i=>jC a0 fun l=>zJ n jB k n (.ptr a 0) (.ptr g 0) a0 l 0 i)
def U5 (n:Nat) (jB:bj) (a0:AV) (h:Heap) (k:bW):aa:=Ll n jB k a0 h
theorem aoj:DZ cf lT n aem ki k0=aeb n cf k0:=by funext s; kernel_rfl
theorem ano:lo ip (DZ (uS jB) lT n aem ki k0)=cmp ip (U5 n jB) (kap ki k0):=(congrArg (lo ip) (aoj n (uS jB) k0)).trans (show _=Ll n jB (kap ki k0) by obtain ⟨J1,u1⟩:=exi (LI (uS jB) k0 n); delta aeb Ll; rw [← akp,u1]; kernel_rfl)
end
def bQ (n:Nat):bj:=U5 n (dv n)
abbrev dI:=AV→Int→Heap→(AV→Int→Heap→aa)→aa
abbrev abB (g:dI):Wr:=wrT gX uN g
def YG (kL:ah) (iw:bL):bf:=lC [(Qs,QB kL),(P5,PN iw)]
section
variable (kL:ah) (iw:bL) (k0:Q0)
def aag:Q1:=(gZ cf uT Va (gZ cf uT FM (gZ cf uT Fq (cJ p11 (gZ cf uT TL (jk uN k0)) (gZ cf uT TU (jk uN k0))))))
def H8 (n:Nat) (kL:ah) (iw:bL) (k:bW) (a0:AV) (a1:Int) (h:Heap):aa:=qR h a0 fun a b=>lG b (.cells [(.int .i64 0),(.int .i64 0),(.int .i64 0),(.int .i64 0)] true 0) fun c d=>jg d (.ptr a 0) 17 true fun e=>kL e a1 d fun f g=>ifB (jK (eqF f 0)) (kM [(.int .i64 0),(.int .i64 0),(.int .i64 0),(.int .i64 0)] [] fun i=>jf g (.ptr c 0) 4 i fun l=>jg l (.ptr c 0) 4 true fun m=>k m f l) (jg g (.ptr a 0) 17 true fun o=>iw o a1 g fun p q=>jf q (.ptr c 0) 4 p fun r=>jg r (.ptr c 0) 4 true fun s=>k s 0 r)
def PM (n:Nat) (kL:ah) (iw:bL) (a0:AV) (a1:Int) (h:Heap) (k:bW):aa:=H8 n kL iw k a0 a1 h
theorem alT:DZ cf uT n aa1 uN k0=aag cf k0:=by funext s; kernel_rfl
theorem amK:lo gX (DZ (YG kL iw) uT n aa1 uN k0)=cmp gX (PM n kL iw) (kap uN k0):=(congrArg (lo gX) (alT n (YG kL iw) k0)).trans (show _=H8 n kL iw (kap uN k0) by delta aag H8; kernel_rfl)
end
def d6 (n:Nat):dI:=PM n (dq n) (cR n)
abbrev abT (g:bu):Wr:=wrT gX jS g
def Yy (pB:dI):bf:=lC [(aap,abB pB)]
section
variable (pB:dI) (k0:Q0)
def aa2:Q1:=(gZ cf BX FG (gZ cf BX U2 (gZ cf BX Us (jk jS k0))))
def Iq (n:Nat) (pB:dI) (k:aX) (a0:AV) (a1:Int) (h:Heap):aa:=qR h a0 fun a b=>jg b (.ptr a 0) 17 true fun c=>pB c a1 b fun d e f=>lG f (.cells [(.int .i64 0),(.int .i64 0),(.int .i64 0),(.int .i64 0)] true 0) fun g i=>jf i (.ptr g 0) 4 d fun l=>jy .i64 2 l (.ptr g 0) fun m o=>k o e l
def QA (n:Nat) (pB:dI) (a0:AV) (a1:Int) (h:Heap) (k:aX):aa:=Iq n pB k a0 a1 h
theorem alL:DZ cf BX n aaa jS k0=aa2 cf k0:=by funext s; kernel_rfl
theorem al3:lo gX (DZ (Yy pB) BX n aaa jS k0)=cmp gX (QA n pB) (kap jS k0):=(congrArg (lo gX) (alL n (Yy pB) k0)).trans (show _=Iq n pB (kap jS k0) by delta aa2 Iq; kernel_rfl)
end
def ed (n:Nat):bu:=QA n (d6 n)
abbrev bD:=AV→Int→AV→Heap→(Bool→Int→Heap→aa)→aa
abbrev d0:=Bool→Int→Heap→aa
abbrev aaB (g:bD):Wr:=wrT HY nX g
def qD (jI:bu):bf:=lC [(aaY,abT jI)]
section
variable (jI:bu) (k0:Q0)
def Ce:Q1:=(gZ cf l9 Uo (jk nX k0))
def xD (n:Nat) (jI:bu) (k:d0) (v66:Bool) (h:Heap):aa:=k v66 0 h
theorem aig:lo JW (Ce (qD jI) k0)=xD n jI (kap nX k0):=by delta Ce xD; kernel_rfl
def BQ:Q1:=(gZ cf l9 V5 (kJ JW (Ce cf k0)))
def wU (n:Nat) (jI:bu) (k:d0) (v5:AV) (v8:Int) (v60:Bool) (h:Heap):aa:=ifB v60 (faK 1 v5 fun a=>ldI .i64 h a fun b=>xD n jI k (jK (ltF v8 b)) h) (xD n jI k false h)
theorem ah8:lo Iy (BQ (qD jI) k0)=wU n jI (kap nX k0):=by obtain ⟨J2,u2⟩:=exi (Ce (qD jI) k0); delta BQ wU; rw [← aig,u2]; kernel_rfl
def Da:Q1:=(gZ cf l9 Wg (kJ Iy (BQ cf k0)))
def xv (n:Nat) (jI:bu) (k:d0) (v5:AV) (v8:Int) (v10:AV) (v53:Bool) (h:Heap):aa:=ifB v53 (faK 2 v5 fun a=>ldI .i64 h a fun b=>jy .i64 3 h v10 fun c d=>wU n jI k v5 v8 (jK (ltF d b)) h) (wU n jI k v5 v8 false h)
theorem ajj:lo IV (Da (qD jI) k0)=xv n jI (kap nX k0):=by obtain ⟨J1,u1⟩:=exi (BQ (qD jI) k0); delta Da xv; rw [← ah8,u1]; kernel_rfl
def abj:Q1:=(gZ cf l9 SL (gZ cf l9 Tl (gZ cf l9 R2 (cJ p20 (gZ cf l9 WL (jk nX k0)) (gZ cf l9 U8 (cJ p31 (gZ cf l9 U1 (jk nX k0)) (gZ cf l9 Vu (gZ cf l9 WF (gZ cf l9 UJ (gZ cf l9 TV (kJ IV (Da cf k0))))))))))))
def HW (n:Nat) (jI:bu) (k:d0) (a0:AV) (a1:Int) (a2:AV) (h:Heap):aa:=qR h a0 fun a b=>qR b a2 fun c d=>jg d (.ptr a 0) 17 true fun e=>jI e a1 d fun f g i=>ifB (jK (eqF g 0)) (k false g i) (jy .i64 0 i (.ptr c 0) fun l m=>jy .i64 1 i (.ptr c 0) fun o p=>jy .i64 2 i (.ptr c 0) fun q r=>jy .i64 3 i (.ptr c 0) fun s t=>tg false [(.int .i64 m),(.int .i64 p),(.int .i64 r),(.int .i64 t)] fun u=>D9 .i64 u fun w=>ifB (ltF w 0) (k false 2 i) (fld 16 i (.ptr a 0) 1 false fun x y=>eld 8 i y a1 8 true fun z A=>lG i (.cells [.nilslice,(.int .i64 0),(.int .i64 0),(.int .i64 0),(.int .i64 0),(.int .i64 0),(.int .i64 0),(.int .i64 0)] true 0) fun B C=>jf C (.ptr B 0) 8 A fun E=>jy .i64 4 E (.ptr B 0) fun F G=>A7 .i64 G 4 fun I=>tg false [(.int .i64 16),(.int .i64 I)] fun K=>D9 .i64 K fun L=>jy .i64 5 E (.ptr B 0) fun M N=>A7 .i64 N 8 fun O=>jy .i64 0 E (.ptr c 0) fun P Q=>ifB (jK (ltF L Q)) (faK 3 (.ptr c 0) fun R=>ldI .i64 E R fun S=>xv n jI k (.ptr c 0) f (.ptr B 0) (jK (ltF O S)) E) (xv n jI k (.ptr c 0) f (.ptr B 0) false E)))
def Qo (n:Nat) (jI:bu) (a0:AV) (a1:Int) (a2:AV) (h:Heap) (k:d0):aa:=HW n jI k a0 a1 a2 h
theorem alM:DZ cf l9 n abh nX k0=abj cf k0:=by funext s; kernel_rfl
theorem alm:lo HY (DZ (qD jI) l9 n abh nX k0)=cmp HY (Qo n jI) (kap nX k0):=(congrArg (lo HY) (alM n (qD jI) k0)).trans (show _=HW n jI (kap nX k0) by obtain ⟨J0,u0⟩:=exi (Da (qD jI) k0); delta abj HW; rw [← ajj,u0]; kernel_rfl)
end
def bM (n:Nat):bD:=Qo n (ed n)
abbrev abn (g:aO):Wr:=wrT sD hO g
def jb (hT:aZ) (hG:bv) (il:bj) (ib:bD):bf:=lC [(V4,Vf hT),(TW,WH hG),(ae1,adS il),(abZ,aaB ib)]
abbrev Wh:Type:=Int→AV→AV→AV→AV→Int→Int→Heap→aa
abbrev WI:Type:=Int→AV→AV→AV→Bool→AV→Int→Heap→aa
abbrev cW:Type:=Int→AV→AV→AV→AV→AV→Int→Int→Heap→aa
section
variable (hT:aZ) (hG:bv) (il:bj) (ib:bD) (k0:Q0)
def CV:Q1:=(gZ cf i8 WR (jk hO k0))
def wW (n:Nat) (hT:aZ) (hG:bv) (il:bj) (ib:bD) (k:ab) (v188:Bool) (h:Heap):aa:=k v188 h
theorem ahy:lo I3 (CV (jb hT hG il ib) k0)=wW n hT hG il ib (kap hO k0):=by delta CV wW; kernel_rfl
def B8:Q1:=(cJ p176 (gZ cf i8 iZ (jk hO k0)) (gZ cf i8 WD (gZ cf i8 WB (kJ I3 (CV cf k0)))))
def uf (n:Nat) (hT:aZ) (hG:bv) (il:bj) (ib:bD) (k:ab) (v2:Int) (v3:AV) (v22:AV) (v176:Bool) (h:Heap):aa:=ifB v176 (k false h) (jg h v3 17 true fun a=>jg h v22 4 true fun b=>ib a v2 b h fun c d e=>ifB (eqF d 0) (wW n hT hG il ib k c e) (wW n hT hG il ib k false e))
theorem ahS:lo Ju (B8 (jb hT hG il ib) k0)=uf n hT hG il ib (kap hO k0):=by obtain ⟨J0,u0⟩:=exi (CV (jb hT hG il ib) k0); delta B8 uf; rw [← ahy,u0]; kernel_rfl
def C0:Q1:=(gZ cf i8 UK (gZ cf i8 Uy (kJ Ju (B8 cf k0))))
def xw (n:Nat) (hT:aZ) (hG:bv) (il:bj) (ib:bD) (k:ab) (v2:Int) (v3:AV) (v15:AV) (v19:AV) (h:Heap):aa:=il v19 h fun a b c=>lG c (.cells [(.int .i64 0),(.int .i64 0),(.int .i64 0),(.int .i64 0)] true 0) fun d e=>jf e (.ptr d 0) 4 a fun f=>ifB (jK (eqF b 0)) (uf n hT hG il ib k v2 v3 (.ptr d 0) true f) (faK 2 (.ptr d 0) fun g=>ldI .i64 f g fun i=>Iv 1 7 v15 3 fun l=>ldI .i64 f l fun m=>uf n hT hG il ib k v2 v3 (.ptr d 0) (jK (eqF i m)) f)
theorem aiR:lo Jl (C0 (jb hT hG il ib) k0)=xw n hT hG il ib (kap hO k0):=by obtain ⟨J1,u1⟩:=exi (B8 (jb hT hG il ib) k0); delta C0 xw; rw [← ahS,u1]; kernel_rfl
def Jn (J3:Q1):Q1:=(gZ cf i8 UC (cJ p154 (gZ cf i8 WE (gZ cf i8 Wo (gZ cf i8 Vq (kJ ra J3)))) (kJ Jl (C0 cf k0))))
def xe (n:Nat) (hT:aZ) (hG:bv) (il:bj) (ib:bD) (k:ab) (j3:Wh) (v2:Int) (v3:AV) (v15:AV) (v19:AV) (v151:AV) (v152:Int) (v153:Int) (h:Heap):aa:=ifB (ltF v153 v152) (eld 5 h v151 v153 5 true fun a b=>lG h (.cells [(.int .i64 0),(.int .i64 0),.nilslice,(.int .i64 0),.nilslice] true 0) fun c d=>jf d (.ptr c 0) 5 b fun e=>fld 2 e (.ptr c 0) 2 true fun f g=>l8 e 1 [.nilslice,(.int .i64 0)] [(0,2,g)] fun i l=>rX l 2 v19 i fun m o=>la .i64 v153 1 fun p=>j3 v2 v3 v15 m v151 v152 p o) (xw n hT hG il ib k v2 v3 v15 v19 h)
def JV:Nat→Q1:=lpS (Jn cf k0)
def wO (n:Nat) (hT:aZ) (hG:bv) (il:bj) (ib:bD) (k:ab):Nat→Wh:=lpF ra (xe n hT hG il ib k)
theorem ag8 (k:ab) (m:Nat):wO n hT hG il ib k (m+1)=xe n hT hG il ib k (wO n hT hG il ib k m):=rfl
theorem ai9 (m:Nat):lo ra (JV (jb hT hG il ib) k0 m)=wO n hT hG il ib (kap hO k0) m:=mQ (fun J3=>(by obtain ⟨J2,u2⟩:=exi (C0 (jb hT hG il ib) k0); delta Jn xe; rw [← aiR,u2]; kernel_rfl:lo ra (Jn (jb hT hG il ib) k0 J3)=xe n hT hG il ib (kap hO k0) (lo ra J3))) m
def BV:Q1:=(cJ p149 (gZ cf i8 iZ (jk hO k0)) (gZ cf i8 Ro (gZ cf i8 Rb (kJ ra (JV cf k0 n)))))
def uz (n:Nat) (hT:aZ) (hG:bv) (il:bj) (ib:bD) (k:ab) (v2:Int) (v3:AV) (v4:AV) (v15:AV) (v149:Bool) (h:Heap):aa:=ifB v149 (k false h) (fld 4 h v4 1 false fun a b=>jC b fun c=>wO n hT hG il ib k n v2 v3 v15 .nilslice b c 0 h)
theorem ag7:lo JG (BV n (jb hT hG il ib) k0)=uz n hT hG il ib (kap hO k0):=by obtain ⟨J3,u3⟩:=exi (JV (jb hT hG il ib) k0 n); delta BV uz; rw [← ai9,u3]; kernel_rfl
def CH:Q1:=(gZ cf i8 Sx (kJ JG (BV n cf k0)))
def ue (n:Nat) (hT:aZ) (hG:bv) (il:bj) (ib:bD) (k:ab) (v2:Int) (v3:AV) (v4:AV) (v15:AV) (v138:Bool) (h:Heap):aa:=ifB v138 (uz n hT hG il ib k v2 v3 v4 v15 true h) (faK 2 v4 fun a=>ldB h a fun b=>fld 0 h v4 1 false fun c d=>jC d fun e=>Iv 1 7 v15 1 fun f=>ldI .i64 h f fun g=>uz n hT hG il ib k v2 v3 v4 v15 (xorB true (eqBB b (eqF e g))) h)
theorem ah4:lo IP (CH n (jb hT hG il ib) k0)=ue n hT hG il ib (kap hO k0):=by obtain ⟨J5,u5⟩:=exi (BV n (jb hT hG il ib) k0); delta CH ue; rw [← ag7,u5]; kernel_rfl
def Cz:Q1:=(gZ cf i8 Ru (kJ IP (CH n cf k0)))
def CE (n:Nat) (hT:aZ) (hG:bv) (il:bj) (ib:bD) (k:ab) (v2:Int) (v3:AV) (v4:AV) (v15:AV) (v16:Bool) (v17:AV) (h:Heap):aa:=ifB (jK v16) (ue n hT hG il ib k v2 v3 v4 v15 true h) (Iv 1 7 v15 1 fun a=>ldI .i64 h a fun b=>Iv 1 7 v17 1 fun c=>ldI .i64 h c fun d=>ue n hT hG il ib k v2 v3 v4 v15 (jK (eqF b d)) h)
theorem ahx:lo I6 (Cz n (jb hT hG il ib) k0)=CE n hT hG il ib (kap hO k0):=by obtain ⟨J4,u4⟩:=exi (CH n (jb hT hG il ib) k0); delta Cz CE; rw [← ah4,u4]; kernel_rfl
def IY (J7:Q1):Q1:=(gZ cf i8 R0 (cJ adt (gZ cf i8 Ss (gZ cf i8 Ri (cJ VE (gZ cf i8 iZ (jk hO k0)) (gZ cf i8 Tu (kJ qZ J7))))) (kJ I6 (Cz n cf k0))))
def xx (n:Nat) (hT:aZ) (hG:bv) (il:bj) (ib:bD) (k:ab) (j7:WI) (v2:Int) (v3:AV) (v4:AV) (v15:AV) (v16:Bool) (v17:AV) (v119:Int) (h:Heap):aa:=ifB (ltF v119 7) (Iv 1 7 v15 v119 fun a=>ldI .i64 h a fun b=>Iv 1 7 v17 v119 fun c=>ldI .i64 h c fun d=>ifB (ltF d b) (k false h) (la .i64 v119 1 fun e=>j7 v2 v3 v4 v15 v16 v17 e h)) (CE n hT hG il ib k v2 v3 v4 v15 v16 v17 h)
def I1:Nat→Q1:=lpS (IY n cf k0)
def xL (n:Nat) (hT:aZ) (hG:bv) (il:bj) (ib:bD) (k:ab):Nat→WI:=lpF qZ (xx n hT hG il ib k)
theorem aiO (k:ab) (m:Nat):xL n hT hG il ib k (m+1)=xx n hT hG il ib k (xL n hT hG il ib k m):=rfl
theorem ahP (m:Nat):lo qZ (I1 n (jb hT hG il ib) k0 m)=xL n hT hG il ib (kap hO k0) m:=mQ (fun J7=>(by obtain ⟨J6,u6⟩:=exi (Cz n (jb hT hG il ib) k0); delta IY xx; rw [← ahx,u6]; kernel_rfl:lo qZ (IY n (jb hT hG il ib) k0 J7)=xx n hT hG il ib (kap hO k0) (lo qZ J7))) m
def Cg:Q1:=(gZ cf i8 QQ (gZ cf i8 Tj (gZ cf i8 SE (kJ qZ (I1 n cf k0 n)))))
def xK (n:Nat) (hT:aZ) (hG:bv) (il:bj) (ib:bD) (k:ab) (v2:Int) (v3:AV) (v4:AV) (v7:AV) (h:Heap):aa:=fld 0 h v4 1 false fun a b=>hG b h fun c d e=>lG e (.cells [(.int .i64 0),(.int .i64 0),(.int .i64 0),(.int .i64 0),(.int .i64 0),(.int .i64 0),(.int .i64 0)] true 0) fun f g=>jf g (.ptr f 0) 7 c fun i=>jy .i64 1 i v7 fun l m=>shlK .i64 1 m fun o=>jy .i64 2 i v7 fun p q=>jy .i64 3 i v7 fun r s=>jy .i64 4 i v7 fun t u=>jy .i64 5 i v7 fun w x=>jy .i64 6 i v7 fun y z=>kM [(.int .i64 0),(.int .i64 0),(.int .i64 0),(.int .i64 0),(.int .i64 0),(.int .i64 0),(.int .i64 0)] [(1,1,(.int .i64 o)),(2,1,(.int .i64 q)),(3,1,(.int .i64 s)),(4,1,(.int .i64 u)),(5,1,(.int .i64 x)),(6,1,(.int .i64 z))] fun A=>lG i (.cells [(.int .i64 0),(.int .i64 0),(.int .i64 0),(.int .i64 0),(.int .i64 0),(.int .i64 0),(.int .i64 0)] true 0) fun B C=>jf C (.ptr B 0) 7 A fun E=>xL n hT hG il ib k n v2 v3 v4 (.ptr f 0) d (.ptr B 0) 0 E
theorem ahE:lo Jh (Cg n (jb hT hG il ib) k0)=xK n hT hG il ib (kap hO k0):=by obtain ⟨J7,u7⟩:=exi (I1 n (jb hT hG il ib) k0 n); delta Cg xK; rw [← ahP,u7]; kernel_rfl
def An (J9:Q1):Q1:=(cJ p97 (gZ cf i8 iZ (jk hO k0)) (gZ cf i8 RB (kJ pE J9)))
def rI (n:Nat) (hT:aZ) (hG:bv) (il:bj) (ib:bD) (k:ab) (j9:cW) (v2:Int) (v3:AV) (v4:AV) (v7:AV) (v8:AV) (v68:AV) (v69:Int) (v70:Int) (v97:Bool) (h:Heap):aa:=ifB v97 (k false h) (la .i64 v70 1 fun a=>j9 v2 v3 v4 v7 v8 v68 v69 a h)
theorem age (J9:Q1):lo G5 (An (jb hT hG il ib) k0 J9)=rI n hT hG il ib (kap hO k0) (lo pE J9):=by delta An rI; kernel_rfl
def JJ (J9:Q1):Q1:=(gZ cf i8 QO (cJ p71 (gZ cf i8 Rk (gZ cf i8 Q6 (kJ G5 (An cf k0 J9)))) (kJ Jh (Cg n cf k0))))
def xC (n:Nat) (hT:aZ) (hG:bv) (il:bj) (ib:bD) (k:ab) (j9:cW) (v2:Int) (v3:AV) (v4:AV) (v7:AV) (v8:AV) (v68:AV) (v69:Int) (v70:Int) (h:Heap):aa:=ifB (ltF v70 v69) (Xg .i64 1 h v68 v70 fun a b=>fld 1 h v4 1 false fun c d=>Xg .i64 1 h d v70 fun e f=>ifB (ltF f 0) (rI n hT hG il ib k j9 v2 v3 v4 v7 v8 v68 v69 v70 true h) (faK 1 v4 fun g=>jg h g 1 false fun i=>Xg .i64 1 h i v70 fun l m=>jy .i64 0 h v3 fun o p=>jy .i64 1 h v3 fun q r=>quoK .i64 p r fun s=>Iv 1 16 v8 b fun t=>ldI .i64 h t fun u=>PU .i64 s u fun w=>rI n hT hG il ib k j9 v2 v3 v4 v7 v8 v68 v69 v70 (jK (eqF m w)) h)) (xK n hT hG il ib k v2 v3 v4 v7 h)
def IT:Nat→Q1:=lpS (JJ n cf k0)
def tC (n:Nat) (hT:aZ) (hG:bv) (il:bj) (ib:bD) (k:ab):Nat→cW:=lpF pE (xC n hT hG il ib k)
theorem aiY (k:ab) (m:Nat):tC n hT hG il ib k (m+1)=xC n hT hG il ib k (tC n hT hG il ib k m):=rfl
theorem ai8 (m:Nat):lo pE (IT n (jb hT hG il ib) k0 m)=tC n hT hG il ib (kap hO k0) m:=mQ (fun J9=>(by obtain ⟨J8,u8⟩:=exi (Cg n (jb hT hG il ib) k0); obtain ⟨J10,u10⟩:=exi (An (jb hT hG il ib) k0 J9); delta JJ xC; rw [← ahE,u8, ← age,u10]; kernel_rfl:lo pE (JJ n (jb hT hG il ib) k0 J9)=xC n hT hG il ib (kap hO k0) (lo pE J9))) m
def A4:Q1:=(gZ cf i8 Rw (kJ pE (IT n cf k0 n)))
def AE (n:Nat) (hT:aZ) (hG:bv) (il:bj) (ib:bD) (k:ab) (v2:Int) (v3:AV) (v4:AV) (v7:AV) (v8:AV) (h:Heap):aa:=fld 0 h v7 1 false fun a b=>jC b fun c=>tC n hT hG il ib k n v2 v3 v4 v7 v8 b c 0 h
theorem af1:lo GK (A4 n (jb hT hG il ib) k0)=AE n hT hG il ib (kap hO k0):=by obtain ⟨J9,u9⟩:=exi (IT n (jb hT hG il ib) k0 n); delta A4 AE; rw [← ai8,u9]; kernel_rfl
def uZ (J12:Q1):Q1:=(gZ cf i8 R7 (kJ lB J12))
def rN (n:Nat) (hT:aZ) (hG:bv) (il:bj) (ib:bD) (k:ab) (j12:cW) (v2:Int) (v3:AV) (v4:AV) (v7:AV) (v8:AV) (v38:AV) (v39:Int) (v40:Int) (h:Heap):aa:=la .i64 v40 1 fun a=>j12 v2 v3 v4 v7 v8 v38 v39 a h
theorem afF (J12:Q1):lo lB (uZ (jb hT hG il ib) J12)=rN n hT hG il ib (kap hO k0) (lo lB J12):=by delta uZ rN; kernel_rfl
def AK (J12:Q1):Q1:=(cJ p60 (gZ cf i8 R3 (kJ lB (uZ cf J12))) (kJ lB (uZ cf J12)))
def pZ (n:Nat) (hT:aZ) (hG:bv) (il:bj) (ib:bD) (k:ab) (j12:cW) (v2:Int) (v3:AV) (v4:AV) (v7:AV) (v8:AV) (v11:Int) (v38:AV) (v39:Int) (v40:Int) (v60:Bool) (h:Heap):aa:=ifB v60 (Iv 1 16 v8 v11 fun a=>ldI .i64 h a fun b=>la .i64 b 1 fun c=>Iv 1 16 v8 v11 fun d=>jf h d 1 (.int .i64 c) fun e=>rN n hT hG il ib k j12 v2 v3 v4 v7 v8 v38 v39 v40 e) (rN n hT hG il ib k j12 v2 v3 v4 v7 v8 v38 v39 v40 h)
theorem afh (J12:Q1):lo GD (AK (jb hT hG il ib) J12)=pZ n hT hG il ib (kap hO k0) (lo lB J12):=by obtain ⟨J13,u13⟩:=exi (uZ (jb hT hG il ib) J12); delta AK pZ; rw [← afF,u13]; kernel_rfl
def Hu (J12:Q1):Q1:=(gZ cf i8 RP (cJ p41 (gZ cf i8 Q5 (gZ cf i8 Sw (gZ cf i8 Q2 (kJ GD (AK cf J12))))) (kJ GK (A4 n cf k0))))
def vF (n:Nat) (hT:aZ) (hG:bv) (il:bj) (ib:bD) (k:ab) (j12:cW) (v2:Int) (v3:AV) (v4:AV) (v7:AV) (v8:AV) (v38:AV) (v39:Int) (v40:Int) (h:Heap):aa:=ifB (ltF v40 v39) (eld 2 h v38 v40 2 true fun a b=>lG h (.cells [(.int .i64 0),(.int .u8 0)] true 0) fun c d=>jf d (.ptr c 0) 2 b fun e=>jy .i64 0 e (.ptr c 0) fun f g=>jy .i64 1 e v3 fun i l=>hT g l e fun m o p=>ifB (eqF o 0) (faK 0 (.ptr c 0) fun q=>ldI .i64 p q fun r=>jy .i64 0 p v3 fun s t=>pZ n hT hG il ib k j12 v2 v3 v4 v7 v8 m v38 v39 v40 (ltF r t) p) (pZ n hT hG il ib k j12 v2 v3 v4 v7 v8 m v38 v39 v40 false p)) (AE n hT hG il ib k v2 v3 v4 v7 v8 h)
def GX:Nat→Q1:=lpS (Hu n cf k0)
def qm (n:Nat) (hT:aZ) (hG:bv) (il:bj) (ib:bD) (k:ab):Nat→cW:=lpF lB (vF n hT hG il ib k)
theorem agx (k:ab) (m:Nat):qm n hT hG il ib k (m+1)=vF n hT hG il ib k (qm n hT hG il ib k m):=rfl
theorem ae6 (m:Nat):lo lB (GX n (jb hT hG il ib) k0 m)=qm n hT hG il ib (kap hO k0) m:=mQ (fun J12=>(by obtain ⟨J11,u11⟩:=exi (A4 n (jb hT hG il ib) k0); obtain ⟨J14,u14⟩:=exi (AK (jb hT hG il ib) J12); delta Hu vF; rw [← af1,u11, ← afh,u14]; kernel_rfl:lo lB (Hu n (jb hT hG il ib) k0 J12)=vF n hT hG il ib (kap hO k0) (lo lB J12))) m
def aaO:Q1:=(gZ cf i8 As (gZ cf i8 S9 (gZ cf i8 Tb (cJ p36 (gZ cf i8 iZ (jk hO k0)) (gZ cf i8 RR (gZ cf i8 S7 (kJ lB (GX n cf k0 n))))))))
def HM (n:Nat) (hT:aZ) (hG:bv) (il:bj) (ib:bD) (k:ab) (a0:AV) (a1:AV) (a2:Int) (h:Heap):aa:=qR h a0 fun a b=>qR b a1 fun c d=>fld 16 d (.ptr a 0) 1 false fun e f=>eld 8 d f a2 8 true fun g i=>lG d (.cells [.nilslice,(.int .i64 0),(.int .i64 0),(.int .i64 0),(.int .i64 0),(.int .i64 0),(.int .i64 0),(.int .i64 0)] true 0) fun l m=>jf m (.ptr l 0) 8 i fun o=>fld 1 o (.ptr c 0) 1 false fun p q=>jC q fun r=>fld 0 o (.ptr l 0) 1 false fun s t=>jC t fun u=>ifB (jK (eqF r u)) (k false o) (lG o (.cells [(.int .i64 0),(.int .i64 0),(.int .i64 0),(.int .i64 0),(.int .i64 0),(.int .i64 0),(.int .i64 0),(.int .i64 0),(.int .i64 0),(.int .i64 0),(.int .i64 0),(.int .i64 0),(.int .i64 0),(.int .i64 0),(.int .i64 0),(.int .i64 0)] true 0) fun w x=>fld 0 x (.ptr c 0) 1 false fun y z=>jC z fun A=>qm n hT hG il ib k n a2 (.ptr a 0) (.ptr c 0) (.ptr l 0) (.ptr w 0) z A 0 x)
def P6 (n:Nat) (hT:aZ) (hG:bv) (il:bj) (ib:bD) (a0:AV) (a1:AV) (a2:Int) (h:Heap) (k:ab):aa:=HM n hT hG il ib k a0 a1 a2 h
theorem amQ:DZ cf i8 n abE hO k0=aaO n cf k0:=by funext s; kernel_rfl
theorem alu:lo sD (DZ (jb hT hG il ib) i8 n abE hO k0)=cmp sD (P6 n hT hG il ib) (kap hO k0):=(congrArg (lo sD) (amQ n (jb hT hG il ib) k0)).trans (show _=HM n hT hG il ib (kap hO k0) by obtain ⟨J12,u12⟩:=exi (GX n (jb hT hG il ib) k0 n); delta aaO HM; rw [← ae6,u12]; kernel_rfl)
end
def bh (n:Nat):aO:=P6 n (bN n) (bF n) (bQ n) (bM n)
abbrev Bo (g:ae):Wr:=wrT iH jr g
def zL:bf:=lC []
section
variable (k0:Q0)
def BA:Q1:=(gZ cf i7 mU (gZ cf i7 mW (gZ cf i7 yZ (jk jr k0))))
def tH (n:Nat) (k:aL) (h:Heap):aa:=lG h (.mp []) fun a b=>lG b (.cells [.nilmap] true 0) fun c d=>jf d (.ptr c 0) 1 (.map a) fun e=>k (.func 38 [] [(.ptr c 0)]) e
def BE (n:Nat) (h:Heap) (k:aL):aa:=tH n k h
theorem N2:DZ cf i7 n BB jr k0=BA cf k0:=by funext s; kernel_rfl
theorem OM:lo iH (DZ zL i7 n BB jr k0)=cmp iH (BE n) (kap jr k0):=(congrArg (lo iH) (N2 n zL k0)).trans (show _=tH n (kap jr k0) by delta BA tH; kernel_rfl)
end
def aE (n:Nat):ae:=BE n
abbrev Bh (g:ae):Wr:=wrT iH jr g
def zM:bf:=lC []
section
variable (k0:Q0)
def Bc:Q1:=(gZ cf i7 mU (gZ cf i7 mW (gZ cf i7 yW (jk jr k0))))
def tt (n:Nat) (k:aL) (h:Heap):aa:=lG h (.mp []) fun a b=>lG b (.cells [.nilmap] true 0) fun c d=>jf d (.ptr c 0) 1 (.map a) fun e=>k (.func 39 [] [(.ptr c 0)]) e
def Br (n:Nat) (h:Heap) (k:aL):aa:=tt n k h
theorem MO:DZ cf i7 n BJ jr k0=Bc cf k0:=by funext s; kernel_rfl
theorem NV:lo iH (DZ zM i7 n BJ jr k0)=cmp iH (Br n) (kap jr k0):=(congrArg (lo iH) (MO n zM k0)).trans (show _=tt n (kap jr k0) by delta Bc tt; kernel_rfl)
end
def aD (n:Nat):ae:=Br n
abbrev abm (g:aZ):Wr:=wrT xk jS g
def Xs (jN:bg):bf:=lC [(P0,Qg jN)]
section
variable (jN:bg) (k0:Q0)
def abD:Q1:=(gZ cf qw Fr (gZ cf qw WJ (cJ p9 (gZ cf qw WG (jk jS k0)) (gZ cf qw Wy (cJ p12 (gZ cf qw FT (jk jS k0)) (gZ cf qw VV (gZ cf qw Vv (jk jS k0))))))))
def HR (n:Nat) (jN:bg) (k:aX) (a0:Int) (a1:Int) (h:Heap):aa:=ifB (jK (ltF a0 1048576)) (k 0 10 h) (jN a1 h fun a b=>ifB (jK a) (k 0 2 b) (quoK .u64 a0 256 fun c=>uq .i64 c fun d=>afl .u64 a0 256 fun e=>quoK .u64 e 16 fun f=>uq .i64 f fun g=>afl .i64 d a1 fun i=>A7 .i64 i 16 fun l=>la .i64 l g fun m=>k m 0 b))
def Qt (n:Nat) (jN:bg) (a0:Int) (a1:Int) (h:Heap) (k:aX):aa:=HR n jN k a0 a1 h
theorem amx:DZ cf qw n ZW jS k0=abD cf k0:=by funext s; kernel_rfl
theorem alD:lo xk (DZ (Xs jN) qw n ZW jS k0)=cmp xk (Qt n jN) (kap jS k0):=(congrArg (lo xk) (amx n (Xs jN) k0)).trans (show _=HR n jN (kap jS k0) by delta abD HR; kernel_rfl)
end
def cv (n:Nat):aZ:=Qt n (dt n)
abbrev aa8 (g:bE):Wr:=wrT sa ml g
def Xo:bf:=lC []
section
variable (k0:Q0)
def abs:Q1:=(gZ cf nr C8 (gZ cf nr VF (cJ p7 (gZ cf nr Dd (jk ml k0)) (gZ cf nr BZ (jk ml k0)))))
def H4 (n:Nat) (k:cS) (a0:Int) (h:Heap):aa:=shrK .u64 a0 20 fun a=>ifB (jK (eqF a 0)) (k 0 0 10 h) (shrK .u64 a0 8 fun b=>uq .i64 b fun c=>ae8 .and .u64 a0 255 fun d=>uq .i64 d fun e=>k c e 0 h)
def Qw (n:Nat) (a0:Int) (h:Heap) (k:cS):aa:=H4 n k a0 h
theorem alA:DZ cf nr n ab0 ml k0=abs cf k0:=by funext s; kernel_rfl
theorem amD:lo sa (DZ Xo nr n ab0 ml k0)=cmp sa (Qw n) (kap ml k0):=(congrArg (lo sa) (alA n Xo k0)).trans (show _=H4 n (kap ml k0) by delta abs H4; kernel_rfl)
end
def cu (n:Nat):bE:=Qw n
abbrev WK (g:aj):Wr:=wrT i5 ii g
def jD (gE:aI) (gR:aU) (iG:aZ) (iD:bE):bf:=lC [(wh,wj gE),(Vo,VR gR),(ZU,abm iG),(Z1,aa8 iD)]
section
variable (gE:aI) (gR:aU) (iG:aZ) (iD:bE) (k0:Q0)
def ya:Q1:=(gZ cf jt rL (jk ii k0))
def yE (n:Nat) (gE:aI) (gR:aU) (iG:aZ) (iD:bE) (k:ab) (h:Heap):aa:=k true h
theorem acv:lo iH (ya (jD gE gR iG iD) k0)=yE n gE gR iG iD (kap ii k0):=by delta ya yE; kernel_rfl
def yF (J1:Q1):Q1:=(cJ M8 (gZ cf jt i9 (jk ii k0)) (gZ cf jt Ms (kJ mV J1)))
def qL (n:Nat) (gE:aI) (gR:aU) (iG:aZ) (iD:bE) (k:ab) (j1:cn) (v2:AV) (v3:AV) (v75:AV) (v76:Int) (v77:Int) (v106:Bool) (h:Heap):aa:=ifB v106 (k false h) (la .i64 v77 1 fun a=>j1 v2 v3 v75 v76 a h)
theorem acs (J1:Q1):lo Ei (yF (jD gE gR iG iD) k0 J1)=qL n gE gR iG iD (kap ii k0) (lo mV J1):=by delta yF qL; kernel_rfl
def yD (J1:Q1):Q1:=(gZ cf jt ND (kJ Ei (yF cf k0 J1)))
def pe (n:Nat) (gE:aI) (gR:aU) (iG:aZ) (iD:bE) (k:ab) (j1:cn) (v2:AV) (v3:AV) (v17:AV) (v75:AV) (v76:Int) (v77:Int) (v92:Bool) (h:Heap):aa:=ifB v92 (qL n gE gR iG iD k j1 v2 v3 v75 v76 v77 true h) (faK 0 v3 fun a=>jg h a 1 false fun b=>jy .i64 0 h v17 fun c d=>quoK .i64 d 16 fun e=>Qc 5 b e fun f=>fld 0 h f 1 false fun g i=>jy .i64 2 h v17 fun l m=>gR i m 2 h fun o p=>qL n gE gR iG iD k j1 v2 v3 v75 v76 v77 (jK o) p)
theorem adG (J1:Q1):lo Er (yD (jD gE gR iG iD) k0 J1)=pe n gE gR iG iD (kap ii k0) (lo mV J1):=by obtain ⟨J3,u3⟩:=exi (yF (jD gE gR iG iD) k0 J1); delta yD pe; rw [← acs,u3]; kernel_rfl
def Ej (J1:Q1):Q1:=(gZ cf jt Ov (cJ p78 (gZ cf jt Oy (gZ cf jt N7 (kJ Er (yD cf k0 J1)))) (kJ iH (ya cf k0))))
def tE (n:Nat) (gE:aI) (gR:aU) (iG:aZ) (iD:bE) (k:ab) (j1:cn) (v2:AV) (v3:AV) (v75:AV) (v76:Int) (v77:Int) (h:Heap):aa:=ifB (ltF v77 v76) (eld 6 h v75 v77 6 true fun a b=>lG h (.cells [(.int .i64 0),(.int .i64 0),(.int .i64 0),(.bool false),(.bool false),(.bool false)] true 0) fun c d=>jf d (.ptr c 0) 6 b fun e=>jy .i64 0 e (.ptr c 0) fun f g=>ifB (ltF g 0) (pe n gE gR iG iD k j1 v2 v3 (.ptr c 0) v75 v76 v77 true e) (faK 0 (.ptr c 0) fun i=>ldI .i64 e i fun l=>fld 16 e v2 1 false fun m o=>jC o fun p=>A7 .i64 16 p fun q=>pe n gE gR iG iD k j1 v2 v3 (.ptr c 0) v75 v76 v77 (jK (ltF l q)) e)) (yE n gE gR iG iD k h)
def Ee:Nat→Q1:=lpS (Ej cf k0)
def oX (n:Nat) (gE:aI) (gR:aU) (iG:aZ) (iD:bE) (k:ab):Nat→cn:=lpF mV (tE n gE gR iG iD k)
theorem acR (k:ab) (m:Nat):oX n gE gR iG iD k (m+1)=tE n gE gR iG iD k (oX n gE gR iG iD k m):=rfl
theorem acE (m:Nat):lo mV (Ee (jD gE gR iG iD) k0 m)=oX n gE gR iG iD (kap ii k0) m:=mQ (fun J1=>(by obtain ⟨J0,u0⟩:=exi (ya (jD gE gR iG iD) k0); obtain ⟨J2,u2⟩:=exi (yD (jD gE gR iG iD) k0 J1); delta Ej tE; rw [← acv,u0, ← adG,u2]; kernel_rfl:lo mV (Ej (jD gE gR iG iD) k0 J1)=tE n gE gR iG iD (kap ii k0) (lo mV J1))) m
def yO:Q1:=(gZ cf jt MN (kJ mV (Ee cf k0 n)))
def tu (n:Nat) (gE:aI) (gR:aU) (iG:aZ) (iD:bE) (k:ab) (v2:AV) (v3:AV) (h:Heap):aa:=fld 2 h v3 1 false fun a b=>jC b fun c=>oX n gE gR iG iD k n v2 v3 b c 0 h
theorem acl:lo E1 (yO n (jD gE gR iG iD) k0)=tu n gE gR iG iD (kap ii k0):=by obtain ⟨J1,u1⟩:=exi (Ee (jD gE gR iG iD) k0 n); delta yO tu; rw [← acE,u1]; kernel_rfl
def yH (J5:Q1):Q1:=(cJ p72 (gZ cf jt i9 (jk ii k0)) (gZ cf jt PB (kJ mf J5)))
def qI (n:Nat) (gE:aI) (gR:aU) (iG:aZ) (iD:bE) (k:ab) (j5:cn) (v2:AV) (v3:AV) (v19:AV) (v20:Int) (v21:Int) (v72:Bool) (h:Heap):aa:=ifB v72 (k false h) (la .i64 v21 1 fun a=>j5 v2 v3 v19 v20 a h)
theorem adE (J5:Q1):lo Eg (yH (jD gE gR iG iD) k0 J5)=qI n gE gR iG iD (kap ii k0) (lo mf J5):=by delta yH qI; kernel_rfl
def yo (J5:Q1):Q1:=(cJ p59 (gZ cf jt i9 (jk ii k0)) (gZ cf jt Lg (gZ cf jt Lb (kJ Eg (yH cf k0 J5)))))
def tj (n:Nat) (gE:aI) (gR:aU) (iG:aZ) (iD:bE) (k:ab) (j5:cn) (v2:AV) (v3:AV) (v10:Int) (v19:AV) (v20:Int) (v21:Int) (v59:Bool) (h:Heap):aa:=ifB v59 (k false h) (jg h v2 17 true fun a=>gE a v10 h fun b c d e=>ifB (jK (eqF d 0)) (qI n gE gR iG iD k j5 v2 v3 v19 v20 v21 true e) (qI n gE gR iG iD k j5 v2 v3 v19 v20 v21 (jK c) e))
theorem adp (J5:Q1):lo E8 (yo (jD gE gR iG iD) k0 J5)=tj n gE gR iG iD (kap ii k0) (lo mf J5):=by obtain ⟨J6,u6⟩:=exi (yH (jD gE gR iG iD) k0 J5); delta yo tj; rw [← adE,u6]; kernel_rfl
def x6 (J5:Q1):Q1:=(gZ cf jt KW (kJ E8 (yo cf k0 J5)))
def tA (n:Nat) (gE:aI) (gR:aU) (iG:aZ) (iD:bE) (k:ab) (j5:cn) (v2:AV) (v3:AV) (v6:AV) (v8:Int) (v10:Int) (v19:AV) (v20:Int) (v21:Int) (v53:Bool) (h:Heap):aa:=ifB v53 (tj n gE gR iG iD k j5 v2 v3 v10 v19 v20 v21 true h) (jy .i64 0 h v6 fun a b=>tj n gE gR iG iD k j5 v2 v3 v10 v19 v20 v21 (jK (eqF v8 b)) h)
theorem ac3 (J5:Q1):lo E9 (x6 (jD gE gR iG iD) k0 J5)=tA n gE gR iG iD (kap ii k0) (lo mf J5):=by obtain ⟨J8,u8⟩:=exi (yo (jD gE gR iG iD) k0 J5); delta x6 tA; rw [← adp,u8]; kernel_rfl
def EH (J5:Q1):Q1:=(gZ cf jt Ln (cJ p22 (gZ cf jt K5 (gZ cf jt Lx (cJ p31 (gZ cf jt i9 (jk ii k0)) (gZ cf jt KH (gZ cf jt Lc (gZ cf jt KP (gZ cf jt Kj (kJ E9 (x6 cf k0 J5))))))))) (kJ E1 (yO n cf k0))))
def tk (n:Nat) (gE:aI) (gR:aU) (iG:aZ) (iD:bE) (k:ab) (j5:cn) (v2:AV) (v3:AV) (v19:AV) (v20:Int) (v21:Int) (h:Heap):aa:=ifB (ltF v21 v20) (eld 2 h v19 v21 2 true fun a b=>lG h (.cells [(.int .i64 0),(.int .u64 0)] true 0) fun c d=>jf d (.ptr c 0) 2 b fun e=>jy .u64 1 e (.ptr c 0) fun f g=>jy .i64 0 e v2 fun i l=>A7 .i64 l 16 fun m=>uq .u64 m fun o=>ifB (jK (ltF g o)) (k false e) (jy .u64 1 e (.ptr c 0) fun p q=>A7 .u64 q 16 fun r=>jy .i64 1 e v2 fun s t=>iG r t e fun u w x=>iD r x fun y z A B=>ifB (jK (eqF w 0)) (tA n gE gR iG iD k j5 v2 v3 (.ptr c 0) u y v19 v20 v21 true B) (tA n gE gR iG iD k j5 v2 v3 (.ptr c 0) u y v19 v20 v21 (jK (eqF A 0)) B))) (tu n gE gR iG iD k v2 v3 h)
def Ep:Nat→Q1:=lpS (EH n cf k0)
def qJ (n:Nat) (gE:aI) (gR:aU) (iG:aZ) (iD:bE) (k:ab):Nat→cn:=lpF mf (tk n gE gR iG iD k)
theorem adA (k:ab) (m:Nat):qJ n gE gR iG iD k (m+1)=tk n gE gR iG iD k (qJ n gE gR iG iD k m):=rfl
theorem acz (m:Nat):lo mf (Ep n (jD gE gR iG iD) k0 m)=qJ n gE gR iG iD (kap ii k0) m:=mQ (fun J5=>(by obtain ⟨J4,u4⟩:=exi (yO n (jD gE gR iG iD) k0); obtain ⟨J7,u7⟩:=exi (x6 (jD gE gR iG iD) k0 J5); delta EH tk; rw [← acl,u4, ← ac3,u7]; kernel_rfl:lo mf (EH n (jD gE gR iG iD) k0 J5)=tk n gE gR iG iD (kap ii k0) (lo mf J5))) m
def Wm:Q1:=(gZ cf jt KD (gZ cf jt K9 (kJ mf (Ep n cf k0 n))))
def CO (n:Nat) (gE:aI) (gR:aU) (iG:aZ) (iD:bE) (k:ab) (a0:AV) (a1:AV) (h:Heap):aa:=qR h a0 fun a b=>qR b a1 fun c d=>fld 1 d (.ptr c 0) 1 false fun e f=>jC f fun g=>qJ n gE gR iG iD k n (.ptr a 0) (.ptr c 0) f g 0 d
def Jz (n:Nat) (gE:aI) (gR:aU) (iG:aZ) (iD:bE) (a0:AV) (a1:AV) (h:Heap) (k:ab):aa:=CO n gE gR iG iD k a0 a1 h
theorem ahe:DZ cf jt n Vk ii k0=Wm n cf k0:=by funext s; kernel_rfl
theorem ag9:lo i5 (DZ (jD gE gR iG iD) jt n Vk ii k0)=cmp i5 (Jz n gE gR iG iD) (kap ii k0):=(congrArg (lo i5) (ahe n (jD gE gR iG iD) k0)).trans (show _=CO n gE gR iG iD (kap ii k0) by obtain ⟨J5,u5⟩:=exi (Ep n (jD gE gR iG iD) k0 n); delta Wm CO; rw [← acz,u5]; kernel_rfl)
end
def ba (n:Nat):aj:=Jz n (aK n) (br n) (cv n) (cu n)
abbrev xA (g:ai):Wr:=wrT nU jU g
def wD:bf:=lC []
section
variable (k0:Q0)
def wY:Q1:=(gZ cf mL pg (gZ cf mL oT (gZ cf mL oU (jk jU k0))))
def n0 (n:Nat) (k:ab) (a0:Int) (a1:AV) (h:Heap):aa:=jg h a1 1 false fun a=>CD h (.cell .int) (.int .i64 0) a (.int .u64 a0) fun b b2=>D9 .i64 b fun c=>la .i64 c 1 fun d=>aaw h (.cell .int) a (.int .u64 a0) (.int .i64 d) fun e=>jg e a1 1 false fun f=>CD e (.cell .int) (.int .i64 0) f (.int .u64 a0) fun g b8=>D9 .i64 g fun i=>k (ltF 1 i) e
def qX (n:Nat) (a0:Int) (a1:AV) (h:Heap) (k:ab):aa:=n0 n k a0 a1 h
theorem Ja:DZ cf mL n xh jU k0=wY cf k0:=by funext s; kernel_rfl
theorem IU:lo nU (DZ wD mL n xh jU k0)=cmp nU (qX n) (kap jU k0):=(congrArg (lo nU) (Ja n wD k0)).trans (show _=n0 n (kap jU k0) by delta wY n0; kernel_rfl)
end
def ar (n:Nat):ai:=qX n
abbrev F0 (g:bo):Wr:=wrT i5 jp g
def iI (gT:ak) (gK:aq) (gJ:ai) (gI:aq) (gH:ae) (gW:aO) (gV:aO) (gF:ae) (gG:ae) (gP:aj) (gB:ai) (gC:ai) (gD:Wr):bf:=lC [(II,IX gT),(vz,GR gK),(tq,EB gJ),(ES,D8 gI),(Gf,Gh gH),(aaR,Z2 gW),(aaq,abn gV),(Bi,Bo gF),(BC,Bh gG),(We,WK gP),(tV,uo gB),(xN,xA gC),(xH,gD)]
abbrev eC:Type:=AV→AV→AV→AV→Bool→AV→AV→Int→Int→Heap→aa
abbrev eD:Type:=AV→AV→AV→AV→Bool→AV→AV→AV→Int→Int→Heap→aa
abbrev eB:Type:=AV→AV→AV→AV→AV→AV→Int→AV→Bool→AV→AV→Int→Int→AV→Int→Int→Heap→aa
abbrev cV:Type:=AV→AV→AV→AV→AV→AV→Int→AV→Bool→AV→Int→Int→AV→Int→Int→Heap→aa
abbrev bJ:Type:=AV→AV→AV→AV→AV→AV→AV→Int→Int→Heap→aa
section
variable (gT:ak) (gK:aq) (gJ:ai) (gI:aq) (gH:ae) (gW:aO) (gV:aO) (gF:ae) (gG:ae) (gP:aj) (gB:ai) (gC:ai) (gD:Wr) (k0:Q0)
def Az:Q1:=(gZ cf iL SX (gZ cf iL Sp (gZ cf iL QL (jk jp k0))))
def vT (n:Nat) (gT:ak) (gK:aq) (gJ:ai) (gI:aq) (gH:ae) (gW:aO) (gV:aO) (gF:ae) (gG:ae) (gP:aj) (gB:ai) (gC:ai) (gD:Wr) (k:aL) (v2:AV) (v3:AV) (v5:AV) (v6:AV) (v19:Bool) (h:Heap):aa:=fld 16 h v2 1 false fun a b=>jC b fun c=>iI gT gK gJ gI gH gW gV gF gG gP gB gC gD v6 [(.bool v19),(.int .i64 280),(.int .i64 c)] h fun d e=>jg e v2 17 true fun f=>jg e v3 3 true fun g=>gP f g (e.shut true) fun i l=>fld 16 (l.back e.ro) v2 1 false fun m o=>jC o fun p=>iI gT gK gJ gI gH gW gV gF gG gP gB gC gD v6 [(.bool (jK i)),(.int .i64 281),(.int .i64 p)] (l.back e.ro) fun q r=>jg r v5 1 false fun s=>k s r
theorem afz:lo Hc (Az (iI gT gK gJ gI gH gW gV gF gG gP gB gC gD) k0)=vT n gT gK gJ gI gH gW gV gF gG gP gB gC gD (kap jp k0):=by delta Az vT; kernel_rfl
def z8 (J1:Q1):Q1:=(gZ cf iL Ta (gZ cf iL R9 (kJ oA J1)))
def rB (n:Nat) (gT:ak) (gK:aq) (gJ:ai) (gI:aq) (gH:ae) (gW:aO) (gV:aO) (gF:ae) (gG:ae) (gP:aj) (gB:ai) (gC:ai) (gD:Wr) (k:aL) (j1:eC) (v2:AV) (v3:AV) (v5:AV) (v6:AV) (v21:AV) (v135:AV) (v136:Int) (v137:Int) (v150:Bool) (h:Heap):aa:=la .i64 v137 1 fun a=>j1 v2 v3 v5 v6 v150 v21 v135 v136 a h
theorem afd (J1:Q1):lo Hf (z8 (iI gT gK gJ gI gH gW gV gF gG gP gB gC gD) J1)=rB n gT gK gJ gI gH gW gV gF gG gP gB gC gD (kap jp k0) (lo oA J1):=by delta z8 rB; kernel_rfl
def Gt (J1:Q1):Q1:=(gZ cf iL Q9 (cJ afr (gZ cf iL SH (gZ cf iL QI (kJ Hf (z8 cf J1)))) (kJ Hc (Az cf k0))))
def vh (n:Nat) (gT:ak) (gK:aq) (gJ:ai) (gI:aq) (gH:ae) (gW:aO) (gV:aO) (gF:ae) (gG:ae) (gP:aj) (gB:ai) (gC:ai) (gD:Wr) (k:aL) (j1:eC) (v2:AV) (v3:AV) (v5:AV) (v6:AV) (v19:Bool) (v21:AV) (v135:AV) (v136:Int) (v137:Int) (h:Heap):aa:=ifB (ltF v137 v136) (eld 6 h v135 v137 6 true fun a b=>lG h (.cells [(.int .i64 0),(.int .i64 0),(.int .i64 0),(.bool false),(.bool false),(.bool false)] true 0) fun c d=>jf d (.ptr c 0) 6 b fun e=>jy .i64 0 e (.ptr c 0) fun f g=>jy .i64 1 e (.ptr c 0) fun i l=>kM [(.int .i64 0),(.int .i64 0)] [(0,1,(.int .i64 g)),(1,1,(.int .i64 l))] fun m=>iI gT gK gJ gI gH gW gV gF gG gP gB gC gD v21 [m] e fun o p=>JN o fun q=>ifB q (rB n gT gK gJ gI gH gW gV gF gG gP gB gC gD k j1 v2 v3 v5 v6 v21 v135 v136 v137 true p) (rB n gT gK gJ gI gH gW gV gF gG gP gB gC gD k j1 v2 v3 v5 v6 v21 v135 v136 v137 v19 p)) (vT n gT gK gJ gI gH gW gV gF gG gP gB gC gD k v2 v3 v5 v6 v19 h)
def GU:Nat→Q1:=lpS (Gt cf k0)
def rO (n:Nat) (gT:ak) (gK:aq) (gJ:ai) (gI:aq) (gH:ae) (gW:aO) (gV:aO) (gF:ae) (gG:ae) (gP:aj) (gB:ai) (gC:ai) (gD:Wr) (k:aL):Nat→eC:=lpF oA (vh n gT gK gJ gI gH gW gV gF gG gP gB gC gD k)
theorem afJ (k:aL) (m:Nat):rO n gT gK gJ gI gH gW gV gF gG gP gB gC gD k (m+1)=vh n gT gK gJ gI gH gW gV gF gG gP gB gC gD k (rO n gT gK gJ gI gH gW gV gF gG gP gB gC gD k m):=rfl
theorem agz (m:Nat):lo oA (GU (iI gT gK gJ gI gH gW gV gF gG gP gB gC gD) k0 m)=rO n gT gK gJ gI gH gW gV gF gG gP gB gC gD (kap jp k0) m:=mQ (fun J1=>(by obtain ⟨J0,u0⟩:=exi (Az (iI gT gK gJ gI gH gW gV gF gG gP gB gC gD) k0); obtain ⟨J2,u2⟩:=exi (z8 (iI gT gK gJ gI gH gW gV gF gG gP gB gC gD) J1); delta Gt vh; rw [← afz,u0, ← afd,u2]; kernel_rfl:lo oA (Gt (iI gT gK gJ gI gH gW gV gF gG gP gB gC gD) k0 J1)=vh n gT gK gJ gI gH gW gV gF gG gP gB gC gD (kap jp k0) (lo oA J1))) m
def Ap:Q1:=(gZ cf iL S2 (kJ oA (GU cf k0 n)))
def AM (n:Nat) (gT:ak) (gK:aq) (gJ:ai) (gI:aq) (gH:ae) (gW:aO) (gV:aO) (gF:ae) (gG:ae) (gP:aj) (gB:ai) (gC:ai) (gD:Wr) (k:aL) (v2:AV) (v3:AV) (v5:AV) (v6:AV) (v19:Bool) (v21:AV) (h:Heap):aa:=fld 2 h v3 1 false fun a b=>jC b fun c=>rO n gT gK gJ gI gH gW gV gF gG gP gB gC gD k n v2 v3 v5 v6 v19 v21 b c 0 h
theorem aff:lo Hv (Ap n (iI gT gK gJ gI gH gW gV gF gG gP gB gC gD) k0)=AM n gT gK gJ gI gH gW gV gF gG gP gB gC gD (kap jp k0):=by obtain ⟨J1,u1⟩:=exi (GU (iI gT gK gJ gI gH gW gV gF gG gP gB gC gD) k0 n); delta Ap AM; rw [← agz,u1]; kernel_rfl
def AR (J4:Q1):Q1:=(gZ cf iL Pc (gZ cf iL SA (kJ ov J4)))
def rJ (n:Nat) (gT:ak) (gK:aq) (gJ:ai) (gI:aq) (gH:ae) (gW:aO) (gV:aO) (gF:ae) (gG:ae) (gP:aj) (gB:ai) (gC:ai) (gD:Wr) (k:aL) (j4:eD) (v2:AV) (v3:AV) (v5:AV) (v6:AV) (v20:AV) (v21:AV) (v120:AV) (v121:Int) (v122:Int) (v132:Bool) (h:Heap):aa:=la .i64 v122 1 fun a=>j4 v2 v3 v5 v6 v132 v20 v21 v120 v121 a h
theorem agu (J4:Q1):lo Gx (AR (iI gT gK gJ gI gH gW gV gF gG gP gB gC gD) J4)=rJ n gT gK gJ gI gH gW gV gF gG gP gB gC gD (kap jp k0) (lo ov J4):=by delta AR rJ; kernel_rfl
def Hg (J4:Q1):Q1:=(gZ cf iL Oo (cJ p123 (gZ cf iL Pt (gZ cf iL OI (kJ Gx (AR cf J4)))) (kJ Hv (Ap n cf k0))))
def vB (n:Nat) (gT:ak) (gK:aq) (gJ:ai) (gI:aq) (gH:ae) (gW:aO) (gV:aO) (gF:ae) (gG:ae) (gP:aj) (gB:ai) (gC:ai) (gD:Wr) (k:aL) (j4:eD) (v2:AV) (v3:AV) (v5:AV) (v6:AV) (v19:Bool) (v20:AV) (v21:AV) (v120:AV) (v121:Int) (v122:Int) (h:Heap):aa:=ifB (ltF v122 v121) (eld 2 h v120 v122 2 true fun a b=>lG h (.cells [(.int .i64 0),(.int .u64 0)] true 0) fun c d=>jf d (.ptr c 0) 2 b fun e=>jy .u64 1 e (.ptr c 0) fun f g=>iI gT gK gJ gI gH gW gV gF gG gP gB gC gD v20 [(.int .u64 g)] e fun i l=>JN i fun m=>ifB m (rJ n gT gK gJ gI gH gW gV gF gG gP gB gC gD k j4 v2 v3 v5 v6 v20 v21 v120 v121 v122 true l) (rJ n gT gK gJ gI gH gW gV gF gG gP gB gC gD k j4 v2 v3 v5 v6 v20 v21 v120 v121 v122 v19 l)) (AM n gT gK gJ gI gH gW gV gF gG gP gB gC gD k v2 v3 v5 v6 v19 v21 h)
def He:Nat→Q1:=lpS (Hg n cf k0)
def rx (n:Nat) (gT:ak) (gK:aq) (gJ:ai) (gI:aq) (gH:ae) (gW:aO) (gV:aO) (gF:ae) (gG:ae) (gP:aj) (gB:ai) (gC:ai) (gD:Wr) (k:aL):Nat→eD:=lpF ov (vB n gT gK gJ gI gH gW gV gF gG gP gB gC gD k)
theorem afw (k:aL) (m:Nat):rx n gT gK gJ gI gH gW gV gF gG gP gB gC gD k (m+1)=vB n gT gK gJ gI gH gW gV gF gG gP gB gC gD k (rx n gT gK gJ gI gH gW gV gF gG gP gB gC gD k m):=rfl
theorem afD (m:Nat):lo ov (He n (iI gT gK gJ gI gH gW gV gF gG gP gB gC gD) k0 m)=rx n gT gK gJ gI gH gW gV gF gG gP gB gC gD (kap jp k0) m:=mQ (fun J4=>(by obtain ⟨J3,u3⟩:=exi (Ap n (iI gT gK gJ gI gH gW gV gF gG gP gB gC gD) k0); obtain ⟨J5,u5⟩:=exi (AR (iI gT gK gJ gI gH gW gV gF gG gP gB gC gD) J4); delta Hg vB; rw [← aff,u3, ← agu,u5]; kernel_rfl:lo ov (Hg n (iI gT gK gJ gI gH gW gV gF gG gP gB gC gD) k0 J4)=vB n gT gK gJ gI gH gW gV gF gG gP gB gC gD (kap jp k0) (lo ov J4))) m
def zU:Q1:=(gZ cf iL Ps (gZ cf iL Nc (gZ cf iL OT (kJ ov (He n cf k0 n)))))
def rQ (n:Nat) (gT:ak) (gK:aq) (gJ:ai) (gI:aq) (gH:ae) (gW:aO) (gV:aO) (gF:ae) (gG:ae) (gP:aj) (gB:ai) (gC:ai) (gD:Wr) (k:aL) (v2:AV) (v3:AV) (v5:AV) (v6:AV) (h:Heap):aa:=gF h fun a b=>gG b fun c d=>fld 1 d v3 1 false fun e f=>jC f fun g=>rx n gT gK gJ gI gH gW gV gF gG gP gB gC gD k n v2 v3 v5 v6 false a c f g 0 d
theorem afG:lo G8 (zU n (iI gT gK gJ gI gH gW gV gF gG gP gB gC gD) k0)=rQ n gT gK gJ gI gH gW gV gF gG gP gB gC gD (kap jp k0):=by obtain ⟨J4,u4⟩:=exi (He n (iI gT gK gJ gI gH gW gV gF gG gP gB gC gD) k0 n); delta zU rQ; rw [← afD,u4]; kernel_rfl
def Ah (J7:Q1):Q1:=(gZ cf iL Pa (gZ cf iL Ni (gZ cf iL Pw (gZ cf iL O0 (kJ kK J7)))))
def rA (n:Nat) (gT:ak) (gK:aq) (gJ:ai) (gI:aq) (gH:ae) (gW:aO) (gV:aO) (gF:ae) (gG:ae) (gP:aj) (gB:ai) (gC:ai) (gD:Wr) (k:aL) (j7:bJ) (v2:AV) (v3:AV) (v5:AV) (v6:AV) (v7:AV) (v8:AV) (v9:Int) (v10:AV) (v11:Bool) (v44:AV) (v45:Int) (v46:Int) (h:Heap):aa:=iI gT gK gJ gI gH gW gV gF gG gP gB gC gD v6 [(.bool v11),(.int .i64 280),(.int .i64 v9)] h fun a b=>jg b v2 17 true fun c=>jg b v10 5 true fun d=>gW c d v9 b fun e f=>iI gT gK gJ gI gH gW gV gF gG gP gB gC gD v6 [(.bool (jK e)),(.int .i64 281),(.int .i64 v9)] f fun g i=>jg i v2 17 true fun l=>jg i v10 5 true fun m=>gV l m v9 i fun o p=>iI gT gK gJ gI gH gW gV gF gG gP gB gC gD v6 [(.bool (jK o)),(.int .i64 282),(.int .i64 v9)] p fun q r=>la .i64 v46 1 fun s=>j7 v2 v3 v5 v6 v7 v8 v44 v45 s r
theorem af2 (J7:Q1):lo np (Ah (iI gT gK gJ gI gH gW gV gF gG gP gB gC gD) J7)=rA n gT gK gJ gI gH gW gV gF gG gP gB gC gD (kap jp k0) (lo kK J7):=by delta Ah rA; kernel_rfl
def yU (J9:Q1):Q1:=(gZ cf iL O5 (gZ cf iL MG (kJ oq J9)))
def qT (n:Nat) (gT:ak) (gK:aq) (gJ:ai) (gI:aq) (gH:ae) (gW:aO) (gV:aO) (gF:ae) (gG:ae) (gP:aj) (gB:ai) (gC:ai) (gD:Wr) (k:aL) (j9:eB) (v2:AV) (v3:AV) (v5:AV) (v6:AV) (v7:AV) (v8:AV) (v9:Int) (v10:AV) (v16:AV) (v44:AV) (v45:Int) (v46:Int) (v82:AV) (v83:Int) (v84:Int) (v94:Bool) (h:Heap):aa:=la .i64 v84 1 fun a=>j9 v2 v3 v5 v6 v7 v8 v9 v10 v94 v16 v44 v45 v46 v82 v83 a h
theorem adK (J9:Q1):lo Eu (yU (iI gT gK gJ gI gH gW gV gF gG gP gB gC gD) J9)=qT n gT gK gJ gI gH gW gV gF gG gP gB gC gD (kap jp k0) (lo oq J9):=by delta yU qT; kernel_rfl
def Hx (J7:Q1) (J9:Q1):Q1:=(gZ cf iL OA (cJ p85 (gZ cf iL MV (gZ cf iL Pv (kJ Eu (yU cf J9)))) (kJ np (Ah cf J7))))
def vK (n:Nat) (gT:ak) (gK:aq) (gJ:ai) (gI:aq) (gH:ae) (gW:aO) (gV:aO) (gF:ae) (gG:ae) (gP:aj) (gB:ai) (gC:ai) (gD:Wr) (k:aL) (j7:bJ) (j9:eB) (v2:AV) (v3:AV) (v5:AV) (v6:AV) (v7:AV) (v8:AV) (v9:Int) (v10:AV) (v11:Bool) (v16:AV) (v44:AV) (v45:Int) (v46:Int) (v82:AV) (v83:Int) (v84:Int) (h:Heap):aa:=ifB (ltF v84 v83) (eld 5 h v82 v84 5 true fun a b=>lG h (.cells [(.int .i64 0),(.int .i64 0),.nilslice,(.int .i64 0),.nilslice] true 0) fun c d=>jf d (.ptr c 0) 5 b fun e=>jy .i64 0 e (.ptr c 0) fun f g=>iI gT gK gJ gI gH gW gV gF gG gP gB gC gD v16 [(.int .i64 g)] e fun i l=>JN i fun m=>ifB m (qT n gT gK gJ gI gH gW gV gF gG gP gB gC gD k j9 v2 v3 v5 v6 v7 v8 v9 v10 v16 v44 v45 v46 v82 v83 v84 true l) (qT n gT gK gJ gI gH gW gV gF gG gP gB gC gD k j9 v2 v3 v5 v6 v7 v8 v9 v10 v16 v44 v45 v46 v82 v83 v84 v11 l)) (rA n gT gK gJ gI gH gW gV gF gG gP gB gC gD k j7 v2 v3 v5 v6 v7 v8 v9 v10 v11 v44 v45 v46 h)
def Gr (J7:Q1):Nat→Q1:=lpS (Hx cf J7)
def rK (n:Nat) (gT:ak) (gK:aq) (gJ:ai) (gI:aq) (gH:ae) (gW:aO) (gV:aO) (gF:ae) (gG:ae) (gP:aj) (gB:ai) (gC:ai) (gD:Wr) (k:aL) (j7:bJ):Nat→eB:=lpF oq (vK n gT gK gJ gI gH gW gV gF gG gP gB gC gD k j7)
theorem af0 (k:aL) (j7:bJ) (m:Nat):rK n gT gK gJ gI gH gW gV gF gG gP gB gC gD k j7 (m+1)=vK n gT gK gJ gI gH gW gV gF gG gP gB gC gD k j7 (rK n gT gK gJ gI gH gW gV gF gG gP gB gC gD k j7 m):=rfl
theorem afI (J7:Q1) (m:Nat):lo oq (Gr (iI gT gK gJ gI gH gW gV gF gG gP gB gC gD) J7 m)=rK n gT gK gJ gI gH gW gV gF gG gP gB gC gD (kap jp k0) (lo kK J7) m:=mQ (fun J9=>(by obtain ⟨J8,u8⟩:=exi (Ah (iI gT gK gJ gI gH gW gV gF gG gP gB gC gD) J7); obtain ⟨J10,u10⟩:=exi (yU (iI gT gK gJ gI gH gW gV gF gG gP gB gC gD) J9); delta Hx vK; rw [← af2,u8, ← adK,u10]; kernel_rfl:lo oq (Hx (iI gT gK gJ gI gH gW gV gF gG gP gB gC gD) J7 J9)=vK n gT gK gJ gI gH gW gV gF gG gP gB gC gD (kap jp k0) (lo kK J7) (lo oq J9))) m
def xY (J7:Q1):Q1:=(gZ cf iL OC (gZ cf iL Ng (kJ oq (Gr cf J7 n))))
def ud (n:Nat) (gT:ak) (gK:aq) (gJ:ai) (gI:aq) (gH:ae) (gW:aO) (gV:aO) (gF:ae) (gG:ae) (gP:aj) (gB:ai) (gC:ai) (gD:Wr) (k:aL) (j7:bJ) (v2:AV) (v3:AV) (v5:AV) (v6:AV) (v7:AV) (v8:AV) (v9:Int) (v10:AV) (v11:Bool) (v44:AV) (v45:Int) (v46:Int) (h:Heap):aa:=gH h fun a b=>fld 4 b v10 1 false fun c d=>jC d fun e=>rK n gT gK gJ gI gH gW gV gF gG gP gB gC gD k j7 n v2 v3 v5 v6 v7 v8 v9 v10 v11 a v44 v45 v46 d e 0 b
theorem adc (J7:Q1):lo np (xY n (iI gT gK gJ gI gH gW gV gF gG gP gB gC gD) J7)=ud n gT gK gJ gI gH gW gV gF gG gP gB gC gD (kap jp k0) (lo kK J7):=by obtain ⟨J9,u9⟩:=exi (Gr (iI gT gK gJ gI gH gW gV gF gG gP gB gC gD) J7 n); delta xY ud; rw [← afI,u9]; kernel_rfl
def yQ (J12:Q1):Q1:=(gZ cf iL NU (gZ cf iL Mv (kJ nG J12)))
def qW (n:Nat) (gT:ak) (gK:aq) (gJ:ai) (gI:aq) (gH:ae) (gW:aO) (gV:aO) (gF:ae) (gG:ae) (gP:aj) (gB:ai) (gC:ai) (gD:Wr) (k:aL) (j12:cV) (v2:AV) (v3:AV) (v5:AV) (v6:AV) (v7:AV) (v8:AV) (v9:Int) (v10:AV) (v44:AV) (v45:Int) (v46:Int) (v67:AV) (v68:Int) (v69:Int) (v78:Bool) (h:Heap):aa:=la .i64 v69 1 fun a=>j12 v2 v3 v5 v6 v7 v8 v9 v10 v78 v44 v45 v46 v67 v68 a h
theorem acU (J12:Q1):lo Ey (yQ (iI gT gK gJ gI gH gW gV gF gG gP gB gC gD) J12)=qW n gT gK gJ gI gH gW gV gF gG gP gB gC gD (kap jp k0) (lo nG J12):=by delta yQ qW; kernel_rfl
def EG (J7:Q1) (J12:Q1):Q1:=(gZ cf iL M3 (cJ p70 (gZ cf iL OO (gZ cf iL OX (kJ Ey (yQ cf J12)))) (kJ np (xY n cf J7))))
def uh (n:Nat) (gT:ak) (gK:aq) (gJ:ai) (gI:aq) (gH:ae) (gW:aO) (gV:aO) (gF:ae) (gG:ae) (gP:aj) (gB:ai) (gC:ai) (gD:Wr) (k:aL) (j7:bJ) (j12:cV) (v2:AV) (v3:AV) (v5:AV) (v6:AV) (v7:AV) (v8:AV) (v9:Int) (v10:AV) (v11:Bool) (v44:AV) (v45:Int) (v46:Int) (v67:AV) (v68:Int) (v69:Int) (h:Heap):aa:=ifB (ltF v69 v68) (Xg .i64 1 h v67 v69 fun a b=>iI gT gK gJ gI gH gW gV gF gG gP gB gC gD v8 [(.int .i64 b)] h fun c d=>JN c fun e=>ifB e (qW n gT gK gJ gI gH gW gV gF gG gP gB gC gD k j12 v2 v3 v5 v6 v7 v8 v9 v10 v44 v45 v46 v67 v68 v69 true d) (qW n gT gK gJ gI gH gW gV gF gG gP gB gC gD k j12 v2 v3 v5 v6 v7 v8 v9 v10 v44 v45 v46 v67 v68 v69 v11 d)) (ud n gT gK gJ gI gH gW gV gF gG gP gB gC gD k j7 v2 v3 v5 v6 v7 v8 v9 v10 v11 v44 v45 v46 h)
def Eb (J7:Q1):Nat→Q1:=lpS (EG n cf J7)
def qK (n:Nat) (gT:ak) (gK:aq) (gJ:ai) (gI:aq) (gH:ae) (gW:aO) (gV:aO) (gF:ae) (gG:ae) (gP:aj) (gB:ai) (gC:ai) (gD:Wr) (k:aL) (j7:bJ):Nat→cV:=lpF nG (uh n gT gK gJ gI gH gW gV gF gG gP gB gC gD k j7)
theorem acT (k:aL) (j7:bJ) (m:Nat):qK n gT gK gJ gI gH gW gV gF gG gP gB gC gD k j7 (m+1)=uh n gT gK gJ gI gH gW gV gF gG gP gB gC gD k j7 (qK n gT gK gJ gI gH gW gV gF gG gP gB gC gD k j7 m):=rfl
theorem adL (J7:Q1) (m:Nat):lo nG (Eb n (iI gT gK gJ gI gH gW gV gF gG gP gB gC gD) J7 m)=qK n gT gK gJ gI gH gW gV gF gG gP gB gC gD (kap jp k0) (lo kK J7) m:=mQ (fun J12=>(by obtain ⟨J11,u11⟩:=exi (xY n (iI gT gK gJ gI gH gW gV gF gG gP gB gC gD) J7); obtain ⟨J13,u13⟩:=exi (yQ (iI gT gK gJ gI gH gW gV gF gG gP gB gC gD) J12); delta EG uh; rw [← adc,u11, ← acU,u13]; kernel_rfl:lo nG (EG n (iI gT gK gJ gI gH gW gV gF gG gP gB gC gD) J7 J12)=uh n gT gK gJ gI gH gW gV gF gG gP gB gC gD (kap jp k0) (lo kK J7) (lo nG J12))) m
def yB (J7:Q1):Q1:=(gZ cf iL MH (kJ nG (Eb n cf J7 n)))
def ua (n:Nat) (gT:ak) (gK:aq) (gJ:ai) (gI:aq) (gH:ae) (gW:aO) (gV:aO) (gF:ae) (gG:ae) (gP:aj) (gB:ai) (gC:ai) (gD:Wr) (k:aL) (j7:bJ) (v2:AV) (v3:AV) (v5:AV) (v6:AV) (v7:AV) (v8:AV) (v9:Int) (v10:AV) (v11:Bool) (v44:AV) (v45:Int) (v46:Int) (h:Heap):aa:=fld 3 h v10 1 false fun a b=>jC b fun c=>qK n gT gK gJ gI gH gW gV gF gG gP gB gC gD k j7 n v2 v3 v5 v6 v7 v8 v9 v10 v11 v44 v45 v46 b c 0 h
theorem acd (J7:Q1):lo np (yB n (iI gT gK gJ gI gH gW gV gF gG gP gB gC gD) J7)=ua n gT gK gJ gI gH gW gV gF gG gP gB gC gD (kap jp k0) (lo kK J7):=by obtain ⟨J12,u12⟩:=exi (Eb n (iI gT gK gJ gI gH gW gV gF gG gP gB gC gD) J7 n); delta yB ua; rw [← adL,u12]; kernel_rfl
def yt (J15:Q1):Q1:=(gZ cf iL OS (gZ cf iL MM (kJ nH J15)))
def qS (n:Nat) (gT:ak) (gK:aq) (gJ:ai) (gI:aq) (gH:ae) (gW:aO) (gV:aO) (gF:ae) (gG:ae) (gP:aj) (gB:ai) (gC:ai) (gD:Wr) (k:aL) (j15:cV) (v2:AV) (v3:AV) (v5:AV) (v6:AV) (v7:AV) (v8:AV) (v9:Int) (v10:AV) (v44:AV) (v45:Int) (v46:Int) (v52:AV) (v53:Int) (v54:Int) (v64:Bool) (h:Heap):aa:=la .i64 v54 1 fun a=>j15 v2 v3 v5 v6 v7 v8 v9 v10 v64 v44 v45 v46 v52 v53 a h
theorem adu (J15:Q1):lo D7 (yt (iI gT gK gJ gI gH gW gV gF gG gP gB gC gD) J15)=qS n gT gK gJ gI gH gW gV gF gG gP gB gC gD (kap jp k0) (lo nH J15):=by delta yt qS; kernel_rfl
def ED (J7:Q1) (J15:Q1):Q1:=(gZ cf iL Ow (cJ p55 (gZ cf iL Mt (gZ cf iL N5 (kJ D7 (yt cf J15)))) (kJ np (yB n cf J7))))
def uw (n:Nat) (gT:ak) (gK:aq) (gJ:ai) (gI:aq) (gH:ae) (gW:aO) (gV:aO) (gF:ae) (gG:ae) (gP:aj) (gB:ai) (gC:ai) (gD:Wr) (k:aL) (j7:bJ) (j15:cV) (v2:AV) (v3:AV) (v5:AV) (v6:AV) (v7:AV) (v8:AV) (v9:Int) (v10:AV) (v11:Bool) (v44:AV) (v45:Int) (v46:Int) (v52:AV) (v53:Int) (v54:Int) (h:Heap):aa:=ifB (ltF v54 v53) (eld 2 h v52 v54 2 true fun a b=>lG h (.cells [(.int .i64 0),(.int .u8 0)] true 0) fun c d=>jf d (.ptr c 0) 2 b fun e=>jy .i64 0 e (.ptr c 0) fun f g=>iI gT gK gJ gI gH gW gV gF gG gP gB gC gD v7 [(.int .i64 g)] e fun i l=>JN i fun m=>ifB m (qS n gT gK gJ gI gH gW gV gF gG gP gB gC gD k j15 v2 v3 v5 v6 v7 v8 v9 v10 v44 v45 v46 v52 v53 v54 true l) (qS n gT gK gJ gI gH gW gV gF gG gP gB gC gD k j15 v2 v3 v5 v6 v7 v8 v9 v10 v44 v45 v46 v52 v53 v54 v11 l)) (ua n gT gK gJ gI gH gW gV gF gG gP gB gC gD k j7 v2 v3 v5 v6 v7 v8 v9 v10 v11 v44 v45 v46 h)
def EL (J7:Q1):Nat→Q1:=lpS (ED n cf J7)
def qM (n:Nat) (gT:ak) (gK:aq) (gJ:ai) (gI:aq) (gH:ae) (gW:aO) (gV:aO) (gF:ae) (gG:ae) (gP:aj) (gB:ai) (gC:ai) (gD:Wr) (k:aL) (j7:bJ):Nat→cV:=lpF nH (uw n gT gK gJ gI gH gW gV gF gG gP gB gC gD k j7)
theorem acq (k:aL) (j7:bJ) (m:Nat):qM n gT gK gJ gI gH gW gV gF gG gP gB gC gD k j7 (m+1)=uw n gT gK gJ gI gH gW gV gF gG gP gB gC gD k j7 (qM n gT gK gJ gI gH gW gV gF gG gP gB gC gD k j7 m):=rfl
theorem adw (J7:Q1) (m:Nat):lo nH (EL n (iI gT gK gJ gI gH gW gV gF gG gP gB gC gD) J7 m)=qM n gT gK gJ gI gH gW gV gF gG gP gB gC gD (kap jp k0) (lo kK J7) m:=mQ (fun J15=>(by obtain ⟨J14,u14⟩:=exi (yB n (iI gT gK gJ gI gH gW gV gF gG gP gB gC gD) J7); obtain ⟨J16,u16⟩:=exi (yt (iI gT gK gJ gI gH gW gV gF gG gP gB gC gD) J15); delta ED uw; rw [← acd,u14, ← adu,u16]; kernel_rfl:lo nH (ED n (iI gT gK gJ gI gH gW gV gF gG gP gB gC gD) J7 J15)=uw n gT gK gJ gI gH gW gV gF gG gP gB gC gD (kap jp k0) (lo kK J7) (lo nH J15))) m
def Ht (J7:Q1):Q1:=(gZ cf iL Mx (cJ p47 (gZ cf iL Pp (gZ cf iL Oe (gZ cf iL MY (kJ nH (EL n cf J7 n))))) (kJ G8 (zU n cf k0))))
def vy (n:Nat) (gT:ak) (gK:aq) (gJ:ai) (gI:aq) (gH:ae) (gW:aO) (gV:aO) (gF:ae) (gG:ae) (gP:aj) (gB:ai) (gC:ai) (gD:Wr) (k:aL) (j7:bJ) (v2:AV) (v3:AV) (v5:AV) (v6:AV) (v7:AV) (v8:AV) (v44:AV) (v45:Int) (v46:Int) (h:Heap):aa:=ifB (ltF v46 v45) (eld 5 h v44 v46 5 true fun a b=>lG h (.cells [.nilslice,.nilslice,(.bool false),.nilslice,.nilslice] true 0) fun c d=>jf d (.ptr c 0) 5 b fun e=>fld 0 e (.ptr c 0) 1 false fun f g=>jC g fun i=>qM n gT gK gJ gI gH gW gV gF gG gP gB gC gD k j7 n v2 v3 v5 v6 v7 v8 v46 (.ptr c 0) false v44 v45 v46 g i 0 e) (rQ n gT gK gJ gI gH gW gV gF gG gP gB gC gD k v2 v3 v5 v6 h)
def Gv:Nat→Q1:=lpS (Ht n cf k0)
def ns (n:Nat) (gT:ak) (gK:aq) (gJ:ai) (gI:aq) (gH:ae) (gW:aO) (gV:aO) (gF:ae) (gG:ae) (gP:aj) (gB:ai) (gC:ai) (gD:Wr) (k:aL):Nat→bJ:=lpF kK (vy n gT gK gJ gI gH gW gV gF gG gP gB gC gD k)
theorem agb (k:aL) (m:Nat):ns n gT gK gJ gI gH gW gV gF gG gP gB gC gD k (m+1)=vy n gT gK gJ gI gH gW gV gF gG gP gB gC gD k (ns n gT gK gJ gI gH gW gV gF gG gP gB gC gD k m):=rfl
theorem afa (m:Nat):lo kK (Gv n (iI gT gK gJ gI gH gW gV gF gG gP gB gC gD) k0 m)=ns n gT gK gJ gI gH gW gV gF gG gP gB gC gD (kap jp k0) m:=mQ (fun J7=>(by obtain ⟨J6,u6⟩:=exi (zU n (iI gT gK gJ gI gH gW gV gF gG gP gB gC gD) k0); obtain ⟨J15,u15⟩:=exi (EL n (iI gT gK gJ gI gH gW gV gF gG gP gB gC gD) J7 n); delta Ht vy; rw [← afG,u6, ← adw,u15]; kernel_rfl:lo kK (Ht n (iI gT gK gJ gI gH gW gV gF gG gP gB gC gD) k0 J7)=vy n gT gK gJ gI gH gW gV gF gG gP gB gC gD (kap jp k0) (lo kK J7))) m
def XM:Q1:=(gZ cf iL OZ (gZ cf iL Np (cJ p28 (gZ cf iL NR (jk jp k0)) (gZ cf iL ML (cJ p37 (gZ cf iL Nl (jk jp k0)) (gZ cf iL OJ (gZ cf iL PA (gZ cf iL M4 (gZ cf iL Pm (kJ kK (Gv n cf k0 n)))))))))))
def Fy (n:Nat) (gT:ak) (gK:aq) (gJ:ai) (gI:aq) (gH:ae) (gW:aO) (gV:aO) (gF:ae) (gG:ae) (gP:aj) (gB:ai) (gC:ai) (gD:Wr) (k:aL) (a0:AV) (a1:AV) (h:Heap):aa:=qR h a0 fun a b=>qR b a1 fun c d=>jg d (.ptr a 0) 17 true fun e=>gT e d fun f g=>ifB (jK f) (kM [(.int .i64 0),(.int .i64 0)] [(0,1,(.int .i64 5))] fun i=>l8 g 1 [(.int .i64 0),(.int .i64 0)] [(0,2,i)] fun l m=>k l m) (fld 0 g (.ptr c 0) 1 false fun o p=>jC p fun q=>fld 16 g (.ptr a 0) 1 false fun r s=>jC s fun t=>ifB (jK (eqF q t)) (kM [(.int .i64 0),(.int .i64 0)] [(0,1,(.int .i64 2))] fun u=>l8 g 1 [(.int .i64 0),(.int .i64 0)] [(0,2,u)] fun w x=>k w x) (lG g (.cells [.nilslice] true 0) fun y z=>gH z fun A B=>gH B fun C E=>fld 0 E (.ptr c 0) 1 false fun F G=>jC G fun I=>ns n gT gK gJ gI gH gW gV gF gG gP gB gC gD k n (.ptr a 0) (.ptr c 0) (.ptr y 0) (.func 17 [] [(.ptr y 0)]) A C G I 0 E))
def Ma (n:Nat) (gT:ak) (gK:aq) (gJ:ai) (gI:aq) (gH:ae) (gW:aO) (gV:aO) (gF:ae) (gG:ae) (gP:aj) (gB:ai) (gC:ai) (gD:Wr) (a0:AV) (a1:AV) (h:Heap) (k:aL):aa:=Fy n gT gK gJ gI gH gW gV gF gG gP gB gC gD k a0 a1 h
theorem akb:DZ cf iL n YX jp k0=XM n cf k0:=by funext s; kernel_rfl
theorem akm:lo i5 (DZ (iI gT gK gJ gI gH gW gV gF gG gP gB gC gD) iL n YX jp k0)=cmp i5 (Ma n gT gK gJ gI gH gW gV gF gG gP gB gC gD) (kap jp k0):=(congrArg (lo i5) (akb n (iI gT gK gJ gI gH gW gV gF gG gP gB gC gD) k0)).trans (show _=Fy n gT gK gJ gI gH gW gV gF gG gP gB gC gD (kap jp k0) by obtain ⟨J7,u7⟩:=exi (Gv n (iI gT gK gJ gI gH gW gV gF gG gP gB gC gD) k0 n); delta XM Fy; rw [← afa,u7]; kernel_rfl)
end
def bB (n:Nat):bo:=Ma n (bp n) (aW n) (aR n) (aQ n) (aJ n) (bi n) (bh n) (aE n) (aD n) (ba n) (au n) (ar n) (kT aw)
abbrev tQ (g:ae):Wr:=wrT iH mq g
def zl:bf:=lC []
section
variable (k0:Q0)
def Be:Q1:=(gZ cf i7 yX (gZ cf i7 y4 (gZ cf i7 zb (gZ cf i7 zd (jk mq k0)))))
def tX (n:Nat) (k:aL) (h:Heap):aa:=lG h (.cells [.nilslice,.nilslice,.nilslice] true 0) fun a b=>kM [(.int .i64 0),(.int .u8 0)] [(0,1,(.int .i64 0)),(1,1,(.int .u8 1))] fun c=>kM [(.int .i64 0),(.int .u8 0)] [(0,1,(.int .i64 4)),(1,1,(.int .u8 1))] fun d=>l8 b 2 [(.int .i64 0),(.int .u8 0),(.int .i64 0),(.int .u8 0)] [(0,2,c),(2,2,d)] fun e f=>l8 f 2 [(.int .i64 0),(.int .i64 0)] [(0,1,(.int .i64 14)),(1,1,(.int .i64 16))] fun g i=>kM [.nilslice,.nilslice,(.bool false),.nilslice,.nilslice] [(0,1,e),(1,1,g),(2,1,(.bool true))] fun l=>lG i (.cells [.nilslice,.nilslice,(.bool false),.nilslice,.nilslice] true 0) fun m o=>jf o (.ptr m 0) 5 l fun p=>kM [(.int .i64 0),(.int .u8 0)] [(0,1,(.int .i64 2)),(1,1,(.int .u8 1))] fun q=>l8 p 1 [(.int .i64 0),(.int .u8 0)] [(0,2,q)] fun r s=>l8 s 1 [(.int .i64 0)] [(0,1,(.int .i64 15))] fun t u=>kM [.nilslice,.nilslice,(.bool false),.nilslice,.nilslice] [(0,1,r),(1,1,t),(2,1,(.bool true))] fun w=>lG u (.cells [.nilslice,.nilslice,(.bool false),.nilslice,.nilslice] true 0) fun x y=>jf y (.ptr x 0) 5 w fun z=>jg z (.ptr m 0) 5 true fun A=>jg z (.ptr x 0) 5 true fun B=>l8 z 2 [.nilslice,.nilslice,(.bool false),.nilslice,.nilslice,.nilslice,.nilslice,(.bool false),.nilslice,.nilslice] [(0,5,A),(5,5,B)] fun C E=>kM [.nilslice,.nilslice,.nilslice] [(0,1,C)] fun F=>jf E (.ptr a 0) 3 F fun G=>jg G (.ptr a 0) 3 true fun I=>k I G
def BH (n:Nat) (h:Heap) (k:aL):aa:=tX n k h
theorem OB:DZ cf i7 n Bv mq k0=Be cf k0:=by funext s; kernel_rfl
theorem N8:lo iH (DZ zl i7 n Bv mq k0)=cmp iH (BH n) (kap mq k0):=(congrArg (lo iH) (OB n zl k0)).trans (show _=tX n (kap mq k0) by delta Be tX; kernel_rfl)
end
def dj (n:Nat):ae:=BH n
abbrev wz (g:ae):Wr:=wrT iH ng g
def B5:bf:=lC []
section
variable (k0:Q0)
def D0:Q1:=(gZ cf i7 BD (gZ cf i7 BN (gZ cf i7 Bf (gZ cf i7 Bg (jk ng k0)))))
def wu (n:Nat) (k:aL) (h:Heap):aa:=lG h (.cells [(.int .i64 0),(.int .i64 0),(.int .i64 0),(.int .i64 0),(.int .i64 0),(.int .i64 0),(.int .u64 0),(.int .u64 0),(.int .u64 0),(.int .u64 0),(.int .u64 0),(.int .u64 0),(.int .u64 0),(.int .u64 0),(.int .u64 0),.nilslice,.nilslice] true 0) fun a b=>l8 b 2 [(.int .i64 0),(.int .i64 0)] [(0,1,(.int .i64 0)),(1,1,(.int .i64 1))] fun c d=>kM [.nilslice,(.int .i64 0),(.int .i64 0),(.int .i64 0),(.int .i64 0),(.int .i64 0),(.int .i64 0),(.int .i64 0)] [(0,1,c),(1,1,(.int .i64 1)),(2,1,(.int .i64 4)),(3,1,(.int .i64 8)),(4,1,(.int .i64 1)),(5,1,(.int .i64 1)),(6,1,(.int .i64 1)),(7,1,(.int .i64 3))] fun e=>lG d (.cells [.nilslice,(.int .i64 0),(.int .i64 0),(.int .i64 0),(.int .i64 0),(.int .i64 0),(.int .i64 0),(.int .i64 0)] true 0) fun f g=>jf g (.ptr f 0) 8 e fun i=>l8 i 1 [(.int .i64 0)] [(0,1,(.int .i64 2))] fun l m=>kM [.nilslice,(.int .i64 0),(.int .i64 0),(.int .i64 0),(.int .i64 0),(.int .i64 0),(.int .i64 0),(.int .i64 0)] [(0,1,l),(2,1,(.int .i64 2)),(3,1,(.int .i64 6)),(4,1,(.int .i64 1)),(5,1,(.int .i64 1)),(6,1,(.int .i64 1)),(7,1,(.int .i64 3))] fun o=>lG m (.cells [.nilslice,(.int .i64 0),(.int .i64 0),(.int .i64 0),(.int .i64 0),(.int .i64 0),(.int .i64 0),(.int .i64 0)] true 0) fun p q=>jf q (.ptr p 0) 8 o fun r=>
 kM [(.int .u64 0),(.int .u64 0),(.int .u64 0),(.int .u64 0),(.int .u64 0),(.int .u64 0)] [(0,1,(.int .u64 1)),(1,1,(.int .u64 4)),(2,1,(.int .u64 10)),(3,1,(.int .u64 5)),(4,1,(.int .u64 1)),(5,1,(.int .u64 20))] fun s=>l8 r 2 [(.int .i64 0),(.int .i64 0)] [(0,1,(.int .i64 0)),(1,1,(.int .i64 1))] fun t u=>jg u (.ptr f 0) 8 true fun w=>jg u (.ptr p 0) 8 true fun x=>l8 u 2 [.nilslice,(.int .i64 0),(.int .i64 0),(.int .i64 0),(.int .i64 0),(.int .i64 0),(.int .i64 0),(.int .i64 0),.nilslice,(.int .i64 0),(.int .i64 0),(.int .i64 0),(.int .i64 0),(.int .i64 0),(.int .i64 0),(.int .i64 0)] [(0,8,w),(8,8,x)] fun y z=>kM [(.int .i64 0),(.int .i64 0),(.int .i64 0),(.int .i64 0),(.int .i64 0),(.int .i64 0),(.int .u64 0),(.int .u64 0),(.int .u64 0),(.int .u64 0),(.int .u64 0),(.int .u64 0),(.int .u64 0),(.int .u64 0),(.int .u64 0),.nilslice,.nilslice] [(0,1,(.int .i64 64)),(1,1,(.int .i64 4)),(2,1,(.int .i64 2)),(3,1,(.int .i64 4)),(4,1,(.int .i64 2)),(5,1,(.int .i64 4)),(6,6,s),(12,1,(.int .u64 4000)),(13,1,(.int .u64 20)),(15,1,t),(16,1,y)] fun A=>jf z (.ptr a 0) 17 A fun B=>jg B (.ptr a 0) 17 true fun C=>k C B
def DT (n:Nat) (h:Heap) (k:aL):aa:=wu n k h
theorem TJ:DZ cf i7 n DY ng k0=D0 cf k0:=by funext s; kernel_rfl
theorem TA:lo iH (DZ B5 i7 n DY ng k0)=cmp iH (DT n) (kap ng k0):=(congrArg (lo iH) (TJ n B5 k0)).trans (show _=wu n (kap ng k0) by delta D0 wu; kernel_rfl)
end
def dx (n:Nat):ae:=DT n
abbrev wB (g:aj):Wr:=wrT i5 ii g
def mc:bf:=lC []
abbrev dW:Type:=AV→AV→Int→Heap→aa
section
variable (k0:Q0)
def pR:Q1:=(gZ cf kz rL (jk ii k0))
def uC (n:Nat) (k:ab) (h:Heap):aa:=k true h
theorem PK:lo iH (pR mc k0)=uC n (kap ii k0):=by delta pR uC; kernel_rfl
def uB (J1:Q1):Q1:=(gZ cf kz Bx (cJ p14 (gZ cf kz Bq (cJ p25 (gZ cf kz i9 (jk ii k0)) (gZ cf kz Bk (kJ l7 J1)))) (kJ iH (pR cf k0))))
def ug (n:Nat) (k:ab) (j1:dW) (v0:AV) (v1:AV) (v5:Int) (h:Heap):aa:=jC v0 fun a=>ifB (ltF v5 a) (eld 2 h v0 v5 2 true fun b c=>eld 2 h v1 v5 2 true fun d e=>eqRK (.plain [.int,.int]) c e fun f=>ifB (xorB true f) (k false h) (la .i64 v5 1 fun g=>j1 v0 v1 g h)) (uC n k h)
def un:Nat→Q1:=lpS (uB cf k0)
def Bt (n:Nat) (k:ab):Nat→dW:=lpF l7 (ug n k)
theorem NT (m:Nat):lo l7 (un mc k0 m)=Bt n (kap ii k0) m:=mQ (fun J1=>(by obtain ⟨J0,u0⟩:=exi (pR mc k0); delta uB ug; rw [← PK,u0]; kernel_rfl:lo l7 (uB mc k0 J1)=ug n (kap ii k0) (lo l7 J1))) m
def DR:Q1:=(gZ cf kz i9 (gZ cf kz Bp (cJ p10 (gZ cf kz i9 (jk ii k0)) (gZ cf kz wl (kJ l7 (un cf k0 n))))))
def wy (n:Nat) (k:ab) (a0:AV) (a1:AV) (h:Heap):aa:=jC a0 fun a=>jC a1 fun b=>ifB (jK (eqF a b)) (k false h) (Bt n k n a0 a1 0 h)
def DW (n:Nat) (a0:AV) (a1:AV) (h:Heap) (k:ab):aa:=wy n k a0 a1 h
theorem TH:DZ cf kz n DQ ii k0=DR n cf k0:=by funext s; kernel_rfl
theorem Tz:lo i5 (DZ mc kz n DQ ii k0)=cmp i5 (DW n) (kap ii k0):=(congrArg (lo i5) (TH n mc k0)).trans (show _=wy n (kap ii k0) by obtain ⟨J1,u1⟩:=exi (un mc k0 n); delta DR wy; rw [← NT,u1]; kernel_rfl)
end
def dy (n:Nat):aj:=DW n
abbrev DN (g:aU):Wr:=wrT qB hO g
def k8:bf:=lC []
section
variable (k0:Q0)
def pV:Q1:=(gZ cf lp iZ (jk hO k0))
def pN (n:Nat) (k:ab) (h:Heap):aa:=k false h
theorem Pg:lo iH (pV k8 k0)=pN n (kap hO k0):=by delta pV pN; kernel_rfl
def pS (J1:Q1):Q1:=(cJ p29 (gZ cf lp pL (jk hO k0)) (gZ cf lp BI (kJ lr J1)))
def mt (n:Nat) (k:ab) (j1:ct) (v0:AV) (v1:Int) (v2:Int) (v7:Int) (v29:Bool) (h:Heap):aa:=ifB v29 (k true h) (la .i64 v7 1 fun a=>j1 v0 v1 v2 a h)
theorem MC (J1:Q1):lo uk (pS k8 k0 J1)=mt n (kap hO k0) (lo lr J1):=by delta pS mt; kernel_rfl
def ui (J1:Q1):Q1:=(gZ cf lp Bs (cJ p11 (gZ cf lp BK (kJ uk (pS cf k0 J1))) (kJ iH (pV cf k0))))
def nI (n:Nat) (k:ab) (j1:ct) (v0:AV) (v1:Int) (v2:Int) (v7:Int) (h:Heap):aa:=jC v0 fun a=>ifB (ltF v7 a) (Qc 2 v0 v7 fun b=>jy .i64 0 h b fun c d=>ifB (eqF d v1) (Qc 2 v0 v7 fun e=>jy .i64 1 h e fun f g=>mt n k j1 v0 v1 v2 v7 (eqF g v2) h) (mt n k j1 v0 v1 v2 v7 false h)) (pN n k h)
def ut:Nat→Q1:=lpS (ui cf k0)
def mr (n:Nat) (k:ab):Nat→ct:=lpF lr (nI n k)
theorem Pf (k:ab) (m:Nat):mr n k (m+1)=nI n k (mr n k m):=rfl
theorem MS (m:Nat):lo lr (ut k8 k0 m)=mr n (kap hO k0) m:=mQ (fun J1=>(by obtain ⟨J0,u0⟩:=exi (pV k8 k0); obtain ⟨J2,u2⟩:=exi (pS k8 k0 J1); delta ui nI; rw [← Pg,u0, ← MC,u2]; kernel_rfl:lo lr (ui k8 k0 J1)=nI n (kap hO k0) (lo lr J1))) m
def DM:Q1:=(gZ cf lp iZ (gZ cf lp BL (kJ lr (ut cf k0 n))))
def rp (n:Nat) (k:ab) (a0:AV) (a1:Int) (a2:Int) (h:Heap):aa:=mr n k n a0 a1 a2 0 h
def wA (n:Nat) (a0:AV) (a1:Int) (a2:Int) (h:Heap) (k:ab):aa:=rp n k a0 a1 a2 h
theorem Tw:DZ cf lp n DP hO k0=DM n cf k0:=by funext s; kernel_rfl
theorem TI:lo qB (DZ k8 lp n DP hO k0)=cmp qB (wA n) (kap hO k0):=(congrArg (lo qB) (Tw n k8 k0)).trans (show _=rp n (kap hO k0) by obtain ⟨J1,u1⟩:=exi (ut k8 k0 n); delta DM rp; rw [← MS,u1]; kernel_rfl)
end
def be (n:Nat):aU:=wA n
abbrev dp:=AV→AV→AV→Heap→(Bool→Heap→aa)→aa
abbrev uE (g:dp):Wr:=wrT kc hO g
def iv (gM:Wr) (gE:aI) (ig:bo) (gN:aU):bf:=lC [(uR,gM),(wh,wj gE),(F3,F0 ig),(DU,DN gN)]
abbrev cG:Type:=AV→AV→AV→Int→Int→Bool→AV→Int→Int→Heap→aa
abbrev bO:Type:=AV→AV→AV→Int→Int→Bool→AV→Int→Heap→aa
abbrev cF:Type:=AV→AV→AV→Int→Int→Int→Bool→AV→Int→Heap→aa
section
variable (gM:Wr) (gE:aI) (ig:bo) (gN:aU) (k0:Q0)
def mH:Q1:=(cJ p192 (gZ cf ic pL (jk hO k0)) (gZ cf ic s0 (jk hO k0)))
def kq (n:Nat) (gM:Wr) (gE:aI) (ig:bo) (gN:aU) (k:ab) (v3:AV) (v7:Int) (v20:AV) (v192:Bool) (h:Heap):aa:=ifB v192 (k true h) (jg h v3 17 true fun a=>jg h v20 3 true fun b=>ig a b h fun c d=>gN c 281 v7 d fun e f=>k e f)
theorem DA:lo oG (mH (iv gM gE ig gN) k0)=kq n gM gE ig gN (kap hO k0):=by delta mH kq; kernel_rfl
def my:Q1:=(gZ cf ic te (gZ cf ic td (gZ cf ic tc (gZ cf ic s7 (gZ cf ic ta (kJ oG (mH cf k0)))))))
def lP (n:Nat) (gM:Wr) (gE:aI) (ig:bo) (gN:aU) (k:ab) (v3:AV) (v4:AV) (v5:AV) (v7:Int) (v10:Bool) (h:Heap):aa:=jy .i64 4 h v5 fun a b=>afl .i64 b 16 fun c=>la .i64 c 16 fun d=>afl .i64 d 16 fun e=>fld 0 h v4 1 false fun f g=>fld 2 h v4 1 false fun i l=>kM [.nilslice,.nilslice,.nilslice] [(0,1,g),(2,1,l)] fun m=>lG h (.cells [.nilslice,.nilslice,.nilslice] true 0) fun o p=>jf p (.ptr o 0) 3 m fun q=>fld 1 q (.ptr o 0) 1 false fun r s=>fld 1 q v4 1 false fun t u=>rX q 2 s u fun w x=>fst 1 x (.ptr o 0) 1 w fun y z=>fld 1 z (.ptr o 0) 1 false fun A B=>jy .i64 2 z v5 fun C E=>jy .i64 1 z v5 fun F G=>A7 .i64 16 G fun I=>la .i64 I e fun K=>uq .u64 K fun L=>kM [(.int .i64 0),(.int .u64 0)] [(0,1,(.int .i64 E)),(1,1,(.int .u64 L))] fun M=>l8 z 1 [(.int .i64 0),(.int .u64 0)] [(0,2,M)] fun N O=>rX O 2 B N fun P Q=>fst 1 Q (.ptr o 0) 1 P fun R S=>jy .i64 2 S v5 fun T U=>jy .i64 1 S v5 fun V X=>jy .i64 1 S v3 fun Y Z=>afl .i64 X Z fun qa=>A7 .i64 qa 16 fun qb=>la .i64 qb e fun qc=>ifB (eqF U qc) (kq n gM gE ig gN k v3 v7 (.ptr o 0) v10 S) (kq n gM gE ig gN k v3 v7 (.ptr o 0) false S)
theorem Dw:lo oL (my (iv gM gE ig gN) k0)=lP n gM gE ig gN (kap hO k0):=by obtain ⟨J0,u0⟩:=exi (mH (iv gM gE ig gN) k0); delta my lP; rw [← DA,u0]; kernel_rfl
def mz (J2:Q1):Q1:=(gZ cf ic s9 (kJ jc J2))
def mA (n:Nat) (gM:Wr) (gE:aI) (ig:bo) (gN:aU) (k:ab) (j2:bO) (v3:AV) (v4:AV) (v5:AV) (v7:Int) (v8:Int) (v10:Bool) (v16:AV) (v17:Int) (h:Heap):aa:=la .i64 v17 1 fun a=>j2 v3 v4 v5 v7 v8 v10 v16 a h
theorem DI (J2:Q1):lo jc (mz (iv gM gE ig gN) J2)=mA n gM gE ig gN (kap hO k0) (lo jc J2):=by delta mz mA; kernel_rfl
def mC (J4:Q1):Q1:=(cJ agt (gZ cf ic iZ (jk hO k0)) (gZ cf ic s8 (kJ jZ J4)))
def kZ (n:Nat) (gM:Wr) (gE:aI) (ig:bo) (gN:aU) (k:ab) (j4:cG) (v3:AV) (v4:AV) (v5:AV) (v7:Int) (v8:Int) (v10:Bool) (v16:AV) (v17:Int) (v18:Int) (v148:Bool) (h:Heap):aa:=ifB v148 (k false h) (la .i64 v18 1 fun a=>j4 v3 v4 v5 v7 v8 v10 v16 v17 a h)
theorem DK (J4:Q1):lo oM (mC (iv gM gE ig gN) k0 J4)=kZ n gM gE ig gN (kap hO k0) (lo jZ J4):=by delta mC kZ; kernel_rfl
def oQ (J2:Q1) (J4:Q1):Q1:=(gZ cf ic sO (cJ afT (gZ cf ic sK (kJ oM (mC cf k0 J4))) (kJ jc (mz cf J2))))
def lO (n:Nat) (gM:Wr) (gE:aI) (ig:bo) (gN:aU) (k:ab) (j2:bO) (j4:cG) (v3:AV) (v4:AV) (v5:AV) (v7:Int) (v8:Int) (v10:Bool) (v16:AV) (v17:Int) (v18:Int) (h:Heap):aa:=fld 0 h v4 1 false fun a b=>Qc 5 b v17 fun c=>fld 0 h c 1 false fun d e=>jC e fun f=>ifB (ltF v18 f) (fld 0 h v4 1 false fun g i=>Qc 5 i v17 fun l=>fld 0 h l 1 false fun m o=>Qc 2 o v18 fun p=>jy .i64 0 h p fun q r=>jy .i64 1 h v5 fun s t=>ifB (eqF r t) (tg true [(.int .i64 v17),(.int .i64 v8)] fun u=>D9 .i64 u fun w=>gN v16 280 w h fun x y=>kZ n gM gE ig gN k j4 v3 v4 v5 v7 v8 v10 v16 v17 v18 (jK x) y) (kZ n gM gE ig gN k j4 v3 v4 v5 v7 v8 v10 v16 v17 v18 false h)) (mA n gM gE ig gN k j2 v3 v4 v5 v7 v8 v10 v16 v17 h)
def oP (J2:Q1):Nat→Q1:=lpS (oQ cf k0 J2)
def kW (n:Nat) (gM:Wr) (gE:aI) (ig:bo) (gN:aU) (k:ab) (j2:bO):Nat→cG:=lpF jZ (lO n gM gE ig gN k j2)
theorem DH (k:ab) (j2:bO) (m:Nat):kW n gM gE ig gN k j2 (m+1)=lO n gM gE ig gN k j2 (kW n gM gE ig gN k j2 m):=rfl
theorem DL (J2:Q1) (m:Nat):lo jZ (oP (iv gM gE ig gN) k0 J2 m)=kW n gM gE ig gN (kap hO k0) (lo jc J2) m:=mQ (fun J4=>(by obtain ⟨J3,u3⟩:=exi (mz (iv gM gE ig gN) J2); obtain ⟨J5,u5⟩:=exi (mC (iv gM gE ig gN) k0 J4); delta oQ lO; rw [← DI,u3, ← DK,u5]; kernel_rfl:lo jZ (oQ (iv gM gE ig gN) k0 J2 J4)=lO n gM gE ig gN (kap hO k0) (lo jc J2) (lo jZ J4))) m
def oE (J2:Q1):Q1:=(gZ cf ic sC (cJ TT (gZ cf ic rV (kJ jZ (oP cf k0 J2 n))) (kJ oL (my cf k0))))
def lS (n:Nat) (gM:Wr) (gE:aI) (ig:bo) (gN:aU) (k:ab) (j2:bO) (v3:AV) (v4:AV) (v5:AV) (v7:Int) (v8:Int) (v10:Bool) (v16:AV) (v17:Int) (h:Heap):aa:=ifB (ltF v17 v7) (kW n gM gE ig gN k j2 n v3 v4 v5 v7 v8 v10 v16 v17 0 h) (lP n gM gE ig gN k v3 v4 v5 v7 v10 h)
def oO:Nat→Q1:=lpS (oE n cf k0)
def km (n:Nat) (gM:Wr) (gE:aI) (ig:bo) (gN:aU) (k:ab):Nat→bO:=lpF jc (lS n gM gE ig gN k)
theorem Dy (k:ab) (m:Nat):km n gM gE ig gN k (m+1)=lS n gM gE ig gN k (km n gM gE ig gN k m):=rfl
theorem Dz (m:Nat):lo jc (oO n (iv gM gE ig gN) k0 m)=km n gM gE ig gN (kap hO k0) m:=mQ (fun J2=>(by obtain ⟨J1,u1⟩:=exi (my (iv gM gE ig gN) k0); obtain ⟨J4,u4⟩:=exi (oP (iv gM gE ig gN) k0 J2 n); delta oE lS; rw [← Dw,u1, ← DL,u4]; kernel_rfl:lo jc (oE n (iv gM gE ig gN) k0 J2)=lS n gM gE ig gN (kap hO k0) (lo jc J2))) m
def mG:Q1:=(cJ aas (gZ cf ic iZ (jk hO k0)) (gZ cf ic r8 (kJ jc (oO n cf k0 n))))
def kV (n:Nat) (gM:Wr) (gE:aI) (ig:bo) (gN:aU) (k:ab) (v3:AV) (v4:AV) (v5:AV) (v7:Int) (v8:Int) (v10:Bool) (v16:AV) (v111:Bool) (h:Heap):aa:=ifB v111 (k false h) (km n gM gE ig gN k n v3 v4 v5 v7 v8 v10 v16 0 h)
theorem DB:lo oH (mG n (iv gM gE ig gN) k0)=kV n gM gE ig gN (kap hO k0):=by obtain ⟨J2,u2⟩:=exi (oO n (iv gM gE ig gN) k0 n); delta mG kV; rw [← Dz,u2]; kernel_rfl
def mB:Q1:=(gZ cf ic sr (kJ oH (mG n cf k0)))
def kX (n:Nat) (gM:Wr) (gE:aI) (ig:bo) (gN:aU) (k:ab) (v3:AV) (v4:AV) (v5:AV) (v7:Int) (v8:Int) (v10:Bool) (v16:AV) (v105:Bool) (h:Heap):aa:=ifB v105 (gN v16 281 v8 h fun a b=>kV n gM gE ig gN k v3 v4 v5 v7 v8 v10 v16 (jK a) b) (kV n gM gE ig gN k v3 v4 v5 v7 v8 v10 v16 false h)
theorem DD:lo oR (mB n (iv gM gE ig gN) k0)=kX n gM gE ig gN (kap hO k0):=by obtain ⟨J7,u7⟩:=exi (mG n (iv gM gE ig gN) k0); delta mB kX; rw [← DB,u7]; kernel_rfl
def mD:Q1:=(gZ cf ic sc (gZ cf ic sd (kJ oR (mB n cf k0))))
def lN (n:Nat) (gM:Wr) (gE:aI) (ig:bo) (gN:aU) (k:ab) (v3:AV) (v4:AV) (v5:AV) (v7:Int) (v8:Int) (v9:Int) (v10:Bool) (v12:AV) (h:Heap):aa:=jg h v3 17 true fun a=>jg h v12 3 true fun b=>ig a b h fun c d=>ifB (jK v10) (kX n gM gE ig gN k v3 v4 v5 v7 v8 v10 c true d) (kX n gM gE ig gN k v3 v4 v5 v7 v8 v10 c (jK (eqF v9 v8)) d)
theorem DF:lo oJ (mD n (iv gM gE ig gN) k0)=lN n gM gE ig gN (kap hO k0):=by obtain ⟨J6,u6⟩:=exi (mB n (iv gM gE ig gN) k0); delta mD lN; rw [← DD,u6]; kernel_rfl
def lE (J9:Q1):Q1:=(gZ cf ic sM (gZ cf ic se (kJ jY J9)))
def kN (n:Nat) (gM:Wr) (gE:aI) (ig:bo) (gN:aU) (k:ab) (j9:cF) (v3:AV) (v4:AV) (v5:AV) (v7:Int) (v8:Int) (v9:Int) (v10:Bool) (v12:AV) (v13:Int) (v14:AV) (h:Heap):aa:=fld 0 h v12 1 false fun a b=>jg h v14 5 true fun c=>l8 h 1 [.nilslice,.nilslice,(.bool false),.nilslice,.nilslice] [(0,5,c)] fun d e=>rX e 5 b d fun f g=>fst 0 g v12 1 f fun i l=>la .i64 v13 1 fun m=>j9 v3 v4 v5 v7 v8 v9 v10 v12 m l
theorem De (J9:Q1):lo mh (lE (iv gM gE ig gN) J9)=kN n gM gE ig gN (kap hO k0) (lo jY J9):=by delta lE kN; kernel_rfl
def oB (J9:Q1):Q1:=(gZ cf ic rU (cJ p66 (gZ cf ic sA (gZ cf ic rT (cJ p76 (gZ cf ic sL (gZ cf ic r9 (gZ cf ic sP (kJ mh (lE cf J9))))) (kJ mh (lE cf J9))))) (kJ oJ (mD n cf k0))))
def lM (n:Nat) (gM:Wr) (gE:aI) (ig:bo) (gN:aU) (k:ab) (j9:cF) (v3:AV) (v4:AV) (v5:AV) (v7:Int) (v8:Int) (v9:Int) (v10:Bool) (v12:AV) (v13:Int) (h:Heap):aa:=ifB (ltF v13 v7) (fld 0 h v4 1 false fun a b=>eld 5 h b v13 5 true fun c d=>lG h (.cells [.nilslice,.nilslice,(.bool false),.nilslice,.nilslice] true 0) fun e f=>jf f (.ptr e 0) 5 d fun g=>ifB (eqF v13 v8) (fld 0 g (.ptr e 0) 1 false fun i l=>rX g 2 .nilslice l fun m o=>jy .i64 1 o v5 fun p q=>jy .u8 3 o v5 fun r s=>kM [(.int .i64 0),(.int .u8 0)] [(0,1,(.int .i64 q)),(1,1,(.int .u8 s))] fun t=>l8 o 1 [(.int .i64 0),(.int .u8 0)] [(0,2,t)] fun u w=>rX w 2 m u fun x y=>fst 0 y (.ptr e 0) 1 x fun z A=>kN n gM gE ig gN k j9 v3 v4 v5 v7 v8 v9 v10 v12 v13 (.ptr e 0) A) (kN n gM gE ig gN k j9 v3 v4 v5 v7 v8 v9 v10 v12 v13 (.ptr e 0) g)) (lN n gM gE ig gN k v3 v4 v5 v7 v8 v9 v10 v12 h)
def oI:Nat→Q1:=lpS (oB n cf k0)
def kY (n:Nat) (gM:Wr) (gE:aI) (ig:bo) (gN:aU) (k:ab):Nat→cF:=lpF jY (lM n gM gE ig gN k)
theorem DE (k:ab) (m:Nat):kY n gM gE ig gN k (m+1)=lM n gM gE ig gN k (kY n gM gE ig gN k m):=rfl
theorem DJ (m:Nat):lo jY (oI n (iv gM gE ig gN) k0 m)=kY n gM gE ig gN (kap hO k0) m:=mQ (fun J9=>(by obtain ⟨J8,u8⟩:=exi (mD n (iv gM gE ig gN) k0); obtain ⟨J10,u10⟩:=exi (lE (iv gM gE ig gN) J9); delta oB lM; rw [← DF,u8, ← De,u10]; kernel_rfl:lo jY (oB n (iv gM gE ig gN) k0 J9)=lM n gM gE ig gN (kap hO k0) (lo jY J9))) m
def mo:Q1:=(gZ cf ic sJ (jk hO k0))
def lD (n:Nat) (gM:Wr) (gE:aI) (ig:bo) (gN:aU) (k:ab) (v58:Bool) (h:Heap):aa:=k v58 h
theorem Cx:lo nZ (mo (iv gM gE ig gN) k0)=lD n gM gE ig gN (kap hO k0):=by delta mo lD; kernel_rfl
def mm:Q1:=(cJ p34 (gZ cf ic pL (jk hO k0)) (gZ cf ic sE (gZ cf ic sH (gZ cf ic sG (cJ p52 (gZ cf ic sh (kJ nZ (mo cf k0))) (gZ cf ic sg (gZ cf ic z7 (kJ jY (oI n cf k0 n)))))))))
def kj (n:Nat) (gM:Wr) (gE:aI) (ig:bo) (gN:aU) (k:ab) (v3:AV) (v4:AV) (v5:AV) (v7:Int) (v34:Bool) (h:Heap):aa:=ifB v34 (k true h) (jy .i64 0 h v5 fun a b=>afl .i64 b v7 fun c=>la .i64 c v7 fun d=>afl .i64 d v7 fun e=>jg h v3 17 true fun f=>jy .i64 1 h v5 fun g i=>gE f i h fun l m o p=>ifB (jK (eqF o 0)) (ifB (eqF l 0) (lD n gM gE ig gN k (jK m) p) (lD n gM gE ig gN k false p)) (fld 1 p v4 1 false fun q r=>fld 2 p v4 1 false fun s t=>kM [.nilslice,.nilslice,.nilslice] [(1,1,r),(2,1,t)] fun u=>lG p (.cells [.nilslice,.nilslice,.nilslice] true 0) fun w x=>jf x (.ptr w 0) 3 u fun y=>kY n gM gE ig gN k n v3 v4 v5 v7 e l m (.ptr w 0) 0 y))
theorem Cs:lo og (mm n (iv gM gE ig gN) k0)=kj n gM gE ig gN (kap hO k0):=by obtain ⟨J9,u9⟩:=exi (oI n (iv gM gE ig gN) k0 n); obtain ⟨J11,u11⟩:=exi (mo (iv gM gE ig gN) k0); delta mm kj; rw [← DJ,u9, ← Cx,u11]; kernel_rfl
def uL:Q1:=(gZ cf ic rZ (gZ cf ic so (cJ p22 (gZ cf ic iZ (jk hO k0)) (gZ cf ic sx (gZ cf ic sw (kJ og (mm n cf k0)))))))
def nf (n:Nat) (gM:Wr) (gE:aI) (ig:bo) (gN:aU) (k:ab) (a0:AV) (a1:AV) (a2:AV) (h:Heap):aa:=qR h a0 fun a b=>qR b a1 fun c d=>qR d a2 fun e f=>gM [] f fun g i=>JN g fun l=>ifB (jK l) (k false i) (fld 16 i (.ptr a 0) 1 false fun m o=>jC o fun p=>fld 0 i (.ptr c 0) 1 false fun q r=>jC r fun s=>ifB (jK (eqF s p)) (kj n gM gE ig gN k (.ptr a 0) (.ptr c 0) (.ptr e 0) p true i) (kj n gM gE ig gN k (.ptr a 0) (.ptr c 0) (.ptr e 0) p (eqF p 0) i))
def pC (n:Nat) (gM:Wr) (gE:aI) (ig:bo) (gN:aU) (a0:AV) (a1:AV) (a2:AV) (h:Heap) (k:ab):aa:=nf n gM gE ig gN k a0 a1 a2 h
theorem Gm:DZ cf ic n pH hO k0=uL n cf k0:=by funext s; kernel_rfl
theorem F7:lo kc (DZ (iv gM gE ig gN) ic n pH hO k0)=cmp kc (pC n gM gE ig gN) (kap hO k0):=(congrArg (lo kc) (Gm n (iv gM gE ig gN) k0)).trans (show _=nf n gM gE ig gN (kap hO k0) by obtain ⟨J12,u12⟩:=exi (mm n (iv gM gE ig gN) k0); delta uL nf; rw [← Cs,u12]; kernel_rfl)
end
def cy (n:Nat):dp:=pC n (kT bb) (aK n) (bB n) (be n)
abbrev T_audit_asked:=AV→AV→Int→Heap→(Int→Heap→aa)→aa
abbrev T_audit_Totals:=AV→AV→Int→Heap→(AV→Int→Heap→aa)→aa
end
end Go.Proofs.YtpoobhhdgjgdgaaGreat.Sh
