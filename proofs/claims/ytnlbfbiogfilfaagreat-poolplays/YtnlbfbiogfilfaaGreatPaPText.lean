/- The program's functions in continuation style: printed by a program, held against their code by the kernel. -/
import Derived.Test.YtnlbfbiogfilfaaGreatPaPCode
import Derived.Test.YtnlbfbiogfilfaaGreatAiSortedPaPPrims
import Derived.KernelRfl
set_option linter.all false
namespace Go.Proofs.YtnlbfbiogfilfaaGreat.Sh
open Go.Ai
set_option maxRecDepth 100000
noncomputable section
variable (n:Nat) (cf:aW)
abbrev dF:=Bool→Int→Int→AV→ad→(ad→ah)→ah
abbrev fE:=ad→ah
abbrev anf (g:dF):Wr:=wrT Uq rW g
def ajy:aW:=pl []
section
variable (k0:Q0)
def anj:Q1:=(jB cf Uf aid (cJ p8 (jB cf Uf ahw (lP rW k0)) (lP rW k0)))
def Uc (n:Nat) (k:fE) (a0:Bool) (a1:Int) (a2:Int) (a3:AV) (h:ad):ah:=ifB (mW a0) (nq h a3 1 false fun a=>uK [(.int .i64 0),(.int .i64 0)] [(0,1,(.int .i64 a1)),(1,1,(.int .i64 a2))] fun b=>pZ h 1 [(.int .i64 0),(.int .i64 0)] [(0,2,b)] fun c d=>sI d 2 a c fun e f=>qT f a3 1 e fun g=>k g) (k h)
def adj (n:Nat) (a0:Bool) (a1:Int) (a2:Int) (a3:AV) (h:ad) (k:fE):ah:=Uc n k a0 a1 a2 a3 h
theorem axp:DZ cf Uf n am9 rW k0=anj cf k0:=by funext s; kernel_rfl
theorem aw4:lo Uq (DZ ajy Uf n am9 rW k0)=cmp Uq (adj n) (kap rW k0):=(congrArg (lo Uq) (axp n ajy k0)).trans (show _=Uc n (kap rW k0) by delta anj Uc; kernel_rfl)
end
def dX (n:Nat):dF:=adj n
abbrev aq:=Int→Int→Int→ad→(Bool→ad→ah)→ah
abbrev ae:=Bool→ad→ah
abbrev N3 (g:aq):Wr:=wrT nv kN g
def V1:aW:=pl []
section
variable (k0:Q0)
def Uk:Q1:=(jB cf oa we (lP kN k0))
def M9 (n:Nat) (k:ae) (v14:Bool) (h:ad):ah:=k v14 h
theorem axy:lo pd (Uk V1 k0)=M9 n (kap kN k0):=by delta Uk M9; kernel_rfl
def ar7:Q1:=(jB cf oa mm (jB cf oa wg (kJ pd (Uk cf k0))))
def aaJ (n:Nat) (k:ae) (a0:Int) (a1:Int) (a2:Int) (h:ad):ah:=ifB (mW (ltF a0 a1)) (M9 n k (mW (ltF a2 a0)) h) (M9 n k false h)
def ajd (n:Nat) (a0:Int) (a1:Int) (a2:Int) (h:ad) (k:ae):ah:=aaJ n k a0 a1 a2 h
theorem az6:DZ cf oa n art kN k0=ar7 cf k0:=by funext s; kernel_rfl
theorem aAl:lo nv (DZ V1 oa n art kN k0)=cmp nv (ajd n) (kap kN k0):=(congrArg (lo nv) (az6 n V1 k0)).trans (show _=aaJ n (kap kN k0) by obtain ⟨J0,u0⟩:=exi (Uk V1 k0); delta ar7 aaJ; rw [← axy,u0]; kernel_rfl)
end
def cW (n:Nat):aq:=ajd n
abbrev cp:=Int→Int→ad→(Bool→ad→ah)→ah
abbrev atl (g:cp):Wr:=wrT qk jS g
def aaI (jy:aq):aW:=pl [(N1,N3 jy)]
section
variable (jy:aq) (k0:Q0)
def VW:Q1:=(jB cf Xd aot (lP jS k0))
def Qc (n:Nat) (jy:aq) (k:ae) (v14:Bool) (h:ad):ah:=k v14 h
theorem ayh:lo pd (VW (aaI jy) k0)=Qc n jy (kap jS k0):=by delta VW Qc; kernel_rfl
def ati:Q1:=(jB cf Xd lQ (jB cf Xd ap9 (kJ pd (VW cf k0))))
def aeB (n:Nat) (jy:aq) (k:ae) (a0:Int) (a1:Int) (h:ad):ah:=jy a0 1 a1 h fun a b=>ifB a (amc .i64 a0 1 fun c=>bitK .and .i64 a0 c fun d=>Qc n jy k (eqF d 0) b) (Qc n jy k false b)
def amx (n:Nat) (jy:aq) (a0:Int) (a1:Int) (h:ad) (k:ae):ah:=aeB n jy k a0 a1 h
theorem aCx:DZ cf Xd n atI jS k0=ati cf k0:=by funext s; kernel_rfl
theorem aBT:lo qk (DZ (aaI jy) Xd n atI jS k0)=cmp qk (amx n jy) (kap jS k0):=(congrArg (lo qk) (aCx n (aaI jy) k0)).trans (show _=aeB n jy (kap jS k0) by obtain ⟨J0,u0⟩:=exi (VW (aaI jy) k0); delta ati aeB; rw [← ayh,u0]; kernel_rfl)
end
def fM (n:Nat):cp:=amx n (cW n)
abbrev aa:=AV→ad→(Bool→ad→ah)→ah
abbrev Xu (g:aa):Wr:=wrT jN jp g
def pP (lH:cp) (jy:aq):aW:=pl [(atY,atl lH),(N1,N3 jy)]
section
variable (lH:cp) (jy:aq) (k0:Q0)
def QR:Q1:=(jB cf wb alb (lP jp k0))
def Ju (n:Nat) (lH:cp) (jy:aq) (k:ae) (v44:Bool) (h:ad):ah:=k v44 h
theorem avb:lo EU (QR (pP lH jy) k0)=Ju n lH jy (kap jp k0):=by delta QR Ju; kernel_rfl
def QT:Q1:=(jB cf wb ak5 (kJ EU (QR cf k0)))
def JM (n:Nat) (lH:cp) (jy:aq) (k:ae) (v1:AV) (v38:Bool) (h:ad):ah:=ifB v38 (faK 16 v1 fun a=>nq h a 1 false fun b=>mX b fun c=>jy c 1 8 h fun d e=>Ju n lH jy k d e) (Ju n lH jy k false h)
theorem avv:lo EV (QT (pP lH jy) k0)=JM n lH jy (kap jp k0):=by obtain ⟨J6,u6⟩:=exi (QR (pP lH jy) k0); delta QT JM; rw [← avb,u6]; kernel_rfl
def QD:Q1:=(jB cf wb ajL (kJ EV (QT cf k0)))
def I6 (n:Nat) (lH:cp) (jy:aq) (k:ae) (v1:AV) (v33:Bool) (h:ad):ah:=ifB v33 (faK 5 v1 fun a=>ldI .i64 h a fun b=>jy b 1 64 h fun c d=>JM n lH jy k v1 c d) (JM n lH jy k v1 false h)
theorem au9:lo EY (QD (pP lH jy) k0)=I6 n lH jy (kap jp k0):=by obtain ⟨J5,u5⟩:=exi (QT (pP lH jy) k0); delta QD I6; rw [← avv,u5]; kernel_rfl
def QO:Q1:=(jB cf wb ajU (kJ EY (QD cf k0)))
def Jm (n:Nat) (lH:cp) (jy:aq) (k:ae) (v1:AV) (v28:Bool) (h:ad):ah:=ifB v28 (faK 4 v1 fun a=>ldI .i64 h a fun b=>jy b 1 16 h fun c d=>I6 n lH jy k v1 c d) (I6 n lH jy k v1 false h)
theorem av5:lo aav (QO (pP lH jy) k0)=Jm n lH jy (kap jp k0):=by obtain ⟨J4,u4⟩:=exi (QD (pP lH jy) k0); delta QO Jm; rw [← au9,u4]; kernel_rfl
def Rk:Q1:=(jB cf wb aka (kJ aav (QO cf k0)))
def Jx (n:Nat) (lH:cp) (jy:aq) (k:ae) (v1:AV) (v23:Bool) (h:ad):ah:=ifB v23 (faK 2 v1 fun a=>ldI .i64 h a fun b=>jy b 1 16 h fun c d=>Jm n lH jy k v1 c d) (Jm n lH jy k v1 false h)
theorem avL:lo Z1 (Rk (pP lH jy) k0)=Jx n lH jy (kap jp k0):=by obtain ⟨J3,u3⟩:=exi (QO (pP lH jy) k0); delta Rk Jx; rw [← av5,u3]; kernel_rfl
def QU:Q1:=(jB cf wb ak7 (kJ Z1 (Rk cf k0)))
def Kw (n:Nat) (lH:cp) (jy:aq) (k:ae) (v1:AV) (v18:Bool) (h:ad):ah:=ifB v18 (faK 3 v1 fun a=>ldI .i64 h a fun b=>lH b 4096 h fun c d=>Jx n lH jy k v1 c d) (Jx n lH jy k v1 false h)
theorem avD:lo ES (QU (pP lH jy) k0)=Kw n lH jy (kap jp k0):=by obtain ⟨J2,u2⟩:=exi (Rk (pP lH jy) k0); delta QU Kw; rw [← avL,u2]; kernel_rfl
def QE:Q1:=(jB cf wb ajn (kJ ES (QU cf k0)))
def Jb (n:Nat) (lH:cp) (jy:aq) (k:ae) (v1:AV) (v10:Bool) (h:ad):ah:=ifB v10 (faK 0 v1 fun a=>ldI .i64 h a fun b=>oq .i64 1 h v1 fun c d=>remK .i64 b d fun e=>Kw n lH jy k v1 (eqF e 0) h) (Kw n lH jy k v1 false h)
theorem av3:lo ZP (QE (pP lH jy) k0)=Jb n lH jy (kap jp k0):=by obtain ⟨J1,u1⟩:=exi (QU (pP lH jy) k0); delta QE Jb; rw [← avD,u1]; kernel_rfl
def apI:Q1:=(jB cf wb ot (jB cf wb aky (kJ ZP (QE cf k0))))
def XH (n:Nat) (lH:cp) (jy:aq) (k:ae) (a0:AV) (h:ad):ah:=Ad h a0 fun a b=>oq .i64 1 b (.ptr a 0) fun c d=>lH d 16 b fun e f=>ifB e (faK 0 (.ptr a 0) fun g=>ldI .i64 f g fun i=>jy i 1 4096 f fun l m=>Jb n lH jy k (.ptr a 0) l m) (Jb n lH jy k (.ptr a 0) false f)
def afW (n:Nat) (lH:cp) (jy:aq) (a0:AV) (h:ad) (k:ae):ah:=XH n lH jy k a0 h
theorem azz:DZ cf wb n apM jp k0=apI cf k0:=by funext s; kernel_rfl
theorem ayT:lo jN (DZ (pP lH jy) wb n apM jp k0)=cmp jN (afW n lH jy) (kap jp k0):=(congrArg (lo jN) (azz n (pP lH jy) k0)).trans (show _=XH n lH jy (kap jp k0) by obtain ⟨J0,u0⟩:=exi (QE (pP lH jy) k0); delta apI XH; rw [← av3,u0]; kernel_rfl)
end
def cT (n:Nat):aa:=afW n (fM n) (cW n)
abbrev aj:=AV→ad→(Int→ad→ah)→ah
abbrev ar:=Int→ad→ah
abbrev X3 (g:aj):Wr:=wrT jN lj g
def rM:aW:=pl []
abbrev ck:Type:=AV→Int→Int→ad→ah
abbrev gk:Type:=AV→Int→AV→Int→Int→ad→ah
section
variable (k0:Q0)
def XW:Q1:=(jB cf ry xB (lP lj k0))
def Xm (n:Nat) (k:ar) (h:ad):ah:=k 0 h
theorem ayI:lo kV (XW rM k0)=Xm n (kap lj k0):=by delta XW Xm; kernel_rfl
def Wx (J1:Q1):Q1:=(cJ p46 (jB cf ry JU (lP lj k0)) (jB cf ry aoY (kJ C5 J1)))
def P3 (n:Nat) (k:ar) (j1:ck) (v35:AV) (v36:Int) (v37:Int) (v46:Bool) (h:ad):ah:=ifB v46 (k 100 h) (oK .i64 v37 1 fun a=>j1 v35 v36 a h)
theorem aye (J1:Q1):lo afe (Wx rM k0 J1)=P3 n (kap lj k0) (lo C5 J1):=by delta Wx P3; kernel_rfl
def af4 (J1:Q1):Q1:=(jB cf ry aoX (cJ p38 (jB cf ry aoR (jB cf ry apg (kJ afe (Wx cf k0 J1)))) (kJ kV (XW cf k0))))
def PA (n:Nat) (k:ar) (j1:ck) (v35:AV) (v36:Int) (v37:Int) (h:ad):ah:=ifB (ltF v37 v36) (Ga .u64 1 h v35 v37 fun a b=>ifB (ltF b 1) (P3 n k j1 v35 v36 v37 true h) (P3 n k j1 v35 v36 v37 (ltF 65536 b) h)) (Xm n k h)
def afd:Nat→Q1:=lpS (af4 cf k0)
def XK (n:Nat) (k:ar):Nat→ck:=lpF C5 (PA n k)
theorem ax1 (m:Nat):lo C5 (afd rM k0 m)=XK n (kap lj k0) m:=sY (fun J1=>(by obtain ⟨J0,u0⟩:=exi (XW rM k0); obtain ⟨J2,u2⟩:=exi (Wx rM k0 J1); delta af4 PA; rw [← ayI,u0, ← aye,u2]; kernel_rfl:lo C5 (af4 rM k0 J1)=PA n (kap lj k0) (lo C5 J1))) m
def VQ:Q1:=(jB cf ry aov (kJ C5 (afd cf k0 n)))
def Qy (n:Nat) (k:ar) (v1:AV) (h:ad):ah:=oq .u64 3 h v1 fun a b=>oq .u64 4 h v1 fun c d=>oq .u64 5 h v1 fun e f=>pZ h 3 [(.int .u64 0),(.int .u64 0),(.int .u64 0)] [(0,1,(.int .u64 b)),(1,1,(.int .u64 d)),(2,1,(.int .u64 f))] fun g i=>mX g fun l=>XK n k n g l 0 i
theorem azH:lo agi (VQ n rM k0)=Qy n (kap lj k0):=by obtain ⟨J1,u1⟩:=exi (afd rM k0 n); delta VQ Qy; rw [← ax1,u1]; kernel_rfl
def Wj (J4:Q1):Q1:=(cJ p26 (jB cf ry JU (lP lj k0)) (jB cf ry aoT (jB cf ry apS (kJ C8 J4))))
def P6 (n:Nat) (k:ar) (j4:gk) (v1:AV) (v5:Int) (v14:AV) (v15:Int) (v16:Int) (v26:Bool) (h:ad):ah:=ifB v26 (k 100 h) (oK .i64 v16 1 fun a=>j4 v1 v5 v14 v15 a h)
theorem aze (J4:Q1):lo agE (Wj rM k0 J4)=P6 n (kap lj k0) (lo C8 J4):=by delta Wj P6; kernel_rfl
def agj (J4:Q1):Q1:=(jB cf ry T1 (cJ p17 (jB cf ry Ua (jB cf ry ans (kJ agE (Wj cf k0 J4)))) (kJ agi (VQ n cf k0))))
def PB (n:Nat) (k:ar) (j4:gk) (v1:AV) (v3:Int) (v14:AV) (v15:Int) (v16:Int) (h:ad):ah:=ifB (ltF v16 v15) (Ga .u64 1 h v14 v16 fun a b=>ifB (ltF b v3) (P6 n k j4 v1 b v14 v15 v16 true h) (P6 n k j4 v1 b v14 v15 v16 (ltF 65536 b) h)) (Qy n k v1 h)
def af0:Nat→Q1:=lpS (agj n cf k0)
def Yg (n:Nat) (k:ar):Nat→gk:=lpF C8 (PB n k)
theorem aza (m:Nat):lo C8 (af0 n rM k0 m)=Yg n (kap lj k0) m:=sY (fun J4=>(by obtain ⟨J3,u3⟩:=exi (VQ n rM k0); obtain ⟨J5,u5⟩:=exi (Wj rM k0 J4); delta agj PB; rw [← azH,u3, ← aze,u5]; kernel_rfl:lo C8 (agj n rM k0 J4)=PB n (kap lj k0) (lo C8 J4))) m
def atG:Q1:=(jB cf ry GE (jB cf ry ank (jB cf ry amO (kJ C8 (af0 n cf k0 n)))))
def aeL (n:Nat) (k:ar) (a0:AV) (h:ad):ah:=Ad h a0 fun a b=>oq .u64 0 b (.ptr a 0) fun c d=>oq .u64 1 b (.ptr a 0) fun e f=>oq .u64 2 b (.ptr a 0) fun g i=>pZ b 3 [(.int .u64 0),(.int .u64 0),(.int .u64 0)] [(0,1,(.int .u64 d)),(1,1,(.int .u64 f)),(2,1,(.int .u64 i))] fun l m=>mX l fun o=>Yg n k n (.ptr a 0) 1 l o 0 m
def amH (n:Nat) (a0:AV) (h:ad) (k:ar):ah:=aeL n k a0 h
theorem aBu:DZ cf ry n auy lj k0=atG n cf k0:=by funext s; kernel_rfl
theorem aBs:lo jN (DZ rM ry n auy lj k0)=cmp jN (amH n) (kap lj k0):=(congrArg (lo jN) (aBu n rM k0)).trans (show _=aeL n (kap lj k0) by obtain ⟨J4,u4⟩:=exi (af0 n rM k0 n); delta atG aeL; rw [← aza,u4]; kernel_rfl)
end
def da (n:Nat):aj:=amH n
abbrev ab:=AV→Int→ad→(Int→ad→ah)→ah
abbrev Gz (g:ab):Wr:=wrT ju ji g
def ru:aW:=pl []
abbrev bI:Type:=AV→Int→Int→Int→ad→ah
section
variable (k0:Q0)
def yR:Q1:=(jB cf oO y0 (lP ji k0))
def yS (n:Nat) (k:ar) (h:ad):ah:=k (-1) h
theorem aeU:lo kV (yR ru k0)=yS n (kap ji k0):=by delta yR yS; kernel_rfl
def Eh (J1:Q1):Q1:=(jB cf oO yU (cJ p9 (jB cf oO yY (jB cf oO OH (cJ p16 (jB cf oO yP (lP ji k0)) (jB cf oO yO (kJ mL J1))))) (kJ kV (yR cf k0))))
def vA (n:Nat) (k:ar) (j1:bI) (v0:AV) (v1:Int) (v7:Int) (v8:Int) (h:ad):ah:=ifB (ltF v8 v7) (Ga .i64 1 h v0 v8 fun a b=>ifB (eqF v1 b) (k v8 h) (oK .i64 v8 1 fun c=>j1 v0 v1 v7 c h)) (yS n k h)
def Eg:Nat→Q1:=lpS (Eh cf k0)
def y5 (n:Nat) (k:ar):Nat→bI:=lpF mL (vA n k)
theorem ae0 (m:Nat):lo mL (Eg ru k0 m)=y5 n (kap ji k0) m:=sY (fun J1=>(by obtain ⟨J0,u0⟩:=exi (yR ru k0); delta Eh vA; rw [← aeU,u0]; kernel_rfl:lo mL (Eh ru k0 J1)=vA n (kap ji k0) (lo mL J1))) m
def RD:Q1:=(jB cf oO kz (jB cf oO yZ (kJ mL (Eg cf k0 n))))
def AM (n:Nat) (k:ar) (a0:AV) (a1:Int) (h:ad):ah:=mX a0 fun a=>y5 n k n a0 a1 a 0 h
def Gr (n:Nat) (a0:AV) (a1:Int) (h:ad) (k:ar):ah:=AM n k a0 a1 h
theorem ahb:DZ cf oO n RU ji k0=RD n cf k0:=by funext s; kernel_rfl
theorem agO:lo ju (DZ ru oO n RU ji k0)=cmp ju (Gr n) (kap ji k0):=(congrArg (lo ju) (ahb n ru k0)).trans (show _=AM n (kap ji k0) by obtain ⟨J1,u1⟩:=exi (Eg ru k0 n); delta RD AM; rw [← ae0,u1]; kernel_rfl)
end
def cL (n:Nat):ab:=Gr n
abbrev am:=AV→Int→ad→(Bool→ad→ah)→ah
abbrev M6 (g:am):Wr:=wrT ju jS g
def K1 (kY:ab):aW:=pl [(Gy,Gz kY)]
section
variable (kY:ab) (k0:Q0)
def Nx:Q1:=(jB cf xQ lQ (jB cf xQ KK (lP jS k0)))
def ya (n:Nat) (kY:ab) (k:ae) (a0:AV) (a1:Int) (h:ad):ah:=kY a0 a1 h fun a b=>k (mW (ltF a 0)) b
def DE (n:Nat) (kY:ab) (a0:AV) (a1:Int) (h:ad) (k:ae):ah:=ya n kY k a0 a1 h
theorem acH:DZ cf xQ n MV jS k0=Nx cf k0:=by funext s; kernel_rfl
theorem acV:lo ju (DZ (K1 kY) xQ n MV jS k0)=cmp ju (DE n kY) (kap jS k0):=(congrArg (lo ju) (acH n (K1 kY) k0)).trans (show _=ya n kY (kap jS k0) by delta Nx ya; kernel_rfl)
end
def bE (n:Nat):am:=DE n (cL n)
abbrev aok:=Bool→ad→ah
abbrev aoS (g:am):Wr:=wrT ju jS g
def pO (jW:am):aW:=pl [(MK,M6 jW)]
abbrev gw:Type:=Int→AV→AV→Int→AV→Int→Int→AV→Int→Int→ad→ah
abbrev dZ:Type:=Int→AV→AV→AV→Int→Int→ad→ah
section
variable (jW:am) (k0:Q0)
def Rj:Q1:=(jB cf pH akR (lP jS k0))
def Rq (n:Nat) (jW:am) (k:ae) (v5:AV) (h:ad):ah:=mX v5 fun a=>k (ltF 0 a) h
theorem au7:lo ZV (Rj (pO jW) k0)=Rq n jW (kap jS k0):=by delta Rj Rq; kernel_rfl
def Re (J1:Q1):Q1:=(jB cf pH akx (kJ pM J1))
def Rh (n:Nat) (jW:am) (k:ae) (j1:dZ) (v1:Int) (v2:AV) (v5:AV) (v16:AV) (v17:Int) (v18:Int) (h:ad):ah:=oK .i64 v18 1 fun a=>j1 v1 v2 v5 v16 v17 a h
theorem auU (J1:Q1):lo pM (Re (pO jW) J1)=Rh n jW (kap jS k0) (lo pM J1):=by delta Re Rh; kernel_rfl
def aaj (J1:Q1) (J3:Q1):Q1:=(jB cf pH aku (cJ p50 (jB cf pH aj1 (jB cf pH akI (cJ p56 (jB cf pH lQ (lP jS k0)) (jB cf pH akv (kJ BS J3))))) (kJ pM (Re cf J1))))
def Jv (n:Nat) (jW:am) (k:ae) (j1:dZ) (j3:gw) (v1:Int) (v2:AV) (v5:AV) (v7:Int) (v16:AV) (v17:Int) (v18:Int) (v47:AV) (v48:Int) (v49:Int) (h:ad):ah:=ifB (ltF v49 v48) (eld 8 h v47 v49 8 true fun a b=>Jr h (.cells [.nilslice,(.int .i64 0),(.int .i64 0),(.int .i64 0),(.int .i64 0),(.int .i64 0),(.int .i64 0),(.int .i64 0)] true 0) fun c d=>qT d (.ptr c 0) 8 b fun e=>fld 0 e (.ptr c 0) 1 false fun f g=>jW g v7 e fun i l=>ifB i (k false l) (oK .i64 v49 1 fun m=>j3 v1 v2 v5 v7 v16 v17 v18 v47 v48 m l)) (Rh n jW k j1 v1 v2 v5 v16 v17 v18 h)
def aau (J1:Q1):Nat→Q1:=lpS (aaj cf k0 J1)
def JR (n:Nat) (jW:am) (k:ae) (j1:dZ):Nat→gw:=lpF BS (Jv n jW k j1)
theorem avU (J1:Q1) (m:Nat):lo BS (aau (pO jW) k0 J1 m)=JR n jW (kap jS k0) (lo pM J1) m:=sY (fun J3=>(by obtain ⟨J2,u2⟩:=exi (Re (pO jW) J1); delta aaj Jv; rw [← auU,u2]; kernel_rfl:lo BS (aaj (pO jW) k0 J1 J3)=Jv n jW (kap jS k0) (lo pM J1) (lo BS J3))) m
def Rp (J1:Q1):Q1:=(cJ p43 (jB cf pH lQ (lP jS k0)) (jB cf pH akH (kJ BS (aau cf k0 J1 n))))
def E1 (n:Nat) (jW:am) (k:ae) (j1:dZ) (v1:Int) (v2:AV) (v5:AV) (v7:Int) (v16:AV) (v17:Int) (v18:Int) (v43:Bool) (h:ad):ah:=ifB v43 (k false h) (fld 16 h v2 1 false fun a b=>slK (.sl 8) b none (some (.int .i64 v1)) none fun c=>mX c fun d=>JR n jW k j1 n v1 v2 v5 v7 v16 v17 v18 c d 0 h)
theorem avA (J1:Q1):lo aaB (Rp n (pO jW) k0 J1)=E1 n jW (kap jS k0) (lo pM J1):=by obtain ⟨J3,u3⟩:=exi (aau (pO jW) k0 J1 n); delta Rp E1; rw [← avU,u3]; kernel_rfl
def QX (J1:Q1):Q1:=(jB cf pH ah9 (kJ aaB (Rp n cf k0 J1)))
def JI (n:Nat) (jW:am) (k:ae) (j1:dZ) (v1:Int) (v2:AV) (v5:AV) (v6:Int) (v7:Int) (v16:AV) (v17:Int) (v18:Int) (v30:Bool) (h:ad):ah:=ifB v30 (E1 n jW k j1 v1 v2 v5 v7 v16 v17 v18 true h) (ifB (ltF 0 v6) (amc .i64 v6 1 fun a=>Ga .i64 1 h v5 a fun b c=>E1 n jW k j1 v1 v2 v5 v7 v16 v17 v18 (mW (ltF c v7)) h) (E1 n jW k j1 v1 v2 v5 v7 v16 v17 v18 false h))
theorem avV (J1:Q1):lo Z3 (QX n (pO jW) k0 J1)=JI n jW (kap jS k0) (lo pM J1):=by obtain ⟨J5,u5⟩:=exi (Rp n (pO jW) k0 J1); delta QX JI; rw [← avA,u5]; kernel_rfl
def ZQ (J1:Q1):Q1:=(jB cf pH ah2 (cJ p19 (jB cf pH aht (jB cf pH ak3 (kJ Z3 (QX n cf k0 J1)))) (kJ ZV (Rj cf k0))))
def KJ (n:Nat) (jW:am) (k:ae) (j1:dZ) (v1:Int) (v2:AV) (v5:AV) (v16:AV) (v17:Int) (v18:Int) (h:ad):ah:=ifB (ltF v18 v17) (Ga .i64 1 h v16 v18 fun a b=>ifB (ltF b 0) (JI n jW k j1 v1 v2 v5 v18 b v16 v17 v18 true h) (oq .i64 1 h v2 fun c d=>JI n jW k j1 v1 v2 v5 v18 b v16 v17 v18 (mW (ltF b d)) h)) (Rq n jW k v5 h)
def Zw:Nat→Q1:=lpS (ZQ n cf k0)
def E0 (n:Nat) (jW:am) (k:ae):Nat→dZ:=lpF pM (KJ n jW k)
theorem auX (m:Nat):lo pM (Zw n (pO jW) k0 m)=E0 n jW (kap jS k0) m:=sY (fun J1=>(by obtain ⟨J0,u0⟩:=exi (Rj (pO jW) k0); obtain ⟨J4,u4⟩:=exi (QX n (pO jW) k0 J1); delta ZQ KJ; rw [← au7,u0, ← avV,u4]; kernel_rfl:lo pM (ZQ n (pO jW) k0 J1)=KJ n jW (kap jS k0) (lo pM J1))) m
def apr:Q1:=(jB cf pH xe (jB cf pH aif (jB cf pH ah5 (kJ pM (Zw n cf k0 n)))))
def W4 (n:Nat) (jW:am) (k:ae) (a0:AV) (a1:Int) (h:ad):ah:=Ad h a0 fun a b=>fld 16 b (.ptr a 0) 1 false fun c d=>agV 8 d a1 fun e=>fld 0 b e 1 false fun f g=>mX g fun i=>E0 n jW k n a1 (.ptr a 0) g g i 0 b
def afY (n:Nat) (jW:am) (a0:AV) (a1:Int) (h:ad) (k:ae):ah:=W4 n jW k a0 a1 h
theorem ay7:DZ cf pH n aoi jS k0=apr n cf k0:=by funext s; kernel_rfl
theorem ay0:lo ju (DZ (pO jW) pH n aoi jS k0)=cmp ju (afY n jW) (kap jS k0):=(congrArg (lo ju) (ay7 n (pO jW) k0)).trans (show _=W4 n jW (kap jS k0) by obtain ⟨J1,u1⟩:=exi (Zw n (pO jW) k0 n); delta apr W4; rw [← auX,u1]; kernel_rfl)
end
def ft (n:Nat):am:=afY n (bE n)
abbrev apN (g:aj):Wr:=wrT jN lj g
def at5:aW:=pl []
section
variable (k0:Q0)
def awV:Q1:=(jB cf ahK GE (jB cf ahK arw (lP lj k0)))
def aic (n:Nat) (k:ar) (a0:AV) (h:ad):ah:=Ad h a0 fun a b=>oq .i64 0 b (.ptr a 0) fun c d=>oq .i64 1 b (.ptr a 0) fun e f=>aw1 .i64 d f fun g=>k g b
def aqi (n:Nat) (a0:AV) (h:ad) (k:ar):ah:=aic n k a0 h
theorem aC9:DZ cf ahK n awp lj k0=awV cf k0:=by funext s; kernel_rfl
theorem aDH:lo jN (DZ at5 ahK n awp lj k0)=cmp jN (aqi n) (kap lj k0):=(congrArg (lo jN) (aC9 n at5 k0)).trans (show _=aic n (kap lj k0) by delta awV aic; kernel_rfl)
end
def eZ (n:Nat):aj:=aqi n
abbrev alN (g:ab):Wr:=wrT ju ji g
def arv (kR:aj):aW:=pl [(apA,apN kR)]
section
variable (kR:aj) (k0:Q0)
def aug:Q1:=(jB cf aeA xN (jB cf aeA ap5 (lP ji k0)))
def aeO (n:Nat) (kR:aj) (k:ar) (a0:AV) (a1:Int) (h:ad):ah:=Ad h a0 fun a b=>fld 16 b (.ptr a 0) 1 false fun c d=>agV 8 d a1 fun e=>fld 0 b e 1 false fun f g=>mX g fun i=>nq b (.ptr a 0) 17 true fun l=>kR l (b.shut true) fun m o=>Gb .i64 i m fun p=>k p (o.back b.ro)
def al9 (n:Nat) (kR:aj) (a0:AV) (a1:Int) (h:ad) (k:ar):ah:=aeO n kR k a0 a1 h
theorem aBm:DZ cf aeA n ato ji k0=aug cf k0:=by funext s; kernel_rfl
theorem aCs:lo ju (DZ (arv kR) aeA n ato ji k0)=cmp ju (al9 n kR) (kap ji k0):=(congrArg (lo ju) (aBm n (arv kR) k0)).trans (show _=aeO n kR (kap ji k0) by delta aug aeO; kernel_rfl)
end
def eP (n:Nat):ab:=al9 n (eZ n)
abbrev aAs:=Bool→ad→ah
abbrev asm (g:am):Wr:=wrT ju jS g
def og (kL:ab) (jx:aa) (kR:aj) (jy:aq):aW:=pl [(alU,alN kL),(WK,Xu jx),(apA,apN kR),(N1,N3 jy)]
abbrev ga:Type:=Int→AV→AV→Int→AV→Int→Int→ad→ah
abbrev amZ:Type:=Int→AV→AV→AV→Int→ad→ah
section
variable (kL:ab) (jx:aa) (kR:aj) (jy:aq) (k0:Q0)
def Uy:Q1:=(jB cf nJ anF (lP jS k0))
def Nh (n:Nat) (kL:ab) (jx:aa) (kR:aj) (jy:aq) (k:ae) (v104:Bool) (h:ad):ah:=k v104 h
theorem axk:lo acD (Uy (og kL jx kR jy) k0)=Nh n kL jx kR jy (kap jS k0):=by delta Uy Nh; kernel_rfl
def Uj:Q1:=(cJ p72 (jB cf nJ lQ (lP jS k0)) (jB cf nJ anI (cJ p75 (jB cf nJ oX (lP jS k0)) (jB cf nJ am3 (jB cf nJ anq (kJ acD (Uy cf k0)))))))
def MW (n:Nat) (kL:ab) (jx:aa) (kR:aj) (jy:aq) (k:ae) (v1:Int) (v2:AV) (v5:AV) (v72:Bool) (h:ad):ah:=ifB v72 (k false h) (nq h v2 17 true fun a=>jx a h fun b c=>ifB (mW b) (k true c) (oq .i64 1 c v5 fun d e=>ak4 .i64 1 e fun f=>nq c v2 17 true fun g=>kR g c fun i l=>ifB (mW (ltF i f)) (oq .i64 2 l v5 fun m o=>oK .i64 f o fun p=>oq .i64 3 l v5 fun q r=>oK .i64 p r fun s=>oq .i64 4 l v5 fun t u=>oK .i64 s u fun w=>oq .i64 5 l v5 fun x y=>oK .i64 w y fun z=>oq .i64 6 l v5 fun A B=>oK .i64 z B fun C=>nq l v2 17 true fun E=>kL E v1 (l.shut true) fun F G=>Nh n kL jx kR jy k (mW (ltF F C)) (G.back l.ro)) (Nh n kL jx kR jy k false l)))
theorem axe:lo acC (Uj (og kL jx kR jy) k0)=MW n kL jx kR jy (kap jS k0):=by obtain ⟨J0,u0⟩:=exi (Uy (og kL jx kR jy) k0); delta Uj MW; rw [← axk,u0]; kernel_rfl
def Ud:Q1:=(jB cf nJ anu (kJ acC (Uj cf k0)))
def Na (n:Nat) (kL:ab) (jx:aa) (kR:aj) (jy:aq) (k:ae) (v1:Int) (v2:AV) (v5:AV) (v8:Int) (h:ad):ah:=oq .i64 7 h v5 fun a b=>jy b 1 1024 h fun c d=>ifB (mW c) (MW n kL jx kR jy k v1 v2 v5 true d) (MW n kL jx kR jy k v1 v2 v5 (ltF 1024 v8) d)
theorem aw9:lo adB (Ud (og kL jx kR jy) k0)=Na n kL jx kR jy (kap jS k0):=by obtain ⟨J1,u1⟩:=exi (Uj (og kL jx kR jy) k0); delta Ud Na; rw [← axe,u1]; kernel_rfl
def MQ (J3:Q1):Q1:=(jB cf nJ anh (kJ td J3))
def Nu (n:Nat) (kL:ab) (jx:aa) (kR:aj) (jy:aq) (k:ae) (j3:ga) (v1:Int) (v2:AV) (v5:AV) (v8:Int) (v51:AV) (v52:Int) (v53:Int) (h:ad):ah:=oK .i64 v53 1 fun a=>j3 v1 v2 v5 v8 v51 v52 a h
theorem aw2 (J3:Q1):lo td (MQ (og kL jx kR jy) J3)=Nu n kL jx kR jy (kap jS k0) (lo td J3):=by delta MQ Nu; kernel_rfl
def adx (J3:Q1):Q1:=(jB cf nJ akw (cJ p54 (jB cf nJ akz (jB cf nJ am7 (cJ p59 (jB cf nJ amR (kJ td (MQ cf J3))) (kJ td (MQ cf J3))))) (kJ adB (Ud cf k0))))
def MZ (n:Nat) (kL:ab) (jx:aa) (kR:aj) (jy:aq) (k:ae) (j3:ga) (v1:Int) (v2:AV) (v5:AV) (v8:Int) (v51:AV) (v52:Int) (v53:Int) (h:ad):ah:=ifB (ltF v53 v52) (eld 8 h v51 v53 8 true fun a b=>Jr h (.cells [.nilslice,(.int .i64 0),(.int .i64 0),(.int .i64 0),(.int .i64 0),(.int .i64 0),(.int .i64 0),(.int .i64 0)] true 0) fun c d=>qT d (.ptr c 0) 8 b fun e=>oq .i64 7 e (.ptr c 0) fun f g=>jy g 1 1024 e fun i l=>ifB i (oq .i64 7 l (.ptr c 0) fun m o=>oK .i64 v8 o fun p=>Nu n kL jx kR jy k j3 v1 v2 v5 p v51 v52 v53 l) (Nu n kL jx kR jy k j3 v1 v2 v5 v8 v51 v52 v53 l)) (Na n kL jx kR jy k v1 v2 v5 v8 h)
def acO:Nat→Q1:=lpS (adx cf k0)
def M2 (n:Nat) (kL:ab) (jx:aa) (kR:aj) (jy:aq) (k:ae):Nat→ga:=lpF td (MZ n kL jx kR jy k)
theorem axo (k:ae) (m:Nat):M2 n kL jx kR jy k (m+1)=MZ n kL jx kR jy k (M2 n kL jx kR jy k m):=rfl
theorem axh (m:Nat):lo td (acO (og kL jx kR jy) k0 m)=M2 n kL jx kR jy (kap jS k0) m:=sY (fun J3=>(by obtain ⟨J2,u2⟩:=exi (Ud (og kL jx kR jy) k0); obtain ⟨J4,u4⟩:=exi (MQ (og kL jx kR jy) J3); delta adx MZ; rw [← aw9,u2, ← aw2,u4]; kernel_rfl:lo td (adx (og kL jx kR jy) k0 J3)=MZ n kL jx kR jy (kap jS k0) (lo td J3))) m
def Ug:Q1:=(jB cf nJ ajP (jB cf nJ akj (kJ td (acO cf k0 n))))
def Uz (n:Nat) (kL:ab) (jx:aa) (kR:aj) (jy:aq) (k:ae) (v1:Int) (v2:AV) (v5:AV) (h:ad):ah:=fld 16 h v2 1 false fun a b=>oK .i64 v1 1 fun c=>slK (.sl 8) b none (some (.int .i64 c)) none fun d=>mX d fun e=>M2 n kL jx kR jy k n v1 v2 v5 0 d e 0 h
theorem aw8:lo acM (Ug n (og kL jx kR jy) k0)=Uz n kL jx kR jy (kap jS k0):=by obtain ⟨J3,u3⟩:=exi (acO (og kL jx kR jy) k0 n); delta Ug Uz; rw [← axh,u3]; kernel_rfl
def acK (J6:Q1):Q1:=(jB cf nJ ak9 (cJ p41 (jB cf nJ ajZ (jB cf nJ ajT (cJ p45 (jB cf nJ lQ (lP jS k0)) (jB cf nJ aj3 (kJ DA J6))))) (kJ acM (Ug n cf k0))))
def NW (n:Nat) (kL:ab) (jx:aa) (kR:aj) (jy:aq) (k:ae) (j6:amZ) (v1:Int) (v2:AV) (v5:AV) (v39:AV) (v40:Int) (h:ad):ah:=ifB (ltF v40 3) (apC 1 3 false v39 v40 fun a=>ac0 .i64 a fun b=>jy b 1 4096 h fun c d=>ifB (mW c) (k false d) (oK .i64 v40 1 fun e=>j6 v1 v2 v5 v39 e d)) (Uz n kL jx kR jy k v1 v2 v5 h)
def acy:Nat→Q1:=lpS (acK n cf k0)
def T6 (n:Nat) (kL:ab) (jx:aa) (kR:aj) (jy:aq) (k:ae):Nat→amZ:=lpF DA (NW n kL jx kR jy k)
theorem aw3 (k:ae) (m:Nat):T6 n kL jx kR jy k (m+1)=NW n kL jx kR jy k (T6 n kL jx kR jy k m):=rfl
theorem axf (m:Nat):lo DA (acy n (og kL jx kR jy) k0 m)=T6 n kL jx kR jy (kap jS k0) m:=sY (fun J6=>(by obtain ⟨J5,u5⟩:=exi (Ug n (og kL jx kR jy) k0); delta acK NW; rw [← aw8,u5]; kernel_rfl:lo DA (acK n (og kL jx kR jy) k0 J6)=NW n kL jx kR jy (kap jS k0) (lo DA J6))) m
def Uu:Q1:=(cJ p32 (jB cf nJ lQ (lP jS k0)) (jB cf nJ ak6 (kJ DA (acy n cf k0 n))))
def Nt (n:Nat) (kL:ab) (jx:aa) (kR:aj) (jy:aq) (k:ae) (v1:Int) (v2:AV) (v5:AV) (v32:Bool) (h:ad):ah:=ifB v32 (k false h) (oq .i64 4 h v5 fun a b=>oq .i64 5 h v5 fun c d=>oq .i64 6 h v5 fun e f=>uK [(.int .i64 0),(.int .i64 0),(.int .i64 0)] [(0,1,(.int .i64 b)),(1,1,(.int .i64 d)),(2,1,(.int .i64 f))] fun g=>T6 n kL jx kR jy k n v1 v2 v5 g 0 h)
theorem axv:lo ade (Uu n (og kL jx kR jy) k0)=Nt n kL jx kR jy (kap jS k0):=by obtain ⟨J6,u6⟩:=exi (acy n (og kL jx kR jy) k0 n); delta Uu Nt; rw [← axf,u6]; kernel_rfl
def Uv:Q1:=(jB cf nJ aj8 (kJ ade (Uu n cf k0)))
def NG (n:Nat) (kL:ab) (jx:aa) (kR:aj) (jy:aq) (k:ae) (v1:Int) (v2:AV) (v5:AV) (v26:Bool) (h:ad):ah:=ifB v26 (Nt n kL jx kR jy k v1 v2 v5 true h) (faK 3 v5 fun a=>ldI .i64 h a fun b=>jy b 4 4096 h fun c d=>Nt n kL jx kR jy k v1 v2 v5 (mW c) d)
theorem aw0:lo ac3 (Uv n (og kL jx kR jy) k0)=NG n kL jx kR jy (kap jS k0):=by obtain ⟨J8,u8⟩:=exi (Uu n (og kL jx kR jy) k0); delta Uv NG; rw [← axv,u8]; kernel_rfl
def ari:Q1:=(jB cf nJ xe (jB cf nJ akA (jB cf nJ akm (kJ ac3 (Uv n cf k0)))))
def aaW (n:Nat) (kL:ab) (jx:aa) (kR:aj) (jy:aq) (k:ae) (a0:AV) (a1:Int) (h:ad):ah:=Ad h a0 fun a b=>fld 16 b (.ptr a 0) 1 false fun c d=>eld 8 b d a1 8 true fun e f=>Jr b (.cells [.nilslice,(.int .i64 0),(.int .i64 0),(.int .i64 0),(.int .i64 0),(.int .i64 0),(.int .i64 0),(.int .i64 0)] true 0) fun g i=>qT i (.ptr g 0) 8 f fun l=>oq .i64 1 l (.ptr g 0) fun m o=>jy o 0 3 l fun p q=>ifB (mW p) (NG n kL jx kR jy k a1 (.ptr a 0) (.ptr g 0) true q) (faK 2 (.ptr g 0) fun r=>ldI .i64 q r fun s=>jy s 2 4096 q fun t u=>NG n kL jx kR jy k a1 (.ptr a 0) (.ptr g 0) (mW t) u)
def aja (n:Nat) (kL:ab) (jx:aa) (kR:aj) (jy:aq) (a0:AV) (a1:Int) (h:ad) (k:ae):ah:=aaW n kL jx kR jy k a0 a1 h
theorem aAk:DZ cf nJ n arR jS k0=ari n cf k0:=by funext s; kernel_rfl
theorem az9:lo ju (DZ (og kL jx kR jy) nJ n arR jS k0)=cmp ju (aja n kL jx kR jy) (kap jS k0):=(congrArg (lo ju) (aAk n (og kL jx kR jy) k0)).trans (show _=aaW n kL jx kR jy (kap jS k0) by obtain ⟨J7,u7⟩:=exi (Uv n (og kL jx kR jy) k0); delta ari aaW; rw [← aw0,u7]; kernel_rfl)
end
def fC (n:Nat):am:=aja n (eP n) (cT n) (eZ n) (cW n)
abbrev apu (g:ab):Wr:=wrT ju ji g
def auu (xG:am) (y9:am):aW:=pl [(apB,aoS xG),(arG,asm y9)]
section
variable (xG:am) (y9:am) (k0:Q0)
def awc:Q1:=(jB cf Lp xN (jB cf Lp asg (cJ p5 (jB cf Lp aaP (lP ji k0)) (jB cf Lp ar8 (cJ p10 (jB cf Lp aa2 (lP ji k0)) (jB cf Lp kz (lP ji k0)))))))
def ahl (n:Nat) (xG:am) (y9:am) (k:ar) (a0:AV) (a1:Int) (h:ad):ah:=Ad h a0 fun a b=>nq b (.ptr a 0) 17 true fun c=>xG c a1 b fun d e=>ifB (mW d) (k 110 e) (nq e (.ptr a 0) 17 true fun f=>y9 f a1 e fun g i=>ifB (mW g) (k 111 i) (k 0 i))
def ao9 (n:Nat) (xG:am) (y9:am) (a0:AV) (a1:Int) (h:ad) (k:ar):ah:=ahl n xG y9 k a0 a1 h
theorem aDU:DZ cf Lp n awA ji k0=awc cf k0:=by funext s; kernel_rfl
theorem aDK:lo ju (DZ (auu xG y9) Lp n awA ji k0)=cmp ju (ao9 n xG y9) (kap ji k0):=(congrArg (lo ju) (aDU n (auu xG y9) k0)).trans (show _=ahl n xG y9 (kap ji k0) by delta awc ahl; kernel_rfl)
end
def ez (n:Nat):ab:=ao9 n (ft n) (fC n)
abbrev ai2 (g:aq):Wr:=wrT nv kN g
def VS:aW:=pl []
section
variable (k0:Q0)
def T5:Q1:=(jB cf oa we (lP kN k0))
def MP (n:Nat) (k:ae) (v14:Bool) (h:ad):ah:=k v14 h
theorem axb:lo pd (T5 VS k0)=MP n (kap kN k0):=by delta T5 MP; kernel_rfl
def arF:Q1:=(jB cf oa mm (jB cf oa wg (kJ pd (T5 cf k0))))
def aaX (n:Nat) (k:ae) (a0:Int) (a1:Int) (a2:Int) (h:ad):ah:=ifB (mW (ltF a0 a1)) (MP n k (mW (ltF a2 a0)) h) (MP n k false h)
def aiS (n:Nat) (a0:Int) (a1:Int) (a2:Int) (h:ad) (k:ae):ah:=aaX n k a0 a1 a2 h
theorem az0:DZ cf oa n aru kN k0=arF cf k0:=by funext s; kernel_rfl
theorem az8:lo nv (DZ VS oa n aru kN k0)=cmp nv (aiS n) (kap kN k0):=(congrArg (lo nv) (az0 n VS k0)).trans (show _=aaX n (kap kN k0) by obtain ⟨J0,u0⟩:=exi (T5 VS k0); delta arF aaX; rw [← axb,u0]; kernel_rfl)
end
def et (n:Nat):aq:=aiS n
abbrev bL:=AV→Int→Int→ad→(Int→Int→ad→ah)→ah
abbrev aA:=Int→Int→ad→ah
abbrev arS (g:bL):Wr:=wrT lS nQ g
def Yc (jO:aj) (kP:aq):aW:=pl [(WV,X3 jO),(aiD,ai2 kP)]
section
variable (jO:aj) (kP:aq) (k0:Q0)
def T3:Q1:=(cJ p21 (jB cf CF GF (lP nQ k0)) (jB cf CF anE (lP nQ k0)))
def MM (n:Nat) (jO:aj) (kP:aq) (k:aA) (v1:Int) (v2:Int) (v3:AV) (v21:Bool) (h:ad):ah:=ifB v21 (k 0 2 h) (oK .i64 v1 v2 fun a=>NR .u64 a fun b=>oq .u64 4 h v3 fun c d=>Gb .u64 b d fun e=>k e 0 h)
theorem awX:lo acR (T3 (Yc jO kP) k0)=MM n jO kP (kap nQ k0):=by delta T3 MM; kernel_rfl
def ar4:Q1:=(jB cf CF Uh (jB cf CF anx (jB cf CF amM (cJ p12 (jB cf CF anz (lP nQ k0)) (jB cf CF anA (kJ acR (T3 cf k0)))))))
def aa0 (n:Nat) (jO:aj) (kP:aq) (k:aA) (a0:AV) (a1:Int) (a2:Int) (h:ad):ah:=Ad h a0 fun a b=>nq b (.ptr a 0) 6 true fun c=>jO c b fun d e=>ifB (mW (eqF d 0)) (k 0 d e) (kP a1 0 65536 e fun f g=>ifB (mW f) (MM n jO kP k a1 a2 (.ptr a 0) true g) (kP a2 0 64 g fun i l=>MM n jO kP k a1 a2 (.ptr a 0) (mW i) l))
def aiM (n:Nat) (jO:aj) (kP:aq) (a0:AV) (a1:Int) (a2:Int) (h:ad) (k:aA):ah:=aa0 n jO kP k a0 a1 a2 h
theorem aAi:DZ cf CF n ar9 nQ k0=ar4 cf k0:=by funext s; kernel_rfl
theorem az3:lo lS (DZ (Yc jO kP) CF n ar9 nQ k0)=cmp lS (aiM n jO kP) (kap nQ k0):=(congrArg (lo lS) (aAi n (Yc jO kP) k0)).trans (show _=aa0 n jO kP (kap nQ k0) by obtain ⟨J0,u0⟩:=exi (T3 (Yc jO kP) k0); delta ar4 aa0; rw [← awX,u0]; kernel_rfl)
end
def eS (n:Nat):bL:=aiM n (da n) (et n)
abbrev aV:=AV→AV→ad→(Int→ad→ah)→ah
abbrev atB (g:aV):Wr:=wrT lR ji g
def sm (jO:aj) (kP:aq):aW:=pl [(WV,X3 jO),(aiD,ai2 kP)]
abbrev gh:Type:=AV→Bool→Int→ad→ah
section
variable (jO:aj) (kP:aq) (k0:Q0)
def XE:Q1:=(cJ p44 (jB cf rz aqd (lP ji k0)) (jB cf rz kz (lP ji k0)))
def Qu (n:Nat) (jO:aj) (kP:aq) (k:ar) (v44:Bool) (h:ad):ah:=ifB v44 (k 2 h) (k 0 h)
theorem ax3:lo EU (XE (sm jO kP) k0)=Qu n jO kP (kap ji k0):=by delta XE Qu; kernel_rfl
def WS:Q1:=(jB cf rz ap8 (kJ EU (XE cf k0)))
def PJ (n:Nat) (jO:aj) (kP:aq) (k:ar) (v3:AV) (v38:Bool) (h:ad):ah:=ifB v38 (Qu n jO kP k true h) (faK 3 v3 fun a=>ldI .i64 h a fun b=>kP b 1 4096 h fun c d=>Qu n jO kP k (mW c) d)
theorem ax0:lo afA (WS (sm jO kP) k0)=PJ n jO kP (kap ji k0):=by obtain ⟨J2,u2⟩:=exi (XE (sm jO kP) k0); delta WS PJ; rw [← ax3,u2]; kernel_rfl
def XM:Q1:=(jB cf rz aql (kJ afA (WS cf k0)))
def Pr (n:Nat) (jO:aj) (kP:aq) (k:ar) (v3:AV) (v32:Bool) (h:ad):ah:=ifB v32 (PJ n jO kP k v3 true h) (faK 2 v3 fun a=>ldI .i64 h a fun b=>kP b 1 5120 h fun c d=>PJ n jO kP k v3 (mW c) d)
theorem ayk:lo af7 (XM (sm jO kP) k0)=Pr n jO kP (kap ji k0):=by obtain ⟨J1,u1⟩:=exi (WS (sm jO kP) k0); delta XM Pr; rw [← ax0,u1]; kernel_rfl
def W7:Q1:=(jB cf rz aoF (kJ af7 (XM cf k0)))
def Pq (n:Nat) (jO:aj) (kP:aq) (k:ar) (v3:AV) (v6:Bool) (h:ad):ah:=ifB (mW v6) (Pr n jO kP k v3 true h) (faK 1 v3 fun a=>ldI .i64 h a fun b=>kP b 2 4096 h fun c d=>Pr n jO kP k v3 (mW c) d)
theorem ayX:lo afn (W7 (sm jO kP) k0)=Pq n jO kP (kap ji k0):=by obtain ⟨J0,u0⟩:=exi (XM (sm jO kP) k0); delta W7 Pq; rw [← ayk,u0]; kernel_rfl
def Wy (J4:Q1):Q1:=(jB cf rz apw (jB cf rz ap7 (kJ CM J4)))
def PR (n:Nat) (jO:aj) (kP:aq) (k:ar) (j4:gh) (v3:AV) (v13:Int) (v23:Bool) (h:ad):ah:=oK .i64 v13 1 fun a=>j4 v3 v23 a h
theorem ays (J4:Q1):lo afC (Wy (sm jO kP) J4)=PR n jO kP (kap ji k0) (lo CM J4):=by delta Wy PR; kernel_rfl
def af8 (J4:Q1):Q1:=(jB cf rz apT (cJ p14 (jB cf rz apf (jB cf rz aoD (kJ afC (Wy cf J4)))) (kJ afn (W7 cf k0))))
def Qm (n:Nat) (jO:aj) (kP:aq) (k:ar) (j4:gh) (v3:AV) (v6:Bool) (v13:Int) (h:ad):ah:=ifB (ltF v13 4) (ifB v6 (PR n jO kP k j4 v3 v13 true h) (faK 0 v3 fun a=>ldI .i64 h a fun b=>ak4 .i64 1 v13 fun c=>PR n jO kP k j4 v3 v13 (eqF b c) h)) (Pq n jO kP k v3 v6 h)
def agw:Nat→Q1:=lpS (af8 cf k0)
def Qr (n:Nat) (jO:aj) (kP:aq) (k:ar):Nat→gh:=lpF CM (Qm n jO kP k)
theorem ayQ (k:ar) (m:Nat):Qr n jO kP k (m+1)=Qm n jO kP k (Qr n jO kP k m):=rfl
theorem ayN (m:Nat):lo CM (agw (sm jO kP) k0 m)=Qr n jO kP (kap ji k0) m:=sY (fun J4=>(by obtain ⟨J3,u3⟩:=exi (W7 (sm jO kP) k0); obtain ⟨J5,u5⟩:=exi (Wy (sm jO kP) J4); delta af8 Qm; rw [← ayX,u3, ← ays,u5]; kernel_rfl:lo CM (af8 (sm jO kP) k0 J4)=Qm n jO kP (kap ji k0) (lo CM J4))) m
def atg:Q1:=(jB cf rz amT (jB cf rz am0 (jB cf rz anB (cJ p11 (jB cf rz am2 (lP ji k0)) (jB cf rz mm (jB cf rz amY (kJ CM (agw cf k0 n))))))))
def ae8 (n:Nat) (jO:aj) (kP:aq) (k:ar) (a0:AV) (a1:AV) (h:ad):ah:=Ad h a0 fun a b=>Ad b a1 fun c d=>nq d (.ptr a 0) 6 true fun e=>jO e d fun f g=>ifB (mW (eqF f 0)) (k f g) (Qr n jO kP k n (.ptr c 0) false 0 g)
def amm (n:Nat) (jO:aj) (kP:aq) (a0:AV) (a1:AV) (h:ad) (k:ar):ah:=ae8 n jO kP k a0 a1 h
theorem aBq:DZ cf rz n att ji k0=atg n cf k0:=by funext s; kernel_rfl
theorem aBG:lo lR (DZ (sm jO kP) rz n att ji k0)=cmp lR (amm n jO kP) (kap ji k0):=(congrArg (lo lR) (aBq n (sm jO kP) k0)).trans (show _=ae8 n jO kP (kap ji k0) by obtain ⟨J4,u4⟩:=exi (agw (sm jO kP) k0 n); delta atg ae8; rw [← ayN,u4]; kernel_rfl)
end
def fd (n:Nat):aV:=amm n (da n) (et n)
abbrev eo:=AV→AV→ad→(AV→ad→ah)→ah
abbrev az:=AV→ad→ah
abbrev arj (g:eo):Wr:=wrT lR N0 g
def aqh:aW:=pl []
section
variable (k0:Q0)
def asd:Q1:=(jB cf xA amV (jB cf xA am4 (jB cf xA ani (jB cf xA ano (jB cf xA amP (jB cf xA anr (jB cf xA am6 (jB cf xA anm (jB cf xA am1 (lP N0 k0))))))))))
def aaG (n:Nat) (k:az) (a0:AV) (a1:AV) (h:ad):ah:=Ad h a0 fun a b=>Ad b a1 fun c d=>Jr d (.cells [.nilfunc,.nilfunc,.nilfunc,.nilfunc,.nilfunc,.nilfunc,.nilfunc,.nilfunc,.nilfunc,.nilfunc,.nilfunc] true 0) fun e f=>oq .u64 2 f (.ptr a 0) fun g i=>Jr f (.cells [(.int .u64 0)] true 0) fun l m=>qT m (.ptr l 0) 1 (.int .u64 i) fun o=>oq .u64 4 o (.ptr a 0) fun p q=>ldI .u64 o (.ptr l 0) fun r=>Gb .u64 2 r fun s=>oK .u64 q s fun t=>Jr o (.cells [(.int .u64 0)] true 0) fun u w=>qT w (.ptr u 0) 1 (.int .u64 t) fun x=>oq .i64 2 x (.ptr c 0) fun y z=>NR .u64 z fun A=>ldI .u64 x (.ptr u 0) fun B=>Gb .u64 A B fun C=>Jr x (.cells [(.int .u64 0)] true 0) fun E F=>qT F (.ptr E 0) 1 (.int .u64 C) fun G=>oq .i64 1 G (.ptr c 0) fun I K=>NR .u64 K fun L=>Gb .u64 2 L fun M=>oK .u64 M 1 fun N=>oq .u64 4 G (.ptr a 0) fun O P=>Gb .u64 N P fun Q=>oq .u64 5 G (.ptr a 0) fun R S=>oK .u64 Q S fun T=>Jr G (.cells [(.int .u64 0)] true 0) fun U V=>qT V (.ptr U 0) 1 (.int .u64 T) fun X=>Jr X (.cells [.nilfunc] true 0) fun Y Z=>qT Z (.ptr Y 0) 1 (.func 119 [] [(.ptr l 0)]) fun qa=>Jr qa (.cells [.nilfunc] true 0) fun qb qc=>qT qc (.ptr qb 0) 1 (.func 120 [] [(.ptr u 0)]) fun qd=>nq qd (.ptr Y 0) 1 false fun qe=>nq qd (.ptr qb 0) 1 false fun qf=>
 uK [.nilfunc,.nilfunc,.nilfunc,.nilfunc,.nilfunc,.nilfunc,.nilfunc,.nilfunc,.nilfunc,.nilfunc,.nilfunc] [(0,1,(.func 121 [] [])),(1,1,(.func 122 [] [(.ptr l 0)])),(2,1,(.func 123 [] [(.ptr E 0),(.ptr l 0)])),(3,1,(.func 124 [] [(.ptr l 0),(.ptr c 0),(.ptr E 0)])),(4,1,qe),(5,1,qf),(6,1,(.func 125 [] [(.ptr a 0),(.ptr l 0)])),(7,1,(.func 126 [] [(.ptr Y 0),(.ptr qb 0)])),(8,1,(.func 127 [] [(.ptr l 0),(.ptr a 0),(.ptr U 0)])),(9,1,(.func 128 [] [(.ptr l 0),(.ptr a 0),(.ptr U 0)])),(10,1,(.func 121 [] []))] fun qg=>qT qd (.ptr e 0) 11 qg fun qi=>nq qi (.ptr e 0) 11 true fun ql=>k ql qi
def aiu (n:Nat) (a0:AV) (a1:AV) (h:ad) (k:az):ah:=aaG n k a0 a1 h
theorem aAo:DZ cf xA n ash N0 k0=asd cf k0:=by funext s; kernel_rfl
theorem azW:lo lR (DZ aqh xA n ash N0 k0)=cmp lR (aiu n) (kap N0 k0):=(congrArg (lo lR) (aAo n aqh k0)).trans (show _=aaG n (kap N0 k0) by delta asd aaG; kernel_rfl)
end
def eV (n:Nat):eo:=aiu n
abbrev Zy (g:aj):Wr:=wrT jN oz g
def ahx:aW:=pl []
section
variable (k0:Q0)
def ala:Q1:=(jB cf rZ BE (jB cf rZ afL (lP oz k0)))
def Rr (n:Nat) (k:ar) (a0:AV) (h:ad):ah:=ldI .u64 h a0 fun a=>Gb .u64 113 a fun b=>k b h
def ZK (n:Nat) (a0:AV) (h:ad) (k:ar):ah:=Rr n k a0 h
theorem avW:DZ cf rZ n akk oz k0=ala cf k0:=by funext s; kernel_rfl
theorem au4:lo jN (DZ ahx rZ n akk oz k0)=cmp jN (ZK n) (kap oz k0):=(congrArg (lo jN) (avW n ahx k0)).trans (show _=Rr n (kap oz k0) by delta ala Rr; kernel_rfl)
end
def cM (n:Nat):aj:=ZK n
abbrev aaa (g:aj):Wr:=wrT jN oz g
def ahp:aW:=pl []
section
variable (k0:Q0)
def ajV:Q1:=(jB cf rZ BE (jB cf rZ afu (lP oz k0)))
def QC (n:Nat) (k:ar) (a0:AV) (h:ad):ah:=ldI .u64 h a0 fun a=>Gb .u64 64 a fun b=>k b h
def Z9 (n:Nat) (a0:AV) (h:ad) (k:ar):ah:=QC n k a0 h
theorem au5:DZ cf rZ n ajM oz k0=ajV cf k0:=by funext s; kernel_rfl
theorem avr:lo jN (DZ ahp rZ n ajM oz k0)=cmp jN (Z9 n) (kap oz k0):=(congrArg (lo jN) (au5 n ahp k0)).trans (show _=QC n (kap oz k0) by delta ajV QC; kernel_rfl)
end
def cQ (n:Nat):aj:=Z9 n
abbrev cE:=ad→(Int→ad→ah)→ah
abbrev ZU (g:cE):Wr:=wrT kV ET g
def ahS:aW:=pl []
section
variable (k0:Q0)
def akF:Q1:=(jB cf Q8 L3 (jB cf Q8 L3 (lP ET k0)))
def Zu (n:Nat) (k:ar) (h:ad):ah:=k 0 h
def ak2 (n:Nat) (h:ad) (k:ar):ah:=Zu n k h
theorem avB:DZ cf Q8 n ajB ET k0=akF cf k0:=by funext s; kernel_rfl
theorem avF:lo kV (DZ ahS Q8 n ajB ET k0)=cmp kV (ak2 n) (kap ET k0):=(congrArg (lo kV) (avB n ahS k0)).trans (show _=Zu n (kap ET k0) by delta akF Zu; kernel_rfl)
end
def dv (n:Nat):cE:=ak2 n
abbrev ZA (g:aj):Wr:=wrT jN oz g
def ahF:aW:=pl []
section
variable (k0:Q0)
def ajx:Q1:=(jB cf rZ BE (jB cf rZ afH (lP oz k0)))
def Rt (n:Nat) (k:ar) (a0:AV) (h:ad):ah:=ldI .u64 h a0 fun a=>Gb .u64 17 a fun b=>k b h
def aay (n:Nat) (a0:AV) (h:ad) (k:ar):ah:=Rt n k a0 h
theorem av8:DZ cf rZ n alc oz k0=ajx cf k0:=by funext s; kernel_rfl
theorem au3:lo jN (DZ ahF rZ n alc oz k0)=cmp jN (aay n) (kap oz k0):=(congrArg (lo jN) (av8 n ahF k0)).trans (show _=Rt n (kap oz k0) by delta ajx Rt; kernel_rfl)
end
def db (n:Nat):aj:=aay n
abbrev aaC (g:aV):Wr:=wrT lR ov g
def ah1:aW:=pl []
section
variable (k0:Q0)
def ajo:Q1:=(jB cf QV BA (jB cf QV afS (lP ov k0)))
def QG (n:Nat) (k:ar) (a0:AV) (a1:AV) (h:ad):ah:=ldI .u64 h a0 fun a=>ldI .u64 h a1 fun b=>oK .u64 a b fun c=>k c h
def aat (n:Nat) (a0:AV) (a1:AV) (h:ad) (k:ar):ah:=QG n k a0 a1 h
theorem au1:DZ cf QV n ajr ov k0=ajo cf k0:=by funext s; kernel_rfl
theorem av4:lo lR (DZ ah1 QV n ajr ov k0)=cmp lR (aat n) (kap ov k0):=(congrArg (lo lR) (au1 n ah1 k0)).trans (show _=QG n (kap ov k0) by delta ajo QG; kernel_rfl)
end
def dc (n:Nat):aV:=aat n
abbrev aO:=AV→AV→AV→ad→(Int→ad→ah)→ah
abbrev aas (g:aO):Wr:=wrT sd ou g
def ahA:aW:=pl []
section
variable (k0:Q0)
def ajI:Q1:=(jB cf QI Bk (jB cf QI af6 (lP ou k0)))
def QJ (n:Nat) (k:ar) (a0:AV) (a1:AV) (a2:AV) (h:ad):ah:=ldI .u64 h a0 fun a=>oq .i64 3 h a1 fun b c=>NR .u64 c fun d=>Gb .u64 16 d fun e=>ldI .u64 h a0 fun f=>Gb .u64 e f fun g=>oK .u64 a g fun i=>ldI .u64 h a2 fun l=>oK .u64 i l fun m=>k m h
def ZZ (n:Nat) (a0:AV) (a1:AV) (a2:AV) (h:ad) (k:ar):ah:=QJ n k a0 a1 a2 h
theorem avj:DZ cf QI n akE ou k0=ajI cf k0:=by funext s; kernel_rfl
theorem avp:lo sd (DZ ahA QI n akE ou k0)=cmp sd (ZZ n) (kap ou k0):=(congrArg (lo sd) (avj n ahA k0)).trans (show _=QJ n (kap ou k0) by delta ajI QJ; kernel_rfl)
end
def dh (n:Nat):aO:=ZZ n
abbrev aaD (g:aV):Wr:=wrT lR ov g
def ah4:aW:=pl []
section
variable (k0:Q0)
def akl:Q1:=(jB cf QS BA (jB cf QS agJ (lP ov k0)))
def QH (n:Nat) (k:ar) (a0:AV) (a1:AV) (h:ad):ah:=oq .u64 4 h a0 fun a b=>ldI .u64 h a1 fun c=>oK .u64 b c fun d=>Gb .u64 64 d fun e=>ldI .u64 h a1 fun f=>oK .u64 e f fun g=>k g h
def aac (n:Nat) (a0:AV) (a1:AV) (h:ad) (k:ar):ah:=QH n k a0 a1 h
theorem avT:DZ cf QS n ajF ov k0=akl cf k0:=by funext s; kernel_rfl
theorem avK:lo lR (DZ ah4 QS n ajF ov k0)=cmp lR (aac n) (kap ov k0):=(congrArg (lo lR) (avT n ah4 k0)).trans (show _=QH n (kap ov k0) by delta akl QH; kernel_rfl)
end
def di (n:Nat):aV:=aac n
abbrev ZI (g:aO):Wr:=wrT sd ou g
def aia:aW:=pl []
section
variable (k0:Q0)
def akh:Q1:=(jB cf QW Bk (jB cf QW agm (lP ou k0)))
def Rm (n:Nat) (k:ar) (a0:AV) (a1:AV) (a2:AV) (h:ad):ah:=ldI .u64 h a0 fun a=>Gb .u64 26 a fun b=>oq .u64 3 h a1 fun c d=>oK .u64 b d fun e=>ldI .u64 h a2 fun f=>oK .u64 e f fun g=>oq .u64 5 h a1 fun i l=>oK .u64 g l fun m=>k m h
def Zv (n:Nat) (a0:AV) (a1:AV) (a2:AV) (h:ad) (k:ar):ah:=Rm n k a0 a1 a2 h
theorem av9:DZ cf QW n akP ou k0=akh cf k0:=by funext s; kernel_rfl
theorem av2:lo sd (DZ aia QW n akP ou k0)=cmp sd (Zv n) (kap ou k0):=(congrArg (lo sd) (av9 n aia k0)).trans (show _=Rm n (kap ou k0) by delta akh Rm; kernel_rfl)
end
def dg (n:Nat):aO:=Zv n
abbrev Xs (g:aO):Wr:=wrT sd ou g
def agH:aW:=pl []
section
variable (k0:Q0)
def ahX:Q1:=(jB cf OI Bk (jB cf OI adK (lP ou k0)))
def OP (n:Nat) (k:ar) (a0:AV) (a1:AV) (a2:AV) (h:ad):ah:=ldI .u64 h a0 fun a=>Gb .u64 64 a fun b=>oq .u64 3 h a1 fun c d=>Gb .u64 2 d fun e=>oK .u64 b e fun f=>ldI .u64 h a2 fun g=>Gb .u64 2 g fun i=>oK .u64 f i fun l=>oq .u64 5 h a1 fun m o=>oK .u64 l o fun p=>k p h
def Xj (n:Nat) (a0:AV) (a1:AV) (a2:AV) (h:ad) (k:ar):ah:=OP n k a0 a1 a2 h
theorem ath:DZ cf OI n ahQ ou k0=ahX cf k0:=by funext s; kernel_rfl
theorem atR:lo sd (DZ agH OI n ahQ ou k0)=cmp sd (Xj n) (kap ou k0):=(congrArg (lo sd) (ath n agH k0)).trans (show _=OP n (kap ou k0) by delta ahX OP; kernel_rfl)
end
def cR (n:Nat):aO:=Xj n
abbrev akC (g:aV):Wr:=wrT lR ov g
def Ds (lA:aj) (lE:aj) (lF:cE) (lw:aj) (lp:aV) (lD:aO) (lu:aV) (lz:aO) (lf:aO):aW:=pl [(wm,Zy lA),(wE,aaa lE),(Ji,ZU lF),(Ri,ZA lw),(Rb,aaC lp),(Rd,aas lD),(Rf,aaD lu),(QZ,ZI lz),(OC,Xs lf)]
section
variable (lA:aj) (lE:aj) (lF:cE) (lw:aj) (lp:aV) (lD:aO) (lu:aV) (lz:aO) (lf:aO) (k0:Q0)
def ajl:Q1:=(jB cf Q7 BA (jB cf Q7 af5 (lP ov k0)))
def Q6 (n:Nat) (lA:aj) (lE:aj) (lF:cE) (lw:aj) (lp:aV) (lD:aO) (lu:aV) (lz:aO) (lf:aO) (k:ar) (a0:AV) (a1:AV) (h:ad):ah:=nq h a0 1 false fun a=>Ds lA lE lF lw lp lD lu lz lf a [] (h.shut true) fun b c=>ac0 .u64 b fun d=>nq (c.back h.ro) a1 1 false fun e=>Ds lA lE lF lw lp lD lu lz lf e [] (c.back h.ro) fun f g=>ac0 .u64 f fun i=>Ui true [(.int .u64 d),(.int .u64 i)] fun l=>ac0 .u64 l fun m=>k m g
def Z7 (n:Nat) (lA:aj) (lE:aj) (lF:cE) (lw:aj) (lp:aV) (lD:aO) (lu:aV) (lz:aO) (lf:aO) (a0:AV) (a1:AV) (h:ad) (k:ar):ah:=Q6 n lA lE lF lw lp lD lu lz lf k a0 a1 h
theorem avx:DZ cf Q7 n ajS ov k0=ajl cf k0:=by funext s; kernel_rfl
theorem avo:lo lR (DZ (Ds lA lE lF lw lp lD lu lz lf) Q7 n ajS ov k0)=cmp lR (Z7 n lA lE lF lw lp lD lu lz lf) (kap ov k0):=(congrArg (lo lR) (avx n (Ds lA lE lF lw lp lD lu lz lf) k0)).trans (show _=Q6 n lA lE lF lw lp lD lu lz lf (kap ov k0) by delta ajl Q6; kernel_rfl)
end
def d6 (n:Nat):aV:=Z7 n (cM n) (cQ n) (dv n) (db n) (dc n) (dh n) (di n) (dg n) (cR n)
abbrev bV:=AV→AV→ad→(Int→Int→ad→ah)→ah
abbrev awi (g:bV):Wr:=wrT lR rD g
def Eo (nU:aV) (nr:eo) (lA:aj) (lE:aj) (lF:cE) (lw:aj) (lp:aV) (lD:aO) (lu:aV) (my:aV) (lz:aO) (lf:aO):aW:=pl [(aue,atB nU),(ark,arj nr),(wm,Zy lA),(wE,aaa lE),(Ji,ZU lF),(Ri,ZA lw),(Rb,aaC lp),(Rd,aas lD),(Rf,aaD lu),(Z5,akC my),(QZ,ZI lz),(OC,Xs lf)]
abbrev arW:Type:=AV→AV→Int→AV→Int→ad→ah
section
variable (nU:aV) (nr:eo) (lA:aj) (lE:aj) (lF:cE) (lw:aj) (lp:aV) (lD:aO) (lu:aV) (my:aV) (lz:aO) (lf:aO) (k0:Q0)
def aaK:Q1:=(jB cf yM aro (lP rD k0))
def aaM (n:Nat) (nU:aV) (nr:eo) (lA:aj) (lE:aj) (lF:cE) (lw:aj) (lp:aV) (lD:aO) (lu:aV) (my:aV) (lz:aO) (lf:aO) (k:aA) (v2:AV) (v3:AV) (v7:Int) (h:ad):ah:=oq .i64 0 h v3 fun a b=>NR .u64 b fun c=>oq .u64 2 h v2 fun d e=>Gb .u64 c e fun f=>oK .u64 f v7 fun g=>k g 0 h
theorem azR:lo aiZ (aaK (Eo nU nr lA lE lF lw lp lD lu my lz lf) k0)=aaM n nU nr lA lE lF lw lp lD lu my lz lf (kap rD k0):=by delta aaK aaM; kernel_rfl
def aiE (J1:Q1):Q1:=(jB cf yM arh (cJ p20 (jB cf yM arT (jB cf yM ar1 (jB cf yM asn (kJ HM J1)))) (kJ aiZ (aaK cf k0))))
def TM (n:Nat) (nU:aV) (nr:eo) (lA:aj) (lE:aj) (lF:cE) (lw:aj) (lp:aV) (lD:aO) (lu:aV) (my:aV) (lz:aO) (lf:aO) (k:aA) (j1:arW) (v2:AV) (v3:AV) (v7:Int) (v18:AV) (v19:Int) (h:ad):ah:=ifB (ltF v19 11) (apC 1 11 false v18 v19 fun a=>Eo nU nr lA lE lF lw lp lD lu my lz lf a [] h fun b c=>ac0 .u64 b fun d=>Ui true [(.int .u64 v7),(.int .u64 d)] fun e=>ac0 .u64 e fun f=>oK .i64 v19 1 fun g=>j1 v2 v3 f v18 g c) (aaM n nU nr lA lE lF lw lp lD lu my lz lf k v2 v3 v7 h)
def ajf:Nat→Q1:=lpS (aiE cf k0)
def TI (n:Nat) (nU:aV) (nr:eo) (lA:aj) (lE:aj) (lF:cE) (lw:aj) (lp:aV) (lD:aO) (lu:aV) (my:aV) (lz:aO) (lf:aO) (k:aA):Nat→arW:=lpF HM (TM n nU nr lA lE lF lw lp lD lu my lz lf k)
theorem azU (k:aA) (m:Nat):TI n nU nr lA lE lF lw lp lD lu my lz lf k (m+1)=TM n nU nr lA lE lF lw lp lD lu my lz lf k (TI n nU nr lA lE lF lw lp lD lu my lz lf k m):=rfl
theorem az5 (m:Nat):lo HM (ajf (Eo nU nr lA lE lF lw lp lD lu my lz lf) k0 m)=TI n nU nr lA lE lF lw lp lD lu my lz lf (kap rD k0) m:=sY (fun J1=>(by obtain ⟨J0,u0⟩:=exi (aaK (Eo nU nr lA lE lF lw lp lD lu my lz lf) k0); delta aiE TM; rw [← azR,u0]; kernel_rfl:lo HM (aiE (Eo nU nr lA lE lF lw lp lD lu my lz lf) k0 J1)=TM n nU nr lA lE lF lw lp lD lu my lz lf (kap rD k0) (lo HM J1))) m
def awP:Q1:=(jB cf yM VO (jB cf yM arO (jB cf yM arM (cJ p14 (jB cf yM asl (lP rD k0)) (jB cf yM arq (jB cf yM arX (kJ HM (ajf cf k0 n))))))))
def ahI (n:Nat) (nU:aV) (nr:eo) (lA:aj) (lE:aj) (lF:cE) (lw:aj) (lp:aV) (lD:aO) (lu:aV) (my:aV) (lz:aO) (lf:aO) (k:aA) (a0:AV) (a1:AV) (h:ad):ah:=Ad h a0 fun a b=>Ad b a1 fun c d=>nq d (.ptr a 0) 6 true fun e=>nq d (.ptr c 0) 4 true fun f=>nU e f d fun g i=>ifB (mW (eqF g 0)) (k 0 g i) (nq i (.ptr a 0) 6 true fun l=>nq i (.ptr c 0) 4 true fun m=>nr l m i fun o p=>TI n nU nr lA lE lF lw lp lD lu my lz lf k n (.ptr a 0) (.ptr c 0) 0 o 0 p)
def apd (n:Nat) (nU:aV) (nr:eo) (lA:aj) (lE:aj) (lF:cE) (lw:aj) (lp:aV) (lD:aO) (lu:aV) (my:aV) (lz:aO) (lf:aO) (a0:AV) (a1:AV) (h:ad) (k:aA):ah:=ahI n nU nr lA lE lF lw lp lD lu my lz lf k a0 a1 h
theorem aD6:DZ cf yM n awL rD k0=awP n cf k0:=by funext s; kernel_rfl
theorem aDA:lo lR (DZ (Eo nU nr lA lE lF lw lp lD lu my lz lf) yM n awL rD k0)=cmp lR (apd n nU nr lA lE lF lw lp lD lu my lz lf) (kap rD k0):=(congrArg (lo lR) (aD6 n (Eo nU nr lA lE lF lw lp lD lu my lz lf) k0)).trans (show _=ahI n nU nr lA lE lF lw lp lD lu my lz lf (kap rD k0) by obtain ⟨J1,u1⟩:=exi (ajf (Eo nU nr lA lE lF lw lp lD lu my lz lf) k0 n); delta awP ahI; rw [← az5,u1]; kernel_rfl)
end
def fq (n:Nat):bV:=apd n (fd n) (eV n) (cM n) (cQ n) (dv n) (db n) (dc n) (dh n) (di n) (d6 n) (dg n) (cR n)
abbrev bP:=AV→Int→ad→(AV→ad→ah)→ah
abbrev atT (g:bP):Wr:=wrT ju xT g
def asa:aW:=pl []
section
variable (k0:Q0)
def atj:Q1:=(jB cf QK Wg (jB cf QK apk (jB cf QK apF (jB cf QK apY (lP xT k0)))))
def aeP (n:Nat) (k:az) (a0:AV) (a1:Int) (h:ad):ah:=Ad h a0 fun a b=>Jr b (.cells [(.int .i64 0),(.int .i64 0),(.int .i64 0),(.int .i64 0)] true 0) fun c d=>fld 16 d (.ptr a 0) 1 false fun e f=>eld 8 d f a1 8 true fun g i=>Jr d (.cells [.nilslice,(.int .i64 0),(.int .i64 0),(.int .i64 0),(.int .i64 0),(.int .i64 0),(.int .i64 0),(.int .i64 0)] true 0) fun l m=>qT m (.ptr l 0) 8 i fun o=>oq .i64 1 o (.ptr l 0) fun p q=>ak4 .i64 1 q fun r=>oq .i64 2 o (.ptr l 0) fun s t=>oq .i64 2 o (.ptr l 0) fun u w=>oq .i64 7 o (.ptr l 0) fun x y=>oK .i64 w y fun z=>amc .i64 z 1 fun A=>oq .i64 6 o (.ptr l 0) fun B C=>Gb .i64 16 C fun E=>Ui false [(.int .i64 A),(.int .i64 E)] fun F=>ac0 .i64 F fun G=>oq .i64 3 o (.ptr l 0) fun I K=>uK [(.int .i64 0),(.int .i64 0),(.int .i64 0),(.int .i64 0)] [(0,1,(.int .i64 r)),(1,1,(.int .i64 t)),(2,1,(.int .i64 G)),(3,1,(.int .i64 K))] fun L=>qT o (.ptr c 0) 4 L fun M=>nq M (.ptr c 0) 4 true fun N=>k N M
def amr (n:Nat) (a0:AV) (a1:Int) (h:ad) (k:az):ah:=aeP n k a0 a1 h
theorem aCw:DZ cf QK n atP xT k0=atj cf k0:=by funext s; kernel_rfl
theorem aCz:lo ju (DZ asa QK n atP xT k0)=cmp ju (amr n) (kap xT k0):=(congrArg (lo ju) (aCw n asa k0)).trans (show _=aeP n (kap xT k0) by delta atj aeP; kernel_rfl)
end
def fb (n:Nat):bP:=amr n
abbrev arB (g:aa):Wr:=wrT jN jp g
def oh (jx:aa) (jO:aj) (kH:ab) (kQ:bL) (k8:bV) (kT:bP):aW:=pl [(WK,Xu jx),(WV,X3 jO),(aoE,apu kH),(ar2,arS kQ),(awE,awi k8),(auE,atT kT)]
section
variable (jx:aa) (jO:aj) (kH:ab) (kQ:bL) (k8:bV) (kT:bP) (k0:Q0)
def Up:Q1:=(jB cf pe pS (lP jp k0))
def Ux (n:Nat) (jx:aa) (jO:aj) (kH:ab) (kQ:bL) (k8:bV) (kT:bP) (k:ae) (h:ad):ah:=k true h
theorem aw7:lo kV (Up (oh jx jO kH kQ k8 kT) k0)=Ux n jx jO kH kQ k8 kT (kap jp k0):=by delta Up Ux; kernel_rfl
def GA (J1:Q1):Q1:=(jB cf pe ann (kJ rX J1))
def GB (n:Nat) (jx:aa) (jO:aj) (kH:ab) (kQ:bL) (k8:bV) (kT:bP) (k:ae) (j1:ck) (v1:AV) (v58:Int) (v59:Int) (h:ad):ah:=oK .i64 v59 1 fun a=>j1 v1 v58 a h
theorem anH (J1:Q1):lo rX (GA (oh jx jO kH kQ k8 kT) J1)=GB n jx jO kH kQ k8 kT (kap jp k0) (lo rX J1):=by delta GA GB; kernel_rfl
def Un (J1:Q1):Q1:=(cJ p82 (jB cf pe lW (lP jp k0)) (kJ rX (GA cf J1)))
def MH (n:Nat) (jx:aa) (jO:aj) (kH:ab) (kQ:bL) (k8:bV) (kT:bP) (k:ae) (j1:ck) (v1:AV) (v58:Int) (v59:Int) (v82:Bool) (h:ad):ah:=ifB v82 (k false h) (GB n jx jO kH kQ k8 kT k j1 v1 v58 v59 h)
theorem axi (J1:Q1):lo ac4 (Un (oh jx jO kH kQ k8 kT) k0 J1)=MH n jx jO kH kQ k8 kT (kap jp k0) (lo rX J1):=by obtain ⟨J2,u2⟩:=exi (GA (oh jx jO kH kQ k8 kT) J1); delta Un MH; rw [← anH,u2]; kernel_rfl
def adg (J1:Q1):Q1:=(jB cf pe Ub (cJ p60 (jB cf pe amU (jB cf pe amN (cJ p65 (kJ rX (GA cf J1)) (jB cf pe amW (jB cf pe am5 (kJ ac4 (Un cf k0 J1))))))) (kJ kV (Up cf k0))))
def M8 (n:Nat) (jx:aa) (jO:aj) (kH:ab) (kQ:bL) (k8:bV) (kT:bP) (k:ae) (j1:ck) (v1:AV) (v58:Int) (v59:Int) (h:ad):ah:=ifB (ltF v59 v58) (nq h v1 17 true fun a=>kH a v59 h fun b c=>ifB (mW (eqF b 0)) (GB n jx jO kH kQ k8 kT k j1 v1 v58 v59 c) (fld 6 c v1 6 true fun d e=>nq c v1 17 true fun f=>kT f v59 (c.shut true) fun g i=>k8 e g (i.back c.ro) fun l m o=>ifB (mW (eqF m 0)) (MH n jx jO kH kQ k8 kT k j1 v1 v58 v59 true o) (faK 12 v1 fun p=>ldI .u64 o p fun q=>MH n jx jO kH kQ k8 kT k j1 v1 v58 v59 (ltF q l) o))) (Ux n jx jO kH kQ k8 kT k h)
def ads:Nat→Q1:=lpS (adg cf k0)
def GI (n:Nat) (jx:aa) (jO:aj) (kH:ab) (kQ:bL) (k8:bV) (kT:bP) (k:ae):Nat→ck:=lpF rX (M8 n jx jO kH kQ k8 kT k)
theorem axx (k:ae) (m:Nat):GI n jx jO kH kQ k8 kT k (m+1)=M8 n jx jO kH kQ k8 kT k (GI n jx jO kH kQ k8 kT k m):=rfl
theorem axm (m:Nat):lo rX (ads (oh jx jO kH kQ k8 kT) k0 m)=GI n jx jO kH kQ k8 kT (kap jp k0) m:=sY (fun J1=>(by obtain ⟨J0,u0⟩:=exi (Up (oh jx jO kH kQ k8 kT) k0); obtain ⟨J2,u2⟩:=exi (GA (oh jx jO kH kQ k8 kT) J1); obtain ⟨J3,u3⟩:=exi (Un (oh jx jO kH kQ k8 kT) k0 J1); delta adg M8; rw [← aw7,u0, ← anH,u2, ← axi,u3]; kernel_rfl:lo rX (adg (oh jx jO kH kQ k8 kT) k0 J1)=M8 n jx jO kH kQ k8 kT (kap jp k0) (lo rX J1))) m
def T8:Q1:=(cJ p55 (jB cf pe lW (lP jp k0)) (jB cf pe ang (kJ rX (ads cf k0 n))))
def MJ (n:Nat) (jx:aa) (jO:aj) (kH:ab) (kQ:bL) (k8:bV) (kT:bP) (k:ae) (v1:AV) (v55:Bool) (h:ad):ah:=ifB v55 (k false h) (fld 16 h v1 1 false fun a b=>mX b fun c=>GI n jx jO kH kQ k8 kT k n v1 c 0 h)
theorem axd:lo adq (T8 n (oh jx jO kH kQ k8 kT) k0)=MJ n jx jO kH kQ k8 kT (kap jp k0):=by obtain ⟨J1,u1⟩:=exi (ads (oh jx jO kH kQ k8 kT) k0 n); delta T8 MJ; rw [← axm,u1]; kernel_rfl
def Uw:Q1:=(cJ p34 (jB cf pe pS (lP jp k0)) (jB cf pe ajK (jB cf pe aj0 (kJ adq (T8 n cf k0)))))
def MR (n:Nat) (jx:aa) (jO:aj) (kH:ab) (kQ:bL) (k8:bV) (kT:bP) (k:ae) (v1:AV) (v34:Bool) (h:ad):ah:=ifB v34 (k true h) (fld 6 h v1 6 true fun a b=>oq .i64 3 h v1 fun c d=>oq .i64 4 h v1 fun e f=>Gb .i64 d f fun g=>oq .i64 5 h v1 fun i l=>kQ b g l h fun m o p=>ifB (mW (eqF o 0)) (MJ n jx jO kH kQ k8 kT k v1 true p) (faK 13 v1 fun q=>ldI .u64 p q fun r=>MJ n jx jO kH kQ k8 kT k v1 (ltF r m) p))
theorem awY:lo ac5 (Uw n (oh jx jO kH kQ k8 kT) k0)=MR n jx jO kH kQ k8 kT (kap jp k0):=by obtain ⟨J4,u4⟩:=exi (T8 n (oh jx jO kH kQ k8 kT) k0); delta Uw MR; rw [← axd,u4]; kernel_rfl
def Ue:Q1:=(cJ p25 (jB cf pe lW (lP jp k0)) (jB cf pe ajC (kJ ac5 (Uw n cf k0))))
def MO (n:Nat) (jx:aa) (jO:aj) (kH:ab) (kQ:bL) (k8:bV) (kT:bP) (k:ae) (v1:AV) (v25:Bool) (h:ad):ah:=ifB v25 (k false h) (nq h v1 17 true fun a=>jx a h fun b c=>ifB (mW b) (MR n jx jO kH kQ k8 kT k v1 true c) (faK 6 v1 fun d=>nq c d 6 true fun e=>jO e c fun f g=>MR n jx jO kH kQ k8 kT k v1 (mW (eqF f 0)) g))
theorem axg:lo yr (Ue n (oh jx jO kH kQ k8 kT) k0)=MO n jx jO kH kQ k8 kT (kap jp k0):=by obtain ⟨J5,u5⟩:=exi (Uw n (oh jx jO kH kQ k8 kT) k0); delta Ue MO; rw [← awY,u5]; kernel_rfl
def Us:Q1:=(jB cf pe QQ (kJ yr (Ue n cf k0)))
def MN (n:Nat) (jx:aa) (jO:aj) (kH:ab) (kQ:bL) (k8:bV) (kT:bP) (k:ae) (v1:AV) (v20:Bool) (h:ad):ah:=ifB v20 (MO n jx jO kH kQ k8 kT k v1 true h) (faK 14 v1 fun a=>ldI .u64 h a fun b=>MO n jx jO kH kQ k8 kT k v1 (mW (ltF b 1099511627776)) h)
theorem axu:lo GG (Us n (oh jx jO kH kQ k8 kT) k0)=MN n jx jO kH kQ k8 kT (kap jp k0):=by obtain ⟨J8,u8⟩:=exi (Ue n (oh jx jO kH kQ k8 kT) k0); delta Us MN; rw [← axg,u8]; kernel_rfl
def T2:Q1:=(jB cf pe Q3 (kJ GG (Us n cf k0)))
def M1 (n:Nat) (jx:aa) (jO:aj) (kH:ab) (kQ:bL) (k8:bV) (kT:bP) (k:ae) (v1:AV) (v15:Bool) (h:ad):ah:=ifB v15 (MN n jx jO kH kQ k8 kT k v1 true h) (faK 13 v1 fun a=>ldI .u64 h a fun b=>MN n jx jO kH kQ k8 kT k v1 (ltF 4194304 b) h)
theorem axc:lo GC (T2 n (oh jx jO kH kQ k8 kT) k0)=M1 n jx jO kH kQ k8 kT (kap jp k0):=by obtain ⟨J7,u7⟩:=exi (Us n (oh jx jO kH kQ k8 kT) k0); delta T2 M1; rw [← axu,u7]; kernel_rfl
def arH:Q1:=(jB cf pe ot (jB cf pe QP (kJ GC (T2 n cf k0))))
def aaN (n:Nat) (jx:aa) (jO:aj) (kH:ab) (kQ:bL) (k8:bV) (kT:bP) (k:ae) (a0:AV) (h:ad):ah:=Ad h a0 fun a b=>oq .u64 12 b (.ptr a 0) fun c d=>ifB (ltF d 1) (M1 n jx jO kH kQ k8 kT k (.ptr a 0) true b) (faK 12 (.ptr a 0) fun e=>ldI .u64 b e fun f=>M1 n jx jO kH kQ k8 kT k (.ptr a 0) (ltF 4194304 f) b)
def aiR (n:Nat) (jx:aa) (jO:aj) (kH:ab) (kQ:bL) (k8:bV) (kT:bP) (a0:AV) (h:ad) (k:ae):ah:=aaN n jx jO kH kQ k8 kT k a0 h
theorem aAe:DZ cf pe n arY jp k0=arH n cf k0:=by funext s; kernel_rfl
theorem aAg:lo jN (DZ (oh jx jO kH kQ k8 kT) pe n arY jp k0)=cmp jN (aiR n jx jO kH kQ k8 kT) (kap jp k0):=(congrArg (lo jN) (aAe n (oh jx jO kH kQ k8 kT) k0)).trans (show _=aaN n jx jO kH kQ k8 kT (kap jp k0) by obtain ⟨J6,u6⟩:=exi (T2 n (oh jx jO kH kQ k8 kT) k0); delta arH aaN; rw [← axc,u6]; kernel_rfl)
end
def eQ (n:Nat):aa:=aiR n (cT n) (da n) (ez n) (eS n) (fq n) (fb n)
abbrev dz:=Int→AV→ad→(Bool→ad→ah)→ah
abbrev ajq (g:dz):Wr:=wrT Ru EX g
def aho (jy:aq):aW:=pl [(N1,N3 jy)]
section
variable (jy:aq) (k0:Q0)
def akQ:Q1:=(jB cf Rc afh (jB cf Rc afk (lP EX k0)))
def Ro (n:Nat) (jy:aq) (k:ae) (a0:Int) (a1:AV) (h:ad):ah:=fld 16 h a1 1 false fun a b=>mX b fun c=>amc .i64 c 1 fun d=>jy a0 0 d h fun e f=>k (mW e) f
def aai (n:Nat) (jy:aq) (a0:Int) (a1:AV) (h:ad) (k:ae):ah:=Ro n jy k a0 a1 h
theorem avi:DZ cf Rc n akK EX k0=akQ cf k0:=by funext s; kernel_rfl
theorem au6:lo Ru (DZ (aho jy) Rc n akK EX k0)=cmp Ru (aai n jy) (kap EX k0):=(congrArg (lo Ru) (avi n (aho jy) k0)).trans (show _=Ro n jy (kap EX k0) by delta akQ Ro; kernel_rfl)
end
def dJ (n:Nat):dz:=aai n (cW n)
abbrev La (g:aV):Wr:=wrT lR ji g
def oe (mz:dz):aW:=pl [(Q2,ajq mz)]
abbrev bN:Type:=AV→AV→Int→Int→ad→ah
section
variable (mz:dz) (k0:Q0)
def vL:Q1:=(jB cf nR y0 (lP ji k0))
def vK (n:Nat) (mz:dz) (k:ar) (h:ad):ah:=k (-1) h
theorem Yw:lo kV (vL (oe mz) k0)=vK n mz (kap ji k0):=by delta vL vK; kernel_rfl
def Ap (J1:Q1):Q1:=(jB cf nR yU (cJ p9 (jB cf nR yY (jB cf nR Ii (cJ p16 (jB cf nR yP (lP ji k0)) (jB cf nR yO (kJ py J1))))) (kJ kV (vL cf k0))))
def sK (n:Nat) (mz:dz) (k:ar) (j1:bN) (v0:AV) (v1:AV) (v7:Int) (v8:Int) (h:ad):ah:=ifB (ltF v8 v7) (Ga .i64 1 h v0 v8 fun a b=>oe mz v1 [(.int .i64 b)] h fun c d=>aoK c fun e=>ifB e (k v8 d) (oK .i64 v8 1 fun f=>j1 v0 v1 v7 f d)) (vK n mz k h)
def Ar:Nat→Q1:=lpS (Ap cf k0)
def sQ (n:Nat) (mz:dz) (k:ar):Nat→bN:=lpF py (sK n mz k)
theorem Yp (k:ar) (m:Nat):sQ n mz k (m+1)=sK n mz k (sQ n mz k m):=rfl
theorem Yr (m:Nat):lo py (Ar (oe mz) k0 m)=sQ n mz (kap ji k0) m:=sY (fun J1=>(by obtain ⟨J0,u0⟩:=exi (vL (oe mz) k0); delta Ap sK; rw [← Yw,u0]; kernel_rfl:lo py (Ap (oe mz) k0 J1)=sK n mz (kap ji k0) (lo py J1))) m
def Lj:Q1:=(jB cf nR kz (jB cf nR yZ (kJ py (Ar cf k0 n))))
def xn (n:Nat) (mz:dz) (k:ar) (a0:AV) (a1:AV) (h:ad):ah:=mX a0 fun a=>sQ n mz k n a0 a1 a 0 h
def CO (n:Nat) (mz:dz) (a0:AV) (a1:AV) (h:ad) (k:ar):ah:=xn n mz k a0 a1 h
theorem abt:DZ cf nR n Lz ji k0=Lj n cf k0:=by funext s; kernel_rfl
theorem abU:lo lR (DZ (oe mz) nR n Lz ji k0)=cmp lR (CO n mz) (kap ji k0):=(congrArg (lo lR) (abt n (oe mz) k0)).trans (show _=xn n mz (kap ji k0) by obtain ⟨J1,u1⟩:=exi (Ar (oe mz) k0 n); delta Lj xn; rw [← Yr,u1]; kernel_rfl)
end
def dB (n:Nat):aV:=CO n (dJ n)
abbrev ai:=AV→AV→ad→(Bool→ad→ah)→ah
abbrev GX (g:ai):Wr:=wrT lR jS g
def Gc (nS:aV):aW:=pl [(KV,La nS)]
section
variable (nS:aV) (k0:Q0)
def Hn:Q1:=(jB cf vz lQ (jB cf vz Fh (lP jS k0)))
def vt (n:Nat) (nS:aV) (k:ae) (a0:AV) (a1:AV) (h:ad):ah:=nS a0 a1 h fun a b=>k (mW (ltF a 0)) b
def zL (n:Nat) (nS:aV) (a0:AV) (a1:AV) (h:ad) (k:ae):ah:=vt n nS k a0 a1 h
theorem XT:DZ cf vz n Hs jS k0=Hn cf k0:=by funext s; kernel_rfl
theorem XA:lo lR (DZ (Gc nS) vz n Hs jS k0)=cmp lR (zL n nS) (kap jS k0):=(congrArg (lo lR) (XT n (Gc nS) k0)).trans (show _=vt n nS (kap jS k0) by delta Hn vt; kernel_rfl)
end
def dq (n:Nat):ai:=zL n (dB n)
abbrev asb (g:aa):Wr:=wrT jN jp g
def Wk (jy:aq) (lL:ai):aW:=pl [(N1,N3 jy),(G4,GX lL)]
section
variable (jy:aq) (lL:ai) (k0:Q0)
def T9:Q1:=(jB cf TQ amK (lP jp k0))
def ND (n:Nat) (jy:aq) (lL:ai) (k:ae) (v13:Bool) (h:ad):ah:=k v13 h
theorem axr:lo acT (T9 (Wk jy lL) k0)=ND n jy lL (kap jp k0):=by delta T9 ND; kernel_rfl
def arC:Q1:=(jB cf TQ ot (jB cf TQ amS (kJ acT (T9 cf k0))))
def aa1 (n:Nat) (jy:aq) (lL:ai) (k:ae) (a0:AV) (h:ad):ah:=Ad h a0 fun a b=>fld 15 b (.ptr a 0) 1 false fun c d=>mX d fun e=>jy e 1 64 b fun f g=>ifB f (faK 15 (.ptr a 0) fun i=>nq g i 1 false fun l=>lL l (.func 88 [] [(.ptr a 0)]) g fun m o=>ND n jy lL k (mW m) o) (ND n jy lL k false g)
def aiC (n:Nat) (jy:aq) (lL:ai) (a0:AV) (h:ad) (k:ae):ah:=aa1 n jy lL k a0 h
theorem azY:DZ cf TQ n ars jp k0=arC cf k0:=by funext s; kernel_rfl
theorem aAf:lo jN (DZ (Wk jy lL) TQ n ars jp k0)=cmp jN (aiC n jy lL) (kap jp k0):=(congrArg (lo jN) (azY n (Wk jy lL) k0)).trans (show _=aa1 n jy lL (kap jp k0) by obtain ⟨J0,u0⟩:=exi (T9 (Wk jy lL) k0); delta arC aa1; rw [← axr,u0]; kernel_rfl)
end
def eT (n:Nat):aa:=aiC n (cW n) (dq n)
abbrev ak:=AV→ad→(AV→ad→ah)→ah
abbrev auc (g:ak):Wr:=wrT jN kF g
def Ca (mi:dF) (jx:aa) (jO:aj) (ns:aa) (nw:aa) (kH:ab):aW:=pl [(Ut,anf mi),(WK,Xu jx),(WV,X3 jO),(arJ,arB ns),(ase,asb nw),(aoE,apu kH)]
abbrev eY:Type:=AV→AV→AV→Int→Int→ad→ah
section
variable (mi:dF) (jx:aa) (jO:aj) (ns:aa) (nw:aa) (kH:ab) (k0:Q0)
def Yi:Q1:=(jB cf tc aoe (lP kF k0))
def Ye (n:Nat) (mi:dF) (jx:aa) (jO:aj) (ns:aa) (nw:aa) (kH:ab) (k:az) (v3:AV) (h:ad):ah:=nq h v3 1 false fun a=>k a h
theorem azi:lo oB (Yi (Ca mi jx jO ns nw kH) k0)=Ye n mi jx jO ns nw kH (kap kF k0):=by delta Yi Ye; kernel_rfl
def afm (J1:Q1):Q1:=(jB cf tc apx (cJ p31 (jB cf tc aof (jB cf tc aos (jB cf tc aoJ (jB cf tc apt (kJ Fe J1))))) (kJ oB (Yi cf k0))))
def Qi (n:Nat) (mi:dF) (jx:aa) (jO:aj) (ns:aa) (nw:aa) (kH:ab) (k:az) (j1:eY) (v1:AV) (v3:AV) (v4:AV) (v29:Int) (v30:Int) (h:ad):ah:=ifB (ltF v30 v29) (nq h v1 17 true fun a=>kH a v30 h fun b c=>oK .i64 4 v30 fun d=>Ca mi jx jO ns nw kH v4 [(.bool (eqF b 0)),(.int .i64 b),(.int .i64 d)] c fun e f=>oK .i64 v30 1 fun g=>j1 v1 v3 v4 v29 g f) (Ye n mi jx jO ns nw kH k v3 h)
def afQ:Nat→Q1:=lpS (afm cf k0)
def QB (n:Nat) (mi:dF) (jx:aa) (jO:aj) (ns:aa) (nw:aa) (kH:ab) (k:az):Nat→eY:=lpF Fe (Qi n mi jx jO ns nw kH k)
theorem ay6 (k:az) (m:Nat):QB n mi jx jO ns nw kH k (m+1)=Qi n mi jx jO ns nw kH k (QB n mi jx jO ns nw kH k m):=rfl
theorem ayB (m:Nat):lo Fe (afQ (Ca mi jx jO ns nw kH) k0 m)=QB n mi jx jO ns nw kH (kap kF k0) m:=sY (fun J1=>(by obtain ⟨J0,u0⟩:=exi (Yi (Ca mi jx jO ns nw kH) k0); delta afm Qi; rw [← azi,u0]; kernel_rfl:lo Fe (afm (Ca mi jx jO ns nw kH) k0 J1)=Qi n mi jx jO ns nw kH (kap kF k0) (lo Fe J1))) m
def atC:Q1:=(jB cf tc T7 (jB cf tc anC (jB cf tc anG (jB cf tc anp (jB cf tc ao8 (jB cf tc aon (jB cf tc apy (jB cf tc ap4 (kJ Fe (afQ cf k0 n))))))))))
def aeu (n:Nat) (mi:dF) (jx:aa) (jO:aj) (ns:aa) (nw:aa) (kH:ab) (k:az) (a0:AV) (h:ad):ah:=Ad h a0 fun a b=>Jr b (.cells [.nilslice] true 0) fun c d=>nq d (.ptr a 0) 17 true fun e=>jx e d fun f g=>mi f 114 0 (.ptr c 0) g fun i=>fld 6 i (.ptr a 0) 6 true fun l m=>jO m i fun o p=>mi (eqF o 0) 100 1 (.ptr c 0) p fun q=>nq q (.ptr a 0) 17 true fun r=>ns r q fun s t=>mi s 113 2 (.ptr c 0) t fun u=>nq u (.ptr a 0) 17 true fun w=>nw w u fun x y=>mi x 112 3 (.ptr c 0) y fun z=>fld 16 z (.ptr a 0) 1 false fun A B=>mX B fun C=>Ui false [(.int .i64 C),(.int .i64 8)] fun E=>ac0 .i64 E fun F=>QB n mi jx jO ns nw kH k n (.ptr a 0) (.ptr c 0) (.func 67 [] [(.ptr c 0)]) F 0 z
def al8 (n:Nat) (mi:dF) (jx:aa) (jO:aj) (ns:aa) (nw:aa) (kH:ab) (a0:AV) (h:ad) (k:az):ah:=aeu n mi jx jO ns nw kH k a0 h
theorem aBQ:DZ cf tc n auO kF k0=atC n cf k0:=by funext s; kernel_rfl
theorem aBr:lo jN (DZ (Ca mi jx jO ns nw kH) tc n auO kF k0)=cmp jN (al8 n mi jx jO ns nw kH) (kap kF k0):=(congrArg (lo jN) (aBQ n (Ca mi jx jO ns nw kH) k0)).trans (show _=aeu n mi jx jO ns nw kH (kap kF k0) by obtain ⟨J1,u1⟩:=exi (afQ (Ca mi jx jO ns nw kH) k0 n); delta atC aeu; rw [← ayB,u1]; kernel_rfl)
end
def fQ (n:Nat):ak:=al8 n (dX n) (cT n) (da n) (eQ n) (eT n) (ez n)
abbrev ayn (g:aa):Wr:=wrT jN jp g
def awH (B5:ak):aW:=pl [(atH,auc B5)]
section
variable (B5:ak) (k0:Q0)
def azv:Q1:=(jB cf Pe ot (jB cf Pe atN (lP jp k0)))
def alm (n:Nat) (B5:ak) (k:ae) (a0:AV) (h:ad):ah:=Ad h a0 fun a b=>nq b (.ptr a 0) 17 true fun c=>B5 c b fun d e=>mX d fun f=>k (eqF f 0) e
def asR (n:Nat) (B5:ak) (a0:AV) (h:ad) (k:ae):ah:=alm n B5 k a0 h
theorem aFj:DZ cf Pe n aym jp k0=azv cf k0:=by funext s; kernel_rfl
theorem aEg:lo jN (DZ (awH B5) Pe n aym jp k0)=cmp jN (asR n B5) (kap jp k0):=(congrArg (lo jN) (aFj n (awH B5) k0)).trans (show _=alm n B5 (kap jp k0) by delta azv alm; kernel_rfl)
end
def gl (n:Nat):aa:=asR n (fQ n)
abbrev aud (g:ab):Wr:=wrT ju ji g
def aaO (w9:aa):aW:=pl [(ayW,ayn w9)]
section
variable (w9:aa) (k0:Q0)
def XQ:Q1:=(jB cf Er aqe (cJ p9 (jB cf Er WB (lP ji k0)) (jB cf Er kz (lP ji k0))))
def PS (n:Nat) (w9:aa) (k:ar) (v18:Bool) (h:ad):ah:=ifB v18 (k 270 h) (k 0 h)
theorem ayG:lo agL (XQ (aaO w9) k0)=PS n w9 (kap ji k0):=by delta XQ PS; kernel_rfl
def auz:Q1:=(jB cf Er xN (jB cf Er ap3 (cJ p5 (jB cf Er Xk (lP ji k0)) (jB cf Er aog (kJ agL (XQ cf k0))))))
def aev (n:Nat) (w9:aa) (k:ar) (a0:AV) (a1:Int) (h:ad):ah:=Ad h a0 fun a b=>nq b (.ptr a 0) 17 true fun c=>w9 c b fun d e=>ifB (mW d) (k 5 e) (ifB (ltF a1 0) (PS n w9 k true e) (fld 16 e (.ptr a 0) 1 false fun f g=>mX g fun i=>PS n w9 k (mW (ltF a1 i)) e))
def alw (n:Nat) (w9:aa) (a0:AV) (a1:Int) (h:ad) (k:ar):ah:=aev n w9 k a0 a1 h
theorem aCi:DZ cf Er n atQ ji k0=auz cf k0:=by funext s; kernel_rfl
theorem aB7:lo ju (DZ (aaO w9) Er n atQ ji k0)=cmp ju (alw n w9) (kap ji k0):=(congrArg (lo ju) (aCi n (aaO w9) k0)).trans (show _=aev n w9 (kap ji k0) by obtain ⟨J0,u0⟩:=exi (XQ (aaO w9) k0); delta auz aev; rw [← ayG,u0]; kernel_rfl)
end
def fR (n:Nat):ab:=alw n (gl n)
abbrev aw:=AV→Int→ad→(Int→Int→ad→ah)→ah
abbrev atD (g:aw):Wr:=wrT ju kE g
def arU (CJ:ab) (kL:ab):aW:=pl [(atM,aud CJ),(alU,alN kL)]
section
variable (CJ:ab) (kL:ab) (k0:Q0)
def atf:Q1:=(jB cf Mg Xg (jB cf Mg ao1 (jB cf Mg Xb (cJ p11 (jB cf Mg Xe (lP kE k0)) (jB cf Mg aoB (lP kE k0))))))
def aew (n:Nat) (CJ:ab) (kL:ab) (k:aA) (a0:AV) (a1:Int) (h:ad):ah:=Ad h a0 fun a b=>nq b (.ptr a 0) 17 true fun c=>CJ c a1 b fun d e=>ifB (mW (eqF d 0)) (k 0 d e) (nq e (.ptr a 0) 17 true fun f=>kL f a1 e fun g i=>k g 0 i)
def alf (n:Nat) (CJ:ab) (kL:ab) (a0:AV) (a1:Int) (h:ad) (k:aA):ah:=aew n CJ kL k a0 a1 h
theorem aBB:DZ cf Mg n auI kE k0=atf cf k0:=by funext s; kernel_rfl
theorem aBM:lo ju (DZ (arU CJ kL) Mg n auI kE k0)=cmp ju (alf n CJ kL) (kap kE k0):=(congrArg (lo ju) (aBB n (arU CJ kL) k0)).trans (show _=aew n CJ kL (kap kE k0) by delta atf aew; kernel_rfl)
end
def fO (n:Nat):aw:=alf n (fR n) (eP n)
abbrev Sc (g:ak):Wr:=wrT jN kF g
def P8:aW:=pl []
section
variable (k0:Q0)
def R9:Q1:=(jB cf uk lh (jB cf uk OJ (cJ p4 (jB cf uk lh (lP kF k0)) (jB cf uk OY (lP kF k0)))))
def AA (n:Nat) (k:az) (a0:AV) (h:ad):ah:=aha (.nil .sl) a0 .nilslice fun a=>ifB (X1 false a) (k .nilslice h) (pZ h 0 [] [] fun b c=>sI c 1 b a0 fun d e=>k d e)
def Gw (n:Nat) (a0:AV) (h:ad) (k:az):ah:=AA n k a0 h
theorem agR:DZ cf uk n R4 kF k0=R9 cf k0:=by funext s; kernel_rfl
theorem agZ:lo jN (DZ P8 uk n R4 kF k0)=cmp jN (Gw n) (kap kF k0):=(congrArg (lo jN) (agR n P8 k0)).trans (show _=AA n (kap kF k0) by delta R9 AA; kernel_rfl)
end
def dA (n:Nat):ak:=Gw n
abbrev GD (g:aq):Wr:=wrT nv kN g
def QL:aW:=pl []
section
variable (k0:Q0)
def OU:Q1:=(jB cf oa we (lP kN k0))
def Hi (n:Nat) (k:ae) (v14:Bool) (h:ad):ah:=k v14 h
theorem at1:lo pd (OU QL k0)=Hi n (kap kN k0):=by delta OU Hi; kernel_rfl
def anl:Q1:=(jB cf oa mm (jB cf oa wg (kJ pd (OU cf k0))))
def T4 (n:Nat) (k:ae) (a0:Int) (a1:Int) (a2:Int) (h:ad):ah:=ifB (mW (ltF a0 a1)) (Hi n k (mW (ltF a2 a0)) h) (Hi n k false h)
def adp (n:Nat) (a0:Int) (a1:Int) (a2:Int) (h:ad) (k:ae):ah:=T4 n k a0 a1 a2 h
theorem aw5:DZ cf oa n anD kN k0=anl cf k0:=by funext s; kernel_rfl
theorem awZ:lo nv (DZ QL oa n anD kN k0)=cmp nv (adp n) (kap kN k0):=(congrArg (lo nv) (aw5 n QL k0)).trans (show _=T4 n (kap kN k0) by obtain ⟨J0,u0⟩:=exi (OU QL k0); delta anl T4; rw [← at1,u0]; kernel_rfl)
end
def cP (n:Nat):aq:=adp n
abbrev aD:=Int→ad→(Bool→ad→ah)→ah
abbrev Wz (g:aD):Wr:=wrT nV jp g
def arx (j7:aq):aW:=pl [(GH,GD j7)]
section
variable (j7:aq) (k0:Q0)
def atK:Q1:=(jB cf aeX lW (jB cf aeX apK (lP jp k0)))
def aeM (n:Nat) (j7:aq) (k:ae) (a0:Int) (h:ad):ah:=j7 a0 1 16 h fun a b=>k a b
def alI (n:Nat) (j7:aq) (a0:Int) (h:ad) (k:ae):ah:=aeM n j7 k a0 h
theorem aBZ:DZ cf aeX n atW jp k0=atK cf k0:=by funext s; kernel_rfl
theorem aBy:lo nV (DZ (arx j7) aeX n atW jp k0)=cmp nV (alI n j7) (kap jp k0):=(congrArg (lo nV) (aBZ n (arx j7) k0)).trans (show _=aeM n j7 (kap jp k0) by delta atK aeM; kernel_rfl)
end
def dT (n:Nat):aD:=alI n (cP n)
abbrev cr:=Int→Int→Int→ad→(Int→Int→ad→ah)→ah
abbrev aqb (g:cr):Wr:=wrT nv pG g
def GJ (j7:aq) (kO:aD):aW:=pl [(GH,GD j7),(Xf,Wz kO)]
section
variable (j7:aq) (kO:aD) (k0:Q0)
def Q5:Q1:=(cJ p22 (jB cf Fp Rn (lP pG k0)) (jB cf Fp ajG (lP pG k0)))
def KL (n:Nat) (j7:aq) (kO:aD) (k:aA) (v0:Int) (v1:Int) (v2:Int) (v22:Bool) (h:ad):ah:=ifB v22 (k 0 2 h) (amc .i64 v0 v2 fun a=>oK .i64 a v1 fun b=>amc .i64 b 1 fun c=>aw1 .i64 c v1 fun d=>k d 0 h)
theorem avz:lo aaw (Q5 (GJ j7 kO) k0)=KL n j7 kO (kap pG k0):=by delta Q5 KL; kernel_rfl
def QF:Q1:=(jB cf Fp akg (kJ aaw (Q5 cf k0)))
def Kn (n:Nat) (j7:aq) (kO:aD) (k:aA) (v0:Int) (v1:Int) (v2:Int) (v15:Bool) (h:ad):ah:=ifB v15 (KL n j7 kO k v0 v1 v2 true h) (amc .i64 v1 1 fun a=>j7 v2 0 a h fun b c=>KL n j7 kO k v0 v1 v2 (mW b) c)
theorem avM:lo ZR (QF (GJ j7 kO) k0)=Kn n j7 kO (kap pG k0):=by obtain ⟨J1,u1⟩:=exi (Q5 (GJ j7 kO) k0); delta QF Kn; rw [← avz,u1]; kernel_rfl
def ao2:Q1:=(jB cf Fp QM (jB cf Fp akY (kJ ZR (QF cf k0))))
def Ws (n:Nat) (j7:aq) (kO:aD) (k:aA) (a0:Int) (a1:Int) (a2:Int) (h:ad):ah:=j7 a0 1 4096 h fun a b=>ifB (mW a) (Kn n j7 kO k a0 a1 a2 true b) (kO a1 b fun c d=>Kn n j7 kO k a0 a1 a2 (mW c) d)
def afc (n:Nat) (j7:aq) (kO:aD) (a0:Int) (a1:Int) (a2:Int) (h:ad) (k:aA):ah:=Ws n j7 kO k a0 a1 a2 h
theorem azh:DZ cf Fp n aoH pG k0=ao2 cf k0:=by funext s; kernel_rfl
theorem azd:lo nv (DZ (GJ j7 kO) Fp n aoH pG k0)=cmp nv (afc n j7 kO) (kap pG k0):=(congrArg (lo nv) (azh n (GJ j7 kO) k0)).trans (show _=Ws n j7 kO (kap pG k0) by obtain ⟨J0,u0⟩:=exi (QF (GJ j7 kO) k0); delta ao2 Ws; rw [← avM,u0]; kernel_rfl)
end
def eW (n:Nat):cr:=afc n (cP n) (dT n)
abbrev cZ:=Int→ad→(AV→Int→ad→ah)→ah
abbrev aX:=AV→Int→ad→ah
abbrev awS (g:cZ):Wr:=wrT nV mj g
def vr:aW:=pl []
abbrev eE:Type:=Int→AV→Int→Int→ad→ah
section
variable (k0:Q0)
def aaF:Q1:=(jB cf yC asc (lP mj k0))
def aaH (n:Nat) (k:aX) (v4:AV) (h:ad):ah:=k v4 0 h
theorem azQ:lo NY (aaF vr k0)=aaH n (kap mj k0):=by delta aaF aaH; kernel_rfl
def aa3 (J1:Q1):Q1:=(jB cf yC asi (jB cf yC asf (kJ pz J1)))
def aaU (n:Nat) (k:aX) (j1:eE) (v0:Int) (v4:AV) (v5:Int) (v6:Int) (h:ad):ah:=nfa 2 v4 fun a=>SA 1 7 a v6 fun b=>nq h b 1 false fun c=>pZ h 1 [(.int .i64 0)] [(0,1,(.int .i64 v5))] fun d e=>sI e 1 c d fun f g=>nfa 2 v4 fun i=>SA 1 7 i v6 fun l=>qT g l 1 f fun m=>ak4 .i64 1 v6 fun o=>oK .i64 v5 o fun p=>j1 v0 v4 p v6 m
theorem aAr (J1:Q1):lo pz (aa3 vr J1)=aaU n (kap mj k0) (lo pz J1):=by delta aa3 aaU; kernel_rfl
def aio (J1:Q1) (J3:Q1):Q1:=(jB cf yC arN (cJ p29 (jB cf yC arA (kJ pz J3)) (kJ pz (aa3 cf J1))))
def TN (n:Nat) (k:aX) (j1:eE) (j3:eE) (v0:Int) (v4:AV) (v5:Int) (v6:Int) (h:ad):ah:=ak4 .i64 1 v6 fun a=>oK .i64 v5 a fun b=>ifB (ltF v0 b) (amc .i64 v6 1 fun c=>j3 v0 v4 v5 c h) (aaU n k j1 v0 v4 v5 v6 h)
def aiH (J1:Q1):Nat→Q1:=lpS (aio cf J1)
def Tl (n:Nat) (k:aX) (j1:eE):Nat→eE:=lpF pz (TN n k j1)
theorem aAj (k:aX) (j1:eE) (m:Nat):Tl n k j1 (m+1)=TN n k j1 (Tl n k j1 m):=rfl
theorem az7 (J1:Q1) (m:Nat):lo pz (aiH vr J1 m)=Tl n (kap mj k0) (lo pz J1) m:=sY (fun J3=>(by obtain ⟨J2,u2⟩:=exi (aa3 vr J1); delta aio TN; rw [← aAr,u2]; kernel_rfl:lo pz (aio vr J1 J3)=TN n (kap mj k0) (lo pz J1) (lo pz J3))) m
def ajk (J1:Q1):Q1:=(jB cf yC arL (cJ p19 (kJ pz (aiH cf J1 n)) (kJ NY (aaF cf k0))))
def TC (n:Nat) (k:aX) (j1:eE) (v0:Int) (v4:AV) (v5:Int) (v6:Int) (h:ad):ah:=ifB (ltF v5 v0) (Tl n k j1 n v0 v4 v5 v6 h) (aaH n k v4 h)
def ai9:Nat→Q1:=lpS (ajk n cf k0)
def N5 (n:Nat) (k:aX):Nat→eE:=lpF pz (TC n k)
theorem azV (k:aX) (m:Nat):N5 n k (m+1)=TC n k (N5 n k m):=rfl
theorem azT (m:Nat):lo pz (ai9 n vr k0 m)=N5 n (kap mj k0) m:=sY (fun J1=>(by obtain ⟨J0,u0⟩:=exi (aaF vr k0); obtain ⟨J3,u3⟩:=exi (aiH vr J1 n); delta ajk TC; rw [← azQ,u0, ← az7,u3]; kernel_rfl:lo pz (ajk n vr k0 J1)=TC n (kap mj k0) (lo pz J1))) m
def aaY:Q1:=(cJ p12 (jB cf yC aaT (lP mj k0)) (jB cf yC asj (jB cf yC arm (kJ pz (ai9 n cf k0 n)))))
def S4 (n:Nat) (k:aX) (v0:Int) (v12:Bool) (h:ad):ah:=ifB v12 (k .nilptr 2 h) (Jr h (.mp []) fun a b=>uK [(.bool false),(.int .i64 0),.nilslice,.nilslice,.nilslice,.nilslice,.nilslice,.nilslice,.nilslice,.nilmap] [(0,1,(.bool true)),(1,1,(.int .i64 v0)),(9,1,(.map a))] fun c=>Ad b c fun d e=>N5 n k n v0 (.ptr d 0) 0 6 e)
theorem aAb:lo ail (aaY n vr k0)=S4 n (kap mj k0):=by obtain ⟨J1,u1⟩:=exi (ai9 n vr k0 n); delta aaY S4; rw [← azT,u1]; kernel_rfl
def aws:Q1:=(jB cf yC X0 (jB cf yC arK (kJ ail (aaY n cf k0))))
def ah3 (n:Nat) (k:aX) (a0:Int) (h:ad):ah:=ifB (ltF a0 0) (S4 n k a0 true h) (S4 n k a0 (ltF 4096 a0) h)
def aox (n:Nat) (a0:Int) (h:ad) (k:aX):ah:=ah3 n k a0 h
theorem aDO:DZ cf yC n awR mj k0=aws n cf k0:=by funext s; kernel_rfl
theorem aCD:lo nV (DZ vr yC n awR mj k0)=cmp nV (aox n) (kap mj k0):=(congrArg (lo nV) (aDO n vr k0)).trans (show _=ah3 n (kap mj k0) by obtain ⟨J4,u4⟩:=exi (aaY n vr k0); delta aws ah3; rw [← aAb,u4]; kernel_rfl)
end
def fI (n:Nat):cZ:=aox n
abbrev bA:=AV→Int→ad→(AV→Int→ad→ah)→ah
abbrev ast (g:bA):Wr:=wrT ju rj g
def Qb (oc:aw) (kZ:ak) (ng:cr) (oT:cZ):aW:=pl [(auo,atD oc),(Rz,Sc kZ),(aoO,aqb ng),(awF,awS oT)]
section
variable (oc:aw) (kZ:ak) (ng:cr) (oT:cZ) (k0:Q0)
def aeH:Q1:=(jB cf sx atX (lP rj k0))
def aeD (n:Nat) (oc:aw) (kZ:ak) (ng:cr) (oT:cZ) (k:aX) (v9:AV) (h:ad):ah:=k v9 0 h
theorem aB0:lo amt (aeH (Qb oc kZ ng oT) k0)=aeD n oc kZ ng oT (kap rj k0):=by delta aeH aeD; kernel_rfl
def alM (J1:Q1):Q1:=(jB cf sx Ub (cJ p60 (jB cf sx at0 (jB cf sx auP (jB cf sx aua (cJ p73 (jB cf sx at4 (lP rj k0)) (jB cf sx at3 (jB cf sx atF (cJ p81 (jB cf sx atv (lP rj k0)) (jB cf sx auN (jB cf sx atk (kJ Mw J1)))))))))) (kJ amt (aeH cf k0))))
def WE (n:Nat) (oc:aw) (kZ:ak) (ng:cr) (oT:cZ) (k:aX) (j1:eY) (v2:AV) (v9:AV) (v57:AV) (v58:Int) (v59:Int) (h:ad):ah:=ifB (ltF v59 v58) (Ga .i64 1 h v57 v59 fun a b=>oq .i64 0 h v2 fun c d=>oq .i64 1 h v2 fun e f=>ng d f b h fun g i l=>ifB (mW (eqF i 0)) (k .nilptr i l) (oT g l fun m o p=>ifB (mW (eqF o 0)) (k .nilptr o p) (ys 11 p v9 1 false fun q r=>pZ p 1 [.nilptr] [(0,1,m)] fun s t=>sI t 1 r s fun u w=>nfst 11 w v9 1 u fun x y=>oK .i64 v59 1 fun z=>j1 v2 v9 v57 v58 z y))) (aeD n oc kZ ng oT k v9 h)
def alx:Nat→Q1:=lpS (alM cf k0)
def Wb (n:Nat) (oc:aw) (kZ:ak) (ng:cr) (oT:cZ) (k:aX):Nat→eY:=lpF Mw (WE n oc kZ ng oT k)
theorem aBP (k:aX) (m:Nat):Wb n oc kZ ng oT k (m+1)=WE n oc kZ ng oT k (Wb n oc kZ ng oT k m):=rfl
theorem aCp (m:Nat):lo Mw (alx (Qb oc kZ ng oT) k0 m)=Wb n oc kZ ng oT (kap rj k0) m:=sY (fun J1=>(by obtain ⟨J0,u0⟩:=exi (aeH (Qb oc kZ ng oT) k0); delta alM WE; rw [← aB0,u0]; kernel_rfl:lo Mw (alM (Qb oc kZ ng oT) k0 J1)=WE n oc kZ ng oT (kap rj k0) (lo Mw J1))) m
def axM:Q1:=(jB cf sx aaV (jB cf sx arI (jB cf sx ar0 (cJ p22 (jB cf sx ary (lP rj k0)) (jB cf sx ar6 (jB cf sx arz (jB cf sx arp (jB cf sx arP (kJ Mw (alx cf k0 n))))))))))
def alk (n:Nat) (oc:aw) (kZ:ak) (ng:cr) (oT:cZ) (k:aX) (a0:AV) (a1:Int) (h:ad):ah:=Ad h a0 fun a b=>nq b (.ptr a 0) 17 true fun c=>oc c a1 b fun d e f=>ifB (mW (eqF e 0)) (k .nilptr e f) (fld 16 f (.ptr a 0) 1 false fun g i=>eld 8 f i a1 8 true fun l m=>Jr f (.cells [.nilslice,(.int .i64 0),(.int .i64 0),(.int .i64 0),(.int .i64 0),(.int .i64 0),(.int .i64 0),(.int .i64 0)] true 0) fun o p=>qT p (.ptr o 0) 8 m fun q=>oq .i64 1 q (.ptr a 0) fun r s=>fld 0 q (.ptr o 0) 1 false fun t u=>kZ u (q.shut true) fun w x=>oq .i64 1 (x.back q.ro) (.ptr o 0) fun y z=>Jr (x.back q.ro) (.mp []) fun A B=>uK [(.int .i64 0),.nilslice,(.int .i64 0),(.int .i64 0),(.int .i64 0),(.int .i64 0),(.int .i64 0),(.int .i64 0),(.int .i64 0),(.int .i64 0),(.int .i64 0),.nilslice,.nilmap,(.int .i64 0),(.int .i64 0),(.int .i64 0),(.int .i64 0),(.int .i64 0),(.int .i64 0),(.int .i64 0)] [(0,1,(.int .i64 s)),(1,1,w),(2,1,(.int .i64 z)),(10,1,(.int .i64 d)),(12,1,(.map A))] fun C=>Ad B C fun E F=>oq .i64 2 F (.ptr o 0) fun G I=>oq .i64 3 F (.ptr o 0) fun K L=>oq .i64 4 F (.ptr o 0) fun M N=>oq .i64 5 F (.ptr o 0) fun O P=>oq .i64 6 F (.ptr o 0) fun Q R=>uK [(.int .i64 0),(.int .i64 0),(.int .i64 0),(.int .i64 0),(.int .i64 0),(.int .i64 0),(.int .i64 0)] [(2,1,(.int .i64 I)),(3,1,(.int .i64 L)),(4,1,(.int .i64 N)),(5,1,(.int .i64 P)),(6,1,(.int .i64 R))] fun S=>nfst 3 F (.ptr E 0) 7 S fun T U=>ys 1 U (.ptr E 0) 1 false fun V X=>mX X fun Y=>Wb n oc kZ ng oT k n (.ptr a 0) (.ptr E 0) X Y 0 U)
def asw (n:Nat) (oc:aw) (kZ:ak) (ng:cr) (oT:cZ) (a0:AV) (a1:Int) (h:ad) (k:aX):ah:=alk n oc kZ ng oT k a0 a1 h
theorem aEJ:DZ cf sx n ayJ rj k0=axM n cf k0:=by funext s; kernel_rfl
theorem aEG:lo ju (DZ (Qb oc kZ ng oT) sx n ayJ rj k0)=cmp ju (asw n oc kZ ng oT) (kap rj k0):=(congrArg (lo ju) (aEJ n (Qb oc kZ ng oT) k0)).trans (show _=alk n oc kZ ng oT (kap rj k0) by obtain ⟨J1,u1⟩:=exi (alx (Qb oc kZ ng oT) k0 n); delta axM alk; rw [← aCp,u1]; kernel_rfl)
end
def cI (n:Nat):bA:=asw n (fO n) (dA n) (eW n) (fI n)
abbrev wd (g:aa):Wr:=wrT jN jp g
def I3:aW:=pl []
section
variable (k0:Q0)
def G7:Q1:=(jB cf Fd yH (lP jp k0))
def yD (n:Nat) (k:ae) (v11:Bool) (h:ad):ah:=k v11 h
theorem api:lo se (G7 I3 k0)=yD n (kap jp k0):=by delta G7 yD; kernel_rfl
def afD:Q1:=(jB cf Fd lW (jB cf Fd abl (kJ se (G7 cf k0))))
def Fo (n:Nat) (k:ae) (a0:AV) (h:ad):ah:=aha (.nil .ptr) a0 .nilptr fun a=>ifB (X1 true a) (ys 12 h a0 1 false fun b c=>aha (.nil .mp) c .nilmap fun d=>yD n k (X1 true d) h) (yD n k false h)
def L9 (n:Nat) (a0:AV) (h:ad) (k:ae):ah:=Fo n k a0 h
theorem aso:DZ cf Fd n afI jp k0=afD cf k0:=by funext s; kernel_rfl
theorem asY:lo jN (DZ I3 Fd n afI jp k0)=cmp jN (L9 n) (kap jp k0):=(congrArg (lo jN) (aso n I3 k0)).trans (show _=Fo n (kap jp k0) by obtain ⟨J0,u0⟩:=exi (G7 I3 k0); delta afD Fo; rw [← api,u0]; kernel_rfl)
end
def bM (n:Nat):aa:=L9 n
abbrev IJ (g:aa):Wr:=wrT jN jp g
def GZ:aW:=pl []
section
variable (k0:Q0)
def F3:Q1:=(jB cf D4 yH (lP jp k0))
def A6 (n:Nat) (k:ae) (v11:Bool) (h:ad):ah:=k v11 h
theorem anJ:lo se (F3 GZ k0)=A6 n (kap jp k0):=by delta F3 A6; kernel_rfl
def adT:Q1:=(jB cf D4 lW (jB cf D4 YZ (kJ se (F3 cf k0))))
def IT (n:Nat) (k:ae) (a0:AV) (h:ad):ah:=aha (.nil .ptr) a0 .nilptr fun a=>ifB (X1 false a) (A6 n k true h) (aDq 0 h a0 fun b c=>A6 n k (mW c) h)
def SI (n:Nat) (a0:AV) (h:ad) (k:ae):ah:=IT n k a0 h
theorem aqW:DZ cf D4 n aeo jp k0=adT cf k0:=by funext s; kernel_rfl
theorem arg:lo jN (DZ GZ D4 n aeo jp k0)=cmp jN (SI n) (kap jp k0):=(congrArg (lo jN) (aqW n GZ k0)).trans (show _=IT n (kap jp k0) by obtain ⟨J0,u0⟩:=exi (F3 GZ k0); delta adT IT; rw [← anJ,u0]; kernel_rfl)
end
def cH (n:Nat):aa:=SI n
abbrev aM:=AV→Int→Int→ad→(AV→ad→ah)→ah
abbrev Fl (g:aM):Wr:=wrT lS rf g
def OT:aW:=pl []
section
variable (k0:Q0)
def P2:Q1:=(jB cf oA xW (jB cf oA NX (jB cf oA NA (cJ p16 (jB cf oA ME (lP rf k0)) (jB cf oA Nb (jB cf oA NP (jB cf oA NH (jB cf oA M5 (lP rf k0)))))))))
def zn (n:Nat) (k:az) (a0:AV) (a1:Int) (a2:Int) (h:ad):ah:=mX a0 fun a=>slK (.sl 1) a0 (some (.int .i64 a1)) (some (.int .i64 a2)) (some (.int .i64 a)) fun b=>ifB (eqF a1 a2) (k a0 h) (mX a0 fun c=>slK (.sl 1) a0 none (some (.int .i64 a1)) none fun d=>slK (.sl 1) a0 (some (.int .i64 a2)) none none fun e=>sI h 1 d e fun f g=>mX f fun i=>slK (.sl 1) f (some (.int .i64 i)) (some (.int .i64 c)) none fun l=>aBE g [(.int .i64 0)] l fun m=>k f m)
def Fg (n:Nat) (a0:AV) (a1:Int) (a2:Int) (h:ad) (k:az):ah:=zn n k a0 a1 a2 h
theorem aft:DZ cf oA n P9 rf k0=P2 cf k0:=by funext s; kernel_rfl
theorem agy:lo lS (DZ OT oA n P9 rf k0)=cmp lS (Fg n) (kap rf k0):=(congrArg (lo lS) (aft n OT k0)).trans (show _=zn n (kap rf k0) by delta P2 zn; kernel_rfl)
end
def b8 (n:Nat):aM:=Fg n
abbrev ajW (g:aD):Wr:=wrT nV jp g
def ahB:aW:=pl []
section
variable (k0:Q0)
def aj2:Q1:=(jB cf yJ lW (jB cf yJ LX (lP jp k0)))
def Ra (n:Nat) (k:ae) (a0:Int) (h:ad):ah:=k (mW (eqF a0 a0)) h
def aad (n:Nat) (a0:Int) (h:ad) (k:ae):ah:=Ra n k a0 h
theorem avX:DZ cf yJ n akt jp k0=aj2 cf k0:=by funext s; kernel_rfl
theorem avy:lo nV (DZ ahB yJ n akt jp k0)=cmp nV (aad n) (kap jp k0):=(congrArg (lo nV) (avX n ahB k0)).trans (show _=Ra n (kap jp k0) by delta aj2 Ra; kernel_rfl)
end
def fy (n:Nat):aD:=aad n
abbrev amX (g:cp):Wr:=wrT qk jS g
def EZ (nc:aD):aW:=pl [(akT,ajW nc)]
section
variable (nc:aD) (k0:Q0)
def O5:Q1:=(jB cf GL ahn (lP jS k0))
def Hq (n:Nat) (nc:aD) (k:ae) (v16:Bool) (h:ad):ah:=k v16 h
theorem auF:lo Dg (O5 (EZ nc) k0)=Hq n nc (kap jS k0):=by delta O5 Hq; kernel_rfl
def OK:Q1:=(jB cf GL ahM (kJ Dg (O5 cf k0)))
def GM (n:Nat) (nc:aD) (k:ae) (v0:Int) (v1:Int) (v11:Bool) (h:ad):ah:=ifB v11 (Hq n nc k true h) (Hq n nc k (ltF v0 v1) h)
theorem atn:lo Wc (OK (EZ nc) k0)=GM n nc (kap jS k0):=by obtain ⟨J1,u1⟩:=exi (O5 (EZ nc) k0); delta OK GM; rw [← auF,u1]; kernel_rfl
def am8:Q1:=(jB cf GL lQ (jB cf GL ah8 (kJ Wc (OK cf k0))))
def Ur (n:Nat) (nc:aD) (k:ae) (a0:Int) (a1:Int) (h:ad):ah:=nc a0 h fun a b=>ifB a (nc a1 b fun c d=>GM n nc k a0 a1 (mW c) d) (GM n nc k a0 a1 false b)
def acB (n:Nat) (nc:aD) (a0:Int) (a1:Int) (h:ad) (k:ae):ah:=Ur n nc k a0 a1 h
theorem axq:DZ cf GL n ana jS k0=am8 cf k0:=by funext s; kernel_rfl
theorem axs:lo qk (DZ (EZ nc) GL n ana jS k0)=cmp qk (acB n nc) (kap jS k0):=(congrArg (lo qk) (axq n (EZ nc) k0)).trans (show _=Ur n nc (kap jS k0) by obtain ⟨J0,u0⟩:=exi (OK (EZ nc) k0); delta am8 Ur; rw [← atn,u0]; kernel_rfl)
end
def eO (n:Nat):cp:=acB n (fy n)
abbrev adR (g:aD):Wr:=wrT nV jp g
def abX:aW:=pl []
section
variable (k0:Q0)
def aep:Q1:=(jB cf yJ lW (jB cf yJ LX (lP jp k0)))
def IY (n:Nat) (k:ae) (a0:Int) (h:ad):ah:=k (mW (eqF a0 a0)) h
def Ss (n:Nat) (a0:Int) (h:ad) (k:ae):ah:=IY n k a0 h
theorem aqX:DZ cf yJ n adS jp k0=aep cf k0:=by funext s; kernel_rfl
theorem aqV:lo nV (DZ abX yJ n adS jp k0)=cmp nV (Ss n) (kap jp k0):=(congrArg (lo nV) (aqX n abX k0)).trans (show _=IY n (kap jp k0) by delta aep IY; kernel_rfl)
end
def dV (n:Nat):aD:=Ss n
abbrev aU:=AV→Int→ad→(Int→Bool→ad→ah)→ah
abbrev cq:=Int→Bool→ad→ah
abbrev zY (g:aU):Wr:=wrT ju ni g
def nH (l8:cp) (k9:aD):aW:=pl [(anb,amX l8),(aed,adR k9)]
abbrev eG:Type:=AV→Int→Int→Int→Int→ad→ah
section
variable (l8:cp) (k9:aD) (k0:Q0)
def uy:Q1:=(jB cf mE Fn (lP ni k0))
def oM (n:Nat) (l8:cp) (k9:aD) (k:cq) (v31:Int) (v53:Bool) (h:ad):ah:=k v31 v53 h
theorem UJ:lo yy (uy (nH l8 k9) k0)=oM n l8 k9 (kap ni k0):=by delta uy oM; kernel_rfl
def ux:Q1:=(jB cf mE E5 (kJ yy (uy cf k0)))
def uq (n:Nat) (l8:cp) (k9:aD) (k:cq) (v0:AV) (v1:Int) (v6:Int) (v7:Int) (h:ad):ah:=ifB (ltF v7 v6) (Ga .i64 1 h v0 v7 fun a b=>ifB (eqF b v1) (oM n l8 k9 k v7 true h) (Ga .i64 1 h v0 v7 fun c d=>k9 d h fun e f=>ifB e (k9 v1 f fun g i=>oM n l8 k9 k v7 g i) (oM n l8 k9 k v7 false f))) (oM n l8 k9 k v7 false h)
theorem UO:lo mS (ux (nH l8 k9) k0)=uq n l8 k9 (kap ni k0):=by obtain ⟨J0,u0⟩:=exi (uy (nH l8 k9) k0); delta ux uq; rw [← UJ,u0]; kernel_rfl
def yx (J2:Q1):Q1:=(jB cf mE FA (cJ p15 (jB cf mE E8 (jB cf mE Ff (cJ p27 (jB cf mE FH (kJ nY J2)) (jB cf mE FO (kJ nY J2))))) (kJ mS (ux cf k0))))
def rc (n:Nat) (l8:cp) (k9:aD) (k:cq) (j2:eG) (v0:AV) (v1:Int) (v6:Int) (v7:Int) (v8:Int) (h:ad):ah:=ifB (ltF v7 v8) (oK .i64 v7 v8 fun a=>NR .u64 a fun b=>shrK .u64 b 1 fun c=>NR .i64 c fun d=>Ga .i64 1 h v0 d fun e f=>l8 f v1 h fun g i=>ifB g (oK .i64 d 1 fun l=>j2 v0 v1 v6 l v8 i) (j2 v0 v1 v6 v7 d i)) (uq n l8 k9 k v0 v1 v6 v7 h)
def yz:Nat→Q1:=lpS (yx cf k0)
def rl (n:Nat) (l8:cp) (k9:aD) (k:cq):Nat→eG:=lpF nY (rc n l8 k9 k)
theorem UB (k:cq) (m:Nat):rl n l8 k9 k (m+1)=rc n l8 k9 k (rl n l8 k9 k m):=rfl
theorem UQ (m:Nat):lo nY (yz (nH l8 k9) k0 m)=rl n l8 k9 (kap ni k0) m:=sY (fun J2=>(by obtain ⟨J1,u1⟩:=exi (ux (nH l8 k9) k0); delta yx rc; rw [← UO,u1]; kernel_rfl:lo nY (yx (nH l8 k9) k0 J2)=rc n l8 k9 (kap ni k0) (lo nY J2))) m
def GW:Q1:=(jB cf mE Fu (jB cf mE FI (jB cf mE Fk (kJ nY (yz cf k0 n)))))
def vy (n:Nat) (l8:cp) (k9:aD) (k:cq) (a0:AV) (a1:Int) (h:ad):ah:=mX a0 fun a=>rl n l8 k9 k n a0 a1 a 0 a h
def zU (n:Nat) (l8:cp) (k9:aD) (a0:AV) (a1:Int) (h:ad) (k:cq):ah:=vy n l8 k9 k a0 a1 h
theorem WM:DZ cf mE n GP ni k0=GW n cf k0:=by funext s; kernel_rfl
theorem XO:lo ju (DZ (nH l8 k9) mE n GP ni k0)=cmp ju (zU n l8 k9) (kap ni k0):=(congrArg (lo ju) (WM n (nH l8 k9) k0)).trans (show _=vy n l8 k9 (kap ni k0) by obtain ⟨J2,u2⟩:=exi (yz (nH l8 k9) k0 n); delta GW vy; rw [← UQ,u2]; kernel_rfl)
end
def b7 (n:Nat):aU:=zU n (eO n) (dV n)
abbrev bu:=AV→Int→Int→ad→(ad→ah)→ah
abbrev UD (g:bu):Wr:=wrT lS rW g
def aes (jM:aU) (oG:Wr):aW:=pl [(zJ,zY jM),(Py,oG)]
section
variable (jM:aU) (oG:Wr) (k0:Q0)
def afR:Q1:=(jB cf Mt aca (jB cf Mt abv (lP rW k0)))
def LW (n:Nat) (jM:aU) (oG:Wr) (k:fE) (a0:AV) (a1:Int) (a2:Int) (h:ad):ah:=nfa 2 a0 fun a=>SA 1 7 a a2 fun b=>nq h b 1 false fun c=>jM c a1 h fun d e f=>nfa 2 a0 fun g=>SA 1 7 g a2 fun i=>nq f i 1 false fun l=>pZ f 1 [(.int .i64 0)] [(0,1,(.int .i64 a1))] fun m o=>oG [l,(.int .i64 d),m] o fun p q=>nfa 2 a0 fun r=>SA 1 7 r a2 fun s=>qT q s 1 p fun t=>k t
def UF (n:Nat) (jM:aU) (oG:Wr) (a0:AV) (a1:Int) (a2:Int) (h:ad) (k:fE):ah:=LW n jM oG k a0 a1 a2 h
theorem as2:DZ cf Mt n agq rW k0=afR cf k0:=by funext s; kernel_rfl
theorem asU:lo lS (DZ (aes jM oG) Mt n agq rW k0)=cmp lS (UF n jM oG) (kap rW k0):=(congrArg (lo lS) (as2 n (aes jM oG) k0)).trans (show _=LW n jM oG (kap rW k0) by delta afR LW; kernel_rfl)
end
def cF (n:Nat):bu:=UF n (b7 n) (Eb eI)
abbrev ad2 (g:aw):Wr:=wrT ju kE g
def nM (jq:aa) (jj:aM) (jQ:bu):aW:=pl [(IZ,IJ jq),(Fm,Fl jj),(UA,UD jQ)]
section
variable (jq:aa) (jj:aM) (jQ:bu) (k0:Q0)
def F7:Q1:=(jB cf mQ Y0 (jB cf mQ Zo (lP kE k0)))
def F0 (n:Nat) (jq:aa) (jj:aM) (jQ:bu) (k:aA) (v0:AV) (v1:Int) (v7:Int) (h:ad):ah:=ys 9 h v0 1 false fun a b=>auj h (.cell .int) b (.int .i64 v7) (.int .i64 v1) fun c=>k v7 0 c
theorem anV:lo Oi (F7 (nM jq jj jQ) k0)=F0 n jq jj jQ (kap kE k0):=by delta F7 F0; kernel_rfl
def Ob (J1:Q1):Q1:=(jB cf mQ Zh (cJ p57 (jB cf mQ YI (jB cf mQ YY (kJ mS J1))) (kJ Oi (F7 cf k0))))
def Bc (n:Nat) (jq:aa) (jj:aM) (jQ:bu) (k:aA) (j1:bI) (v0:AV) (v1:Int) (v6:Int) (v7:Int) (h:ad):ah:=ifB (ltF v1 v6) (amc .i64 v6 1 fun a=>ak4 .i64 1 a fun b=>oK .i64 v7 b fun c=>jQ v0 c a h fun d=>j1 v0 v1 a v7 d) (F0 n jq jj jQ k v0 v1 v7 h)
def Oe:Nat→Q1:=lpS (Ob cf k0)
def A8 (n:Nat) (jq:aa) (jj:aM) (jQ:bu) (k:aA):Nat→bI:=lpF mS (Bc n jq jj jQ k)
theorem anK (k:aA) (m:Nat):A8 n jq jj jQ k (m+1)=Bc n jq jj jQ k (A8 n jq jj jQ k m):=rfl
theorem an8 (m:Nat):lo mS (Oe (nM jq jj jQ) k0 m)=A8 n jq jj jQ (kap kE k0) m:=sY (fun J1=>(by obtain ⟨J0,u0⟩:=exi (F7 (nM jq jj jQ) k0); delta Ob Bc; rw [← anV,u0]; kernel_rfl:lo mS (Ob (nM jq jj jQ) k0 J1)=Bc n jq jj jQ (kap kE k0) (lo mS J1))) m
def F1:Q1:=(jB cf mQ YD (cJ p34 (jB cf mQ F2 (lP kE k0)) (jB cf mQ YG (jB cf mQ Y8 (kJ mS (Oe cf k0 n))))))
def F6 (n:Nat) (jq:aa) (jj:aM) (jQ:bu) (k:aA) (v0:AV) (v1:Int) (v6:Int) (h:ad):ah:=ifB (ltF 6 v6) (k 0 90 h) (nfa 2 v0 fun a=>SA 1 7 a v6 fun b=>nq h b 1 false fun c=>Ga .i64 1 h c 0 fun d e=>nfa 2 v0 fun f=>SA 1 7 f v6 fun g=>nq h g 1 false fun i=>jj i 0 1 h fun l m=>nfa 2 v0 fun o=>SA 1 7 o v6 fun p=>qT m p 1 l fun q=>A8 n jq jj jQ k n v0 v1 v6 e q)
theorem an1:lo pE (F1 n (nM jq jj jQ) k0)=F6 n jq jj jQ (kap kE k0):=by obtain ⟨J1,u1⟩:=exi (Oe (nM jq jj jQ) k0 n); delta F1 F6; rw [← an8,u1]; kernel_rfl
def FW (J3:Q1):Q1:=(cJ p30 (jB cf mQ YV (kJ pE J3)) (kJ pE (F1 n cf k0)))
def Be (n:Nat) (jq:aa) (jj:aM) (jQ:bu) (k:aA) (j3:ck) (v0:AV) (v1:Int) (v6:Int) (v30:Bool) (h:ad):ah:=ifB v30 (oK .i64 v6 1 fun a=>j3 v0 v1 a h) (F6 n jq jj jQ k v0 v1 v6 h)
theorem anL (J3:Q1):lo Ol (FW n (nM jq jj jQ) k0 J3)=Be n jq jj jQ (kap kE k0) (lo pE J3):=by obtain ⟨J2,u2⟩:=exi (F1 n (nM jq jj jQ) k0); delta FW Be; rw [← an1,u2]; kernel_rfl
def Ot (J3:Q1):Q1:=(jB cf mQ WR (kJ Ol (FW n cf k0 J3)))
def Bh (n:Nat) (jq:aa) (jj:aM) (jQ:bu) (k:aA) (j3:ck) (v0:AV) (v1:Int) (v6:Int) (h:ad):ah:=ifB (mW (ltF 6 v6)) (nfa 2 v0 fun a=>SA 1 7 a v6 fun b=>nq h b 1 false fun c=>mX c fun d=>Be n jq jj jQ k j3 v0 v1 v6 (eqF d 0) h) (Be n jq jj jQ k j3 v0 v1 v6 false h)
def Oq:Nat→Q1:=lpS (Ot n cf k0)
def Bi (n:Nat) (jq:aa) (jj:aM) (jQ:bu) (k:aA):Nat→ck:=lpF pE (Bh n jq jj jQ k)
theorem anS (k:aA) (m:Nat):Bi n jq jj jQ k (m+1)=Bh n jq jj jQ k (Bi n jq jj jQ k m):=rfl
theorem anW (m:Nat):lo pE (Oq n (nM jq jj jQ) k0 m)=Bi n jq jj jQ (kap kE k0) m:=sY (fun J3=>(by obtain ⟨J4,u4⟩:=exi (FW n (nM jq jj jQ) k0 J3); delta Ot Bh; rw [← anL,u4]; kernel_rfl:lo pE (Ot n (nM jq jj jQ) k0 J3)=Bh n jq jj jQ (kap kE k0) (lo pE J3))) m
def FS:Q1:=(jB cf mQ V0 (cJ p11 (jB cf mQ oL (lP kE k0)) (jB cf mQ VN (kJ pE (Oq n cf k0 n)))))
def A5 (n:Nat) (jq:aa) (jj:aM) (jQ:bu) (k:aA) (v0:AV) (v1:Int) (v17:Bool) (h:ad):ah:=ifB v17 (k 0 2 h) (Bi n jq jj jQ k n v0 v1 v1 h)
theorem an2:lo Oo (FS n (nM jq jj jQ) k0)=A5 n jq jj jQ (kap kE k0):=by obtain ⟨J3,u3⟩:=exi (Oq n (nM jq jj jQ) k0 n); delta FS A5; rw [← anW,u3]; kernel_rfl
def aen:Q1:=(jB cf mQ oH (jB cf mQ Wh (cJ p8 (jB cf mQ wl (lP kE k0)) (jB cf mQ V3 (kJ Oo (FS n cf k0))))))
def IU (n:Nat) (jq:aa) (jj:aM) (jQ:bu) (k:aA) (a0:AV) (a1:Int) (h:ad):ah:=jq a0 h fun a b=>ifB a (k 0 1 b) (ifB (ltF a1 0) (A5 n jq jj jQ k a0 a1 true b) (A5 n jq jj jQ k a0 a1 (ltF 6 a1) b))
def Sq (n:Nat) (jq:aa) (jj:aM) (jQ:bu) (a0:AV) (a1:Int) (h:ad) (k:aA):ah:=IU n jq jj jQ k a0 a1 h
theorem aq5:DZ cf mQ n ad9 kE k0=aen n cf k0:=by funext s; kernel_rfl
theorem ara:lo ju (DZ (nM jq jj jQ) mQ n ad9 kE k0)=cmp ju (Sq n jq jj jQ) (kap kE k0):=(congrArg (lo ju) (aq5 n (nM jq jj jQ) k0)).trans (show _=IU n jq jj jQ (kap kE k0) by obtain ⟨J5,u5⟩:=exi (FS n (nM jq jj jQ) k0); delta aen IU; rw [← an2,u5]; kernel_rfl)
end
def dW (n:Nat):aw:=Sq n (cH n) (b8 n) (cF n)
abbrev aqf (g:cr):Wr:=wrT nv pG g
def GK (j7:aq) (kO:aD):aW:=pl [(GH,GD j7),(Xf,Wz kO)]
section
variable (j7:aq) (kO:aD) (k0:Q0)
def Q9:Q1:=(cJ p26 (jB cf Fq Rn (lP pG k0)) (jB cf Fq ajO (lP pG k0)))
def JJ (n:Nat) (j7:aq) (kO:aD) (k:aA) (v0:Int) (v1:Int) (v2:Int) (v26:Bool) (h:ad):ah:=ifB v26 (k 0 2 h) (Gb .i64 v1 v2 fun a=>oK .i64 a v0 fun b=>k b 0 h)
theorem avI:lo ZL (Q9 (GK j7 kO) k0)=JJ n j7 kO (kap pG k0):=by delta Q9 JJ; kernel_rfl
def Q4:Q1:=(jB cf Fq akd (kJ ZL (Q9 cf k0)))
def JY (n:Nat) (j7:aq) (kO:aD) (k:aA) (v0:Int) (v1:Int) (v2:Int) (v17:Bool) (h:ad):ah:=ifB v17 (JJ n j7 kO k v0 v1 v2 true h) (amc .i64 4095 v0 fun a=>aw1 .i64 a v2 fun b=>j7 v1 0 b h fun c d=>JJ n j7 kO k v0 v1 v2 (mW c) d)
theorem avg:lo Zr (Q4 (GK j7 kO) k0)=JY n j7 kO (kap pG k0):=by obtain ⟨J1,u1⟩:=exi (Q9 (GK j7 kO) k0); delta Q4 JY; rw [← avI,u1]; kernel_rfl
def aoo:Q1:=(jB cf Fq QM (jB cf Fq ajw (kJ Zr (Q4 cf k0))))
def XB (n:Nat) (j7:aq) (kO:aD) (k:aA) (a0:Int) (a1:Int) (a2:Int) (h:ad):ah:=kO a2 h fun a b=>ifB (mW a) (JY n j7 kO k a0 a1 a2 true b) (amc .i64 a2 1 fun c=>j7 a0 0 c b fun d e=>JY n j7 kO k a0 a1 a2 (mW d) e)
def afv (n:Nat) (j7:aq) (kO:aD) (a0:Int) (a1:Int) (a2:Int) (h:ad) (k:aA):ah:=XB n j7 kO k a0 a1 a2 h
theorem ayp:DZ cf Fq n apm pG k0=aoo cf k0:=by funext s; kernel_rfl
theorem ay5:lo nv (DZ (GK j7 kO) Fq n apm pG k0)=cmp nv (afv n j7 kO) (kap pG k0):=(congrArg (lo nv) (ayp n (GK j7 kO) k0)).trans (show _=XB n j7 kO (kap pG k0) by obtain ⟨J0,u0⟩:=exi (Q4 (GK j7 kO) k0); delta aoo XB; rw [← avg,u0]; kernel_rfl)
end
def eX (n:Nat):cr:=afv n (cP n) (dT n)
abbrev cj:=AV→Int→Int→Int→ad→(AV→Int→ad→ah)→ah
abbrev US (g:cj):Wr:=wrT L2 re g
def xc (lZ:aw) (nh:cr):aW:=pl [(adO,ad2 lZ),(apQ,aqf nh)]
abbrev fX:Type:=AV→Int→Int→Int→AV→Int→Int→ad→ah
section
variable (lZ:aw) (nh:cr) (k0:Q0)
def GT:Q1:=(jB cf nN abd (lP re k0))
def He (n:Nat) (lZ:aw) (nh:cr) (k:aX) (v12:AV) (h:ad):ah:=k v12 0 h
theorem aoU:lo PQ (GT (xc lZ nh) k0)=He n lZ nh (kap re k0):=by delta GT He; kernel_rfl
def PT (J1:Q1):Q1:=(jB cf nN acr (cJ p33 (jB cf nN aa8 (jB cf nN abJ (jB cf nN abN (cJ p54 (jB cf nN abR (lP re k0)) (jB cf nN ace (jB cf nN acu (jB cf nN abm (jB cf nN acf (kJ wc J1))))))))) (kJ PQ (GT cf k0))))
def Db (n:Nat) (lZ:aw) (nh:cr) (k:aX) (j1:fX) (v0:AV) (v1:Int) (v3:Int) (v10:Int) (v12:AV) (v31:Int) (v32:Int) (h:ad):ah:=ifB (ltF v32 v31) (ys 1 h v0 1 false fun a b=>Ga .i64 1 h b v1 fun c d=>oK .i64 v10 v32 fun e=>ayS .i64 0 h v0 fun f g=>nh d e g h fun i l m=>ifB (mW (eqF l 0)) (k .nilslice l m) (ys 12 m v0 1 false fun o p=>auj m (.cell .int) p (.int .i64 i) (.int .u8 v3) fun q=>nfa 13 v0 fun r=>SA 1 7 r v3 fun s=>ldI .i64 q s fun t=>oK .i64 t 1 fun u=>nfa 13 v0 fun w=>SA 1 7 w v3 fun x=>qT q x 1 (.int .i64 u) fun y=>pZ y 1 [(.int .i64 0)] [(0,1,(.int .i64 i))] fun z A=>sI A 1 v12 z fun B C=>oK .i64 v32 1 fun E=>j1 v0 v1 v3 v10 B v31 E C)) (He n lZ nh k v12 h)
def Pn:Nat→Q1:=lpS (PT cf k0)
def CX (n:Nat) (lZ:aw) (nh:cr) (k:aX):Nat→fX:=lpF wc (Db n lZ nh k)
theorem aoM (k:aX) (m:Nat):CX n lZ nh k (m+1)=Db n lZ nh k (CX n lZ nh k m):=rfl
theorem aoQ (m:Nat):lo wc (Pn (xc lZ nh) k0 m)=CX n lZ nh (kap re k0) m:=sY (fun J1=>(by obtain ⟨J0,u0⟩:=exi (GT (xc lZ nh) k0); delta PT Db; rw [← aoU,u0]; kernel_rfl:lo wc (PT (xc lZ nh) k0 J1)=Db n lZ nh (kap re k0) (lo wc J1))) m
def afZ:Q1:=(jB cf nN Y7 (jB cf nN Zp (jB cf nN Zj (cJ p29 (jB cf nN Y5 (lP re k0)) (jB cf nN Zn (jB cf nN Ze (kJ wc (Pn cf k0 n))))))))
def MC (n:Nat) (lZ:aw) (nh:cr) (k:aX) (a0:AV) (a1:Int) (a2:Int) (a3:Int) (h:ad):ah:=ys 11 h a0 1 false fun a b=>eld 1 h b a1 1 false fun c d=>lZ d a2 h fun e f g=>ifB (mW (eqF f 0)) (k .nilslice 4 g) (ak4 .i64 1 a2 fun i=>CX n lZ nh k n a0 a1 a3 e .nilslice i 0 g)
def UL (n:Nat) (lZ:aw) (nh:cr) (a0:AV) (a1:Int) (a2:Int) (a3:Int) (h:ad) (k:aX):ah:=MC n lZ nh k a0 a1 a2 a3 h
theorem asy:DZ cf nN n agG re k0=afZ n cf k0:=by funext s; kernel_rfl
theorem asq:lo L2 (DZ (xc lZ nh) nN n agG re k0)=cmp L2 (UL n lZ nh) (kap re k0):=(congrArg (lo L2) (asy n (xc lZ nh) k0)).trans (show _=MC n lZ nh (kap re k0) by obtain ⟨J1,u1⟩:=exi (Pn (xc lZ nh) k0 n); delta afZ MC; rw [← aoQ,u1]; kernel_rfl)
end
def dG (n:Nat):cj:=UL n (dW n) (eX n)
abbrev aB:=AV→ad→(AV→Int→ad→ah)→ah
abbrev UC (g:aB):Wr:=wrT jN mj g
def aem (jk:aa) (kM:cj):aW:=pl [(vY,wd jk),(UE,US kM)]
section
variable (jk:aa) (kM:cj) (k0:Q0)
def af1:Q1:=(jB cf vU Ho (jB cf vU G3 (cJ p6 (jB cf vU GQ (lP mj k0)) (jB cf vU abT (cJ p12 (jB cf vU Hr (lP mj k0)) (jB cf vU abr (lP mj k0)))))))
def Bl (n:Nat) (jk:aa) (kM:cj) (k:aX) (a0:AV) (h:ad):ah:=jk a0 h fun a b=>ifB (mW a) (k .nilslice 1 b) (nfa 13 a0 fun c=>SA 1 7 c 1 fun d=>ldI .i64 b d fun e=>ifB (ltF 0 e) (k .nilslice 91 b) (ayS .i64 2 b a0 fun f g=>kM a0 0 g 1 b fun i l m=>k i l m))
def FG (n:Nat) (jk:aa) (kM:cj) (a0:AV) (h:ad) (k:aX):ah:=Bl n jk kM k a0 h
theorem asI:DZ cf vU n agM mj k0=af1 cf k0:=by funext s; kernel_rfl
theorem ass:lo jN (DZ (aem jk kM) vU n agM mj k0)=cmp jN (FG n jk kM) (kap mj k0):=(congrArg (lo jN) (asI n (aem jk kM) k0)).trans (show _=Bl n jk kM (kap mj k0) by delta af1 Bl; kernel_rfl)
end
def ba (n:Nat):aB:=FG n (bM n) (dG n)
abbrev SD (g:aj):Wr:=wrT jN lj g
def vZ (jq:aa):aW:=pl [(IZ,IJ jq)]
abbrev eJ:Type:=Int→AV→Int→ad→ah
section
variable (jq:aa) (k0:Q0)
def FU:Q1:=(jB cf pR F9 (lP lj k0))
def F4 (n:Nat) (jq:aa) (k:ar) (v3:Int) (h:ad):ah:=k v3 h
theorem an3:lo xx (FU (vZ jq) k0)=F4 n jq (kap lj k0):=by delta FU F4; kernel_rfl
def Og (J1:Q1):Q1:=(jB cf pR YS (cJ p13 (jB cf pR Zi (jB cf pR Zm (jB cf pR YH (kJ vp J1)))) (kJ xx (FU cf k0))))
def Bg (n:Nat) (jq:aa) (k:ar) (j1:eJ) (v3:Int) (v11:AV) (v12:Int) (h:ad):ah:=ifB (ltF v12 7) (apC 1 7 false v11 v12 fun a=>mX a fun b=>ak4 .i64 b v12 fun c=>oK .i64 v3 c fun d=>oK .i64 v12 1 fun e=>j1 d v11 e h) (F4 n jq k v3 h)
def Ou:Nat→Q1:=lpS (Og cf k0)
def A3 (n:Nat) (jq:aa) (k:ar):Nat→eJ:=lpF vp (Bg n jq k)
theorem anO (k:ar) (m:Nat):A3 n jq k (m+1)=Bg n jq k (A3 n jq k m):=rfl
theorem an9 (m:Nat):lo vp (Ou (vZ jq) k0 m)=A3 n jq (kap lj k0) m:=sY (fun J1=>(by obtain ⟨J0,u0⟩:=exi (FU (vZ jq) k0); delta Og Bg; rw [← an3,u0]; kernel_rfl:lo vp (Og (vZ jq) k0 J1)=Bg n jq (kap lj k0) (lo vp J1))) m
def ad8:Q1:=(jB cf pR xB (jB cf pR Y1 (cJ p7 (jB cf pR xB (lP lj k0)) (jB cf pR s0 (jB cf pR Zc (kJ vp (Ou cf k0 n)))))))
def I4 (n:Nat) (jq:aa) (k:ar) (a0:AV) (h:ad):ah:=jq a0 h fun a b=>ifB a (k 0 b) (ys 2 b a0 7 true fun c d=>A3 n jq k n 0 d 0 b)
def Sz (n:Nat) (jq:aa) (a0:AV) (h:ad) (k:ar):ah:=I4 n jq k a0 h
theorem aq4:DZ cf pR n ad1 lj k0=ad8 n cf k0:=by funext s; kernel_rfl
theorem ard:lo jN (DZ (vZ jq) pR n ad1 lj k0)=cmp jN (Sz n jq) (kap lj k0):=(congrArg (lo jN) (aq4 n (vZ jq) k0)).trans (show _=I4 n jq (kap lj k0) by obtain ⟨J1,u1⟩:=exi (Ou (vZ jq) k0 n); delta ad8 I4; rw [← an9,u1]; kernel_rfl)
end
def cG (n:Nat):aj:=Sz n (cH n)
abbrev atx:=Int→Int→ad→ah
abbrev XR (g:aw):Wr:=wrT qW kE g
def rt (jk:aa) (kM:cj) (kc:aj):aW:=pl [(vY,wd jk),(UE,US kM),(SG,SD kc)]
abbrev fA:Type:=AV→Int→Int→AV→Int→Int→ad→ah
section
variable (jk:aa) (kM:cj) (kc:aj) (k0:Q0)
def IX:Q1:=(jB cf nj ad0 (jB cf nj adJ (cJ p67 (jB cf nj aec (lP kE k0)) (jB cf nj aeb (lP kE k0)))))
def DY (n:Nat) (jk:aa) (kM:cj) (kc:aj) (k:aA) (v0:AV) (v1:Int) (v6:Int) (h:ad):ah:=kM v0 v6 0 v1 h fun a b c=>ifB (mW (eqF b 0)) (k 0 b c) (Ga .i64 1 c a 0 fun d e=>k e 0 c)
theorem aq9:lo Ab (IX (rt jk kM kc) k0)=DY n jk kM kc (kap kE k0):=by delta IX DY; kernel_rfl
def D5 (J1:Q1):Q1:=(jB cf nj adM (kJ pQ J1))
def Ec (n:Nat) (jk:aa) (kM:cj) (kc:aj) (k:aA) (j1:fA) (v0:AV) (v1:Int) (v6:Int) (v39:AV) (v40:Int) (v41:Int) (h:ad):ah:=oK .i64 v41 1 fun a=>j1 v0 v1 v6 v39 v40 a h
theorem aq3 (J1:Q1):lo pQ (D5 (rt jk kM kc) J1)=Ec n jk kM kc (kap kE k0) (lo pQ J1):=by delta D5 Ec; kernel_rfl
def SN (J1:Q1):Q1:=(jB cf nj aea (cJ p42 (jB cf nj adI (jB cf nj ad5 (cJ p56 (jB cf nj ael (kJ pQ (D5 cf J1))) (kJ pQ (D5 cf J1))))) (kJ Ab (IX cf k0))))
def D7 (n:Nat) (jk:aa) (kM:cj) (kc:aj) (k:aA) (j1:fA) (v0:AV) (v1:Int) (v6:Int) (v39:AV) (v40:Int) (v41:Int) (h:ad):ah:=ifB (ltF v41 v40) (eld 1 h v39 v41 1 false fun a b=>kc b (h.shut true) fun c d=>ys 11 (d.back h.ro) v0 1 false fun e f=>eld 1 (d.back h.ro) f v6 1 false fun g i=>kc i (d.back h.ro) fun l m=>ifB (ltF l c) (Ec n jk kM kc k j1 v0 v1 v41 v39 v40 v41 m) (Ec n jk kM kc k j1 v0 v1 v6 v39 v40 v41 m)) (DY n jk kM kc k v0 v1 v6 h)
def SL:Nat→Q1:=lpS (SN cf k0)
def Ee (n:Nat) (jk:aa) (kM:cj) (kc:aj) (k:aA):Nat→fA:=lpF pQ (D7 n jk kM kc k)
theorem aqU (k:aA) (m:Nat):Ee n jk kM kc k (m+1)=D7 n jk kM kc k (Ee n jk kM kc k m):=rfl
theorem aqQ (m:Nat):lo pQ (SL (rt jk kM kc) k0 m)=Ee n jk kM kc (kap kE k0) m:=sY (fun J1=>(by obtain ⟨J0,u0⟩:=exi (IX (rt jk kM kc) k0); obtain ⟨J2,u2⟩:=exi (D5 (rt jk kM kc) J1); delta SN D7; rw [← aq9,u0, ← aq3,u2]; kernel_rfl:lo pQ (SN (rt jk kM kc) k0 J1)=D7 n jk kM kc (kap kE k0) (lo pQ J1))) m
def IW:Q1:=(jB cf nj acb (cJ p15 (jB cf nj oL (lP kE k0)) (jB cf nj ach (cJ p22 (jB cf nj yE (lP kE k0)) (jB cf nj mV (jB cf nj aeq (kJ pQ (SL cf k0 n))))))))
def Ac (n:Nat) (jk:aa) (kM:cj) (kc:aj) (k:aA) (v0:AV) (v1:Int) (v21:Bool) (h:ad):ah:=ifB v21 (k 0 2 h) (nfa 13 v0 fun a=>SA 1 7 a v1 fun b=>ldI .i64 h b fun c=>nfa 3 v0 fun d=>SA 1 7 d v1 fun e=>ldI .i64 h e fun f=>ifB (mW (ltF c f)) (k 0 4 h) (ys 11 h v0 1 false fun g i=>mX i fun l=>Ee n jk kM kc k n v0 v1 0 i l 0 h))
theorem aqY:lo SH (IW n (rt jk kM kc) k0)=Ac n jk kM kc (kap kE k0):=by obtain ⟨J1,u1⟩:=exi (SL (rt jk kM kc) k0 n); delta IW Ac; rw [← aqQ,u1]; kernel_rfl
def ahR:Q1:=(jB cf nj oH (jB cf nj abQ (cJ p11 (jB cf nj wl (lP kE k0)) (jB cf nj abh (kJ SH (IW n cf k0))))))
def Di (n:Nat) (jk:aa) (kM:cj) (kc:aj) (k:aA) (a0:AV) (a1:Int) (h:ad):ah:=jk a0 h fun a b=>ifB (mW a) (k 0 1 b) (ifB (ltF a1 2) (Ac n jk kM kc k a0 a1 true b) (Ac n jk kM kc k a0 a1 (ltF 6 a1) b))
def Hl (n:Nat) (jk:aa) (kM:cj) (kc:aj) (a0:AV) (a1:Int) (h:ad) (k:aA):ah:=Di n jk kM kc k a0 a1 h
theorem auJ:DZ cf nj n ahH kE k0=ahR n cf k0:=by funext s; kernel_rfl
theorem at6:lo qW (DZ (rt jk kM kc) nj n ahH kE k0)=cmp qW (Hl n jk kM kc) (kap kE k0):=(congrArg (lo qW) (auJ n (rt jk kM kc) k0)).trans (show _=Di n jk kM kc (kap kE k0) by obtain ⟨J3,u3⟩:=exi (IW n (rt jk kM kc) k0); delta ahR Di; rw [← aqY,u3]; kernel_rfl)
end
def bh (n:Nat):aw:=Hl n (bM n) (dG n) (cG n)
abbrev dC:=Int→Int→ad→(Int→Int→ad→ah)→ah
abbrev awl (g:dC):Wr:=wrT qk kE g
def aeC (j7:aq) (kO:aD):aW:=pl [(GH,GD j7),(Xf,Wz kO)]
section
variable (j7:aq) (kO:aD) (k0:Q0)
def aaR:Q1:=(cJ p13 (jB cf Ae oL (lP kE k0)) (jB cf Ae ar3 (lP kE k0)))
def T0 (n:Nat) (j7:aq) (kO:aD) (k:aA) (v0:Int) (v1:Int) (v13:Bool) (h:ad):ah:=ifB v13 (k 0 2 h) (remK .i64 v0 v1 fun a=>k a 0 h)
theorem aAa:lo N2 (aaR (aeC j7 kO) k0)=T0 n j7 kO (kap kE k0):=by delta aaR T0; kernel_rfl
def awB:Q1:=(jB cf Ae oH (jB cf Ae aaL (kJ N2 (aaR cf k0))))
def ahE (n:Nat) (j7:aq) (kO:aD) (k:aA) (a0:Int) (a1:Int) (h:ad):ah:=j7 a0 0 4095 h fun a b=>ifB (mW a) (T0 n j7 kO k a0 a1 true b) (kO a1 b fun c d=>T0 n j7 kO k a0 a1 (mW c) d)
def apb (n:Nat) (j7:aq) (kO:aD) (a0:Int) (a1:Int) (h:ad) (k:aA):ah:=ahE n j7 kO k a0 a1 h
theorem aC1:DZ cf Ae n awv kE k0=awB cf k0:=by funext s; kernel_rfl
theorem aDs:lo qk (DZ (aeC j7 kO) Ae n awv kE k0)=cmp qk (apb n j7 kO) (kap kE k0):=(congrArg (lo qk) (aC1 n (aeC j7 kO) k0)).trans (show _=ahE n j7 kO (kap kE k0) by obtain ⟨J0,u0⟩:=exi (aaR (aeC j7 kO) k0); delta awB ahE; rw [← aAa,u0]; kernel_rfl)
end
def fW (n:Nat):dC:=apb n (cP n) (dT n)
abbrev aoy (g:dC):Wr:=wrT qk kE g
def Ul (j7:aq) (kO:aD):aW:=pl [(GH,GD j7),(Xf,Wz kO)]
section
variable (j7:aq) (kO:aD) (k0:Q0)
def Rl:Q1:=(cJ p13 (jB cf Ae oL (lP kE k0)) (jB cf Ae ako (lP kE k0)))
def Kh (n:Nat) (j7:aq) (kO:aD) (k:aA) (v0:Int) (v1:Int) (v13:Bool) (h:ad):ah:=ifB v13 (k 0 2 h) (aw1 .i64 v0 v1 fun a=>k a 0 h)
theorem au8:lo N2 (Rl (Ul j7 kO) k0)=Kh n j7 kO (kap kE k0):=by delta Rl Kh; kernel_rfl
def aou:Q1:=(jB cf Ae oH (jB cf Ae aaL (kJ N2 (Rl cf k0))))
def XV (n:Nat) (j7:aq) (kO:aD) (k:aA) (a0:Int) (a1:Int) (h:ad):ah:=j7 a0 0 4095 h fun a b=>ifB (mW a) (Kh n j7 kO k a0 a1 true b) (kO a1 b fun c d=>Kh n j7 kO k a0 a1 (mW c) d)
def agA (n:Nat) (j7:aq) (kO:aD) (a0:Int) (a1:Int) (h:ad) (k:aA):ah:=XV n j7 kO k a0 a1 h
theorem ayg:DZ cf Ae n aom kE k0=aou cf k0:=by funext s; kernel_rfl
theorem ayj:lo qk (DZ (Ul j7 kO) Ae n aom kE k0)=cmp qk (agA n j7 kO) (kap kE k0):=(congrArg (lo qk) (ayg n (Ul j7 kO) k0)).trans (show _=XV n j7 kO (kap kE k0) by obtain ⟨J0,u0⟩:=exi (Rl (Ul j7 kO) k0); delta aou XV; rw [← au8,u0]; kernel_rfl)
end
def fu (n:Nat):dC:=agA n (cP n) (dT n)
abbrev aI:=AV→Int→Int→ad→(Int→ad→ah)→ah
abbrev aeh (g:aI):Wr:=wrT lS lc g
def oQ (jq:aa) (jM:aU) (jj:aM) (jQ:bu):aW:=pl [(IZ,IJ jq),(zJ,zY jM),(Fm,Fl jj),(UA,UD jQ)]
section
variable (jq:aa) (jM:aU) (jj:aM) (jQ:bu) (k0:Q0)
def A7:Q1:=(jB cf mA YO (jB cf mA mV (lP lc k0)))
def Bb (n:Nat) (jq:aa) (jM:aU) (jj:aM) (jQ:bu) (k:ar) (v0:AV) (v1:Int) (v2:Int) (h:ad):ah:=jQ v0 v1 v2 h fun a=>k 0 a
theorem anP:lo lS (A7 (oQ jq jM jj jQ) k0)=Bb n jq jM jj jQ (kap lc k0):=by delta A7 Bb; kernel_rfl
def Oa (J1:Q1):Q1:=(jB cf mA YL (cJ p48 (jB cf mA Zd (jB cf mA Zk (jB cf mA Y2 (cJ p65 (kJ lS (A7 cf k0)) (jB cf mA YK (jB cf mA Y9 (jB cf mA Zg (kJ lS J1)))))))) (kJ lS (A7 cf k0))))
def Bj (n:Nat) (jq:aa) (jM:aU) (jj:aM) (jQ:bu) (k:ar) (j1:ck) (v0:AV) (v1:Int) (v2:Int) (h:ad):ah:=ifB (ltF v2 6) (ak4 .i64 1 v2 fun a=>bitK .xor .i64 v1 a fun b=>nfa 2 v0 fun c=>SA 1 7 c v2 fun d=>nq h d 1 false fun e=>jM e b h fun f g i=>ifB (mW g) (Bb n jq jM jj jQ k v0 v1 v2 i) (nfa 2 v0 fun l=>SA 1 7 l v2 fun m=>nq i m 1 false fun o=>oK .i64 f 1 fun p=>jj o f p i fun q r=>nfa 2 v0 fun s=>SA 1 7 s v2 fun t=>qT r t 1 q fun u=>Ui false [(.int .i64 v1),(.int .i64 b)] fun w=>ac0 .i64 w fun x=>oK .i64 v2 1 fun y=>j1 v0 x y u)) (Bb n jq jM jj jQ k v0 v1 v2 h)
def Ok:Nat→Q1:=lpS (Oa cf k0)
def A4 (n:Nat) (jq:aa) (jM:aU) (jj:aM) (jQ:bu) (k:ar):Nat→ck:=lpF lS (Bj n jq jM jj jQ k)
theorem anM (k:ar) (m:Nat):A4 n jq jM jj jQ k (m+1)=Bj n jq jM jj jQ k (A4 n jq jM jj jQ k m):=rfl
theorem an5 (m:Nat):lo lS (Ok (oQ jq jM jj jQ) k0 m)=A4 n jq jM jj jQ (kap lc k0) m:=sY (fun J1=>(by obtain ⟨J0,u0⟩:=exi (A7 (oQ jq jM jj jQ) k0); delta Oa Bj; rw [← anP,u0]; kernel_rfl:lo lS (Oa (oQ jq jM jj jQ) k0 J1)=Bj n jq jM jj jQ (kap lc k0) (lo lS J1))) m
def FT:Q1:=(cJ p41 (jB cf mA Ev (lP lc k0)) (jB cf mA YR (kJ lS (Ok cf k0 n))))
def Bf (n:Nat) (jq:aa) (jM:aU) (jj:aM) (jQ:bu) (k:ar) (v0:AV) (v1:Int) (v2:Int) (v41:Bool) (h:ad):ah:=ifB v41 (k 91 h) (ys 9 h v0 1 false fun a b=>at8 h (.cell .int) b (.int .i64 v1) fun c=>A4 n jq jM jj jQ k n v0 v1 v2 c)
theorem anQ:lo Oc (FT n (oQ jq jM jj jQ) k0)=Bf n jq jM jj jQ (kap lc k0):=by obtain ⟨J1,u1⟩:=exi (Ok (oQ jq jM jj jQ) k0 n); delta FT Bf; rw [← an5,u1]; kernel_rfl
def FV:Q1:=(jB cf mA XP (cJ p15 (jB cf mA EP (lP lc k0)) (jB cf mA Xt (jB cf mA VT (kJ Oc (FT n cf k0))))))
def Ba (n:Nat) (jq:aa) (jM:aU) (jj:aM) (jQ:bu) (k:ar) (v0:AV) (v1:Int) (v2:Int) (v25:Bool) (h:ad):ah:=ifB v25 (k 2 h) (ys 9 h v0 1 false fun a b=>ahs h (.cell .int) (.int .i64 0) b (.int .i64 v1) fun c b5=>ac0 .i64 c fun d=>ifB (mW b5) (Bf n jq jM jj jQ k v0 v1 v2 true h) (Bf n jq jM jj jQ k v0 v1 v2 (mW (eqF d v2)) h))
theorem an0:lo Om (FV n (oQ jq jM jj jQ) k0)=Ba n jq jM jj jQ (kap lc k0):=by obtain ⟨J2,u2⟩:=exi (FT n (oQ jq jM jj jQ) k0); delta FV Ba; rw [← anQ,u2]; kernel_rfl
def FX:Q1:=(jB cf mA V4 (kJ Om (FV n cf k0)))
def A9 (n:Nat) (jq:aa) (jM:aU) (jj:aM) (jQ:bu) (k:ar) (v0:AV) (v1:Int) (v2:Int) (v21:Bool) (h:ad):ah:=ifB v21 (Ba n jq jM jj jQ k v0 v1 v2 true h) (Ba n jq jM jj jQ k v0 v1 v2 (ltF v1 0) h)
theorem aoa:lo N7 (FX n (oQ jq jM jj jQ) k0)=A9 n jq jM jj jQ (kap lc k0):=by obtain ⟨J4,u4⟩:=exi (FV n (oQ jq jM jj jQ) k0); delta FX A9; rw [← an0,u4]; kernel_rfl
def ad4:Q1:=(jB cf mA mV (jB cf mA Wa (cJ p12 (jB cf mA X8 (lP lc k0)) (jB cf mA VX (kJ N7 (FX n cf k0))))))
def IM (n:Nat) (jq:aa) (jM:aU) (jj:aM) (jQ:bu) (k:ar) (a0:AV) (a1:Int) (a2:Int) (h:ad):ah:=jq a0 h fun a b=>ifB a (k 1 b) (ifB (ltF a2 0) (A9 n jq jM jj jQ k a0 a1 a2 true b) (A9 n jq jM jj jQ k a0 a1 a2 (ltF 6 a2) b))
def SB (n:Nat) (jq:aa) (jM:aU) (jj:aM) (jQ:bu) (a0:AV) (a1:Int) (a2:Int) (h:ad) (k:ar):ah:=IM n jq jM jj jQ k a0 a1 a2 h
theorem aq1:DZ cf mA n adE lc k0=ad4 n cf k0:=by funext s; kernel_rfl
theorem aq8:lo lS (DZ (oQ jq jM jj jQ) mA n adE lc k0)=cmp lS (SB n jq jM jj jQ) (kap lc k0):=(congrArg (lo lS) (aq1 n (oQ jq jM jj jQ) k0)).trans (show _=IM n jq jM jj jQ (kap lc k0) by obtain ⟨J3,u3⟩:=exi (FX n (oQ jq jM jj jQ) k0); delta ad4 IM; rw [← aoa,u3]; kernel_rfl)
end
def eB (n:Nat):aI:=SB n (cH n) (b7 n) (b8 n) (cF n)
abbrev Xy (g:ab):Wr:=wrT ju ji g
def LV (jk:aa) (vk:dC) (qJ:dC) (kY:ab) (nW:aI):aW:=pl [(vY,wd jk),(awm,awl vk),(ao7,aoy qJ),(Gy,Gz kY),(aee,aeh nW)]
section
variable (jk:aa) (vk:dC) (qJ:dC) (kY:ab) (nW:aI) (k0:Q0)
def IV:Q1:=(cJ p28 (jB cf ny Hc (lP ji k0)) (jB cf ny aby (jB cf ny abA (cJ p39 (jB cf ny adY (lP ji k0)) (jB cf ny ad6 (jB cf ny ad3 (cJ p51 (jB cf ny adF (lP ji k0)) (jB cf ny adU (jB cf ny adN (cJ p68 (jB cf ny aei (lP ji k0)) (jB cf ny adZ (jB cf ny adW (jB cf ny kz (lP ji k0))))))))))))))
def xd (n:Nat) (jk:aa) (vk:dC) (qJ:dC) (kY:ab) (nW:aI) (k:ar) (v0:AV) (v1:Int) (v5:Int) (v28:Bool) (h:ad):ah:=ifB v28 (k 91 h) (ayS .i64 0 h v0 fun a b=>vk v1 b h fun c d e=>ifB (mW (eqF d 0)) (k d e) (ayS .i64 0 e v0 fun f g=>qJ v1 g e fun i l m=>ifB (mW (eqF l 0)) (k l m) (ys 11 m v0 1 false fun o p=>ys 1 m v0 1 false fun q r=>kY r c (m.shut true) fun s t=>eld 1 (t.back m.ro) p s 1 false fun u w=>nW w i 0 (t.back m.ro) fun x y=>ifB (mW (eqF x 0)) (k x y) (ys 12 y v0 1 false fun z A=>at8 y (.cell .int) A (.int .i64 v1) fun B=>nfa 13 v0 fun C=>SA 1 7 C v5 fun E=>ldI .i64 B E fun F=>amc .i64 F 1 fun G=>nfa 13 v0 fun I=>SA 1 7 I v5 fun K=>qT B K 1 (.int .i64 G) fun L=>k 0 L))))
theorem aqZ:lo SJ (IV (LV jk vk qJ kY nW) k0)=xd n jk vk qJ kY nW (kap ji k0):=by delta IV xd; kernel_rfl
def aih:Q1:=(jB cf ny kz (jB cf ny act (cJ p13 (jB cf ny G6 (lP ji k0)) (jB cf ny abg (jB cf ny abq (kJ SJ (IV cf k0)))))))
def zf (n:Nat) (jk:aa) (vk:dC) (qJ:dC) (kY:ab) (nW:aI) (k:ar) (a0:AV) (a1:Int) (h:ad):ah:=jk a0 h fun a b=>ifB (mW a) (k 1 b) (ys 12 b a0 1 false fun c d=>ahs b (.cell .int) (.int .u8 0) d (.int .i64 a1) fun e b5=>ac0 .u8 e fun f=>ifB (mW b5) (xd n jk vk qJ kY nW k a0 a1 f true b) (xd n jk vk qJ kY nW k a0 a1 f (eqF f 1) b))
def Dt (n:Nat) (jk:aa) (vk:dC) (qJ:dC) (kY:ab) (nW:aI) (a0:AV) (a1:Int) (h:ad) (k:ar):ah:=zf n jk vk qJ kY nW k a0 a1 h
theorem at9:DZ cf ny n ahu ji k0=aih cf k0:=by funext s; kernel_rfl
theorem auG:lo ju (DZ (LV jk vk qJ kY nW) ny n ahu ji k0)=cmp ju (Dt n jk vk qJ kY nW) (kap ji k0):=(congrArg (lo ju) (at9 n (LV jk vk qJ kY nW) k0)).trans (show _=zf n jk vk qJ kY nW (kap ji k0) by obtain ⟨J0,u0⟩:=exi (IV (LV jk vk qJ kY nW) k0); delta aih zf; rw [← aqZ,u0]; kernel_rfl)
end
def aZ (n:Nat):ab:=Dt n (bM n) (fW n) (fu n) (cL n) (eB n)
abbrev Dm (g:ai):Wr:=wrT lR jS g
def si:aW:=pl []
abbrev aP:Type:=AV→AV→Int→ad→ah
section
variable (k0:Q0)
def AD:Q1:=(jB cf oS oX (lP jS k0))
def AU (n:Nat) (k:ae) (h:ad):ah:=k true h
theorem ahi:lo kV (AD si k0)=AU n (kap jS k0):=by delta AD AU; kernel_rfl
def Gl (J1:Q1):Q1:=(jB cf oS Ay (cJ p14 (jB cf oS So (cJ p25 (jB cf oS lQ (lP jS k0)) (jB cf oS AX (kJ mU J1)))) (kJ kV (AD cf k0))))
def wP (n:Nat) (k:ae) (j1:aP) (v0:AV) (v1:AV) (v5:Int) (h:ad):ah:=mX v0 fun a=>ifB (ltF v5 a) (Ga .i64 1 h v0 v5 fun b c=>Ga .i64 1 h v1 v5 fun d e=>ifB (mW (eqF c e)) (k false h) (oK .i64 v5 1 fun f=>j1 v0 v1 f h)) (AU n k h)
def Gk:Nat→Q1:=lpS (Gl cf k0)
def wQ (n:Nat) (k:ae):Nat→aP:=lpF mU (wP n k)
theorem ahk (k:ae) (m:Nat):wQ n k (m+1)=wP n k (wQ n k m):=rfl
theorem agN (m:Nat):lo mU (Gk si k0 m)=wQ n (kap jS k0) m:=sY (fun J1=>(by obtain ⟨J0,u0⟩:=exi (AD si k0); delta Gl wP; rw [← ahi,u0]; kernel_rfl:lo mU (Gl si k0 J1)=wP n (kap jS k0) (lo mU J1))) m
def Vu:Q1:=(jB cf oS lQ (jB cf oS AH (cJ p10 (jB cf oS lQ (lP jS k0)) (jB cf oS mC (kJ mU (Gk cf k0 n))))))
def Dk (n:Nat) (k:ae) (a0:AV) (a1:AV) (h:ad):ah:=mX a0 fun a=>mX a1 fun b=>ifB (mW (eqF a b)) (k false h) (wQ n k n a0 a1 0 h)
def KQ (n:Nat) (a0:AV) (a1:AV) (h:ad) (k:ae):ah:=Dk n k a0 a1 h
theorem ajp:DZ cf oS n Vy jS k0=Vu n cf k0:=by funext s; kernel_rfl
theorem ajJ:lo lR (DZ si oS n Vy jS k0)=cmp lR (KQ n) (kap jS k0):=(congrArg (lo lR) (ajp n si k0)).trans (show _=Dk n (kap jS k0) by obtain ⟨J1,u1⟩:=exi (Gk si k0 n); delta Vu Dk; rw [← agN,u1]; kernel_rfl)
end
def aH (n:Nat):ai:=KQ n
abbrev W5 (g:ak):Wr:=wrT jN kF g
def yw (jk:aa) (kc:aj):aW:=pl [(vY,wd jk),(SG,SD kc)]
section
variable (jk:aa) (kc:aj) (k0:Q0)
def I2:Q1:=(jB cf qV adH (lP kF k0))
def IP (n:Nat) (jk:aa) (kc:aj) (k:az) (v3:AV) (h:ad):ah:=k v3 h
theorem aqS:lo oB (I2 (yw jk kc) k0)=IP n jk kc (kap kF k0):=by delta I2 IP; kernel_rfl
def Sp (J1:Q1):Q1:=(jB cf qV adP (cJ p15 (jB cf qV adX (jB cf qV adL (jB cf qV aej (kJ xa J1)))) (kJ oB (I2 cf k0))))
def Ea (n:Nat) (jk:aa) (kc:aj) (k:az) (j1:bN) (v3:AV) (v12:AV) (v13:Int) (v14:Int) (h:ad):ah:=ifB (ltF v14 v13) (eld 1 h v12 v14 1 false fun a b=>kc b h fun c d=>pZ d 1 [(.int .i64 0)] [(0,1,(.int .i64 c))] fun e f=>sI f 1 v3 e fun g i=>oK .i64 v14 1 fun l=>j1 g v12 v13 l i) (IP n jk kc k v3 h)
def Sx:Nat→Q1:=lpS (Sp cf k0)
def Ed (n:Nat) (jk:aa) (kc:aj) (k:az):Nat→bN:=lpF xa (Ea n jk kc k)
theorem arb (k:az) (m:Nat):Ed n jk kc k (m+1)=Ea n jk kc k (Ed n jk kc k m):=rfl
theorem aq2 (m:Nat):lo xa (Sx (yw jk kc) k0 m)=Ed n jk kc (kap kF k0) m:=sY (fun J1=>(by obtain ⟨J0,u0⟩:=exi (I2 (yw jk kc) k0); delta Sp Ea; rw [← aqS,u0]; kernel_rfl:lo xa (Sp (yw jk kc) k0 J1)=Ea n jk kc (kap kF k0) (lo xa J1))) m
def ahJ:Q1:=(jB cf qV lh (jB cf qV IR (cJ p8 (jB cf qV lh (lP kF k0)) (jB cf qV rL (jB cf qV aer (kJ xa (Sx cf k0 n)))))))
def GN (n:Nat) (jk:aa) (kc:aj) (k:az) (a0:AV) (h:ad):ah:=jk a0 h fun a b=>ifB (mW a) (k .nilslice b) (ys 11 b a0 1 false fun c d=>mX d fun e=>Ed n jk kc k n .nilslice d e 0 b)
def Oz (n:Nat) (jk:aa) (kc:aj) (a0:AV) (h:ad) (k:az):ah:=GN n jk kc k a0 h
theorem auq:DZ cf qV n ahL kF k0=ahJ n cf k0:=by funext s; kernel_rfl
theorem atV:lo jN (DZ (yw jk kc) qV n ahL kF k0)=cmp jN (Oz n jk kc) (kap kF k0):=(congrArg (lo jN) (auq n (yw jk kc) k0)).trans (show _=GN n jk kc (kap kF k0) by obtain ⟨J1,u1⟩:=exi (Sx (yw jk kc) k0 n); delta ahJ GN; rw [← aq2,u1]; kernel_rfl)
end
def dj (n:Nat):ak:=Oz n (bM n) (cG n)
abbrev bU:=ad→(AV→ad→ah)→ah
abbrev YJ (g:bU):Wr:=wrT kV xw g
def Wm:aW:=pl []
section
variable (k0:Q0)
def YW:Q1:=(jB cf qn U1 (jB cf qn Vd (jB cf qn Vw (jB cf qn VE (lP xw k0)))))
def Od (n:Nat) (k:az) (h:ad):ah:=Jr h (.cells [(.int .i64 0),(.int .i64 0),(.int .i64 0),(.int .i64 0),(.int .i64 0),(.int .i64 0),(.int .u64 0),(.int .u64 0),(.int .u64 0),(.int .u64 0),(.int .u64 0),(.int .u64 0),(.int .u64 0),(.int .u64 0),(.int .u64 0),.nilslice,.nilslice] true 0) fun a b=>pZ b 2 [(.int .i64 0),(.int .i64 0)] [(0,1,(.int .i64 0)),(1,1,(.int .i64 1))] fun c d=>uK [.nilslice,(.int .i64 0),(.int .i64 0),(.int .i64 0),(.int .i64 0),(.int .i64 0),(.int .i64 0),(.int .i64 0)] [(0,1,c),(1,1,(.int .i64 1)),(2,1,(.int .i64 4)),(3,1,(.int .i64 8)),(4,1,(.int .i64 1)),(5,1,(.int .i64 1)),(6,1,(.int .i64 1)),(7,1,(.int .i64 3))] fun e=>Jr d (.cells [.nilslice,(.int .i64 0),(.int .i64 0),(.int .i64 0),(.int .i64 0),(.int .i64 0),(.int .i64 0),(.int .i64 0)] true 0) fun f g=>qT g (.ptr f 0) 8 e fun i=>pZ i 1 [(.int .i64 0)] [(0,1,(.int .i64 2))] fun l m=>uK [.nilslice,(.int .i64 0),(.int .i64 0),(.int .i64 0),(.int .i64 0),(.int .i64 0),(.int .i64 0),(.int .i64 0)] [(0,1,l),(2,1,(.int .i64 2)),(3,1,(.int .i64 6)),(4,1,(.int .i64 1)),(5,1,(.int .i64 1)),(6,1,(.int .i64 1)),(7,1,(.int .i64 3))] fun o=>Jr m (.cells [.nilslice,(.int .i64 0),(.int .i64 0),(.int .i64 0),(.int .i64 0),(.int .i64 0),(.int .i64 0),(.int .i64 0)] true 0) fun p q=>qT q (.ptr p 0) 8 o fun r=>
 uK [(.int .u64 0),(.int .u64 0),(.int .u64 0),(.int .u64 0),(.int .u64 0),(.int .u64 0)] [(0,1,(.int .u64 1)),(1,1,(.int .u64 4)),(2,1,(.int .u64 10)),(3,1,(.int .u64 5)),(4,1,(.int .u64 1)),(5,1,(.int .u64 20))] fun s=>pZ r 2 [(.int .i64 0),(.int .i64 0)] [(0,1,(.int .i64 0)),(1,1,(.int .i64 1))] fun t u=>nq u (.ptr f 0) 8 true fun w=>nq u (.ptr p 0) 8 true fun x=>pZ u 2 [.nilslice,(.int .i64 0),(.int .i64 0),(.int .i64 0),(.int .i64 0),(.int .i64 0),(.int .i64 0),(.int .i64 0),.nilslice,(.int .i64 0),(.int .i64 0),(.int .i64 0),(.int .i64 0),(.int .i64 0),(.int .i64 0),(.int .i64 0)] [(0,8,w),(8,8,x)] fun y z=>uK [(.int .i64 0),(.int .i64 0),(.int .i64 0),(.int .i64 0),(.int .i64 0),(.int .i64 0),(.int .u64 0),(.int .u64 0),(.int .u64 0),(.int .u64 0),(.int .u64 0),(.int .u64 0),(.int .u64 0),(.int .u64 0),(.int .u64 0),.nilslice,.nilslice] [(0,1,(.int .i64 64)),(1,1,(.int .i64 4)),(2,1,(.int .i64 2)),(3,1,(.int .i64 4)),(4,1,(.int .i64 2)),(5,1,(.int .i64 4)),(6,6,s),(12,1,(.int .u64 4000)),(13,1,(.int .u64 20)),(15,1,t),(16,1,y)] fun A=>qT z (.ptr a 0) 17 A fun B=>nq B (.ptr a 0) 17 true fun C=>k C B
def Za (n:Nat) (h:ad) (k:az):ah:=Od n k h
theorem anU:DZ cf qn n Y3 xw k0=YW cf k0:=by funext s; kernel_rfl
theorem an6:lo kV (DZ Wm qn n Y3 xw k0)=cmp kV (Za n) (kap xw k0):=(congrArg (lo kV) (anU n Wm k0)).trans (show _=Od n (kap xw k0) by delta YW Od; kernel_rfl)
end
def fh (n:Nat):bU:=Za n
abbrev fN:=ad→(Bool→ad→ah)→ah
abbrev XZ (g:fN):Wr:=wrT kV mY g
def mr (j8:bA) (jl:aB) (jt:aw) (jr:ab) (jd:ai) (jz:ak) (kh:bU):aW:=pl [(asv,ast j8),(UG,UC jl),(Wl,XR jt),(X2,Xy jr),(Dj,Dm jd),(Wi,W5 jz),(YX,YJ kh)]
section
variable (j8:bA) (jl:aB) (jt:aw) (jr:ab) (jd:ai) (jz:ak) (kh:bU) (k0:Q0)
def B0:Q1:=(jB cf mH TK (lP mY k0))
def B4 (n:Nat) (j8:bA) (jl:aB) (jt:aw) (jr:ab) (jd:ai) (jz:ak) (kh:bU) (k:ae) (v69:Bool) (h:ad):ah:=k v69 h
theorem ait:lo HG (B0 (mr j8 jl jt jr jd jz kh) k0)=B4 n j8 jl jt jr jd jz kh (kap mY k0):=by delta B0 B4; kernel_rfl
def BV:Q1:=(jB cf mH Tu (kJ HG (B0 cf k0)))
def CC (n:Nat) (j8:bA) (jl:aB) (jt:aw) (jr:ab) (jd:ai) (jz:ak) (kh:bU) (k:ae) (v1:AV) (v64:Bool) (h:ad):ah:=ifB v64 (jr v1 0 h fun a b=>B4 n j8 jl jt jr jd jz kh k (eqF a 91) b) (B4 n j8 jl jt jr jd jz kh k false h)
theorem aiy:lo Hu (BV (mr j8 jl jt jr jd jz kh) k0)=CC n j8 jl jt jr jd jz kh (kap mY k0):=by obtain ⟨J7,u7⟩:=exi (B0 (mr j8 jl jt jr jd jz kh) k0); delta BV CC; rw [← ait,u7]; kernel_rfl
def BW:Q1:=(jB cf mH TF (kJ Hu (BV cf k0)))
def BZ (n:Nat) (j8:bA) (jl:aB) (jt:aw) (jr:ab) (jd:ai) (jz:ak) (kh:bU) (k:ae) (v1:AV) (v59:Bool) (h:ad):ah:=ifB v59 (jr v1 1 h fun a b=>CC n j8 jl jt jr jd jz kh k v1 (eqF a 0) b) (CC n j8 jl jt jr jd jz kh k v1 false h)
theorem aiV:lo HF (BW (mr j8 jl jt jr jd jz kh) k0)=BZ n j8 jl jt jr jd jz kh (kap mY k0):=by obtain ⟨J6,u6⟩:=exi (BV (mr j8 jl jt jr jd jz kh) k0); delta BW BZ; rw [← aiy,u6]; kernel_rfl
def Cn:Q1:=(jB cf mH Tm (kJ HF (BW cf k0)))
def Cv (n:Nat) (j8:bA) (jl:aB) (jt:aw) (jr:ab) (jd:ai) (jz:ak) (kh:bU) (k:ae) (v1:AV) (v53:Bool) (h:ad):ah:=ifB v53 (jz v1 h fun a b=>pZ b 2 [(.int .i64 0),(.int .i64 0)] [(0,1,(.int .i64 14)),(1,1,(.int .i64 14))] fun c d=>jd a c d fun e f=>BZ n j8 jl jt jr jd jz kh k v1 e f) (BZ n j8 jl jt jr jd jz kh k v1 false h)
theorem aiv:lo HY (Cn (mr j8 jl jt jr jd jz kh) k0)=Cv n j8 jl jt jr jd jz kh (kap mY k0):=by obtain ⟨J5,u5⟩:=exi (BW (mr j8 jl jt jr jd jz kh) k0); delta Cn Cv; rw [← aiV,u5]; kernel_rfl
def Cw:Q1:=(jB cf mH Tj (kJ HY (Cn cf k0)))
def Ce (n:Nat) (j8:bA) (jl:aB) (jt:aw) (jr:ab) (jd:ai) (jz:ak) (kh:bU) (k:ae) (v1:AV) (v7:Int) (v49:Bool) (h:ad):ah:=ifB v49 (Cv n j8 jl jt jr jd jz kh k v1 (eqF v7 5) h) (Cv n j8 jl jt jr jd jz kh k v1 false h)
theorem ai0:lo HT (Cw (mr j8 jl jt jr jd jz kh) k0)=Ce n j8 jl jt jr jd jz kh (kap mY k0):=by obtain ⟨J4,u4⟩:=exi (Cn (mr j8 jl jt jr jd jz kh) k0); delta Cw Ce; rw [← aiv,u4]; kernel_rfl
def CB:Q1:=(jB cf mH TP (kJ HT (Cw cf k0)))
def BX (n:Nat) (j8:bA) (jl:aB) (jt:aw) (jr:ab) (jd:ai) (jz:ak) (kh:bU) (k:ae) (v1:AV) (v5:Int) (v7:Int) (v45:Bool) (h:ad):ah:=ifB v45 (Ce n j8 jl jt jr jd jz kh k v1 v7 (eqF v5 1) h) (Ce n j8 jl jt jr jd jz kh k v1 v7 false h)
theorem aix:lo Hz (CB (mr j8 jl jt jr jd jz kh) k0)=BX n j8 jl jt jr jd jz kh (kap mY k0):=by obtain ⟨J3,u3⟩:=exi (Cw (mr j8 jl jt jr jd jz kh) k0); delta CB BX; rw [← ai0,u3]; kernel_rfl
def Ct:Q1:=(jB cf mH TD (kJ Hz (CB cf k0)))
def B3 (n:Nat) (j8:bA) (jl:aB) (jt:aw) (jr:ab) (jd:ai) (jz:ak) (kh:bU) (k:ae) (v1:AV) (v3:AV) (v5:Int) (v7:Int) (v40:Bool) (h:ad):ah:=ifB v40 (pZ h 2 [(.int .i64 0),(.int .i64 0)] [(0,1,(.int .i64 0)),(1,1,(.int .i64 4))] fun a b=>jd v3 a b fun c d=>BX n j8 jl jt jr jd jz kh k v1 v5 v7 c d) (BX n j8 jl jt jr jd jz kh k v1 v5 v7 false h)
theorem air:lo HR (Ct (mr j8 jl jt jr jd jz kh) k0)=B3 n j8 jl jt jr jd jz kh (kap mY k0):=by obtain ⟨J2,u2⟩:=exi (CB (mr j8 jl jt jr jd jz kh) k0); delta Ct B3; rw [← aix,u2]; kernel_rfl
def Cc:Q1:=(jB cf mH Te (kJ HR (Ct cf k0)))
def B9 (n:Nat) (j8:bA) (jl:aB) (jt:aw) (jr:ab) (jd:ai) (jz:ak) (kh:bU) (k:ae) (v1:AV) (v3:AV) (v5:Int) (v7:Int) (v8:Int) (v36:Bool) (h:ad):ah:=ifB v36 (B3 n j8 jl jt jr jd jz kh k v1 v3 v5 v7 (eqF v8 0) h) (B3 n j8 jl jt jr jd jz kh k v1 v3 v5 v7 false h)
theorem aiT:lo HX (Cc (mr j8 jl jt jr jd jz kh) k0)=B9 n j8 jl jt jr jd jz kh (kap mY k0):=by obtain ⟨J1,u1⟩:=exi (Ct (mr j8 jl jt jr jd jz kh) k0); delta Cc B9; rw [← air,u1]; kernel_rfl
def XJ:Q1:=(jB cf mH AF (jB cf mH RA (jB cf mH RJ (cJ p15 (jB cf mH AF (lP mY k0)) (jB cf mH Se (jB cf mH Ry (jB cf mH Tx (jB cf mH SZ (kJ HX (Cc cf k0))))))))))
def L0 (n:Nat) (j8:bA) (jl:aB) (jt:aw) (jr:ab) (jd:ai) (jz:ak) (kh:bU) (k:ae) (h:ad):ah:=kh h fun a b=>j8 a 0 b fun c d e=>ifB (mW (eqF d 0)) (k false e) (jl c e fun f g i=>jt c 2 i fun l m o=>jt c 3 o fun p q r=>ifB (eqF g 0) (B9 n j8 jl jt jr jd jz kh k c f l p q (eqF m 0) r) (B9 n j8 jl jt jr jd jz kh k c f l p q false r))
def Xc (n:Nat) (j8:bA) (jl:aB) (jt:aw) (jr:ab) (jd:ai) (jz:ak) (kh:bU) (h:ad) (k:ae):ah:=L0 n j8 jl jt jr jd jz kh k h
theorem alz:DZ cf mH n Mz mY k0=XJ cf k0:=by funext s; kernel_rfl
theorem amA:lo kV (DZ (mr j8 jl jt jr jd jz kh) mH n Mz mY k0)=cmp kV (Xc n j8 jl jt jr jd jz kh) (kap mY k0):=(congrArg (lo kV) (alz n (mr j8 jl jt jr jd jz kh) k0)).trans (show _=L0 n j8 jl jt jr jd jz kh (kap mY k0) by obtain ⟨J0,u0⟩:=exi (Cc (mr j8 jl jt jr jd jz kh) k0); delta XJ L0; rw [← aiT,u0]; kernel_rfl)
end
def eC (n:Nat):fN:=Xc n (cI n) (ba n) (bh n) (aZ n) (aH n) (dj n) (fh n)
abbrev V9 (g:aD):Wr:=wrT nV jp g
def Dp:aW:=pl []
section
variable (k0:Q0)
def CD:Q1:=(jB cf zO yH (lP jp k0))
def xK (n:Nat) (k:ae) (v11:Bool) (h:ad):ah:=k v11 h
theorem ajh:lo se (CD Dp k0)=xK n (kap jp k0):=by delta CD xK; kernel_rfl
def Xa:Q1:=(jB cf zO lW (jB cf zO Tf (kJ se (CD cf k0))))
def Ey (n:Nat) (k:ae) (a0:Int) (h:ad):ah:=ifB (ltF 0 a0) (amc .i64 a0 1 fun a=>bitK .and .i64 a0 a fun b=>xK n k (eqF b 0) h) (xK n k false h)
def Ml (n:Nat) (a0:Int) (h:ad) (k:ae):ah:=Ey n k a0 h
theorem alA:DZ cf zO n WD jp k0=Xa cf k0:=by funext s; kernel_rfl
theorem alX:lo nV (DZ Dp zO n WD jp k0)=cmp nV (Ml n) (kap jp k0):=(congrArg (lo nV) (alA n Dp k0)).trans (show _=Ey n (kap jp k0) by obtain ⟨J0,u0⟩:=exi (CD Dp k0); delta Xa Ey; rw [← ajh,u0]; kernel_rfl)
end
def aN (n:Nat):aD:=Ml n
abbrev cn:=Bool→ad→ah
abbrev Cd (g:aa):Wr:=wrT jN jp g
def kS (jA:aD):aW:=pl [(X4,V9 jA)]
section
variable (jA:aD) (k0:Q0)
def zT:Q1:=(jB cf lT PZ (lP jp k0))
def vS (n:Nat) (jA:aD) (k:ae) (v88:Bool) (h:ad):ah:=k v88 h
theorem agB:lo Fy (zT (kS jA) k0)=vS n jA (kap jp k0):=by delta zT vS; kernel_rfl
def zq:Q1:=(jB cf lT PG (kJ Fy (zT cf k0)))
def vP (n:Nat) (jA:aD) (k:ae) (v1:AV) (v82:Bool) (h:ad):ah:=ifB v82 (vS n jA k true h) (faK 16 v1 fun a=>nq h a 1 false fun b=>mX b fun c=>vS n jA k (ltF 8 c) h)
theorem afx:lo FC (zq (kS jA) k0)=vP n jA (kap jp k0):=by obtain ⟨J2,u2⟩:=exi (zT (kS jA) k0); delta zq vP; rw [← agB,u2]; kernel_rfl
def zF:Q1:=(jB cf lT Pi (kJ FC (zq cf k0)))
def rv (n:Nat) (jA:aD) (k:ae) (v1:AV) (v76:Bool) (h:ad):ah:=ifB v76 (vP n jA k v1 true h) (faK 16 v1 fun a=>nq h a 1 false fun b=>mX b fun c=>vP n jA k v1 (ltF c 1) h)
theorem afX:lo E6 (zF (kS jA) k0)=rv n jA (kap jp k0):=by obtain ⟨J1,u1⟩:=exi (zq (kS jA) k0); delta zF rv; rw [← afx,u1]; kernel_rfl
def zm:Q1:=(jB cf lT Oy (jB cf lT Qg (kJ E6 (zF cf k0))))
def qX (n:Nat) (jA:aD) (k:ae) (v1:AV) (v4:Bool) (v70:Bool) (h:ad):ah:=ifB (mW v4) (rv n jA k v1 true h) (rv n jA k v1 (mW v70) h)
theorem afo:lo FP (zm (kS jA) k0)=qX n jA (kap jp k0):=by obtain ⟨J0,u0⟩:=exi (zF (kS jA) k0); delta zm qX; rw [← afX,u0]; kernel_rfl
def zz:Q1:=(jB cf lT OW (kJ FP (zm cf k0)))
def qY (n:Nat) (jA:aD) (k:ae) (v1:AV) (v4:Bool) (v65:Bool) (h:ad):ah:=ifB v65 (faK 5 v1 fun a=>ldI .i64 h a fun b=>qX n jA k v1 v4 (mW (ltF 64 b)) h) (qX n jA k v1 v4 false h)
theorem aga:lo Fb (zz (kS jA) k0)=qY n jA (kap jp k0):=by obtain ⟨J9,u9⟩:=exi (zm (kS jA) k0); delta zz qY; rw [← afo,u9]; kernel_rfl
def zb:Q1:=(jB cf lT Pa (kJ Fb (zz cf k0)))
def rx (n:Nat) (jA:aD) (k:ae) (v1:AV) (v4:Bool) (v60:Bool) (h:ad):ah:=ifB v60 (faK 5 v1 fun a=>ldI .i64 h a fun b=>qY n jA k v1 v4 (mW (ltF b 1)) h) (qY n jA k v1 v4 false h)
theorem afN:lo Fj (zb (kS jA) k0)=rx n jA (kap jp k0):=by obtain ⟨J8,u8⟩:=exi (zz (kS jA) k0); delta zb rx; rw [← aga,u8]; kernel_rfl
def zS:Q1:=(jB cf lT Ph (kJ Fj (zb cf k0)))
def ri (n:Nat) (jA:aD) (k:ae) (v1:AV) (v4:Bool) (v55:Bool) (h:ad):ah:=ifB v55 (faK 4 v1 fun a=>ldI .i64 h a fun b=>rx n jA k v1 v4 (mW (ltF 16 b)) h) (rx n jA k v1 v4 false h)
theorem afK:lo Fi (zS (kS jA) k0)=ri n jA (kap jp k0):=by obtain ⟨J7,u7⟩:=exi (zb (kS jA) k0); delta zS ri; rw [← afN,u7]; kernel_rfl
def zy:Q1:=(jB cf lT P4 (kJ Fi (zS cf k0)))
def rq (n:Nat) (jA:aD) (k:ae) (v1:AV) (v4:Bool) (v50:Bool) (h:ad):ah:=ifB v50 (faK 4 v1 fun a=>ldI .i64 h a fun b=>ri n jA k v1 v4 (mW (ltF b 1)) h) (ri n jA k v1 v4 false h)
theorem ags:lo FJ (zy (kS jA) k0)=rq n jA (kap jp k0):=by obtain ⟨J6,u6⟩:=exi (zS (kS jA) k0); delta zy rq; rw [← afK,u6]; kernel_rfl
def zZ:Q1:=(jB cf lT Qn (kJ FJ (zy cf k0)))
def ra (n:Nat) (jA:aD) (k:ae) (v1:AV) (v4:Bool) (v45:Bool) (h:ad):ah:=ifB v45 (faK 2 v1 fun a=>ldI .i64 h a fun b=>rq n jA k v1 v4 (mW (ltF 16 b)) h) (rq n jA k v1 v4 false h)
theorem agh:lo E4 (zZ (kS jA) k0)=ra n jA (kap jp k0):=by obtain ⟨J5,u5⟩:=exi (zy (kS jA) k0); delta zZ ra; rw [← ags,u5]; kernel_rfl
def zD:Q1:=(jB cf lT PM (kJ E4 (zZ cf k0)))
def rh (n:Nat) (jA:aD) (k:ae) (v1:AV) (v4:Bool) (v40:Bool) (h:ad):ah:=ifB v40 (faK 2 v1 fun a=>ldI .i64 h a fun b=>ra n jA k v1 v4 (mW (ltF b 1)) h) (ra n jA k v1 v4 false h)
theorem agt:lo Fv (zD (kS jA) k0)=rh n jA (kap jp k0):=by obtain ⟨J4,u4⟩:=exi (zZ (kS jA) k0); delta zD rh; rw [← agh,u4]; kernel_rfl
def y4:Q1:=(jB cf lT OS (jB cf lT Qj (kJ Fv (zD cf k0))))
def pI (n:Nat) (jA:aD) (k:ae) (v1:AV) (v32:Bool) (h:ad):ah:=oq .i64 3 h v1 fun a b=>jA b h fun c d=>ifB c (faK 3 v1 fun e=>ldI .i64 d e fun f=>rh n jA k v1 v32 (mW (ltF 4096 f)) d) (rh n jA k v1 v32 false d)
theorem aeK:lo oV (y4 (kS jA) k0)=pI n jA (kap jp k0):=by obtain ⟨J3,u3⟩:=exi (zD (kS jA) k0); delta y4 pI; rw [← agt,u3]; kernel_rfl
def yX:Q1:=(jB cf lT OO (kJ oV (y4 cf k0)))
def sG (n:Nat) (jA:aD) (k:ae) (v1:AV) (v24:Bool) (h:ad):ah:=ifB v24 (faK 0 v1 fun a=>ldI .i64 h a fun b=>oq .i64 1 h v1 fun c d=>remK .i64 b d fun e=>pI n jA k v1 (eqF e 0) h) (pI n jA k v1 false h)
theorem ae3:lo Et (yX (kS jA) k0)=sG n jA (kap jp k0):=by obtain ⟨J12,u12⟩:=exi (y4 (kS jA) k0); delta yX sG; rw [← aeK,u12]; kernel_rfl
def yW:Q1:=(jB cf lT O2 (kJ Et (yX cf k0)))
def qN (n:Nat) (jA:aD) (k:ae) (v1:AV) (v19:Bool) (h:ad):ah:=ifB v19 (faK 0 v1 fun a=>ldI .i64 h a fun b=>sG n jA k v1 (mW (ltF 4096 b)) h) (sG n jA k v1 false h)
theorem ae2:lo EM (yW (kS jA) k0)=qN n jA (kap jp k0):=by obtain ⟨J11,u11⟩:=exi (yX (kS jA) k0); delta yW qN; rw [← ae3,u11]; kernel_rfl
def yT:Q1:=(jB cf lT OV (jB cf lT OD (kJ EM (yW cf k0))))
def qM (n:Nat) (jA:aD) (k:ae) (v1:AV) (v13:Bool) (h:ad):ah:=ifB v13 (faK 0 v1 fun a=>ldI .i64 h a fun b=>qN n jA k v1 (mW (ltF b 1)) h) (qN n jA k v1 false h)
theorem aeT:lo sE (yT (kS jA) k0)=qM n jA (kap jp k0):=by obtain ⟨J10,u10⟩:=exi (yW (kS jA) k0); delta yT qM; rw [← ae2,u10]; kernel_rfl
def TV:Q1:=(jB cf lT ot (jB cf lT O3 (kJ sE (yT cf k0))))
def B8 (n:Nat) (jA:aD) (k:ae) (a0:AV) (h:ad):ah:=Ad h a0 fun a b=>oq .i64 1 b (.ptr a 0) fun c d=>jA d b fun e f=>ifB e (faK 1 (.ptr a 0) fun g=>ldI .i64 f g fun i=>qM n jA k (.ptr a 0) (mW (ltF 16 i)) f) (qM n jA k (.ptr a 0) false f)
def HH (n:Nat) (jA:aD) (a0:AV) (h:ad) (k:ae):ah:=B8 n jA k a0 h
theorem ais:DZ cf lT n Tk jp k0=TV cf k0:=by funext s; kernel_rfl
theorem ai4:lo jN (DZ (kS jA) lT n Tk jp k0)=cmp jN (HH n jA) (kap jp k0):=(congrArg (lo jN) (ais n (kS jA) k0)).trans (show _=B8 n jA (kap jp k0) by obtain ⟨J13,u13⟩:=exi (yT (kS jA) k0); delta TV B8; rw [← aeT,u13]; kernel_rfl)
end
def aC (n:Nat):aa:=HH n (aN n)
abbrev ab9 (g:aD):Wr:=wrT Hj jp g
def F5:aW:=pl []
section
variable (k0:Q0)
def Ep:Q1:=(jB cf C7 Xl (lP jp k0))
def zt (n:Nat) (k:ae) (v8:Bool) (h:ad):ah:=k v8 h
theorem ami:lo My (Ep F5 k0)=zt n (kap jp k0):=by delta Ep zt; kernel_rfl
def abM:Q1:=(jB cf C7 lW (jB cf C7 XU (kJ My (Ep cf k0))))
def Ht (n:Nat) (k:ae) (a0:Int) (h:ad):ah:=ifB (mW (ltF a0 1)) (zt n k (mW (ltF 65536 a0)) h) (zt n k false h)
def PP (n:Nat) (a0:Int) (h:ad) (k:ae):ah:=Ht n k a0 h
theorem aoW:DZ cf C7 n abW jp k0=abM cf k0:=by funext s; kernel_rfl
theorem aqm:lo Hj (DZ F5 C7 n abW jp k0)=cmp Hj (PP n) (kap jp k0):=(congrArg (lo Hj) (aoW n F5 k0)).trans (show _=Ht n (kap jp k0) by obtain ⟨J0,u0⟩:=exi (Ep F5 k0); delta abM Ht; rw [← ami,u0]; kernel_rfl)
end
def bK (n:Nat):aD:=PP n
abbrev dy:=Int→ad→ah
abbrev zx (g:aj):Wr:=wrT jN lj g
def mR (kq:aD):aW:=pl [(aco,ab9 kq)]
section
variable (kq:aD) (k0:Q0)
def Cr:Q1:=(cJ p50 (jB cf oJ JU (lP lj k0)) (jB cf oJ xB (lP lj k0)))
def uT (n:Nat) (kq:aD) (k:ar) (v50:Bool) (h:ad):ah:=ifB v50 (k 100 h) (k 0 h)
theorem ai6:lo Hy (Cr (mR kq) k0)=uT n kq (kap lj k0):=by delta Cr uT; kernel_rfl
def Ck:Q1:=(jB cf oJ SS (kJ Hy (Cr cf k0)))
def sB (n:Nat) (kq:aD) (k:ar) (v1:AV) (v44:Bool) (h:ad):ah:=ifB v44 (uT n kq k true h) (faK 5 v1 fun a=>ldI .u64 h a fun b=>kq b h fun c d=>uT n kq k (mW c) d)
theorem ai1:lo HN (Ck (mR kq) k0)=sB n kq (kap lj k0):=by obtain ⟨J6,u6⟩:=exi (Cr (mR kq) k0); delta Ck sB; rw [← ai6,u6]; kernel_rfl
def CE:Q1:=(jB cf oJ TE (kJ HN (Ck cf k0)))
def sD (n:Nat) (kq:aD) (k:ar) (v1:AV) (v38:Bool) (h:ad):ah:=ifB v38 (sB n kq k v1 true h) (faK 4 v1 fun a=>ldI .u64 h a fun b=>kq b h fun c d=>sB n kq k v1 (mW c) d)
theorem aiN:lo EV (CE (mR kq) k0)=sD n kq (kap lj k0):=by obtain ⟨J5,u5⟩:=exi (Ck (mR kq) k0); delta CE sD; rw [← ai1,u5]; kernel_rfl
def Cj:Q1:=(jB cf oJ TU (kJ EV (CE cf k0)))
def sr (n:Nat) (kq:aD) (k:ar) (v1:AV) (v32:Bool) (h:ad):ah:=ifB v32 (sD n kq k v1 true h) (faK 3 v1 fun a=>ldI .u64 h a fun b=>kq b h fun c d=>sD n kq k v1 (mW c) d)
theorem ai3:lo oV (Cj (mR kq) k0)=sr n kq (kap lj k0):=by obtain ⟨J4,u4⟩:=exi (CE (mR kq) k0); delta Cj sr; rw [← aiN,u4]; kernel_rfl
def B7:Q1:=(jB cf oJ TO (kJ oV (Cj cf k0)))
def sy (n:Nat) (kq:aD) (k:ar) (v1:AV) (v25:Bool) (h:ad):ah:=ifB v25 (sr n kq k v1 true h) (faK 1 v1 fun a=>ldI .u64 h a fun b=>oq .u64 2 h v1 fun c d=>sr n kq k v1 (ltF d b) h)
theorem aje:lo yr (B7 (mR kq) k0)=sy n kq (kap lj k0):=by obtain ⟨J3,u3⟩:=exi (Cj (mR kq) k0); delta B7 sy; rw [← ai3,u3]; kernel_rfl
def BU:Q1:=(jB cf oJ TA (kJ yr (B7 cf k0)))
def sC (n:Nat) (kq:aD) (k:ar) (v1:AV) (v18:Bool) (h:ad):ah:=ifB v18 (sy n kq k v1 true h) (faK 0 v1 fun a=>ldI .u64 h a fun b=>oq .u64 1 h v1 fun c d=>sy n kq k v1 (ltF d b) h)
theorem ajj:lo ES (BU (mR kq) k0)=sC n kq (kap lj k0):=by obtain ⟨J2,u2⟩:=exi (B7 (mR kq) k0); delta BU sC; rw [← aje,u2]; kernel_rfl
def CL:Q1:=(jB cf oJ SR (kJ ES (BU cf k0)))
def sq (n:Nat) (kq:aD) (k:ar) (v1:AV) (v12:Bool) (h:ad):ah:=ifB v12 (sC n kq k v1 true h) (faK 2 v1 fun a=>ldI .u64 h a fun b=>kq b h fun c d=>sC n kq k v1 (mW c) d)
theorem aji:lo HE (CL (mR kq) k0)=sq n kq (kap lj k0):=by obtain ⟨J1,u1⟩:=exi (BU (mR kq) k0); delta CL sq; rw [← ajj,u1]; kernel_rfl
def XC:Q1:=(jB cf oJ GE (jB cf oJ Tq (kJ HE (CL cf k0))))
def El (n:Nat) (kq:aD) (k:ar) (a0:AV) (h:ad):ah:=Ad h a0 fun a b=>oq .u64 0 b (.ptr a 0) fun c d=>kq d b fun e f=>ifB (mW e) (sq n kq k (.ptr a 0) true f) (faK 1 (.ptr a 0) fun g=>ldI .u64 f g fun i=>kq i f fun l m=>sq n kq k (.ptr a 0) (mW l) m)
def Md (n:Nat) (kq:aD) (a0:AV) (h:ad) (k:ar):ah:=El n kq k a0 h
theorem amI:DZ cf oJ n WU lj k0=XC cf k0:=by funext s; kernel_rfl
theorem alq:lo jN (DZ (mR kq) oJ n WU lj k0)=cmp jN (Md n kq) (kap lj k0):=(congrArg (lo jN) (amI n (mR kq) k0)).trans (show _=El n kq (kap lj k0) by obtain ⟨J0,u0⟩:=exi (CL (mR kq) k0); delta XC El; rw [← aji,u0]; kernel_rfl)
end
def aR (n:Nat):aj:=Md n (bK n)
abbrev ab6 (g:am):Wr:=wrT ju jS g
def vq:aW:=pl []
section
variable (k0:Q0)
def Ez:Q1:=(jB cf sg lQ (lP jS k0))
def EI (n:Nat) (k:ae) (h:ad):ah:=k false h
theorem amf:lo kV (Ez vq k0)=EI n (kap jS k0):=by delta Ez EI; kernel_rfl
def Mi (J1:Q1):Q1:=(jB cf sg Xz (cJ p9 (jB cf sg Yh (cJ p17 (jB cf sg oX (lP jS k0)) (jB cf sg WG (kJ mn J1)))) (kJ kV (Ez cf k0))))
def zG (n:Nat) (k:ae) (j1:ck) (v0:AV) (v1:Int) (v5:Int) (h:ad):ah:=mX v0 fun a=>ifB (ltF v5 a) (Ga .i64 1 h v0 v5 fun b c=>ifB (eqF c v1) (k true h) (oK .i64 v5 1 fun d=>j1 v0 v1 d h)) (EI n k h)
def Mj:Nat→Q1:=lpS (Mi cf k0)
def zg (n:Nat) (k:ae):Nat→ck:=lpF mn (zG n k)
theorem amC (k:ae) (m:Nat):zg n k (m+1)=zG n k (zg n k m):=rfl
theorem amy (m:Nat):lo mn (Mj vq k0 m)=zg n (kap jS k0) m:=sY (fun J1=>(by obtain ⟨J0,u0⟩:=exi (Ez vq k0); delta Mi zG; rw [← amf,u0]; kernel_rfl:lo mn (Mi vq k0 J1)=zG n (kap jS k0) (lo mn J1))) m
def aa9:Q1:=(jB cf sg lQ (jB cf sg mC (kJ mn (Mj cf k0 n))))
def GU (n:Nat) (k:ae) (a0:AV) (a1:Int) (h:ad):ah:=zg n k n a0 a1 0 h
def Pg (n:Nat) (a0:AV) (a1:Int) (h:ad) (k:ae):ah:=GU n k a0 a1 h
theorem ao4:DZ cf sg n acd jS k0=aa9 n cf k0:=by funext s; kernel_rfl
theorem aqa:lo ju (DZ vq sg n acd jS k0)=cmp ju (Pg n) (kap jS k0):=(congrArg (lo ju) (ao4 n vq k0)).trans (show _=GU n (kap jS k0) by obtain ⟨J1,u1⟩:=exi (Mj vq k0 n); delta aa9 GU; rw [← amy,u1]; kernel_rfl)
end
def cD (n:Nat):am:=Pg n
abbrev gt:=Bool→ad→ah
abbrev Tb (g:am):Wr:=wrT ju jS g
def mD (ku:am):aW:=pl [(ab5,ab6 ku)]
abbrev du:Type:=Int→AV→AV→Int→Int→ad→ah
abbrev ct:Type:=Int→AV→AV→Int→ad→ah
section
variable (ku:am) (k0:Q0)
def za:Q1:=(jB cf mg lQ (lP jS k0))
def zX (n:Nat) (ku:am) (k:ae) (h:ad):ah:=k false h
theorem af3:lo kV (za (mD ku) k0)=zX n ku (kap jS k0):=by delta za zX; kernel_rfl
def zP (J1:Q1):Q1:=(jB cf mg Qf (kJ mG J1))
def zd (n:Nat) (ku:am) (k:ae) (j1:ct) (v1:Int) (v2:AV) (v5:AV) (v6:Int) (h:ad):ah:=oK .i64 v6 1 fun a=>j1 v1 v2 v5 a h
theorem afV (J1:Q1):lo mG (zP (mD ku) J1)=zd n ku (kap jS k0) (lo mG J1):=by delta zP zd; kernel_rfl
def Fa (J1:Q1) (J3:Q1):Q1:=(jB cf mg Px (cJ p55 (jB cf mg QA (cJ p68 (jB cf mg oX (lP jS k0)) (jB cf mg Pb (kJ lX J3)))) (kJ mG (zP cf J1))))
def vT (n:Nat) (ku:am) (k:ae) (j1:ct) (j3:du) (v1:Int) (v2:AV) (v5:AV) (v6:Int) (v7:Int) (h:ad):ah:=ifB (ltF v7 v1) (fld 16 h v2 1 false fun a b=>agV 8 b v7 fun c=>fld 0 h c 1 false fun d e=>Ga .i64 1 h v5 v6 fun f g=>ku e g h fun i l=>ifB i (k true l) (oK .i64 v7 1 fun m=>j3 v1 v2 v5 v6 m l)) (zd n ku k j1 v1 v2 v5 v6 h)
def E9 (J1:Q1):Nat→Q1:=lpS (Fa cf k0 J1)
def tt (n:Nat) (ku:am) (k:ae) (j1:ct):Nat→du:=lpF lX (vT n ku k j1)
theorem afi (k:ae) (j1:ct) (m:Nat):tt n ku k j1 (m+1)=vT n ku k j1 (tt n ku k j1 m):=rfl
theorem afM (J1:Q1) (m:Nat):lo lX (E9 (mD ku) k0 J1 m)=tt n ku (kap jS k0) (lo mG J1) m:=sY (fun J3=>(by obtain ⟨J2,u2⟩:=exi (zP (mD ku) J1); delta Fa vT; rw [← afV,u2]; kernel_rfl:lo lX (Fa (mD ku) k0 J1 J3)=vT n ku (kap jS k0) (lo mG J1) (lo lX J3))) m
def zW (J1:Q1):Q1:=(cJ p52 (jB cf mg oX (lP jS k0)) (jB cf mg qh (kJ lX (E9 cf k0 J1 n))))
def tx (n:Nat) (ku:am) (k:ae) (j1:ct) (v1:Int) (v2:AV) (v5:AV) (v6:Int) (v52:Bool) (h:ad):ah:=ifB v52 (k true h) (tt n ku k j1 n v1 v2 v5 v6 0 h)
theorem afF (J1:Q1):lo FD (zW n (mD ku) k0 J1)=tx n ku (kap jS k0) (lo mG J1):=by obtain ⟨J3,u3⟩:=exi (E9 (mD ku) k0 J1 n); delta zW tx; rw [← afM,u3]; kernel_rfl
def zV (J1:Q1):Q1:=(jB cf mg PH (kJ FD (zW n cf k0 J1)))
def vX (n:Nat) (ku:am) (k:ae) (j1:ct) (v1:Int) (v2:AV) (v5:AV) (v6:Int) (v36:Bool) (h:ad):ah:=ifB v36 (tx n ku k j1 v1 v2 v5 v6 true h) (ifB (ltF 0 v6) (amc .i64 v6 1 fun a=>Ga .i64 1 h v5 a fun b c=>Ga .i64 1 h v5 v6 fun d e=>tx n ku k j1 v1 v2 v5 v6 (mW (ltF c e)) h) (tx n ku k j1 v1 v2 v5 v6 false h))
theorem agx (J1:Q1):lo Fx (zV n (mD ku) k0 J1)=vX n ku (kap jS k0) (lo mG J1):=by obtain ⟨J5,u5⟩:=exi (zW n (mD ku) k0 J1); delta zV vX; rw [← afF,u5]; kernel_rfl
def FL (J1:Q1):Q1:=(jB cf mg OB (cJ p20 (jB cf mg PN (kJ Fx (zV n cf k0 J1))) (kJ kV (za cf k0))))
def vV (n:Nat) (ku:am) (k:ae) (j1:ct) (v1:Int) (v2:AV) (v5:AV) (v6:Int) (h:ad):ah:=mX v5 fun a=>ifB (ltF v6 a) (Ga .i64 1 h v5 v6 fun b c=>ifB (ltF c 0) (vX n ku k j1 v1 v2 v5 v6 true h) (Ga .i64 1 h v5 v6 fun d e=>oq .i64 1 h v2 fun f g=>vX n ku k j1 v1 v2 v5 v6 (mW (ltF e g)) h)) (zX n ku k h)
def FN:Nat→Q1:=lpS (FL n cf k0)
def rp (n:Nat) (ku:am) (k:ae):Nat→ct:=lpF mG (vV n ku k)
theorem af2 (k:ae) (m:Nat):rp n ku k (m+1)=vV n ku k (rp n ku k m):=rfl
theorem agF (m:Nat):lo mG (FN n (mD ku) k0 m)=rp n ku (kap jS k0) m:=sY (fun J1=>(by obtain ⟨J0,u0⟩:=exi (za (mD ku) k0); obtain ⟨J4,u4⟩:=exi (zV n (mD ku) k0 J1); delta FL vV; rw [← af3,u0, ← agx,u4]; kernel_rfl:lo mG (FL n (mD ku) k0 J1)=vV n ku (kap jS k0) (lo mG J1))) m
def S5:Q1:=(jB cf mg xe (jB cf mg Ox (jB cf mg OQ (cJ p16 (jB cf mg oX (lP jS k0)) (jB cf mg mV (kJ mG (FN n cf k0 n)))))))
def Cp (n:Nat) (ku:am) (k:ae) (a0:AV) (a1:Int) (h:ad):ah:=Ad h a0 fun a b=>fld 16 b (.ptr a 0) 1 false fun c d=>agV 8 d a1 fun e=>fld 0 b e 1 false fun f g=>mX g fun i=>ifB (eqF i 0) (k true b) (rp n ku k n a1 (.ptr a 0) g 0 b)
def H0 (n:Nat) (ku:am) (a0:AV) (a1:Int) (h:ad) (k:ae):ah:=Cp n ku k a0 a1 h
theorem aip:DZ cf mg n SP jS k0=S5 n cf k0:=by funext s; kernel_rfl
theorem aiX:lo ju (DZ (mD ku) mg n SP jS k0)=cmp ju (H0 n ku) (kap jS k0):=(congrArg (lo ju) (aip n (mD ku) k0)).trans (show _=Cp n ku (kap jS k0) by obtain ⟨J1,u1⟩:=exi (FN n (mD ku) k0 n); delta S5 Cp; rw [← agF,u1]; kernel_rfl)
end
def dD (n:Nat):am:=H0 n (cD n)
abbrev Vi (g:aq):Wr:=wrT nv kN g
def Cq:aW:=pl []
section
variable (k0:Q0)
def AE:Q1:=(jB cf oa we (lP kN k0))
def wW (n:Nat) (k:ae) (v14:Bool) (h:ad):ah:=k v14 h
theorem agS:lo pd (AE Cq k0)=wW n (kap kN k0):=by delta AE wW; kernel_rfl
def Vl:Q1:=(jB cf oa mm (jB cf oa wg (kJ pd (AE cf k0))))
def Df (n:Nat) (k:ae) (a0:Int) (a1:Int) (a2:Int) (h:ad):ah:=ifB (mW (ltF a0 a1)) (wW n k (mW (ltF a2 a0)) h) (wW n k false h)
def JQ (n:Nat) (a0:Int) (a1:Int) (a2:Int) (h:ad) (k:ae):ah:=Df n k a0 a1 a2 h
theorem ajz:DZ cf oa n Vq kN k0=Vl cf k0:=by funext s; kernel_rfl
theorem aj4:lo nv (DZ Cq oa n Vq kN k0)=cmp nv (JQ n) (kap kN k0):=(congrArg (lo nv) (ajz n Cq k0)).trans (show _=Df n (kap kN k0) by obtain ⟨J0,u0⟩:=exi (AE Cq k0); delta Vl Df; rw [← agS,u0]; kernel_rfl)
end
def bw (n:Nat):aq:=JQ n
abbrev gx:=Bool→ad→ah
abbrev U3 (g:am):Wr:=wrT ju jS g
def lJ (je:aa) (jJ:aq):aW:=pl [(Cz,Cd je),(Vr,Vi jJ)]
section
variable (je:aa) (jJ:aq) (k0:Q0)
def AL:Q1:=(jB cf lU Sf (lP jS k0))
def ui (n:Nat) (je:aa) (jJ:aq) (k:ae) (v118:Bool) (h:ad):ah:=k v118 h
theorem ahd:lo Gx (AL (lJ je jJ) k0)=ui n je jJ (kap jS k0):=by delta AL ui; kernel_rfl
def AZ:Q1:=(jB cf lU R0 (cJ p75 (jB cf lU oX (lP jS k0)) (jB cf lU Rx (jB cf lU R7 (kJ Gx (AL cf k0))))))
def wU (n:Nat) (je:aa) (jJ:aq) (k:ae) (v2:AV) (v5:AV) (v6:Int) (h:ad):ah:=ifB (ltF 1024 v6) (k true h) (oq .i64 1 h v5 fun a b=>ak4 .i64 1 b fun c=>nq h v2 17 true fun d=>je d h fun e f=>ifB (mW e) (oq .i64 0 f v2 fun g i=>oq .i64 1 f v2 fun l m=>aw1 .i64 i m fun o=>ifB (ltF o c) (ui n je jJ k true f) (oq .i64 2 f v5 fun p q=>oK .i64 c q fun r=>oq .i64 3 f v5 fun s t=>oK .i64 r t fun u=>oq .i64 4 f v5 fun w x=>oK .i64 u x fun y=>oq .i64 5 f v5 fun z A=>oK .i64 y A fun B=>oq .i64 6 f v5 fun C E=>oK .i64 B E fun F=>fld 0 f v5 1 false fun G I=>mX I fun K=>oq .i64 0 f v2 fun L M=>oq .i64 1 f v2 fun N O=>aw1 .i64 M O fun P=>Gb .i64 K P fun Q=>ui n je jJ k (ltF Q F) f)) (ui n je jJ k false f))
theorem ag9:lo Gu (AZ (lJ je jJ) k0)=wU n je jJ (kap jS k0):=by obtain ⟨J0,u0⟩:=exi (AL (lJ je jJ) k0); delta AZ wU; rw [← ahd,u0]; kernel_rfl
def wZ (J2:Q1):Q1:=(jB cf lU RH (kJ lX J2))
def wX (n:Nat) (je:aa) (jJ:aq) (k:ae) (j2:du) (v1:Int) (v2:AV) (v5:AV) (v6:Int) (v7:Int) (h:ad):ah:=oK .i64 v7 1 fun a=>j2 v1 v2 v5 v6 a h
theorem agT (J2:Q1):lo lX (wZ (lJ je jJ) J2)=wX n je jJ (kap jS k0) (lo lX J2):=by delta wZ wX; kernel_rfl
def Gg (J2:Q1):Q1:=(jB cf lU RC (cJ p56 (jB cf lU RW (cJ p65 (jB cf lU RK (kJ lX (wZ cf J2))) (kJ lX (wZ cf J2)))) (kJ Gu (AZ cf k0))))
def wR (n:Nat) (je:aa) (jJ:aq) (k:ae) (j2:du) (v1:Int) (v2:AV) (v5:AV) (v6:Int) (v7:Int) (h:ad):ah:=ifB (mW (ltF v1 v7)) (fld 16 h v2 1 false fun a b=>agV 8 b v7 fun c=>oq .i64 7 h c fun d e=>jJ e 1 1024 h fun f g=>ifB f (fld 16 g v2 1 false fun i l=>agV 8 l v7 fun m=>oq .i64 7 g m fun o p=>oK .i64 v6 p fun q=>wX n je jJ k j2 v1 v2 v5 q v7 g) (wX n je jJ k j2 v1 v2 v5 v6 v7 g)) (wU n je jJ k v2 v5 v6 h)
def Gn:Nat→Q1:=lpS (Gg cf k0)
def wY (n:Nat) (je:aa) (jJ:aq) (k:ae):Nat→du:=lpF lX (wR n je jJ k)
theorem ag6 (k:ae) (m:Nat):wY n je jJ k (m+1)=wR n je jJ k (wY n je jJ k m):=rfl
theorem agQ (m:Nat):lo lX (Gn (lJ je jJ) k0 m)=wY n je jJ (kap jS k0) m:=sY (fun J2=>(by obtain ⟨J1,u1⟩:=exi (AZ (lJ je jJ) k0); obtain ⟨J3,u3⟩:=exi (wZ (lJ je jJ) J2); delta Gg wR; rw [← ag9,u1, ← agT,u3]; kernel_rfl:lo lX (Gg (lJ je jJ) k0 J2)=wR n je jJ (kap jS k0) (lo lX J2))) m
def AY:Q1:=(cJ p53 (jB cf lU oX (lP jS k0)) (jB cf lU mV (jB cf lU qh (kJ lX (Gn cf k0 n)))))
def uh (n:Nat) (je:aa) (jJ:aq) (k:ae) (v1:Int) (v2:AV) (v5:AV) (v53:Bool) (h:ad):ah:=ifB v53 (k true h) (wY n je jJ k n v1 v2 v5 0 0 h)
theorem agY:lo Gt (AY n (lJ je jJ) k0)=uh n je jJ (kap jS k0):=by obtain ⟨J2,u2⟩:=exi (Gn (lJ je jJ) k0 n); delta AY uh; rw [← agQ,u2]; kernel_rfl
def Az:Q1:=(jB cf lU Pt (kJ Gt (AY n cf k0)))
def rR (n:Nat) (je:aa) (jJ:aq) (k:ae) (v1:Int) (v2:AV) (v5:AV) (v47:Bool) (h:ad):ah:=ifB v47 (uh n je jJ k v1 v2 v5 true h) (faK 7 v5 fun a=>ldI .i64 h a fun b=>jJ b 1 1024 h fun c d=>uh n je jJ k v1 v2 v5 (mW c) d)
theorem ahg:lo Gs (Az n (lJ je jJ) k0)=rR n je jJ (kap jS k0):=by obtain ⟨J9,u9⟩:=exi (AY n (lJ je jJ) k0); delta Az rR; rw [← agY,u9]; kernel_rfl
def AQ:Q1:=(jB cf lU PF (kJ Gs (Az n cf k0)))
def rS (n:Nat) (je:aa) (jJ:aq) (k:ae) (v1:Int) (v2:AV) (v5:AV) (v41:Bool) (h:ad):ah:=ifB v41 (rR n je jJ k v1 v2 v5 true h) (faK 6 v5 fun a=>ldI .i64 h a fun b=>jJ b 1 4096 h fun c d=>rR n je jJ k v1 v2 v5 (mW c) d)
theorem ahe:lo Gq (AQ n (lJ je jJ) k0)=rS n je jJ (kap jS k0):=by obtain ⟨J8,u8⟩:=exi (Az n (lJ je jJ) k0); delta AQ rS; rw [← ahg,u8]; kernel_rfl
def AI:Q1:=(jB cf lU Pj (kJ Gq (AQ n cf k0)))
def rN (n:Nat) (je:aa) (jJ:aq) (k:ae) (v1:Int) (v2:AV) (v5:AV) (v35:Bool) (h:ad):ah:=ifB v35 (rS n je jJ k v1 v2 v5 true h) (faK 5 v5 fun a=>ldI .i64 h a fun b=>jJ b 1 4096 h fun c d=>rS n je jJ k v1 v2 v5 (mW c) d)
theorem agP:lo Gf (AI n (lJ je jJ) k0)=rN n je jJ (kap jS k0):=by obtain ⟨J7,u7⟩:=exi (AQ n (lJ je jJ) k0); delta AI rN; rw [← ahe,u7]; kernel_rfl
def Aw:Q1:=(jB cf lU Pd (kJ Gf (AI n cf k0)))
def rO (n:Nat) (je:aa) (jJ:aq) (k:ae) (v1:Int) (v2:AV) (v5:AV) (v29:Bool) (h:ad):ah:=ifB v29 (rN n je jJ k v1 v2 v5 true h) (faK 4 v5 fun a=>ldI .i64 h a fun b=>jJ b 1 4096 h fun c d=>rN n je jJ k v1 v2 v5 (mW c) d)
theorem ag4:lo Gh (Aw n (lJ je jJ) k0)=rO n je jJ (kap jS k0):=by obtain ⟨J6,u6⟩:=exi (AI n (lJ je jJ) k0); delta Aw rO; rw [← agP,u6]; kernel_rfl
def AO:Q1:=(jB cf lU Pc (kJ Gh (Aw n cf k0)))
def rQ (n:Nat) (je:aa) (jJ:aq) (k:ae) (v1:Int) (v2:AV) (v5:AV) (v23:Bool) (h:ad):ah:=ifB v23 (rO n je jJ k v1 v2 v5 true h) (faK 3 v5 fun a=>ldI .i64 h a fun b=>jJ b 4 4096 h fun c d=>rO n je jJ k v1 v2 v5 (mW c) d)
theorem ahf:lo Gp (AO n (lJ je jJ) k0)=rQ n je jJ (kap jS k0):=by obtain ⟨J5,u5⟩:=exi (Aw n (lJ je jJ) k0); delta AO rQ; rw [← ag4,u5]; kernel_rfl
def Vc:Q1:=(jB cf lU xe (jB cf lU Qq (jB cf lU Po (kJ Gp (AO n cf k0)))))
def Dd (n:Nat) (je:aa) (jJ:aq) (k:ae) (a0:AV) (a1:Int) (h:ad):ah:=Ad h a0 fun a b=>fld 16 b (.ptr a 0) 1 false fun c d=>eld 8 b d a1 8 true fun e f=>Jr b (.cells [.nilslice,(.int .i64 0),(.int .i64 0),(.int .i64 0),(.int .i64 0),(.int .i64 0),(.int .i64 0),(.int .i64 0)] true 0) fun g i=>qT i (.ptr g 0) 8 f fun l=>oq .i64 1 l (.ptr g 0) fun m o=>jJ o 0 3 l fun p q=>ifB (mW p) (rQ n je jJ k a1 (.ptr a 0) (.ptr g 0) true q) (faK 2 (.ptr g 0) fun r=>ldI .i64 q r fun s=>jJ s 2 4096 q fun t u=>rQ n je jJ k a1 (.ptr a 0) (.ptr g 0) (mW t) u)
def JV (n:Nat) (je:aa) (jJ:aq) (a0:AV) (a1:Int) (h:ad) (k:ae):ah:=Dd n je jJ k a0 a1 h
theorem aj6:DZ cf lU n VF jS k0=Vc n cf k0:=by funext s; kernel_rfl
theorem akS:lo ju (DZ (lJ je jJ) lU n VF jS k0)=cmp ju (JV n je jJ) (kap jS k0):=(congrArg (lo ju) (aj6 n (lJ je jJ) k0)).trans (show _=Dd n je jJ (kap jS k0) by obtain ⟨J4,u4⟩:=exi (AO n (lJ je jJ) k0); delta Vc Dd; rw [← ahf,u4]; kernel_rfl)
end
def dK (n:Nat):am:=JV n (aC n) (bw n)
abbrev Oj (g:ab):Wr:=wrT ju ji g
def VR (pg:am) (pA:am):aW:=pl [(SW,Tb pg),(U7,U3 pA)]
section
variable (pg:am) (pA:am) (k0:Q0)
def YE:Q1:=(jB cf sZ xN (jB cf sZ UY (cJ p7 (jB cf sZ aaP (lP ji k0)) (jB cf sZ VG (cJ p10 (jB cf sZ aa2 (lP ji k0)) (jB cf sZ kz (lP ji k0)))))))
def FR (n:Nat) (pg:am) (pA:am) (k:ar) (a0:AV) (a1:Int) (h:ad):ah:=Ad h a0 fun a b=>nq b (.ptr a 0) 17 true fun c=>pg c a1 b fun d e=>ifB d (k 110 e) (nq e (.ptr a 0) 17 true fun f=>pA f a1 e fun g i=>ifB g (k 111 i) (k 0 i))
def Of (n:Nat) (pg:am) (pA:am) (a0:AV) (a1:Int) (h:ad) (k:ar):ah:=FR n pg pA k a0 a1 h
theorem an7:DZ cf sZ n YN ji k0=YE cf k0:=by funext s; kernel_rfl
theorem anY:lo ju (DZ (VR pg pA) sZ n YN ji k0)=cmp ju (Of n pg pA) (kap ji k0):=(congrArg (lo ju) (an7 n (VR pg pA) k0)).trans (show _=FR n pg pA (kap ji k0) by delta YE FR; kernel_rfl)
end
def bj (n:Nat):ab:=Of n (dD n) (dK n)
abbrev KI (g:aq):Wr:=wrT nv kN g
def Cs:aW:=pl []
section
variable (k0:Q0)
def AS:Q1:=(jB cf oa we (lP kN k0))
def wT (n:Nat) (k:ae) (v14:Bool) (h:ad):ah:=k v14 h
theorem ag1:lo pd (AS Cs k0)=wT n (kap kN k0):=by delta AS wT; kernel_rfl
def U4:Q1:=(jB cf oa mm (jB cf oa wg (kJ pd (AS cf k0))))
def De (n:Nat) (k:ae) (a0:Int) (a1:Int) (a2:Int) (h:ad):ah:=ifB (mW (ltF a0 a1)) (wT n k (mW (ltF a2 a0)) h) (wT n k false h)
def KP (n:Nat) (a0:Int) (a1:Int) (a2:Int) (h:ad) (k:ae):ah:=De n k a0 a1 a2 h
theorem aj7:DZ cf oa n VJ kN k0=U4 cf k0:=by funext s; kernel_rfl
theorem akJ:lo nv (DZ Cs oa n VJ kN k0)=cmp nv (KP n) (kap kN k0):=(congrArg (lo nv) (aj7 n Cs k0)).trans (show _=De n (kap kN k0) by obtain ⟨J0,u0⟩:=exi (AS Cs k0); delta U4 De; rw [← ag1,u0]; kernel_rfl)
end
def bR (n:Nat):aq:=KP n
abbrev U9 (g:bL):Wr:=wrT lS nQ g
def B1 (jg:aj) (jU:aq):aW:=pl [(zH,zx jg),(JH,KI jU)]
section
variable (jg:aj) (jU:aq) (k0:Q0)
def AG:Q1:=(cJ p18 (jB cf rG GF (lP nQ k0)) (jB cf rG R1 (lP nQ k0)))
def wS (n:Nat) (jg:aj) (jU:aq) (k:aA) (v1:Int) (v2:Int) (v3:AV) (v18:Bool) (h:ad):ah:=ifB v18 (k 0 2 h) (oK .i64 v1 v2 fun a=>NR .u64 a fun b=>oq .u64 4 h v3 fun c d=>Gb .u64 b d fun e=>k e 0 h)
theorem ag3:lo Gv (AG (B1 jg jU) k0)=wS n jg jU (kap nQ k0):=by delta AG wS; kernel_rfl
def Vj:Q1:=(jB cf rG Uh (jB cf rG Ax (cJ p10 (jB cf rG AK (lP nQ k0)) (jB cf rG RR (kJ Gv (AG cf k0))))))
def Dr (n:Nat) (jg:aj) (jU:aq) (k:aA) (a0:AV) (a1:Int) (a2:Int) (h:ad):ah:=Ad h a0 fun a b=>nq b (.ptr a 0) 6 true fun c=>jg c b fun d e=>ifB (mW (eqF d 0)) (k 0 100 e) (jU a1 0 65536 e fun f g=>ifB (mW f) (wS n jg jU k a1 a2 (.ptr a 0) true g) (jU a2 0 64 g fun i l=>wS n jg jU k a1 a2 (.ptr a 0) (mW i) l))
def Kq (n:Nat) (jg:aj) (jU:aq) (a0:AV) (a1:Int) (a2:Int) (h:ad) (k:aA):ah:=Dr n jg jU k a0 a1 a2 h
theorem ajv:DZ cf rG n Vg nQ k0=Vj cf k0:=by funext s; kernel_rfl
theorem akG:lo lS (DZ (B1 jg jU) rG n Vg nQ k0)=cmp lS (Kq n jg jU) (kap nQ k0):=(congrArg (lo lS) (ajv n (B1 jg jU) k0)).trans (show _=Dr n jg jU (kap nQ k0) by obtain ⟨J0,u0⟩:=exi (AG (B1 jg jU) k0); delta Vj Dr; rw [← ag3,u0]; kernel_rfl)
end
def bX (n:Nat):bL:=Kq n (aR n) (bR n)
abbrev fk:=Bool→ad→ah
abbrev abk (g:aa):Wr:=wrT jN jp g
def ob (jU:aq):aW:=pl [(JH,KI jU)]
section
variable (jU:aq) (k0:Q0)
def ER:Q1:=(jB cf pX XS (lP jp k0))
def zh (n:Nat) (jU:aq) (k:ae) (v37:Bool) (h:ad):ah:=k v37 h
theorem amJ:lo L6 (ER (ob jU) k0)=zh n jU (kap jp k0):=by delta ER zh; kernel_rfl
def EF:Q1:=(jB cf pX V5 (kJ L6 (ER cf k0)))
def zp (n:Nat) (jU:aq) (k:ae) (v1:AV) (v32:Bool) (h:ad):ah:=ifB v32 (faK 3 v1 fun a=>ldI .i64 h a fun b=>jU b 1 4096 h fun c d=>zh n jU k c d) (zh n jU k false h)
theorem amD:lo oV (EF (ob jU) k0)=zp n jU (kap jp k0):=by obtain ⟨J2,u2⟩:=exi (ER (ob jU) k0); delta EF zp; rw [← amJ,u2]; kernel_rfl
def EN:Q1:=(jB cf pX Xn (kJ oV (EF cf k0)))
def zi (n:Nat) (jU:aq) (k:ae) (v1:AV) (v27:Bool) (h:ad):ah:=ifB v27 (faK 2 v1 fun a=>ldI .i64 h a fun b=>jU b 1 5120 h fun c d=>zp n jU k v1 c d) (zp n jU k v1 false h)
theorem alg:lo L8 (EN (ob jU) k0)=zi n jU (kap jp k0):=by obtain ⟨J1,u1⟩:=exi (EF (ob jU) k0); delta EN zi; rw [← amD,u1]; kernel_rfl
def Ew:Q1:=(jB cf pX WJ (jB cf pX WH (kJ L8 (EN cf k0))))
def ur (n:Nat) (jU:aq) (k:ae) (v1:AV) (v21:Bool) (h:ad):ah:=ifB v21 (faK 1 v1 fun a=>ldI .i64 h a fun b=>jU b 2 4096 h fun c d=>zi n jU k v1 c d) (zi n jU k v1 false h)
theorem alQ:lo Mf (Ew (ob jU) k0)=ur n jU (kap jp k0):=by obtain ⟨J0,u0⟩:=exi (EN (ob jU) k0); delta Ew ur; rw [← alg,u0]; kernel_rfl
def ED:Q1:=(jB cf pX Xh (kJ Mf (Ew cf k0)))
def uw (n:Nat) (jU:aq) (k:ae) (v1:AV) (v16:Bool) (h:ad):ah:=ifB v16 (ur n jU k v1 true h) (faK 0 v1 fun a=>ldI .i64 h a fun b=>ur n jU k v1 (eqF b 8) h)
theorem al1:lo Mo (ED (ob jU) k0)=uw n jU (kap jp k0):=by obtain ⟨J5,u5⟩:=exi (Ew (ob jU) k0); delta ED uw; rw [← alQ,u5]; kernel_rfl
def EH:Q1:=(jB cf pX WO (kJ Mo (ED cf k0)))
def uv (n:Nat) (jU:aq) (k:ae) (v1:AV) (v11:Bool) (h:ad):ah:=ifB v11 (uw n jU k v1 true h) (faK 0 v1 fun a=>ldI .i64 h a fun b=>uw n jU k v1 (eqF b 4) h)
theorem alu:lo Mu (EH (ob jU) k0)=uv n jU (kap jp k0):=by obtain ⟨J4,u4⟩:=exi (ED (ob jU) k0); delta EH uv; rw [← al1,u4]; kernel_rfl
def abY:Q1:=(jB cf pX ot (jB cf pX X5 (kJ Mu (EH cf k0))))
def GR (n:Nat) (jU:aq) (k:ae) (a0:AV) (h:ad):ah:=Ad h a0 fun a b=>oq .i64 0 b (.ptr a 0) fun c d=>ifB (eqF d 1) (uv n jU k (.ptr a 0) true b) (faK 0 (.ptr a 0) fun e=>ldI .i64 b e fun f=>uv n jU k (.ptr a 0) (eqF f 2) b)
def PY (n:Nat) (jU:aq) (a0:AV) (h:ad) (k:ae):ah:=GR n jU k a0 h
theorem apn:DZ cf pX n abe jp k0=abY cf k0:=by funext s; kernel_rfl
theorem aoh:lo jN (DZ (ob jU) pX n abe jp k0)=cmp jN (PY n jU) (kap jp k0):=(congrArg (lo jN) (apn n (ob jU) k0)).trans (show _=GR n jU (kap jp k0) by obtain ⟨J3,u3⟩:=exi (EH (ob jU) k0); delta abY GR; rw [← alu,u3]; kernel_rfl)
end
def eu (n:Nat):aa:=PY n (bR n)
abbrev bS:=AV→AV→Int→ad→(Int→ad→ah)→ah
abbrev Dh (g:bS):Wr:=wrT rF nd g
def S6 (lV:bS):aW:=pl [(Dc,Dh lV)]
section
variable (lV:bS) (k0:Q0)
def Vz:Q1:=(jB cf ll PV (jB cf ll Qo (jB cf ll Pv (jB cf ll Qa (jB cf ll Qp (jB cf ll Pz (cJ p33 (jB cf ll R5 (lP nd k0)) (jB cf ll O9 (cJ p37 (jB cf ll RX (lP nd k0)) (jB cf ll Qv (cJ p47 (jB cf ll Rw (lP nd k0)) (jB cf ll Ql (cJ p62 (jB cf ll RI (lP nd k0)) (jB cf ll Pw (cJ p66 (jB cf ll RV (lP nd k0)) (jB cf ll PL (cJ p73 (jB cf ll Sm (lP nd k0)) (jB cf ll Qw (cJ p81 (jB cf ll Sb (lP nd k0)) (jB cf ll Pu (cJ p90 (jB cf ll RF (lP nd k0)) (jB cf ll Pp (cJ avH (jB cf ll Sj (lP nd k0)) (jB cf ll AB (lP nd k0)))))))))))))))))))))))))
def yI (n:Nat) (lV:bS) (k:ar) (a0:AV) (a1:AV) (a2:Int) (h:ad):ah:=Ad h a0 fun a b=>Ad b a1 fun c d=>oq .u64 2 d (.ptr a 0) fun e f=>oq .u64 4 d (.ptr a 0) fun g i=>oq .i64 2 d (.ptr c 0) fun l m=>NR .u64 m fun o=>oq .i64 3 d (.ptr c 0) fun p q=>NR .u64 q fun r=>oq .i64 1 d (.ptr c 0) fun s t=>NR .u64 t fun u=>Gb .u64 2 u fun w=>oK .u64 w 1 fun x=>Gb .u64 x i fun y=>oq .u64 5 d (.ptr a 0) fun z A=>oK .u64 y A fun B=>ifB (eqF a2 1) (Gb .u64 17 f fun C=>k C d) (ifB (eqF a2 2) (Gb .u64 2 f fun E=>oK .u64 i E fun F=>Gb .u64 o F fun G=>oK .u64 G f fun I=>k I d) (ifB (eqF a2 3) (Gb .u64 16 r fun K=>Gb .u64 K f fun L=>oK .u64 f L fun M=>Gb .u64 2 f fun N=>oK .u64 i N fun O=>Gb .u64 o O fun P=>oK .u64 M P fun Q=>k Q d) (ifB (eqF a2 4) (Gb .u64 113 f fun R=>k R d) (ifB (eqF a2 5) (Gb .u64 2 f fun S=>oK .u64 i S fun T=>Gb .u64 64 T fun U=>k U d) (ifB (eqF a2 6) (oK .u64 i f fun V=>Gb .u64 64 V fun X=>oK .u64 X f fun Y=>k Y d) (ifB (eqF a2 7) (nq d (.ptr a 0) 6 true fun Z=>nq d (.ptr c 0) 4 true fun qa=>lV Z qa 4 (d.shut true) fun qb qc=>nq (qc.back d.ro) (.ptr a 0) 6 true fun qd=>nq (qc.back d.ro) (.ptr c 0) 4 true fun qe=>lV qd qe 5 (qc.back d.ro) fun qf qg=>Ui true [(.int .u64 qb),(.int .u64 qf)] fun qi=>ac0 .u64 qi fun ql=>k ql qg) (ifB (eqF a2 8) (Gb .u64 26 f fun qm=>oq .u64 3 d (.ptr a 0) fun qo qp=>oK .u64 qm qp fun qq=>oK .u64 qq B fun qr=>oq .u64 5 d (.ptr a 0) fun qs qt=>oK .u64 qr qt fun qu=>k qu d) (ifB (eqF a2 9) (Gb .u64 64 f fun qw=>oq .u64 3 d (.ptr a 0) fun qx qy=>
 Gb .u64 2 qy fun qz=>oK .u64 qw qz fun qA=>Gb .u64 2 B fun qB=>oK .u64 qA qB fun qC=>oq .u64 5 d (.ptr a 0) fun qE qF=>oK .u64 qC qF fun qG=>k qG d) (k 0 d)))))))))
def rJ (n:Nat) (lV:bS) (a0:AV) (a1:AV) (a2:Int) (h:ad) (k:ar):ah:=yI n lV k a0 a1 a2 h
theorem ajH:DZ cf ll n VH nd k0=Vz cf k0:=by funext s; kernel_rfl
theorem ajt:lo rF (DZ (S6 lV) ll n VH nd k0)=cmp rF (rJ n lV) (kap nd k0):=(congrArg (lo rF) (ajH n (S6 lV) k0)).trans (show _=yI n lV (kap nd k0) by delta Vz yI; kernel_rfl)
end
def cx (n m:Nat):bS:=Nat.rec (motive:=fun _=>bS) (fun _ _ _ _ _=>.err) (fun _ ih=>rJ n ih) m
theorem Vm (n m:Nat):cx n (m+1)=rJ n (cx n m):=rfl
def dI (n:Nat):bS:=cx n n
abbrev cB:=AV→AV→Int→ad→(Int→Int→ad→ah)→ah
abbrev V7 (g:cB):Wr:=wrT rF nQ g
def UV (jg:aj) (qQ:aa) (lV:bS):aW:=pl [(zH,zx jg),(ab1,abk qQ),(Dc,Dh lV)]
section
variable (jg:aj) (qQ:aa) (lV:bS) (k0:Q0)
def XG:Q1:=(jB cf sf TB (jB cf sf Ax (cJ p10 (jB cf sf AK (lP nQ k0)) (jB cf sf S3 (cJ p13 (jB cf sf GF (lP nQ k0)) (jB cf sf TG (lP nQ k0)))))))
def EK (n:Nat) (jg:aj) (qQ:aa) (lV:bS) (k:aA) (a0:AV) (a1:AV) (a2:Int) (h:ad):ah:=Ad h a0 fun a b=>Ad b a1 fun c d=>nq d (.ptr a 0) 6 true fun e=>jg e d fun f g=>ifB (mW (eqF f 0)) (k 0 100 g) (nq g (.ptr c 0) 4 true fun i=>qQ i g fun l m=>ifB (mW l) (k 0 2 m) (oq .i64 0 m (.ptr c 0) fun o p=>NR .u64 p fun q=>oq .u64 2 m (.ptr a 0) fun r s=>Gb .u64 q s fun t=>nq m (.ptr a 0) 6 true fun u=>nq m (.ptr c 0) 4 true fun w=>lV u w a2 (m.shut true) fun x y=>oK .u64 t x fun z=>k z 0 (y.back m.ro)))
def MA (n:Nat) (jg:aj) (qQ:aa) (lV:bS) (a0:AV) (a1:AV) (a2:Int) (h:ad) (k:aA):ah:=EK n jg qQ lV k a0 a1 a2 h
theorem amF:DZ cf sf n VU nQ k0=XG cf k0:=by funext s; kernel_rfl
theorem al6:lo rF (DZ (UV jg qQ lV) sf n VU nQ k0)=cmp rF (MA n jg qQ lV) (kap nQ k0):=(congrArg (lo rF) (amF n (UV jg qQ lV) k0)).trans (show _=EK n jg qQ lV (kap nQ k0) by delta XG EK; kernel_rfl)
end
def dx (n:Nat):cB:=MA n (aR n) (eu n) (dI n)
abbrev Y4 (g:bV):Wr:=wrT lR rD g
def um (lq:cB):aW:=pl [(WA,V7 lq)]
section
variable (lq:cB) (k0:Q0)
def Dy:Q1:=(jB cf oW Vb (lP rD k0))
def Dw (n:Nat) (lq:cB) (k:aA) (v6:Int) (h:ad):ah:=k v6 0 h
theorem akW:lo Kl (Dy (um lq) k0)=Dw n lq (kap rD k0):=by delta Dy Dw; kernel_rfl
def Jz (J1:Q1):Q1:=(jB cf oW Vp (cJ p11 (jB cf oW Vn (jB cf oW Ve (cJ p23 (jB cf oW U0 (lP rD k0)) (jB cf oW Vt (jB cf oW Vk (kJ tM J1)))))) (kJ Kl (Dy cf k0))))
def yG (n:Nat) (lq:cB) (k:aA) (j1:bN) (v2:AV) (v3:AV) (v6:Int) (v7:Int) (h:ad):ah:=ifB (ltF v7 256) (nq h v2 6 true fun a=>nq h v3 4 true fun b=>NR .u8 v7 fun c=>lq a b c h fun d e f=>ifB (mW (eqF e 0)) (k 0 e f) (Ui true [(.int .u64 v6),(.int .u64 d)] fun g=>ac0 .u64 g fun i=>oK .i64 v7 1 fun l=>j1 v2 v3 i l f)) (Dw n lq k v6 h)
def Jd:Nat→Q1:=lpS (Jz cf k0)
def yF (n:Nat) (lq:cB) (k:aA):Nat→bN:=lpF tM (yG n lq k)
theorem akU (k:aA) (m:Nat):yF n lq k (m+1)=yG n lq k (yF n lq k m):=rfl
theorem akO (m:Nat):lo tM (Jd (um lq) k0 m)=yF n lq (kap rD k0) m:=sY (fun J1=>(by obtain ⟨J0,u0⟩:=exi (Dy (um lq) k0); delta Jz yG; rw [← akW,u0]; kernel_rfl:lo tM (Jz (um lq) k0 J1)=yG n lq (kap rD k0) (lo tM J1))) m
def YT:Q1:=(jB cf oW VO (jB cf oW AB (jB cf oW qh (kJ tM (Jd cf k0 n)))))
def FQ (n:Nat) (lq:cB) (k:aA) (a0:AV) (a1:AV) (h:ad):ah:=Ad h a0 fun a b=>Ad b a1 fun c d=>yF n lq k n (.ptr a 0) (.ptr c 0) 0 0 d
def Oh (n:Nat) (lq:cB) (a0:AV) (a1:AV) (h:ad) (k:aA):ah:=FQ n lq k a0 a1 h
theorem anR:DZ cf oW n YQ rD k0=YT n cf k0:=by funext s; kernel_rfl
theorem anT:lo lR (DZ (um lq) oW n YQ rD k0)=cmp lR (Oh n lq) (kap rD k0):=(congrArg (lo lR) (anR n (um lq) k0)).trans (show _=FQ n lq (kap rD k0) by obtain ⟨J1,u1⟩:=exi (Jd (um lq) k0 n); delta YT FQ; rw [← akO,u1]; kernel_rfl)
end
def cm (n:Nat):bV:=Oh n (dx n)
abbrev WN (g:bP):Wr:=wrT ju xT g
def Vo:aW:=pl []
section
variable (k0:Q0)
def VL:Q1:=(jB cf zE Wg (jB cf zE TT (jB cf zE SX (lP xT k0))))
def EJ (n:Nat) (k:az) (a0:AV) (a1:Int) (h:ad):ah:=Ad h a0 fun a b=>Jr b (.cells [(.int .i64 0),(.int .i64 0),(.int .i64 0),(.int .i64 0)] true 0) fun c d=>fld 16 d (.ptr a 0) 1 false fun e f=>eld 8 d f a1 8 true fun g i=>Jr d (.cells [.nilslice,(.int .i64 0),(.int .i64 0),(.int .i64 0),(.int .i64 0),(.int .i64 0),(.int .i64 0),(.int .i64 0)] true 0) fun l m=>qT m (.ptr l 0) 8 i fun o=>oq .i64 1 o (.ptr l 0) fun p q=>ak4 .i64 1 q fun r=>oq .i64 2 o (.ptr l 0) fun s t=>oq .i64 2 o (.ptr l 0) fun u w=>oq .i64 7 o (.ptr l 0) fun x y=>oK .i64 w y fun z=>amc .i64 z 1 fun A=>oq .i64 6 o (.ptr l 0) fun B C=>Gb .i64 16 C fun E=>Ui false [(.int .i64 A),(.int .i64 E)] fun F=>ac0 .i64 F fun G=>oq .i64 3 o (.ptr l 0) fun I K=>uK [(.int .i64 0),(.int .i64 0),(.int .i64 0),(.int .i64 0)] [(0,1,(.int .i64 r)),(1,1,(.int .i64 t)),(2,1,(.int .i64 G)),(3,1,(.int .i64 K))] fun L=>qT o (.ptr c 0) 4 L fun M=>nq M (.ptr c 0) 4 true fun N=>k N M
def LZ (n:Nat) (a0:AV) (a1:Int) (h:ad) (k:az):ah:=EJ n k a0 a1 h
theorem amh:DZ cf zE n Xq xT k0=VL cf k0:=by funext s; kernel_rfl
theorem alH:lo ju (DZ Vo zE n Xq xT k0)=cmp ju (LZ n) (kap xT k0):=(congrArg (lo ju) (amh n Vo k0)).trans (show _=EJ n (kap xT k0) by delta VL EJ; kernel_rfl)
end
def cg (n:Nat):bP:=LZ n
abbrev fH:=Bool→ad→ah
abbrev Vx (g:aa):Wr:=wrT jN jp g
def mw (je:aa) (jg:aj) (jm:ab) (j0:bL) (kp:bV) (kg:bP):aW:=pl [(Cz,Cd je),(zH,zx jg),(Ow,Oj jm),(U5,U9 j0),(YU,Y4 kp),(Yd,WN kg)]
section
variable (je:aa) (jg:aj) (jm:ab) (j0:bL) (kp:bV) (kg:bP) (k0:Q0)
def A0:Q1:=(jB cf ma lW (lP jp k0))
def AP (n:Nat) (je:aa) (jg:aj) (jm:ab) (j0:bL) (kp:bV) (kg:bP) (k:ae) (h:ad):ah:=k false h
theorem ahc:lo kV (A0 (mw je jg jm j0 kp kg) k0)=AP n je jg jm j0 kp kg (kap jp k0):=by delta A0 AP; kernel_rfl
def w5 (J1:Q1):Q1:=(jB cf ma R3 (kJ nP J1))
def wN (n:Nat) (je:aa) (jg:aj) (jm:ab) (j0:bL) (kp:bV) (kg:bP) (k:ae) (j1:aX) (v1:AV) (v5:Int) (h:ad):ah:=oK .i64 v5 1 fun a=>j1 v1 a h
theorem ag8 (J1:Q1):lo nP (w5 (mw je jg jm j0 kp kg) J1)=wN n je jg jm j0 kp kg (kap jp k0) (lo nP J1):=by delta w5 wN; kernel_rfl
def Gi (J1:Q1):Q1:=(jB cf ma Sn (cJ p55 (jB cf ma Si (cJ p61 (jB cf ma RY (jB cf ma RN (cJ p74 (jB cf ma pS (lP jp k0)) (kJ nP (w5 cf J1))))) (kJ nP (w5 cf J1)))) (kJ kV (A0 cf k0))))
def wV (n:Nat) (je:aa) (jg:aj) (jm:ab) (j0:bL) (kp:bV) (kg:bP) (k:ae) (j1:aX) (v1:AV) (v5:Int) (h:ad):ah:=fld 16 h v1 1 false fun a b=>mX b fun c=>ifB (ltF v5 c) (nq h v1 17 true fun d=>jm d v5 h fun e f=>ifB (eqF e 0) (fld 6 f v1 6 true fun g i=>nq f v1 17 true fun l=>kg l v5 (f.shut true) fun m o=>kp i m (o.back f.ro) fun p q r=>oq .u64 12 r v1 fun s t=>ifB (ltF t p) (k true r) (wN n je jg jm j0 kp kg k j1 v1 v5 r)) (wN n je jg jm j0 kp kg k j1 v1 v5 f)) (AP n je jg jm j0 kp kg k h)
def Gj:Nat→Q1:=lpS (Gi cf k0)
def ug (n:Nat) (je:aa) (jg:aj) (jm:ab) (j0:bL) (kp:bV) (kg:bP) (k:ae):Nat→aX:=lpF nP (wV n je jg jm j0 kp kg k)
theorem ahj (k:ae) (m:Nat):ug n je jg jm j0 kp kg k (m+1)=wV n je jg jm j0 kp kg k (ug n je jg jm j0 kp kg k m):=rfl
theorem agX (m:Nat):lo nP (Gj (mw je jg jm j0 kp kg) k0 m)=ug n je jg jm j0 kp kg (kap jp k0) m:=sY (fun J1=>(by obtain ⟨J0,u0⟩:=exi (A0 (mw je jg jm j0 kp kg) k0); obtain ⟨J2,u2⟩:=exi (w5 (mw je jg jm j0 kp kg) J1); delta Gi wV; rw [← ahc,u0, ← ag8,u2]; kernel_rfl:lo nP (Gi (mw je jg jm j0 kp kg) k0 J1)=wV n je jg jm j0 kp kg (kap jp k0) (lo nP J1))) m
def AJ:Q1:=(cJ p33 (jB cf ma lW (lP jp k0)) (jB cf ma Qe (jB cf ma RO (cJ p50 (jB cf ma pS (lP jp k0)) (jB cf ma mC (kJ nP (Gj cf k0 n)))))))
def w7 (n:Nat) (je:aa) (jg:aj) (jm:ab) (j0:bL) (kp:bV) (kg:bP) (k:ae) (v1:AV) (v33:Bool) (h:ad):ah:=ifB v33 (k false h) (fld 6 h v1 6 true fun a b=>oq .i64 3 h v1 fun c d=>oq .i64 4 h v1 fun e f=>Gb .i64 d f fun g=>oq .i64 5 h v1 fun i l=>j0 b g l h fun m o p=>oq .u64 13 p v1 fun q r=>ifB (ltF r m) (k true p) (ug n je jg jm j0 kp kg k n v1 0 p))
theorem ag7:lo EY (AJ n (mw je jg jm j0 kp kg) k0)=w7 n je jg jm j0 kp kg (kap jp k0):=by obtain ⟨J1,u1⟩:=exi (Gj (mw je jg jm j0 kp kg) k0 n); delta AJ w7; rw [← agX,u1]; kernel_rfl
def A2:Q1:=(cJ p25 (jB cf ma pS (lP jp k0)) (jB cf ma Pk (kJ EY (AJ n cf k0))))
def uj (n:Nat) (je:aa) (jg:aj) (jm:ab) (j0:bL) (kp:bV) (kg:bP) (k:ae) (v1:AV) (v25:Bool) (h:ad):ah:=ifB v25 (k true h) (nq h v1 17 true fun a=>je a h fun b c=>ifB b (w7 n je jg jm j0 kp kg k v1 true c) (faK 6 v1 fun d=>nq c d 6 true fun e=>jg e c fun f g=>w7 n je jg jm j0 kp kg k v1 (mW (eqF f 0)) g))
theorem ag5:lo yr (A2 n (mw je jg jm j0 kp kg) k0)=uj n je jg jm j0 kp kg (kap jp k0):=by obtain ⟨J3,u3⟩:=exi (AJ n (mw je jg jm j0 kp kg) k0); delta A2 uj; rw [← ag7,u3]; kernel_rfl
def AR:Q1:=(jB cf ma QQ (kJ yr (A2 n cf k0)))
def rT (n:Nat) (je:aa) (jg:aj) (jm:ab) (j0:bL) (kp:bV) (kg:bP) (k:ae) (v1:AV) (v20:Bool) (h:ad):ah:=ifB v20 (uj n je jg jm j0 kp kg k v1 true h) (faK 14 v1 fun a=>ldI .u64 h a fun b=>uj n je jg jm j0 kp kg k v1 (mW (ltF b 1099511627776)) h)
theorem ahh:lo GG (AR n (mw je jg jm j0 kp kg) k0)=rT n je jg jm j0 kp kg (kap jp k0):=by obtain ⟨J6,u6⟩:=exi (A2 n (mw je jg jm j0 kp kg) k0); delta AR rT; rw [← ag5,u6]; kernel_rfl
def AW:Q1:=(jB cf ma Q3 (kJ GG (AR n cf k0)))
def rP (n:Nat) (je:aa) (jg:aj) (jm:ab) (j0:bL) (kp:bV) (kg:bP) (k:ae) (v1:AV) (v15:Bool) (h:ad):ah:=ifB v15 (rT n je jg jm j0 kp kg k v1 true h) (faK 13 v1 fun a=>ldI .u64 h a fun b=>rT n je jg jm j0 kp kg k v1 (ltF 4194304 b) h)
theorem ag2:lo GC (AW n (mw je jg jm j0 kp kg) k0)=rP n je jg jm j0 kp kg (kap jp k0):=by obtain ⟨J5,u5⟩:=exi (AR n (mw je jg jm j0 kp kg) k0); delta AW rP; rw [← ahh,u5]; kernel_rfl
def U8:Q1:=(jB cf ma ot (jB cf ma QP (kJ GC (AW n cf k0))))
def Dx (n:Nat) (je:aa) (jg:aj) (jm:ab) (j0:bL) (kp:bV) (kg:bP) (k:ae) (a0:AV) (h:ad):ah:=Ad h a0 fun a b=>oq .u64 12 b (.ptr a 0) fun c d=>ifB (ltF d 1) (rP n je jg jm j0 kp kg k (.ptr a 0) true b) (faK 12 (.ptr a 0) fun e=>ldI .u64 b e fun f=>rP n je jg jm j0 kp kg k (.ptr a 0) (ltF 4194304 f) b)
def Jw (n:Nat) (je:aa) (jg:aj) (jm:ab) (j0:bL) (kp:bV) (kg:bP) (a0:AV) (h:ad) (k:ae):ah:=Dx n je jg jm j0 kp kg k a0 h
theorem ake:DZ cf ma n UZ jp k0=U8 n cf k0:=by funext s; kernel_rfl
theorem ajs:lo jN (DZ (mw je jg jm j0 kp kg) ma n UZ jp k0)=cmp jN (Jw n je jg jm j0 kp kg) (kap jp k0):=(congrArg (lo jN) (ake n (mw je jg jm j0 kp kg) k0)).trans (show _=Dx n je jg jm j0 kp kg (kap jp k0) by obtain ⟨J4,u4⟩:=exi (AW n (mw je jg jm j0 kp kg) k0); delta U8 Dx; rw [← ag2,u4]; kernel_rfl)
end
def bZ (n:Nat):aa:=Jw n (aC n) (aR n) (bj n) (bX n) (cm n) (cg n)
abbrev gA:=Bool→ad→ah
abbrev VV (g:aa):Wr:=wrT jN jp g
def oR:aW:=pl []
section
variable (k0:Q0)
def Cm:Q1:=(jB cf ph lW (lP jp k0))
def B6 (n:Nat) (k:ae) (h:ad):ah:=k false h
theorem aiq:lo kV (Cm oR k0)=B6 n (kap jp k0):=by delta Cm B6; kernel_rfl
def Cy (J1:Q1):Q1:=(cJ p37 (jB cf ph pS (lP jp k0)) (jB cf ph Tg (kJ qR J1)))
def xC (n:Nat) (k:ae) (j1:aX) (v1:AV) (v3:Int) (v37:Bool) (h:ad):ah:=ifB v37 (k true h) (oK .i64 v3 1 fun a=>j1 v1 a h)
theorem aiB (J1:Q1):lo HU (Cy oR k0 J1)=xC n (kap jp k0) (lo qR J1):=by delta Cy xC; kernel_rfl
def HD (J1:Q1):Q1:=(jB cf ph S1 (cJ p18 (jB cf ph SU (kJ HU (Cy cf k0 J1))) (kJ kV (Cm cf k0))))
def xH (n:Nat) (k:ae) (j1:aX) (v1:AV) (v3:Int) (h:ad):ah:=fld 15 h v1 1 false fun a b=>mX b fun c=>ifB (ltF v3 c) (fld 15 h v1 1 false fun d e=>Ga .i64 1 h e v3 fun f g=>ifB (ltF g 0) (xC n k j1 v1 v3 true h) (faK 15 v1 fun i=>nq h i 1 false fun l=>Ga .i64 1 h l v3 fun m o=>fld 16 h v1 1 false fun p q=>mX q fun r=>xC n k j1 v1 v3 (mW (ltF o r)) h)) (B6 n k h)
def HQ:Nat→Q1:=lpS (HD cf k0)
def uX (n:Nat) (k:ae):Nat→aX:=lpF qR (xH n k)
theorem aiQ (k:ae) (m:Nat):uX n k (m+1)=xH n k (uX n k m):=rfl
theorem aiP (m:Nat):lo qR (HQ oR k0 m)=uX n (kap jp k0) m:=sY (fun J1=>(by obtain ⟨J0,u0⟩:=exi (Cm oR k0); obtain ⟨J2,u2⟩:=exi (Cy oR k0 J1); delta HD xH; rw [← aiq,u0, ← aiB,u2]; kernel_rfl:lo qR (HD oR k0 J1)=xH n (kap jp k0) (lo qR J1))) m
def Cb:Q1:=(cJ p13 (jB cf ph pS (lP jp k0)) (jB cf ph s0 (kJ qR (HQ cf k0 n))))
def xP (n:Nat) (k:ae) (v1:AV) (v13:Bool) (h:ad):ah:=ifB v13 (k true h) (uX n k n v1 0 h)
theorem ai8:lo sE (Cb n oR k0)=xP n (kap jp k0):=by obtain ⟨J1,u1⟩:=exi (HQ oR k0 n); delta Cb xP; rw [← aiP,u1]; kernel_rfl
def XY:Q1:=(jB cf ph ot (jB cf ph Ta (kJ sE (Cb n cf k0))))
def Es (n:Nat) (k:ae) (a0:AV) (h:ad):ah:=Ad h a0 fun a b=>fld 15 b (.ptr a 0) 1 false fun c d=>mX d fun e=>ifB (ltF e 1) (xP n k (.ptr a 0) true b) (faK 15 (.ptr a 0) fun f=>nq b f 1 false fun g=>mX g fun i=>xP n k (.ptr a 0) (ltF 64 i) b)
def Mq (n:Nat) (a0:AV) (h:ad) (k:ae):ah:=Es n k a0 h
theorem alD:DZ cf ph n WF jp k0=XY n cf k0:=by funext s; kernel_rfl
theorem alG:lo jN (DZ oR ph n WF jp k0)=cmp jN (Mq n) (kap jp k0):=(congrArg (lo jN) (alD n oR k0)).trans (show _=Es n (kap jp k0) by obtain ⟨J3,u3⟩:=exi (Cb n oR k0); delta XY Es; rw [← ai8,u3]; kernel_rfl)
end
def cb (n:Nat):aa:=Mq n
abbrev WP (g:ak):Wr:=wrT jN kF g
def mf (je:aa) (jg:aj) (jY:aa) (jZ:aa) (jm:ab):aW:=pl [(Cz,Cd je),(zH,zx jg),(UW,Vx jY),(XD,VV jZ),(Ow,Oj jm)]
section
variable (je:aa) (jg:aj) (jY:aa) (jZ:aa) (jm:ab) (k0:Q0)
def Cu:Q1:=(jB cf mq S2 (lP kF k0))
def Cf (n:Nat) (je:aa) (jg:aj) (jY:aa) (jZ:aa) (jm:ab) (k:az) (v3:AV) (h:ad):ah:=k v3 h
theorem ajg:lo oB (Cu (mf je jg jY jZ jm) k0)=Cf n je jg jY jZ jm (kap kF k0):=by delta Cu Cf; kernel_rfl
def xO (J1:Q1):Q1:=(jB cf mq TS (kJ nI J1))
def xI (n:Nat) (je:aa) (jg:aj) (jY:aa) (jZ:aa) (jm:ab) (k:az) (j1:aP) (v1:AV) (v3:AV) (v4:Int) (h:ad):ah:=oK .i64 v4 1 fun a=>j1 v1 v3 a h
theorem ai7 (J1:Q1):lo nI (xO (mf je jg jY jZ jm) J1)=xI n je jg jY jZ jm (kap kF k0) (lo nI J1):=by delta xO xI; kernel_rfl
def CG (J1:Q1):Q1:=(cJ p40 (jB cf mq Tz (jB cf mq SQ (cJ p47 (jB cf mq S0 (kJ nI (xO cf J1))) (kJ nI (xO cf J1))))) (kJ oB (Cu cf k0)))
def so (n:Nat) (je:aa) (jg:aj) (jY:aa) (jZ:aa) (jm:ab) (k:az) (j1:aP) (v1:AV) (v3:AV) (v4:Int) (v40:Bool) (h:ad):ah:=ifB v40 (nq h v1 17 true fun a=>jm a v4 h fun b c=>ifB (mW (eqF b 0)) (oK .i64 4 v4 fun d=>uK [(.int .i64 0),(.int .i64 0)] [(0,1,(.int .i64 b)),(1,1,(.int .i64 d))] fun e=>pZ c 1 [(.int .i64 0),(.int .i64 0)] [(0,2,e)] fun f g=>sI g 2 v3 f fun i l=>xI n je jg jY jZ jm k j1 v1 i v4 l) (xI n je jg jY jZ jm k j1 v1 v3 v4 c)) (Cf n je jg jY jZ jm k v3 h)
theorem aiK (J1:Q1):lo HB (CG (mf je jg jY jZ jm) k0 J1)=so n je jg jY jZ jm (kap kF k0) (lo nI J1):=by obtain ⟨J0,u0⟩:=exi (Cu (mf je jg jY jZ jm) k0); obtain ⟨J2,u2⟩:=exi (xO (mf je jg jY jZ jm) J1); delta CG so; rw [← ajg,u0, ← ai7,u2]; kernel_rfl
def Hw (J1:Q1):Q1:=(jB cf mq SV (kJ HB (CG cf k0 J1)))
def xE (n:Nat) (je:aa) (jg:aj) (jY:aa) (jZ:aa) (jm:ab) (k:az) (j1:aP) (v1:AV) (v3:AV) (v4:Int) (h:ad):ah:=fld 16 h v1 1 false fun a b=>mX b fun c=>ifB (ltF v4 c) (so n je jg jY jZ jm k j1 v1 v3 v4 (ltF v4 8) h) (so n je jg jY jZ jm k j1 v1 v3 v4 false h)
def HP:Nat→Q1:=lpS (Hw cf k0)
def uR (n:Nat) (je:aa) (jg:aj) (jY:aa) (jZ:aa) (jm:ab) (k:az):Nat→aP:=lpF nI (xE n je jg jY jZ jm k)
theorem aiL (k:az) (m:Nat):uR n je jg jY jZ jm k (m+1)=xE n je jg jY jZ jm k (uR n je jg jY jZ jm k m):=rfl
theorem aim (m:Nat):lo nI (HP (mf je jg jY jZ jm) k0 m)=uR n je jg jY jZ jm (kap kF k0) m:=sY (fun J1=>(by obtain ⟨J3,u3⟩:=exi (CG (mf je jg jY jZ jm) k0 J1); delta Hw xE; rw [← aiK,u3]; kernel_rfl:lo nI (Hw (mf je jg jY jZ jm) k0 J1)=xE n je jg jY jZ jm (kap kF k0) (lo nI J1))) m
def xL:Q1:=(jB cf mq kz (kJ nI (HP cf k0 n)))
def uY (n:Nat) (je:aa) (jg:aj) (jY:aa) (jZ:aa) (jm:ab) (k:az) (v1:AV) (v3:AV) (h:ad):ah:=uR n je jg jY jZ jm k n v1 v3 0 h
theorem aik:lo mN (xL n (mf je jg jY jZ jm) k0)=uY n je jg jY jZ jm (kap kF k0):=by obtain ⟨J1,u1⟩:=exi (HP (mf je jg jY jZ jm) k0 n); delta xL uY; rw [← aim,u1]; kernel_rfl
def xM:Q1:=(jB cf mq Tp (cJ p27 (jB cf mq S9 (kJ mN (xL n cf k0))) (kJ mN (xL n cf k0))))
def vd (n:Nat) (je:aa) (jg:aj) (jY:aa) (jZ:aa) (jm:ab) (k:az) (v1:AV) (v3:AV) (h:ad):ah:=nq h v1 17 true fun a=>jZ a h fun b c=>ifB b (uK [(.int .i64 0),(.int .i64 0)] [(0,1,(.int .i64 112)),(1,1,(.int .i64 3))] fun d=>pZ c 1 [(.int .i64 0),(.int .i64 0)] [(0,2,d)] fun e f=>sI f 2 v3 e fun g i=>uY n je jg jY jZ jm k v1 g i) (uY n je jg jY jZ jm k v1 v3 c)
theorem ajc:lo mN (xM n (mf je jg jY jZ jm) k0)=vd n je jg jY jZ jm (kap kF k0):=by obtain ⟨J4,u4⟩:=exi (xL n (mf je jg jY jZ jm) k0); delta xM vd; rw [← aik,u4]; kernel_rfl
def xy:Q1:=(jB cf mq RL (cJ p21 (jB cf mq TH (kJ mN (xM n cf k0))) (kJ mN (xM n cf k0))))
def uW (n:Nat) (je:aa) (jg:aj) (jY:aa) (jZ:aa) (jm:ab) (k:az) (v1:AV) (v3:AV) (h:ad):ah:=nq h v1 17 true fun a=>jY a h fun b c=>ifB b (uK [(.int .i64 0),(.int .i64 0)] [(0,1,(.int .i64 113)),(1,1,(.int .i64 2))] fun d=>pZ c 1 [(.int .i64 0),(.int .i64 0)] [(0,2,d)] fun e f=>sI f 2 v3 e fun g i=>vd n je jg jY jZ jm k v1 g i) (vd n je jg jY jZ jm k v1 v3 c)
theorem aiA:lo mN (xy n (mf je jg jY jZ jm) k0)=uW n je jg jY jZ jm (kap kF k0):=by obtain ⟨J5,u5⟩:=exi (xM n (mf je jg jY jZ jm) k0); delta xy uW; rw [← ajc,u5]; kernel_rfl
def xJ:Q1:=(jB cf mq RM (cJ p15 (jB cf mq R8 (kJ mN (xy n cf k0))) (kJ mN (xy n cf k0))))
def vf (n:Nat) (je:aa) (jg:aj) (jY:aa) (jZ:aa) (jm:ab) (k:az) (v1:AV) (v3:AV) (h:ad):ah:=fld 6 h v1 6 true fun a b=>jg b h fun c d=>ifB (mW (eqF c 0)) (uK [(.int .i64 0),(.int .i64 0)] [(0,1,(.int .i64 100)),(1,1,(.int .i64 1))] fun e=>pZ d 1 [(.int .i64 0),(.int .i64 0)] [(0,2,e)] fun f g=>sI g 2 v3 f fun i l=>uW n je jg jY jZ jm k v1 i l) (uW n je jg jY jZ jm k v1 v3 d)
theorem aiY:lo mN (xJ n (mf je jg jY jZ jm) k0)=vf n je jg jY jZ jm (kap kF k0):=by obtain ⟨J6,u6⟩:=exi (xy n (mf je jg jY jZ jm) k0); delta xJ vf; rw [← aiA,u6]; kernel_rfl
def V6:Q1:=(jB cf mq T7 (jB cf mq rL (jB cf mq RS (cJ p7 (jB cf mq Sg (kJ mN (xJ n cf k0))) (kJ mN (xJ n cf k0))))))
def EO (n:Nat) (je:aa) (jg:aj) (jY:aa) (jZ:aa) (jm:ab) (k:az) (a0:AV) (h:ad):ah:=Ad h a0 fun a b=>nq b (.ptr a 0) 17 true fun c=>je c b fun d e=>ifB d (uK [(.int .i64 0),(.int .i64 0)] [(0,1,(.int .i64 114)),(1,1,(.int .i64 0))] fun f=>pZ e 1 [(.int .i64 0),(.int .i64 0)] [(0,2,f)] fun g i=>sI i 2 .nilslice g fun l m=>vf n je jg jY jZ jm k (.ptr a 0) l m) (vf n je jg jY jZ jm k (.ptr a 0) .nilslice e)
def Mh (n:Nat) (je:aa) (jg:aj) (jY:aa) (jZ:aa) (jm:ab) (a0:AV) (h:ad) (k:az):ah:=EO n je jg jY jZ jm k a0 h
theorem amo:DZ cf mq n XL kF k0=V6 n cf k0:=by funext s; kernel_rfl
theorem alo:lo jN (DZ (mf je jg jY jZ jm) mq n XL kF k0)=cmp jN (Mh n je jg jY jZ jm) (kap kF k0):=(congrArg (lo jN) (amo n (mf je jg jY jZ jm) k0)).trans (show _=EO n je jg jY jZ jm (kap kF k0) by obtain ⟨J7,u7⟩:=exi (xJ n (mf je jg jY jZ jm) k0); delta V6 EO; rw [← aiY,u7]; kernel_rfl)
end
def dU (n:Nat):ak:=Mh n (aC n) (aR n) (bZ n) (cb n) (bj n)
abbrev abj (g:aa):Wr:=wrT jN jp g
def Zl (pV:ak):aW:=pl [(X6,WP pV)]
section
variable (pV:ak) (k0:Q0)
def abi:Q1:=(jB cf Pe ot (jB cf Pe Xx (lP jp k0)))
def GS (n:Nat) (pV:ak) (k:ae) (a0:AV) (h:ad):ah:=Ad h a0 fun a b=>nq b (.ptr a 0) 17 true fun c=>pV c b fun d e=>mX d fun f=>k (eqF f 0) e
def O7 (n:Nat) (pV:ak) (a0:AV) (h:ad) (k:ae):ah:=GS n pV k a0 h
theorem aoq:DZ cf Pe n ack jp k0=abi cf k0:=by funext s; kernel_rfl
theorem aoA:lo jN (DZ (Zl pV) Pe n ack jp k0)=cmp jN (O7 n pV) (kap jp k0):=(congrArg (lo jN) (aoq n (Zl pV) k0)).trans (show _=GS n pV (kap jp k0) by delta abi GS; kernel_rfl)
end
def eA (n:Nat):aa:=O7 n (dU n)
abbrev WX (g:ab):Wr:=wrT ju ji g
def Dn (nL:aa):aW:=pl [(aa6,abj nL)]
section
variable (nL:aa) (k0:Q0)
def Ch:Q1:=(cJ p16 (jB cf sh WB (lP ji k0)) (jB cf sh kz (lP ji k0)))
def xD (n:Nat) (nL:aa) (k:ar) (v16:Bool) (h:ad):ah:=ifB v16 (k 270 h) (k 0 h)
theorem aiF:lo Dg (Ch (Dn nL) k0)=xD n nL (kap ji k0):=by delta Ch xD; kernel_rfl
def Yf:Q1:=(jB cf sh xN (jB cf sh SY (cJ p7 (jB cf sh Xk (lP ji k0)) (jB cf sh Tn (kJ Dg (Ch cf k0))))))
def Ek (n:Nat) (nL:aa) (k:ar) (a0:AV) (a1:Int) (h:ad):ah:=Ad h a0 fun a b=>nq b (.ptr a 0) 17 true fun c=>nL c b fun d e=>ifB (mW d) (k 5 e) (ifB (ltF a1 0) (xD n nL k true e) (fld 16 e (.ptr a 0) 1 false fun f g=>mX g fun i=>xD n nL k (mW (ltF a1 i)) e))
def Ma (n:Nat) (nL:aa) (a0:AV) (a1:Int) (h:ad) (k:ar):ah:=Ek n nL k a0 a1 h
theorem aly:DZ cf sh n Xr ji k0=Yf cf k0:=by funext s; kernel_rfl
theorem alp:lo ju (DZ (Dn nL) sh n Xr ji k0)=cmp ju (Ma n nL) (kap ji k0):=(congrArg (lo ju) (aly n (Dn nL) k0)).trans (show _=Ek n nL (kap ji k0) by obtain ⟨J0,u0⟩:=exi (Ch (Dn nL) k0); delta Yf Ek; rw [← aiF,u0]; kernel_rfl)
end
def dR (n:Nat):ab:=Ma n (eA n)
abbrev Xi (g:aw):Wr:=wrT ju kE g
def U6 (pU:ab):aW:=pl [(WI,WX pU)]
section
variable (pU:ab) (k0:Q0)
def VM:Q1:=(jB cf uo Xg (jB cf uo Th (jB cf uo Xb (cJ p11 (jB cf uo Xe (lP kE k0)) (jB cf uo Ts (lP kE k0))))))
def EQ (n:Nat) (pU:ab) (k:aA) (a0:AV) (a1:Int) (h:ad):ah:=Ad h a0 fun a b=>nq b (.ptr a 0) 17 true fun c=>pU c a1 b fun d e=>ifB (mW (eqF d 0)) (k 0 d e) (fld 16 e (.ptr a 0) 1 false fun f g=>agV 8 g a1 fun i=>fld 0 e i 1 false fun l m=>mX m fun o=>oq .i64 0 e (.ptr a 0) fun p q=>oq .i64 1 e (.ptr a 0) fun r s=>aw1 .i64 q s fun t=>Gb .i64 o t fun u=>k u 0 e)
def Mv (n:Nat) (pU:ab) (a0:AV) (a1:Int) (h:ad) (k:aA):ah:=EQ n pU k a0 a1 h
theorem aln:DZ cf uo n Xo kE k0=VM cf k0:=by funext s; kernel_rfl
theorem al3:lo ju (DZ (U6 pU) uo n Xo kE k0)=cmp ju (Mv n pU) (kap kE k0):=(congrArg (lo ju) (aln n (U6 pU) k0)).trans (show _=EQ n pU (kap kE k0) by delta VM EQ; kernel_rfl)
end
def dQ (n:Nat):aw:=Mv n (dR n)
abbrev aqj:=AV→Int→ad→ah
abbrev abZ (g:cZ):Wr:=wrT nV mj g
def rA:aW:=pl []
section
variable (k0:Q0)
def EE:Q1:=(jB cf qj XX (lP mj k0))
def EC (n:Nat) (k:aX) (v4:AV) (h:ad):ah:=k v4 0 h
theorem alW:lo NY (EE rA k0)=EC n (kap mj k0):=by delta EE EC; kernel_rfl
def Mc (J1:Q1):Q1:=(jB cf qj Wn (cJ p20 (jB cf qj Ww (jB cf qj V2 (kJ ut J1))) (kJ NY (EE cf k0))))
def z7 (n:Nat) (k:aX) (j1:eJ) (v0:Int) (v4:AV) (v5:Int) (h:ad):ah:=ifB (ltF v5 v0) (ys 0 h v4 1 false fun a b=>est 1 h b v5 1 (.bool true) fun c d=>oK .i64 v5 1 fun e=>j1 v0 v4 e d) (EC n k v4 h)
def MB:Nat→Q1:=lpS (Mc cf k0)
def ul (n:Nat) (k:aX):Nat→eJ:=lpF ut (z7 n k)
theorem amz (k:aX) (m:Nat):ul n k (m+1)=z7 n k (ul n k m):=rfl
theorem alS (m:Nat):lo ut (MB rA k0 m)=ul n (kap mj k0) m:=sY (fun J1=>(by obtain ⟨J0,u0⟩:=exi (EE rA k0); delta Mc z7; rw [← alW,u0]; kernel_rfl:lo ut (Mc rA k0 J1)=z7 n (kap mj k0) (lo ut J1))) m
def EA:Q1:=(cJ p11 (jB cf qj aaT (lP mj k0)) (jB cf qj W6 (jB cf qj mC (kJ ut (MB cf k0 n)))))
def zN (n:Nat) (k:aX) (v0:Int) (v11:Bool) (h:ad):ah:=ifB v11 (k .nilptr 2 h) (mkK h [(.bool false)] v0 v0 fun a b=>mkK b [(.int .i64 0)] v0 v0 fun c d=>uK [.nilslice,.nilslice] [(0,1,a),(1,1,c)] fun e=>Ad d e fun f g=>ul n k n v0 (.ptr f 0) 0 g)
theorem amB:lo LY (EA n rA k0)=zN n (kap mj k0):=by obtain ⟨J1,u1⟩:=exi (MB rA k0 n); delta EA zN; rw [← alS,u1]; kernel_rfl
def abS:Q1:=(jB cf qj X0 (jB cf qj W9 (kJ LY (EA n cf k0))))
def G1 (n:Nat) (k:aX) (a0:Int) (h:ad):ah:=ifB (ltF a0 0) (zN n k a0 true h) (zN n k a0 (ltF 4096 a0) h)
def P5 (n:Nat) (a0:Int) (h:ad) (k:aX):ah:=G1 n k a0 h
theorem apP:DZ cf qj n acl mj k0=abS n cf k0:=by funext s; kernel_rfl
theorem apo:lo nV (DZ rA qj n acl mj k0)=cmp nV (P5 n) (kap mj k0):=(congrArg (lo nV) (apP n rA k0)).trans (show _=G1 n (kap mj k0) by obtain ⟨J2,u2⟩:=exi (EA n rA k0); delta abS G1; rw [← amB,u2]; kernel_rfl)
end
def dH (n:Nat):cZ:=P5 n
abbrev aor:=AV→Int→ad→ah
abbrev ab4 (g:bA):Wr:=wrT ju rj g
def vn (lr:aw) (lN:cZ):aW:=pl [(Wu,Xi lr),(aci,abZ lN)]
section
variable (lr:aw) (lN:cZ) (k0:Q0)
def EB:Q1:=(jB cf nK Wo (lP rj k0))
def Ei (n:Nat) (lr:aw) (lN:cZ) (k:aX) (v8:AV) (h:ad):ah:=k v8 0 h
theorem alv:lo Ms (EB (vn lr lN) k0)=Ei n lr lN (kap rj k0):=by delta EB Ei; kernel_rfl
def Me (J1:Q1):Q1:=(jB cf nK WW (cJ p51 (jB cf nK VY (jB cf nK WQ (cJ p64 (jB cf nK Xw (lP rj k0)) (jB cf nK XI (jB cf nK WL (kJ uz J1)))))) (kJ Ms (EB cf k0))))
def zR (n:Nat) (lr:aw) (lN:cZ) (k:aX) (j1:aP) (v2:AV) (v8:AV) (v9:Int) (h:ad):ah:=nfa 17 v8 fun a=>fld 0 h a 1 false fun b c=>mX c fun d=>ifB (ltF v9 d) (oq .i64 0 h v2 fun e f=>oq .i64 1 h v2 fun g i=>aw1 .i64 f i fun l=>lN l h fun m o p=>ifB (mW (eqF o 0)) (k .nilptr o p) (ys 25 p v8 1 false fun q r=>pZ p 1 [.nilptr] [(0,1,m)] fun s t=>sI t 1 r s fun u w=>nfst 25 w v8 1 u fun x y=>oK .i64 v9 1 fun z=>j1 v2 v8 z y)) (Ei n lr lN k v8 h)
def Mm:Nat→Q1:=lpS (Me cf k0)
def z6 (n:Nat) (lr:aw) (lN:cZ) (k:aX):Nat→aP:=lpF uz (zR n lr lN k)
theorem alB (k:aX) (m:Nat):z6 n lr lN k (m+1)=zR n lr lN k (z6 n lr lN k m):=rfl
theorem alY (m:Nat):lo uz (Mm (vn lr lN) k0 m)=z6 n lr lN (kap rj k0) m:=sY (fun J1=>(by obtain ⟨J0,u0⟩:=exi (EB (vn lr lN) k0); delta Me zR; rw [← alv,u0]; kernel_rfl:lo uz (Me (vn lr lN) k0 J1)=zR n lr lN (kap rj k0) (lo uz J1))) m
def abc:Q1:=(jB cf nK aaV (jB cf nK Vh (jB cf nK Vs (cJ p19 (jB cf nK VD (lP rj k0)) (jB cf nK WZ (jB cf nK V8 (jB cf nK Ej (kJ uz (Mm cf k0 n)))))))))
def Hk (n:Nat) (lr:aw) (lN:cZ) (k:aX) (a0:AV) (a1:Int) (h:ad):ah:=Ad h a0 fun a b=>nq b (.ptr a 0) 17 true fun c=>lr c a1 b fun d e f=>ifB (mW (eqF e 0)) (k .nilptr e f) (nq f (.ptr a 0) 17 true fun g=>fld 16 f (.ptr a 0) 1 false fun i l=>eld 8 f l a1 8 true fun m o=>oq .i64 0 f (.ptr a 0) fun p q=>mkK f [(.int .u8 0)] q q fun r s=>uK [(.int .i64 0),(.int .i64 0),(.int .i64 0),(.int .i64 0),(.int .i64 0),(.int .i64 0),(.int .u64 0),(.int .u64 0),(.int .u64 0),(.int .u64 0),(.int .u64 0),(.int .u64 0),(.int .u64 0),(.int .u64 0),(.int .u64 0),.nilslice,.nilslice,.nilslice,(.int .i64 0),(.int .i64 0),(.int .i64 0),(.int .i64 0),(.int .i64 0),(.int .i64 0),(.int .i64 0),.nilslice,.nilslice,(.bool false),(.bool false)] [(0,17,g),(17,8,o),(26,1,r),(28,1,(.bool true))] fun t=>Ad s t fun u w=>pZ w 0 [] [] fun x y=>fld 16 y (.ptr a 0) 1 false fun z A=>agV 8 A a1 fun B=>fld 0 y B 1 false fun C E=>sI y 1 x E fun F G=>nfa 17 (.ptr u 0) fun I=>fst 0 G I 1 F fun K L=>z6 n lr lN k n (.ptr a 0) (.ptr u 0) 0 L)
def PW (n:Nat) (lr:aw) (lN:cZ) (a0:AV) (a1:Int) (h:ad) (k:aX):ah:=Hk n lr lN k a0 a1 h
theorem aop:DZ cf nK n acm rj k0=abc n cf k0:=by funext s; kernel_rfl
theorem aoP:lo ju (DZ (vn lr lN) nK n acm rj k0)=cmp ju (PW n lr lN) (kap rj k0):=(congrArg (lo ju) (aop n (vn lr lN) k0)).trans (show _=Hk n lr lN (kap rj k0) by obtain ⟨J1,u1⟩:=exi (Mm (vn lr lN) k0 n); delta abc Hk; rw [← alY,u1]; kernel_rfl)
end
def bF (n:Nat):bA:=PW n (dQ n) (dH n)
abbrev agn (g:aa):Wr:=wrT jN jp g
def I1 (jk:aa):aW:=pl [(vY,wd jk)]
section
variable (jk:aa) (k0:Q0)
def GO:Q1:=(jB cf E3 abF (lP jp k0))
def yN (n:Nat) (jk:aa) (k:ae) (v17:Bool) (h:ad):ah:=k v17 h
theorem aoG:lo PX (GO (I1 jk) k0)=yN n jk (kap jp k0):=by delta GO yN; kernel_rfl
def afT:Q1:=(jB cf E3 lW (jB cf E3 acg (kJ PX (GO cf k0))))
def FF (n:Nat) (jk:aa) (k:ae) (a0:AV) (h:ad):ah:=jk a0 h fun a b=>ifB a (ys 12 b a0 1 false fun c d=>azN b d fun e=>nfa 13 a0 fun f=>SA 1 7 f 1 fun g=>ldI .i64 b g fun i=>yN n jk k (eqF e i) b) (yN n jk k false b)
def L4 (n:Nat) (jk:aa) (a0:AV) (h:ad) (k:ae):ah:=FF n jk k a0 h
theorem asQ:DZ cf E3 n agu jp k0=afT cf k0:=by funext s; kernel_rfl
theorem asP:lo jN (DZ (I1 jk) E3 n agu jp k0)=cmp jN (L4 n jk) (kap jp k0):=(congrArg (lo jN) (asQ n (I1 jk) k0)).trans (show _=FF n jk (kap jp k0) by obtain ⟨J0,u0⟩:=exi (GO (I1 jk) k0); delta afT FF; rw [← aoG,u0]; kernel_rfl)
end
def dm (n:Nat):aa:=L4 n (bM n)
abbrev aek (g:ak):Wr:=wrT jN mM g
def acq (jk:aa):aW:=pl [(vY,wd jk)]
section
variable (jk:aa) (k0:Q0)
def adG:Q1:=(jB cf vj F8 (jB cf vj G3 (cJ p6 (jB cf vj Zf (lP mM k0)) (jB cf vj Zb (jB cf vj Y6 (jB cf vj YF (lP mM k0)))))))
def D8 (n:Nat) (jk:aa) (k:az) (a0:AV) (h:ad):ah:=Jr h (.cells [(.int .i64 0),(.int .i64 0),(.int .i64 0),(.int .i64 0),(.int .i64 0),(.int .i64 0),(.int .i64 0)] true 0) fun a b=>jk a0 b fun c d=>ifB (mW c) (uK [(.int .i64 0),(.int .i64 0),(.int .i64 0),(.int .i64 0),(.int .i64 0),(.int .i64 0),(.int .i64 0)] [] fun e=>qT d (.ptr a 0) 7 e fun f=>nq f (.ptr a 0) 7 true fun g=>k g f) (ys 13 d a0 7 true fun i l=>Jr d (.cells [(.int .i64 0),(.int .i64 0),(.int .i64 0),(.int .i64 0),(.int .i64 0),(.int .i64 0),(.int .i64 0)] true 0) fun m o=>qT o (.ptr m 0) 7 l fun p=>ayS .i64 10 p a0 fun q r=>ys 12 p a0 1 false fun s t=>azN p t fun u=>amc .i64 r u fun w=>SA 1 7 (.ptr m 0) 0 fun x=>qT p x 1 (.int .i64 w) fun y=>nq y (.ptr m 0) 7 true fun z=>qT y (.ptr a 0) 7 z fun A=>nq A (.ptr a 0) 7 true fun B=>k B A)
def IK (n:Nat) (jk:aa) (a0:AV) (h:ad) (k:az):ah:=D8 n jk k a0 h
theorem aq7:DZ cf vj n aef mM k0=adG cf k0:=by funext s; kernel_rfl
theorem arf:lo jN (DZ (acq jk) vj n aef mM k0)=cmp jN (IK n jk) (kap mM k0):=(congrArg (lo jN) (aq7 n (acq jk) k0)).trans (show _=D8 n jk (kap mM k0) by delta adG D8; kernel_rfl)
end
def dp (n:Nat):ak:=IK n (bM n)
abbrev D6 (g:ak):Wr:=wrT jN kF g
def Dl:aW:=pl []
section
variable (k0:Q0)
def D9:Q1:=(jB cf qn CY (jB cf qn C4 (lP kF k0)))
def ta (n:Nat) (k:az) (a0:AV) (h:ad):ah:=Ad h a0 fun a b=>k (.func 76 [] [(.ptr a 0)]) b
def xb (n:Nat) (a0:AV) (h:ad) (k:az):ah:=ta n k a0 h
theorem Su:DZ cf qn n Ef kF k0=D9 cf k0:=by funext s; kernel_rfl
theorem SK:lo jN (DZ Dl qn n Ef kF k0)=cmp jN (xb n) (kap kF k0):=(congrArg (lo jN) (Su n Dl k0)).trans (show _=ta n (kap kF k0) by delta D9 ta; kernel_rfl)
end
def c8 (n:Nat):ak:=xb n
abbrev afy (g:ak):Wr:=wrT jN kF g
def w8 (jk:aa) (lM:Wr) (kD:ak):aW:=pl [(vY,wd jk),(aba,lM),(D3,D6 kD)]
section
variable (jk:aa) (lM:Wr) (kD:ak) (k0:Q0)
def Hg:Q1:=(jB cf qI ab3 (lP kF k0))
def Hf (n:Nat) (jk:aa) (lM:Wr) (kD:ak) (k:az) (v3:AV) (h:ad):ah:=k v3 h
theorem aoc:lo oB (Hg (w8 jk lM kD) k0)=Hf n jk lM kD (kap kF k0):=by delta Hg Hf; kernel_rfl
def P7 (J1:Q1):Q1:=(jB cf qI T1 (cJ p17 (jB cf qI Ua (jB cf qI abP (jB cf qI abC (kJ wa J1)))) (kJ oB (Hg cf k0))))
def CQ (n:Nat) (jk:aa) (lM:Wr) (kD:ak) (k:az) (j1:eY) (v0:AV) (v3:AV) (v14:AV) (v15:Int) (v16:Int) (h:ad):ah:=ifB (ltF v16 v15) (Ga .i64 1 h v14 v16 fun a b=>ys 12 h v0 1 false fun c d=>ahs h (.cell .int) (.int .u8 0) d (.int .i64 b) fun e b14=>ac0 .u8 e fun f=>uK [(.int .i64 0),(.int .u8 0)] [(0,1,(.int .i64 b)),(1,1,(.int .u8 f))] fun g=>pZ h 1 [(.int .i64 0),(.int .u8 0)] [(0,2,g)] fun i l=>sI l 2 v3 i fun m o=>oK .i64 v16 1 fun p=>j1 v0 m v14 v15 p o) (Hf n jk lM kD k v3 h)
def O6:Nat→Q1:=lpS (P7 cf k0)
def C2 (n:Nat) (jk:aa) (lM:Wr) (kD:ak) (k:az):Nat→eY:=lpF wa (CQ n jk lM kD k)
theorem aob (k:az) (m:Nat):C2 n jk lM kD k (m+1)=CQ n jk lM kD k (C2 n jk lM kD k m):=rfl
theorem apJ (m:Nat):lo wa (O6 (w8 jk lM kD) k0 m)=C2 n jk lM kD (kap kF k0) m:=sY (fun J1=>(by obtain ⟨J0,u0⟩:=exi (Hg (w8 jk lM kD) k0); delta P7 CQ; rw [← aoc,u0]; kernel_rfl:lo wa (P7 (w8 jk lM kD) k0 J1)=CQ n jk lM kD (kap kF k0) (lo wa J1))) m
def agK:Q1:=(jB cf qI lh (jB cf qI IR (cJ p8 (jB cf qI lh (lP kF k0)) (jB cf qI rL (jB cf qI abu (kJ wa (O6 cf k0 n)))))))
def Fw (n:Nat) (jk:aa) (lM:Wr) (kD:ak) (k:az) (a0:AV) (h:ad):ah:=jk a0 h fun a b=>ifB (mW a) (k .nilslice b) (ys 12 b a0 1 false fun c d=>kD d b fun e f=>lM [e] f fun g i=>mX g fun l=>C2 n jk lM kD k n a0 .nilslice g l 0 i)
def Mk (n:Nat) (jk:aa) (lM:Wr) (kD:ak) (a0:AV) (h:ad) (k:az):ah:=Fw n jk lM kD k a0 h
theorem asp:DZ cf qI n aff kF k0=agK n cf k0:=by funext s; kernel_rfl
theorem asC:lo jN (DZ (w8 jk lM kD) qI n aff kF k0)=cmp jN (Mk n jk lM kD) (kap kF k0):=(congrArg (lo jN) (asp n (w8 jk lM kD) k0)).trans (show _=Fw n jk lM kD (kap kF k0) by obtain ⟨J1,u1⟩:=exi (O6 (w8 jk lM kD) k0 n); delta agK Fw; rw [← apJ,u1]; kernel_rfl)
end
def dr (n:Nat):ak:=Mk n (bM n) (Eb dL) (c8 n)
abbrev pj (g:aa):Wr:=wrT jN jp g
def xu:aW:=pl []
section
variable (k0:Q0)
def wD:Q1:=(jB cf uM KC (lP jp k0))
def qS (n:Nat) (k:ae) (v10:Bool) (h:ad):ah:=k v10 h
theorem ZE:lo Bv (wD xu k0)=qS n (kap jp k0):=by delta wD qS; kernel_rfl
def MS:Q1:=(jB cf uM lW (jB cf uM Ka (kJ Bv (wD cf k0))))
def uH (n:Nat) (k:ae) (a0:AV) (h:ad):ah:=aha (.nil .ptr) a0 .nilptr fun a=>ifB (X1 true a) (aDq 28 h a0 fun b c=>qS n k c h) (qS n k false h)
def yl (n:Nat) (a0:AV) (h:ad) (k:ae):ah:=uH n k a0 h
theorem adl:DZ cf uM n MG jp k0=MS cf k0:=by funext s; kernel_rfl
theorem acY:lo jN (DZ xu uM n MG jp k0)=cmp jN (yl n) (kap jp k0):=(congrArg (lo jN) (adl n xu k0)).trans (show _=uH n (kap jp k0) by obtain ⟨J0,u0⟩:=exi (wD xu k0); delta MS uH; rw [← ZE,u0]; kernel_rfl)
end
def aQ (n:Nat):aa:=yl n
abbrev yo (g:aj):Wr:=wrT jN lj g
def om:aW:=pl []
section
variable (k0:Q0)
def wJ:Q1:=(jB cf nZ F9 (lP lj k0))
def wi (n:Nat) (k:ar) (v3:Int) (h:ad):ah:=k v3 h
theorem Z6:lo xx (wJ om k0)=wi n (kap lj k0):=by delta wJ wi; kernel_rfl
def th (J1:Q1):Q1:=(jB cf nZ Ky (kJ mO J1))
def te (n:Nat) (k:ar) (j1:ck) (v0:AV) (v3:Int) (v4:Int) (h:ad):ah:=oK .i64 v4 1 fun a=>j1 v0 v3 a h
theorem ZY (J1:Q1):lo mO (th om J1)=te n (kap lj k0) (lo mO J1):=by delta th te; kernel_rfl
def BP (J1:Q1):Q1:=(jB cf nZ KF (cJ p11 (jB cf nZ Kr (cJ p20 (jB cf nZ KN (kJ mO (th cf J1))) (kJ mO (th cf J1)))) (kJ xx (wJ cf k0))))
def tP (n:Nat) (k:ar) (j1:ck) (v0:AV) (v3:Int) (v4:Int) (h:ad):ah:=ys 0 h v0 1 false fun a b=>mX b fun c=>ifB (ltF v4 c) (ys 0 h v0 1 false fun d e=>eldB 1 h e v4 fun f g=>ifB g (oK .i64 v3 1 fun i=>te n k j1 v0 i v4 h) (te n k j1 v0 v3 v4 h)) (wi n k v3 h)
def Bn:Nat→Q1:=lpS (BP cf k0)
def tz (n:Nat) (k:ar):Nat→ck:=lpF mO (tP n k)
theorem Z2 (k:ar) (m:Nat):tz n k (m+1)=tP n k (tz n k m):=rfl
theorem aaf (m:Nat):lo mO (Bn om k0 m)=tz n (kap lj k0) m:=sY (fun J1=>(by obtain ⟨J0,u0⟩:=exi (wJ om k0); obtain ⟨J2,u2⟩:=exi (th om J1); delta BP tP; rw [← Z6,u0, ← ZY,u2]; kernel_rfl:lo mO (BP om k0 J1)=tP n (kap lj k0) (lo mO J1))) m
def MU:Q1:=(jB cf nZ xB (jB cf nZ s0 (jB cf nZ kz (kJ mO (Bn cf k0 n)))))
def xY (n:Nat) (k:ar) (a0:AV) (h:ad):ah:=tz n k n a0 0 0 h
def DF (n:Nat) (a0:AV) (h:ad) (k:ar):ah:=xY n k a0 h
theorem adh:DZ cf nZ n NQ lj k0=MU n cf k0:=by funext s; kernel_rfl
theorem adn:lo jN (DZ om nZ n NQ lj k0)=cmp jN (DF n) (kap lj k0):=(congrArg (lo jN) (adh n om k0)).trans (show _=xY n (kap lj k0) by obtain ⟨J1,u1⟩:=exi (Bn om k0 n); delta MU xY; rw [← aaf,u1]; kernel_rfl)
end
def bB (n:Nat):aj:=DF n
abbrev C9 (g:ak):Wr:=wrT jN mM g
def me (jc:aa) (jf:aj):aW:=pl [(pr,pj jc),(yi,yo jf)]
abbrev cX:Type:=AV→AV→AV→Int→ad→ah
section
variable (jc:aa) (jf:aj) (k0:Q0)
def vH:Q1:=(jB cf l9 IE (lP mM k0))
def vI (n:Nat) (jc:aa) (jf:aj) (k:az) (v2:AV) (v3:AV) (h:ad):ah:=nq h v3 7 true fun a=>qT h v2 7 a fun b=>nq b v2 7 true fun c=>k c b
theorem YB:lo Ah (vH (me jc jf) k0)=vI n jc jf (kap mM k0):=by delta vH vI; kernel_rfl
def Am (J1:Q1):Q1:=(jB cf l9 Iu (cJ p44 (jB cf l9 ID (jB cf l9 Iv (kJ px J1))) (kJ Ah (vH cf k0))))
def sR (n:Nat) (jc:aa) (jf:aj) (k:az) (j1:cX) (v0:AV) (v2:AV) (v3:AV) (v5:Int) (h:ad):ah:=ys 25 h v0 1 false fun a b=>mX b fun c=>ifB (ltF v5 c) (SA 1 7 v3 0 fun d=>ldI .i64 h d fun e=>ys 25 h v0 1 false fun f g=>eld 1 h g v5 1 false fun i l=>jf l (h.shut true) fun m o=>oK .i64 e m fun p=>SA 1 7 v3 0 fun q=>qT (o.back h.ro) q 1 (.int .i64 p) fun r=>oK .i64 v5 1 fun s=>j1 v0 v2 v3 s r) (vI n jc jf k v2 v3 h)
def Au:Nat→Q1:=lpS (Am cf k0)
def sP (n:Nat) (jc:aa) (jf:aj) (k:az):Nat→cX:=lpF px (sR n jc jf k)
theorem Yv (k:az) (m:Nat):sP n jc jf k (m+1)=sR n jc jf k (sP n jc jf k m):=rfl
theorem Yj (m:Nat):lo px (Au (me jc jf) k0 m)=sP n jc jf (kap mM k0) m:=sY (fun J1=>(by obtain ⟨J0,u0⟩:=exi (vH (me jc jf) k0); delta Am sR; rw [← YB,u0]; kernel_rfl:lo px (Am (me jc jf) k0 J1)=sR n jc jf (kap mM k0) (lo px J1))) m
def vO:Q1:=(jB cf l9 mC (kJ px (Au cf k0 n)))
def vC (n:Nat) (jc:aa) (jf:aj) (k:az) (v0:AV) (v2:AV) (v3:AV) (h:ad):ah:=sP n jc jf k n v0 v2 v3 0 h
theorem Yy:lo Al (vO n (me jc jf) k0)=vC n jc jf (kap mM k0):=by obtain ⟨J1,u1⟩:=exi (Au (me jc jf) k0 n); delta vO vC; rw [← Yj,u1]; kernel_rfl
def sU (J3:Q1):Q1:=(jB cf l9 II (kJ mJ J3))
def sL (n:Nat) (jc:aa) (jf:aj) (k:az) (j3:cX) (v0:AV) (v2:AV) (v3:AV) (v4:Int) (h:ad):ah:=oK .i64 v4 1 fun a=>j3 v0 v2 v3 a h
theorem Yx (J3:Q1):lo mJ (sU (me jc jf) J3)=sL n jc jf (kap mM k0) (lo mJ J3):=by delta sU sL; kernel_rfl
def Av (J3:Q1):Q1:=(jB cf l9 Ig (cJ p16 (jB cf l9 Ix (cJ p26 (jB cf l9 Iw (kJ mJ (sU cf J3))) (kJ mJ (sU cf J3)))) (kJ Al (vO n cf k0))))
def sO (n:Nat) (jc:aa) (jf:aj) (k:az) (j3:cX) (v0:AV) (v2:AV) (v3:AV) (v4:Int) (h:ad):ah:=ys 26 h v0 1 false fun a b=>mX b fun c=>ifB (ltF v4 c) (ys 26 h v0 1 false fun d e=>Ga .u8 1 h e v4 fun f g=>ifB (mW (eqF g 0)) (ys 26 h v0 1 false fun i l=>Ga .u8 1 h l v4 fun m o=>SA 1 7 v3 o fun p=>ldI .i64 h p fun q=>oK .i64 q 1 fun r=>SA 1 7 v3 o fun s=>qT h s 1 (.int .i64 r) fun t=>sL n jc jf k j3 v0 v2 v3 v4 t) (sL n jc jf k j3 v0 v2 v3 v4 h)) (vC n jc jf k v0 v2 v3 h)
def Ag:Nat→Q1:=lpS (Av n cf k0)
def sN (n:Nat) (jc:aa) (jf:aj) (k:az):Nat→cX:=lpF mJ (sO n jc jf k)
theorem Yn (k:az) (m:Nat):sN n jc jf k (m+1)=sO n jc jf k (sN n jc jf k m):=rfl
theorem Yq (m:Nat):lo mJ (Ag n (me jc jf) k0 m)=sN n jc jf (kap mM k0) m:=sY (fun J3=>(by obtain ⟨J2,u2⟩:=exi (vO n (me jc jf) k0); obtain ⟨J4,u4⟩:=exi (sU (me jc jf) J3); delta Av sO; rw [← Yy,u2, ← Yx,u4]; kernel_rfl:lo mJ (Av n (me jc jf) k0 J3)=sO n jc jf (kap mM k0) (lo mJ J3))) m
def KW:Q1:=(jB cf l9 F8 (jB cf l9 G8 (jB cf l9 vu (cJ p8 (jB cf l9 GY (lP mM k0)) (jB cf l9 kz (kJ mJ (Ag n cf k0 n)))))))
def tY (n:Nat) (jc:aa) (jf:aj) (k:az) (a0:AV) (h:ad):ah:=Jr h (.cells [(.int .i64 0),(.int .i64 0),(.int .i64 0),(.int .i64 0),(.int .i64 0),(.int .i64 0),(.int .i64 0)] true 0) fun a b=>Jr b (.cells [(.int .i64 0),(.int .i64 0),(.int .i64 0),(.int .i64 0),(.int .i64 0),(.int .i64 0),(.int .i64 0)] true 0) fun c d=>jc a0 d fun e f=>ifB (mW e) (nq f (.ptr c 0) 7 true fun g=>qT f (.ptr a 0) 7 g fun i=>nq i (.ptr a 0) 7 true fun l=>k l i) (sN n jc jf k n a0 (.ptr a 0) (.ptr c 0) 0 f)
def xg (n:Nat) (jc:aa) (jf:aj) (a0:AV) (h:ad) (k:az):ah:=tY n jc jf k a0 h
theorem abE:DZ cf l9 n KU mM k0=KW n cf k0:=by funext s; kernel_rfl
theorem acj:lo jN (DZ (me jc jf) l9 n KU mM k0)=cmp jN (xg n jc jf) (kap mM k0):=(congrArg (lo jN) (abE n (me jc jf) k0)).trans (show _=tY n jc jf (kap mM k0) by obtain ⟨J3,u3⟩:=exi (Ag n (me jc jf) k0 n); delta KW tY; rw [← Yq,u3]; kernel_rfl)
end
def bQ (n:Nat):ak:=xg n (aQ n) (bB n)
abbrev MF (g:aa):Wr:=wrT jN jp g
def oo (jc:aa):aW:=pl [(pr,pj jc)]
section
variable (jc:aa) (k0:Q0)
def wL:Q1:=(jB cf nG pS (lP jp k0))
def wG (n:Nat) (jc:aa) (k:ae) (h:ad):ah:=k true h
theorem ZX:lo kV (wL (oo jc) k0)=wG n jc (kap jp k0):=by delta wL wG; kernel_rfl
def wq (J1:Q1):Q1:=(cJ p33 (jB cf nG lW (lP jp k0)) (jB cf nG KM (kJ oP J1)))
def tv (n:Nat) (jc:aa) (k:ae) (j1:aX) (v0:AV) (v3:Int) (v33:Bool) (h:ad):ah:=ifB v33 (k false h) (oK .i64 v3 1 fun a=>j1 v0 a h)
theorem aao (J1:Q1):lo BI (wq (oo jc) k0 J1)=tv n jc (kap jp k0) (lo oP J1):=by delta wq tv; kernel_rfl
def BM (J1:Q1):Q1:=(jB cf nG Kk (cJ p13 (jB cf nG JC (kJ BI (wq cf k0 J1))) (kJ kV (wL cf k0))))
def tg (n:Nat) (jc:aa) (k:ae) (j1:aX) (v0:AV) (v3:Int) (h:ad):ah:=ys 26 h v0 1 false fun a b=>mX b fun c=>ifB (ltF v3 c) (ys 26 h v0 1 false fun d e=>Ga .u8 1 h e v3 fun f g=>ifB (mW (eqF g 0)) (ys 26 h v0 1 false fun i l=>Ga .u8 1 h l v3 fun m o=>tv n jc k j1 v0 v3 (mW (eqF o 1)) h) (tv n jc k j1 v0 v3 false h)) (wG n jc k h)
def BL:Nat→Q1:=lpS (BM cf k0)
def qU (n:Nat) (jc:aa) (k:ae):Nat→aX:=lpF oP (tg n jc k)
theorem aap (k:ae) (m:Nat):qU n jc k (m+1)=tg n jc k (qU n jc k m):=rfl
theorem aaq (m:Nat):lo oP (BL (oo jc) k0 m)=qU n jc (kap jp k0) m:=sY (fun J1=>(by obtain ⟨J0,u0⟩:=exi (wL (oo jc) k0); obtain ⟨J2,u2⟩:=exi (wq (oo jc) k0 J1); delta BM tg; rw [← ZX,u0, ← aao,u2]; kernel_rfl:lo oP (BM (oo jc) k0 J1)=tg n jc (kap jp k0) (lo oP J1))) m
def Nf:Q1:=(jB cf nG lW (jB cf nG JP (cJ p6 (jB cf nG lW (lP jp k0)) (jB cf nG s0 (kJ oP (BL cf k0 n))))))
def uO (n:Nat) (jc:aa) (k:ae) (a0:AV) (h:ad):ah:=jc a0 h fun a b=>ifB (mW a) (k false b) (qU n jc k n a0 0 b)
def yf (n:Nat) (jc:aa) (a0:AV) (h:ad) (k:ae):ah:=uO n jc k a0 h
theorem acz:DZ cf nG n Ns jp k0=Nf n cf k0:=by funext s; kernel_rfl
theorem acE:lo jN (DZ (oo jc) nG n Ns jp k0)=cmp jN (yf n jc) (kap jp k0):=(congrArg (lo jN) (acz n (oo jc) k0)).trans (show _=uO n jc (kap jp k0) by obtain ⟨J1,u1⟩:=exi (BL (oo jc) k0 n); delta Nf uO; rw [← aaq,u1]; kernel_rfl)
end
def ca (n:Nat):aa:=yf n (aQ n)
abbrev OX (g:ak):Wr:=wrT jN kF g
def qH (jc:aa) (jf:aj):aW:=pl [(pr,pj jc),(yi,yo jf)]
section
variable (jc:aa) (jf:aj) (k0:Q0)
def xh:Q1:=(jB cf nO Ly (lP kF k0))
def xq (n:Nat) (jc:aa) (jf:aj) (k:az) (v3:AV) (h:ad):ah:=k v3 h
theorem abB:lo oB (xh (qH jc jf) k0)=xq n jc jf (kap kF k0):=by delta xh xq; kernel_rfl
def CS (J1:Q1):Q1:=(jB cf nO LC (cJ p14 (jB cf nO LN (jB cf nO xt (kJ kK J1))) (kJ oB (xh cf k0))))
def uf (n:Nat) (jc:aa) (jf:aj) (k:az) (j1:aP) (v0:AV) (v3:AV) (v4:Int) (h:ad):ah:=ys 25 h v0 1 false fun a b=>mX b fun c=>ifB (ltF v4 c) (ys 25 h v0 1 false fun d e=>eld 1 h e v4 1 false fun f g=>jf g h fun i l=>pZ l 1 [(.int .i64 0)] [(0,1,(.int .i64 i))] fun m o=>sI o 1 v3 m fun p q=>oK .i64 v4 1 fun r=>j1 v0 p r q) (xq n jc jf k v3 h)
def CP:Nat→Q1:=lpS (CS cf k0)
def ua (n:Nat) (jc:aa) (jf:aj) (k:az):Nat→aP:=lpF kK (uf n jc jf k)
theorem ab0 (k:az) (m:Nat):ua n jc jf k (m+1)=uf n jc jf k (ua n jc jf k m):=rfl
theorem ab7 (m:Nat):lo kK (CP (qH jc jf) k0 m)=ua n jc jf (kap kF k0) m:=sY (fun J1=>(by obtain ⟨J0,u0⟩:=exi (xh (qH jc jf) k0); delta CS uf; rw [← abB,u0]; kernel_rfl:lo kK (CS (qH jc jf) k0 J1)=uf n jc jf (kap kF k0) (lo kK J1))) m
def OR:Q1:=(jB cf nO lh (jB cf nO xj (cJ p7 (jB cf nO lh (lP kF k0)) (jB cf nO rL (jB cf nO kz (kJ kK (CP cf k0 n)))))))
def vw (n:Nat) (jc:aa) (jf:aj) (k:az) (a0:AV) (h:ad):ah:=jc a0 h fun a b=>ifB (mW a) (k .nilslice b) (ua n jc jf k n a0 .nilslice 0 b)
def yQ (n:Nat) (jc:aa) (jf:aj) (a0:AV) (h:ad) (k:az):ah:=vw n jc jf k a0 h
theorem aeV:DZ cf nO n OF kF k0=OR n cf k0:=by funext s; kernel_rfl
theorem aey:lo jN (DZ (qH jc jf) nO n OF kF k0)=cmp jN (yQ n jc jf) (kap kF k0):=(congrArg (lo jN) (aeV n (qH jc jf) k0)).trans (show _=vw n jc jf (kap kF k0) by obtain ⟨J1,u1⟩:=exi (CP (qH jc jf) k0 n); delta OR vw; rw [← ab7,u1]; kernel_rfl)
end
def bJ (n:Nat):ak:=yQ n (aQ n) (bB n)
abbrev Pm (g:ai):Wr:=wrT lR jS g
def qO:aW:=pl []
section
variable (k0:Q0)
def ye:Q1:=(jB cf nX oX (lP jS k0))
def ym (n:Nat) (k:ae) (h:ad):ah:=k true h
theorem adi:lo kV (ye qO k0)=ym n (kap jS k0):=by delta ye ym; kernel_rfl
def DT (J1:Q1):Q1:=(jB cf nX Ay (cJ p14 (jB cf nX Nv (cJ p25 (jB cf nX lQ (lP jS k0)) (jB cf nX AX (kJ mU J1)))) (kJ kV (ye cf k0))))
def uE (n:Nat) (k:ae) (j1:aP) (v0:AV) (v1:AV) (v5:Int) (h:ad):ah:=mX v0 fun a=>ifB (ltF v5 a) (eld 2 h v0 v5 2 true fun b c=>eld 2 h v1 v5 2 true fun d e=>aha (.plain [.int,.int]) c e fun f=>ifB (X1 true f) (k false h) (oK .i64 v5 1 fun g=>j1 v0 v1 g h)) (ym n k h)
def DW:Nat→Q1:=lpS (DT cf k0)
def uJ (n:Nat) (k:ae):Nat→aP:=lpF mU (uE n k)
theorem acL (k:ae) (m:Nat):uJ n k (m+1)=uE n k (uJ n k m):=rfl
theorem ado (m:Nat):lo mU (DW qO k0 m)=uJ n (kap jS k0) m:=sY (fun J1=>(by obtain ⟨J0,u0⟩:=exi (ye qO k0); delta DT uE; rw [← adi,u0]; kernel_rfl:lo mU (DT qO k0 J1)=uE n (kap jS k0) (lo mU J1))) m
def PK:Q1:=(jB cf nX lQ (jB cf nX AH (cJ p10 (jB cf nX lQ (lP jS k0)) (jB cf nX mC (kJ mU (DW cf k0 n))))))
def zu (n:Nat) (k:ae) (a0:AV) (a1:AV) (h:ad):ah:=mX a0 fun a=>mX a1 fun b=>ifB (mW (eqF a b)) (k false h) (uJ n k n a0 a1 0 h)
def FM (n:Nat) (a0:AV) (a1:AV) (h:ad) (k:ae):ah:=zu n k a0 a1 h
theorem agf:DZ cf nX n Qs jS k0=PK n cf k0:=by funext s; kernel_rfl
theorem afg:lo lR (DZ qO nX n Qs jS k0)=cmp lR (FM n) (kap jS k0):=(congrArg (lo lR) (agf n qO k0)).trans (show _=zu n (kap jS k0) by obtain ⟨J1,u1⟩:=exi (DW qO k0 n); delta PK zu; rw [← ado,u1]; kernel_rfl)
end
def bO (n:Nat):ai:=FM n
abbrev NS (g:ak):Wr:=wrT jN kF g
def oj (jc:aa):aW:=pl [(pr,pj jc)]
section
variable (jc:aa) (k0:Q0)
def ws:Q1:=(jB cf na KH (lP kF k0))
def wv (n:Nat) (jc:aa) (k:az) (v3:AV) (h:ad):ah:=k v3 h
theorem Zs:lo oB (ws (oj jc) k0)=wv n jc (kap kF k0):=by delta ws wv; kernel_rfl
def tE (J1:Q1):Q1:=(jB cf na xt (kJ kK J1))
def tI (n:Nat) (jc:aa) (k:az) (j1:aP) (v0:AV) (v3:AV) (v4:Int) (h:ad):ah:=oK .i64 v4 1 fun a=>j1 v0 v3 a h
theorem aaE (J1:Q1):lo kK (tE (oj jc) J1)=tI n jc (kap kF k0) (lo kK J1):=by delta tE tI; kernel_rfl
def BC (J1:Q1):Q1:=(jB cf na JL (cJ p14 (jB cf na KB (cJ p24 (jB cf na Kx (kJ kK (tE cf J1))) (kJ kK (tE cf J1)))) (kJ oB (ws cf k0))))
def tJ (n:Nat) (jc:aa) (k:az) (j1:aP) (v0:AV) (v3:AV) (v4:Int) (h:ad):ah:=ys 26 h v0 1 false fun a b=>mX b fun c=>ifB (ltF v4 c) (ys 26 h v0 1 false fun d e=>Ga .u8 1 h e v4 fun f g=>ifB (mW (eqF g 0)) (ys 26 h v0 1 false fun i l=>Ga .u8 1 h l v4 fun m o=>uK [(.int .i64 0),(.int .u8 0)] [(0,1,(.int .i64 v4)),(1,1,(.int .u8 o))] fun p=>pZ h 1 [(.int .i64 0),(.int .u8 0)] [(0,2,p)] fun q r=>sI r 2 v3 q fun s t=>tI n jc k j1 v0 s v4 t) (tI n jc k j1 v0 v3 v4 h)) (wv n jc k v3 h)
def BH:Nat→Q1:=lpS (BC cf k0)
def tK (n:Nat) (jc:aa) (k:az):Nat→aP:=lpF kK (tJ n jc k)
theorem aae (k:az) (m:Nat):tK n jc k (m+1)=tJ n jc k (tK n jc k m):=rfl
theorem aah (m:Nat):lo kK (BH (oj jc) k0 m)=tK n jc (kap kF k0) m:=sY (fun J1=>(by obtain ⟨J0,u0⟩:=exi (ws (oj jc) k0); obtain ⟨J2,u2⟩:=exi (tE (oj jc) J1); delta BC tJ; rw [← Zs,u0, ← aaE,u2]; kernel_rfl:lo kK (BC (oj jc) k0 J1)=tJ n jc (kap kF k0) (lo kK J1))) m
def Nc:Q1:=(jB cf na lh (jB cf na xj (cJ p7 (jB cf na lh (lP kF k0)) (jB cf na rL (jB cf na kz (kJ kK (BH cf k0 n)))))))
def uL (n:Nat) (jc:aa) (k:az) (a0:AV) (h:ad):ah:=jc a0 h fun a b=>ifB (mW a) (k .nilslice b) (tK n jc k n a0 .nilslice 0 b)
def yn (n:Nat) (jc:aa) (a0:AV) (h:ad) (k:az):ah:=uL n jc k a0 h
theorem acP:DZ cf na n NO kF k0=Nc n cf k0:=by funext s; kernel_rfl
theorem ac8:lo jN (DZ (oj jc) na n NO kF k0)=cmp jN (yn n jc) (kap kF k0):=(congrArg (lo jN) (acP n (oj jc) k0)).trans (show _=uL n jc (kap kF k0) by obtain ⟨J1,u1⟩:=exi (BH (oj jc) k0 n); delta Nc uL; rw [← aah,u1]; kernel_rfl)
end
def bG (n:Nat):ak:=yn n (aQ n)
abbrev gF:=Bool→ad→ah
abbrev W8 (g:ai):Wr:=wrT lR jS g
def mb (jd:ai) (jz:ak) (km:aa) (j9:ak) (kj:ak) (jh:ak) (jF:aa) (jL:ak) (jP:ai) (jE:ak):aW:=pl [(Dj,Dm jd),(Wi,W5 jz),(agl,agn km),(adQ,aek j9),(afj,afy kj),(CW,C9 jh),(Nl,MF jF),(OA,OX jL),(Qd,Pm jP),(NB,NS jE)]
abbrev bT:Type:=AV→AV→AV→AV→Int→ad→ah
abbrev fD:Type:=AV→AV→AV→AV→AV→Int→ad→ah
section
variable (jd:ai) (jz:ak) (km:aa) (j9:ak) (kj:ak) (jh:ak) (jF:aa) (jL:ak) (jP:ai) (jE:ak) (k0:Q0)
def CA:Q1:=(jB cf mo S7 (lP jS k0))
def uU (n:Nat) (jd:ai) (jz:ak) (km:aa) (j9:ak) (kj:ak) (jh:ak) (jF:aa) (jL:ak) (jP:ai) (jE:ak) (k:ae) (v73:Bool) (h:ad):ah:=k v73 h
theorem aiU:lo HW (CA (mb jd jz km j9 kj jh jF jL jP jE) k0)=uU n jd jz km j9 kj jh jF jL jP jE (kap jS k0):=by delta CA uU; kernel_rfl
def Ci:Q1:=(jB cf mo TR (kJ HW (CA cf k0)))
def su (n:Nat) (jd:ai) (jz:ak) (km:aa) (j9:ak) (kj:ak) (jh:ak) (jF:aa) (jL:ak) (jP:ai) (jE:ak) (k:ae) (v1:AV) (v6:AV) (v8:AV) (h:ad):ah:=jL v1 h fun a b=>jd v6 a b fun c d=>ifB c (jE v1 d fun e f=>jP v8 e f fun g i=>uU n jd jz km j9 kj jh jF jL jP jE k g i) (uU n jd jz km j9 kj jh jF jL jP jE k false d)
theorem aiw:lo Hv (Ci (mb jd jz km j9 kj jh jF jL jP jE) k0)=su n jd jz km j9 kj jh jF jL jP jE (kap jS k0):=by obtain ⟨J0,u0⟩:=exi (CA (mb jd jz km j9 kj jh jF jL jP jE) k0); delta Ci su; rw [← aiU,u0]; kernel_rfl
def H2 (J2:Q1):Q1:=(jB cf mo TX (cJ p57 (jB cf mo Tt (jB cf mo Tc (kJ sj J2))) (kJ Hv (Ci cf k0))))
def vc (n:Nat) (jd:ai) (jz:ak) (km:aa) (j9:ak) (kj:ak) (jh:ak) (jF:aa) (jL:ak) (jP:ai) (jE:ak) (k:ae) (j2:bT) (v1:AV) (v6:AV) (v7:AV) (v8:AV) (v10:Int) (h:ad):ah:=mX v7 fun a=>ifB (ltF v10 a) (uK [(.int .i64 0),(.int .u8 0)] [(0,1,(.int .i64 (-9)))] fun b=>est 2 h v7 v10 2 b fun c d=>oK .i64 v10 1 fun e=>j2 v1 v6 v7 v8 e d) (su n jd jz km j9 kj jh jF jL jP jE k v1 v6 v8 h)
def H4:Nat→Q1:=lpS (H2 cf k0)
def uS (n:Nat) (jd:ai) (jz:ak) (km:aa) (j9:ak) (kj:ak) (jh:ak) (jF:aa) (jL:ak) (jP:ai) (jE:ak) (k:ae):Nat→bT:=lpF sj (vc n jd jz km j9 kj jh jF jL jP jE k)
theorem TJ (k:ae) (m:Nat):uS n jd jz km j9 kj jh jF jL jP jE k (m+1)=vc n jd jz km j9 kj jh jF jL jP jE k (uS n jd jz km j9 kj jh jF jL jP jE k m):=rfl
theorem ai5 (m:Nat):lo sj (H4 (mb jd jz km j9 kj jh jF jL jP jE) k0 m)=uS n jd jz km j9 kj jh jF jL jP jE (kap jS k0) m:=sY (fun J2=>(by obtain ⟨J1,u1⟩:=exi (Ci (mb jd jz km j9 kj jh jF jL jP jE) k0); delta H2 vc; rw [← aiw,u1]; kernel_rfl:lo sj (H2 (mb jd jz km j9 kj jh jF jL jP jE) k0 J2)=vc n jd jz km j9 kj jh jF jL jP jE (kap jS k0) (lo sj J2))) m
def B2:Q1:=(jB cf mo S8 (kJ sj (H4 cf k0 n)))
def xz (n:Nat) (jd:ai) (jz:ak) (km:aa) (j9:ak) (kj:ak) (jh:ak) (jF:aa) (jL:ak) (jP:ai) (jE:ak) (k:ae) (v1:AV) (v6:AV) (v7:AV) (v8:AV) (h:ad):ah:=uS n jd jz km j9 kj jh jF jL jP jE k n v1 v6 v7 v8 0 h
theorem aiW:lo H3 (B2 n (mb jd jz km j9 kj jh jF jL jP jE) k0)=xz n jd jz km j9 kj jh jF jL jP jE (kap jS k0):=by obtain ⟨J2,u2⟩:=exi (H4 (mb jd jz km j9 kj jh jF jL jP jE) k0 n); delta B2 xz; rw [← ai5,u2]; kernel_rfl
def HJ (J4:Q1):Q1:=(jB cf mo Tv (cJ p48 (jB cf mo Td (jB cf mo Tw (kJ sA J4))) (kJ H3 (B2 n cf k0))))
def vg (n:Nat) (jd:ai) (jz:ak) (km:aa) (j9:ak) (kj:ak) (jh:ak) (jF:aa) (jL:ak) (jP:ai) (jE:ak) (k:ae) (j4:fD) (v1:AV) (v5:AV) (v6:AV) (v7:AV) (v8:AV) (v9:Int) (h:ad):ah:=mX v5 fun a=>ifB (ltF v9 a) (est 1 h v5 v9 1 (.int .i64 (-9)) fun b c=>oK .i64 v9 1 fun d=>j4 v1 v5 v6 v7 v8 d c) (xz n jd jz km j9 kj jh jF jL jP jE k v1 v6 v7 v8 h)
def HO:Nat→Q1:=lpS (HJ n cf k0)
def uV (n:Nat) (jd:ai) (jz:ak) (km:aa) (j9:ak) (kj:ak) (jh:ak) (jF:aa) (jL:ak) (jP:ai) (jE:ak) (k:ae):Nat→fD:=lpF sA (vg n jd jz km j9 kj jh jF jL jP jE k)
theorem To (k:ae) (m:Nat):uV n jd jz km j9 kj jh jF jL jP jE k (m+1)=vg n jd jz km j9 kj jh jF jL jP jE k (uV n jd jz km j9 kj jh jF jL jP jE k m):=rfl
theorem aij (m:Nat):lo sA (HO n (mb jd jz km j9 kj jh jF jL jP jE) k0 m)=uV n jd jz km j9 kj jh jF jL jP jE (kap jS k0) m:=sY (fun J4=>(by obtain ⟨J3,u3⟩:=exi (B2 n (mb jd jz km j9 kj jh jF jL jP jE) k0); delta HJ vg; rw [← aiW,u3]; kernel_rfl:lo sA (HJ n (mb jd jz km j9 kj jh jF jL jP jE) k0 J4)=vg n jd jz km j9 kj jh jF jL jP jE (kap jS k0) (lo sA J4))) m
def CH:Q1:=(cJ p44 (jB cf mo lQ (lP jS k0)) (jB cf mo Ej (kJ sA (HO n cf k0 n))))
def vh (n:Nat) (jd:ai) (jz:ak) (km:aa) (j9:ak) (kj:ak) (jh:ak) (jF:aa) (jL:ak) (jP:ai) (jE:ak) (k:ae) (v1:AV) (v5:AV) (v6:AV) (v7:AV) (v8:AV) (v44:Bool) (h:ad):ah:=ifB v44 (k false h) (uV n jd jz km j9 kj jh jF jL jP jE k n v1 v5 v6 v7 v8 0 h)
theorem ajb:lo HL (CH n (mb jd jz km j9 kj jh jF jL jP jE) k0)=vh n jd jz km j9 kj jh jF jL jP jE (kap jS k0):=by obtain ⟨J4,u4⟩:=exi (HO n (mb jd jz km j9 kj jh jF jL jP jE) k0 n); delta CH vh; rw [← aij,u4]; kernel_rfl
def CI:Q1:=(jB cf mo RQ (kJ HL (CH n cf k0)))
def uQ (n:Nat) (jd:ai) (jz:ak) (km:aa) (j9:ak) (kj:ak) (jh:ak) (jF:aa) (jL:ak) (jP:ai) (jE:ak) (k:ae) (v1:AV) (v5:AV) (v6:AV) (v7:AV) (v8:AV) (v37:Bool) (h:ad):ah:=ifB v37 (vh n jd jz km j9 kj jh jF jL jP jE k v1 v5 v6 v7 v8 true h) (jE v1 h fun a b=>jP v7 a b fun c d=>vh n jd jz km j9 kj jh jF jL jP jE k v1 v5 v6 v7 v8 (mW c) d)
theorem aii:lo HK (CI n (mb jd jz km j9 kj jh jF jL jP jE) k0)=uQ n jd jz km j9 kj jh jF jL jP jE (kap jS k0):=by obtain ⟨J7,u7⟩:=exi (CH n (mb jd jz km j9 kj jh jF jL jP jE) k0); delta CI uQ; rw [← ajb,u7]; kernel_rfl
def Cg:Q1:=(jB cf mo Sd (kJ HK (CI n cf k0)))
def uZ (n:Nat) (jd:ai) (jz:ak) (km:aa) (j9:ak) (kj:ak) (jh:ak) (jF:aa) (jL:ak) (jP:ai) (jE:ak) (k:ae) (v1:AV) (v5:AV) (v6:AV) (v7:AV) (v8:AV) (v30:Bool) (h:ad):ah:=ifB v30 (uQ n jd jz km j9 kj jh jF jL jP jE k v1 v5 v6 v7 v8 true h) (jL v1 h fun a b=>jd v5 a b fun c d=>uQ n jd jz km j9 kj jh jF jL jP jE k v1 v5 v6 v7 v8 (mW c) d)
theorem aiG:lo HV (Cg n (mb jd jz km j9 kj jh jF jL jP jE) k0)=uZ n jd jz km j9 kj jh jF jL jP jE (kap jS k0):=by obtain ⟨J6,u6⟩:=exi (CI n (mb jd jz km j9 kj jh jF jL jP jE) k0); delta Cg uZ; rw [← aii,u6]; kernel_rfl
def WT:Q1:=(jB cf mo lQ (jB cf mo RT (jB cf mo RE (jB cf mo R2 (kJ HV (Cg n cf k0))))))
def zk (n:Nat) (jd:ai) (jz:ak) (km:aa) (j9:ak) (kj:ak) (jh:ak) (jF:aa) (jL:ak) (jP:ai) (jE:ak) (k:ae) (a0:AV) (a1:AV) (h:ad):ah:=jz a0 h fun a b=>jz a0 b fun c d=>kj a0 d fun e f=>kj a0 f fun g i=>j9 a0 i fun l m=>jh a1 m fun o p=>aha (.plain [.int,.int,.int,.int,.int,.int,.int]) l o fun q=>ifB (X1 true q) (uZ n jd jz km j9 kj jh jF jL jP jE k a1 a c e g true p) (km a0 p fun r s=>jF a1 s fun t u=>uZ n jd jz km j9 kj jh jF jL jP jE k a1 a c e g (X1 true (eqBB r t)) u)
def En (n:Nat) (jd:ai) (jz:ak) (km:aa) (j9:ak) (kj:ak) (jh:ak) (jF:aa) (jL:ak) (jP:ai) (jE:ak) (a0:AV) (a1:AV) (h:ad) (k:ae):ah:=zk n jd jz km j9 kj jh jF jL jP jE k a0 a1 h
theorem alP:DZ cf mo n Ya jS k0=WT n cf k0:=by funext s; kernel_rfl
theorem alR:lo lR (DZ (mb jd jz km j9 kj jh jF jL jP jE) mo n Ya jS k0)=cmp lR (En n jd jz km j9 kj jh jF jL jP jE) (kap jS k0):=(congrArg (lo lR) (alP n (mb jd jz km j9 kj jh jF jL jP jE) k0)).trans (show _=zk n jd jz km j9 kj jh jF jL jP jE (kap jS k0) by obtain ⟨J5,u5⟩:=exi (Cg n (mb jd jz km j9 kj jh jF jL jP jE) k0); delta WT zk; rw [← aiG,u5]; kernel_rfl)
end
def aY (n:Nat):ai:=En n (aH n) (dj n) (dm n) (dp n) (dr n) (bQ n) (ca n) (bJ n) (bO n) (bG n)
abbrev bz:=Int→Int→ad→(Int→ad→ah)→ah
abbrev VA (g:bz):Wr:=wrT qk ji g
def Co:aW:=pl []
section
variable (k0:Q0)
def w6:Q1:=(jB cf tq RG (lP ji k0))
def wO (n:Nat) (k:ar) (v0:Int) (h:ad):ah:=k v0 h
theorem agW:lo nV (w6 Co k0)=wO n (kap ji k0):=by delta w6 wO; kernel_rfl
def U2:Q1:=(jB cf tq kz (jB cf tq RP (jB cf tq Sa (cJ p9 (jB cf tq Sl (kJ nV (w6 cf k0))) (kJ nV (w6 cf k0))))))
def Du (n:Nat) (k:ar) (a0:Int) (a1:Int) (h:ad):ah:=remK .i64 a0 a1 fun a=>ifB (ltF a 0) (oK .i64 a a1 fun b=>wO n k b h) (wO n k a h)
def JK (n:Nat) (a0:Int) (a1:Int) (h:ad) (k:ar):ah:=Du n k a0 a1 h
theorem ajm:DZ cf tq n VI ji k0=U2 cf k0:=by funext s; kernel_rfl
theorem ald:lo qk (DZ Co tq n VI ji k0)=cmp qk (JK n) (kap ji k0):=(congrArg (lo qk) (ajm n Co k0)).trans (show _=Du n (kap ji k0) by obtain ⟨J0,u0⟩:=exi (w6 Co k0); delta U2 Du; rw [← agW,u0]; kernel_rfl)
end
def bf (n:Nat):bz:=JK n
abbrev NV (g:ab):Wr:=wrT qW ji g
def Lm:aW:=pl []
section
variable (k0:Q0)
def MT:Q1:=(jB cf mP kz (jB cf mP I7 (jB cf mP KD (cJ p6 (jB cf mP Ja (lP ji k0)) (jB cf mP Kv (cJ p13 (jB cf mP Kt (lP ji k0)) (jB cf mP Jl (cJ p20 (jB cf mP Kc (lP ji k0)) (jB cf mP KG (cJ p27 (jB cf mP JB (lP ji k0)) (jB cf mP JG (lP ji k0))))))))))))
def yh (n:Nat) (k:ar) (a0:AV) (a1:Int) (h:ad):ah:=ifB (eqF a1 2) (nfa 17 a0 fun a=>oq .i64 2 h a fun b c=>k c h) (ifB (eqF a1 3) (nfa 17 a0 fun d=>oq .i64 3 h d fun e f=>k f h) (ifB (eqF a1 4) (nfa 17 a0 fun g=>oq .i64 4 h g fun i l=>k l h) (ifB (eqF a1 5) (nfa 17 a0 fun m=>oq .i64 5 h m fun o p=>k p h) (nfa 17 a0 fun q=>oq .i64 6 h q fun r s=>k s h))))
def DI (n:Nat) (a0:AV) (a1:Int) (h:ad) (k:ar):ah:=yh n k a0 a1 h
theorem acA:DZ cf mP n Ni ji k0=MT cf k0:=by funext s; kernel_rfl
theorem adC:lo qW (DZ Lm mP n Ni ji k0)=cmp qW (DI n) (kap ji k0):=(congrArg (lo qW) (acA n Lm k0)).trans (show _=yh n (kap ji k0) by delta MT yh; kernel_rfl)
end
def dn (n:Nat):ab:=DI n
abbrev bD:=AV→Int→Int→ad→(Bool→ad→ah)→ah
abbrev NL (g:bD):Wr:=wrT lS kN g
def ol:aW:=pl []
section
variable (k0:Q0)
def wM:Q1:=(jB cf m7 Ku (lP kN k0))
def wk (n:Nat) (k:ae) (h:ad):ah:=k true h
theorem ZN:lo kV (wM ol k0)=wk n (kap kN k0):=by delta wM wk; kernel_rfl
def BJ (J1:Q1):Q1:=(jB cf m7 KO (cJ p29 (jB cf m7 I9 (cJ p39 (jB cf m7 mm (lP kN k0)) (jB cf m7 JT (kJ mL J1)))) (kJ kV (wM cf k0))))
def tR (n:Nat) (k:ae) (j1:bI) (v0:AV) (v1:Int) (v7:Int) (v8:Int) (h:ad):ah:=oK .i64 v1 v7 fun a=>ifB (ltF v8 a) (ys 0 h v0 1 false fun b c=>eldB 1 h c v8 fun d e=>ifB (mW e) (k false h) (oK .i64 v8 1 fun f=>j1 v0 v1 v7 f h)) (wk n k h)
def BQ:Nat→Q1:=lpS (BJ cf k0)
def tr (n:Nat) (k:ae):Nat→bI:=lpF mL (tR n k)
theorem ZO (k:ae) (m:Nat):tr n k (m+1)=tR n k (tr n k m):=rfl
theorem ZH (m:Nat):lo mL (BQ ol k0 m)=tr n (kap kN k0) m:=sY (fun J1=>(by obtain ⟨J0,u0⟩:=exi (wM ol k0); delta BJ tR; rw [← ZN,u0]; kernel_rfl:lo mL (BJ ol k0 J1)=tR n (kap kN k0) (lo mL J1))) m
def wB:Q1:=(cJ p23 (jB cf m7 mm (lP kN k0)) (jB cf m7 Jj (kJ mL (BQ cf k0 n))))
def tF (n:Nat) (k:ae) (v0:AV) (v1:Int) (v7:Int) (v23:Bool) (h:ad):ah:=ifB v23 (k false h) (tr n k n v0 v1 v7 v1 h)
theorem Zt:lo Bu (wB n ol k0)=tF n (kap kN k0):=by obtain ⟨J1,u1⟩:=exi (BQ ol k0 n); delta wB tF; rw [← ZH,u1]; kernel_rfl
def ML:Q1:=(jB cf m7 mm (jB cf m7 JO (jB cf m7 Ks (kJ Bu (wB n cf k0)))))
def yc (n:Nat) (k:ae) (a0:AV) (a1:Int) (a2:Int) (h:ad):ah:=ak4 .i64 1 a2 fun a=>ifB (ltF a1 0) (tF n k a0 a1 a true h) (oK .i64 a1 a fun b=>ys 0 h a0 1 false fun c d=>mX d fun e=>tF n k a0 a1 a (ltF e b) h)
def DG (n:Nat) (a0:AV) (a1:Int) (a2:Int) (h:ad) (k:ae):ah:=yc n k a0 a1 a2 h
theorem adu:DZ cf m7 n Nz kN k0=ML n cf k0:=by funext s; kernel_rfl
theorem adk:lo lS (DZ ol m7 n Nz kN k0)=cmp lS (DG n) (kap kN k0):=(congrArg (lo lS) (adu n ol k0)).trans (show _=yc n (kap kN k0) by obtain ⟨J2,u2⟩:=exi (wB n ol k0); delta ML yc; rw [← Zt,u2]; kernel_rfl)
end
def ci (n:Nat):bD:=DG n
abbrev fV:=AV→ad→ah
abbrev Ls (g:ak):Wr:=wrT jN kF g
def lY (jT:bD):aW:=pl [(NJ,NL jT)]
section
variable (jT:bD) (k0:Q0)
def vF:Q1:=(jB cf mc Iy (lP kF k0))
def vN (n:Nat) (jT:bD) (k:az) (v3:AV) (h:ad):ah:=k v3 h
theorem YC:lo oB (vF (lY jT) k0)=vN n jT (kap kF k0):=by delta vF vN; kernel_rfl
def vM (J1:Q1):Q1:=(jB cf mc IH (jB cf mc Iq (kJ kK J1)))
def qL (n:Nat) (jT:bD) (k:az) (j1:aP) (v0:AV) (v3:AV) (v4:Int) (v5:Int) (h:ad):ah:=eld 1 h v3 v5 1 false fun a b=>pZ h 1 [(.int .i64 0)] [(0,1,(.int .i64 v4))] fun c d=>sI d 1 b c fun e f=>est 1 f v3 v5 1 e fun g i=>ak4 .i64 1 v5 fun l=>oK .i64 v4 l fun m=>j1 v0 v3 m i
theorem Yo (J1:Q1):lo mK (vM (lY jT) J1)=qL n jT (kap kF k0) (lo kK J1):=by delta vM qL; kernel_rfl
def vD (J1:Q1) (J3:Q1):Q1:=(cJ p39 (jB cf mc Ih (kJ mK J3)) (kJ mK (vM cf J1)))
def sT (n:Nat) (jT:bD) (k:az) (j1:aP) (j3:bN) (v0:AV) (v3:AV) (v4:Int) (v5:Int) (v39:Bool) (h:ad):ah:=ifB v39 (oK .i64 v5 1 fun a=>j3 v0 v3 v4 a h) (qL n jT k j1 v0 v3 v4 v5 h)
theorem Yk (J1:Q1) (J3:Q1):lo As (vD (lY jT) J1 J3)=sT n jT (kap kF k0) (lo kK J1) (lo mK J3):=by obtain ⟨J2,u2⟩:=exi (vM (lY jT) J1); delta vD sT; rw [← Yo,u2]; kernel_rfl
def vG (J1:Q1) (J3:Q1):Q1:=(jB cf mc IC (kJ As (vD cf J1 J3)))
def sV (n:Nat) (jT:bD) (k:az) (j1:aP) (j3:bN) (v0:AV) (v3:AV) (v4:Int) (v5:Int) (v32:Bool) (h:ad):ah:=ifB v32 (oK .i64 v5 1 fun a=>jT v0 v4 a h fun b c=>sT n jT k j1 j3 v0 v3 v4 v5 b c) (sT n jT k j1 j3 v0 v3 v4 v5 false h)
theorem YA (J1:Q1) (J3:Q1):lo Ak (vG (lY jT) J1 J3)=sV n jT (kap kF k0) (lo kK J1) (lo mK J3):=by obtain ⟨J5,u5⟩:=exi (vD (lY jT) J1 J3); delta vG sV; rw [← Yk,u5]; kernel_rfl
def Aq (J1:Q1) (J3:Q1):Q1:=(jB cf mc Ir (kJ Ak (vG cf J1 J3)))
def sJ (n:Nat) (jT:bD) (k:az) (j1:aP) (j3:bN) (v0:AV) (v3:AV) (v4:Int) (v5:Int) (h:ad):ah:=ifB (ltF v5 6) (ak4 .i64 2 v5 fun a=>remK .i64 v4 a fun b=>sV n jT k j1 j3 v0 v3 v4 v5 (eqF b 0) h) (sV n jT k j1 j3 v0 v3 v4 v5 false h)
def An (J1:Q1):Nat→Q1:=lpS (Aq cf J1)
def sW (n:Nat) (jT:bD) (k:az) (j1:aP):Nat→bN:=lpF mK (sJ n jT k j1)
theorem Yl (k:az) (j1:aP) (m:Nat):sW n jT k j1 (m+1)=sJ n jT k j1 (sW n jT k j1 m):=rfl
theorem Ys (J1:Q1) (m:Nat):lo mK (An (lY jT) J1 m)=sW n jT (kap kF k0) (lo kK J1) m:=sY (fun J3=>(by obtain ⟨J4,u4⟩:=exi (vG (lY jT) J1 J3); delta Aq sJ; rw [← YA,u4]; kernel_rfl:lo mK (Aq (lY jT) J1 J3)=sJ n jT (kap kF k0) (lo kK J1) (lo mK J3))) m
def Aj (J1:Q1):Q1:=(jB cf mc H6 (cJ p13 (jB cf mc H9 (cJ p21 (jB cf mc Is (kJ kK J1)) (jB cf mc mC (kJ mK (An cf J1 n))))) (kJ oB (vF cf k0))))
def sM (n:Nat) (jT:bD) (k:az) (j1:aP) (v0:AV) (v3:AV) (v4:Int) (h:ad):ah:=ys 0 h v0 1 false fun a b=>mX b fun c=>ifB (ltF v4 c) (ys 0 h v0 1 false fun d e=>eldB 1 h e v4 fun f g=>ifB (mW g) (oK .i64 v4 1 fun i=>j1 v0 v3 i h) (sW n jT k j1 n v0 v3 v4 0 h)) (vN n jT k v3 h)
def Af:Nat→Q1:=lpS (Aj n cf k0)
def qK (n:Nat) (jT:bD) (k:az):Nat→aP:=lpF kK (sM n jT k)
theorem Yz (k:az) (m:Nat):qK n jT k (m+1)=sM n jT k (qK n jT k m):=rfl
theorem Ym (m:Nat):lo kK (Af n (lY jT) k0 m)=qK n jT (kap kF k0) m:=sY (fun J1=>(by obtain ⟨J0,u0⟩:=exi (vF (lY jT) k0); obtain ⟨J3,u3⟩:=exi (An (lY jT) J1 n); delta Aj sM; rw [← YC,u0, ← Ys,u3]; kernel_rfl:lo kK (Aj n (lY jT) k0 J1)=sM n jT (kap kF k0) (lo kK J1))) m
def Lh:Q1:=(jB cf mc lh (jB cf mc Hh (jB cf mc kz (kJ kK (Af n cf k0 n)))))
def xm (n:Nat) (jT:bD) (k:az) (a0:AV) (h:ad):ah:=mkK h [.nilslice] 7 7 fun a b=>qK n jT k n a0 a 0 b
def Da (n:Nat) (jT:bD) (a0:AV) (h:ad) (k:az):ah:=xm n jT k a0 h
theorem abI:DZ cf mc n LD kF k0=Lh n cf k0:=by funext s; kernel_rfl
theorem aa7:lo jN (DZ (lY jT) mc n LD kF k0)=cmp jN (Da n jT) (kap kF k0):=(congrArg (lo jN) (abI n (lY jT) k0)).trans (show _=xm n jT (kap kF k0) by obtain ⟨J1,u1⟩:=exi (Af n (lY jT) k0 n); delta Lh xm; rw [← Ym,u1]; kernel_rfl)
end
def cu (n:Nat):ak:=Da n (ci n)
abbrev DQ (g:aw):Wr:=wrT ju kE g
def ml (jV:ak):aW:=pl [(LS,Ls jV)]
abbrev dw:Type:=AV→Int→AV→Int→ad→ah
section
variable (jV:ak) (k0:Q0)
def wn:Q1:=(jB cf lO F2 (lP kE k0))
def wy (n:Nat) (jV:ak) (k:aA) (h:ad):ah:=k 0 90 h
theorem Z0:lo kV (wn (ml jV) k0)=wy n jV (kap kE k0):=by delta wn wy; kernel_rfl
def wH:Q1:=(jB cf lO I8 (jB cf lO Js (lP kE k0)))
def wI (n:Nat) (jV:ak) (k:aA) (v0:AV) (v1:Int) (v8:Int) (h:ad):ah:=ys 1 h v0 1 false fun a b=>oK .i64 1 v1 fun c=>est 1 h b v8 1 (.int .i64 c) fun d e=>k v8 0 e
theorem ZS:lo BR (wH (ml jV) k0)=wI n jV (kap kE k0):=by delta wH wI; kernel_rfl
def BF (J3:Q1):Q1:=(jB cf lO JW (cJ p41 (jB cf lO KE (jB cf lO Jk (kJ pJ J3))) (kJ BR (wH cf k0))))
def tj (n:Nat) (jV:ak) (k:aA) (j3:bI) (v0:AV) (v1:Int) (v8:Int) (v9:Int) (h:ad):ah:=ak4 .i64 1 v1 fun a=>oK .i64 v8 a fun b=>ifB (ltF v9 b) (ys 0 h v0 1 false fun c d=>est 1 h d v9 1 (.bool false) fun e f=>oK .i64 v9 1 fun g=>j3 v0 v1 v8 g f) (wI n jV k v0 v1 v8 h)
def BD:Nat→Q1:=lpS (BF cf k0)
def tf (n:Nat) (jV:ak) (k:aA):Nat→bI:=lpF pJ (tj n jV k)
theorem ZB (k:aA) (m:Nat):tf n jV k (m+1)=tj n jV k (tf n jV k m):=rfl
theorem ZF (m:Nat):lo pJ (BD (ml jV) k0 m)=tf n jV (kap kE k0) m:=sY (fun J3=>(by obtain ⟨J2,u2⟩:=exi (wH (ml jV) k0); delta BF tj; rw [← ZS,u2]; kernel_rfl:lo pJ (BF (ml jV) k0 J3)=tj n jV (kap kE k0) (lo pJ J3))) m
def Bp (J1:Q1):Q1:=(jB cf lO H5 (cJ p20 (jB cf lO Jf (cJ p28 (jB cf lO Kj (kJ pK J1)) (jB cf lO Jc (jB cf lO Ke (kJ pJ (BD cf k0 n)))))) (kJ kV (wn cf k0))))
def tQ (n:Nat) (jV:ak) (k:aA) (j1:dw) (v0:AV) (v1:Int) (v6:AV) (v7:Int) (h:ad):ah:=ifB (mW (ltF 6 v7)) (eld 1 h v6 v7 1 false fun a b=>mX b fun c=>ifB (eqF c 0) (oK .i64 v7 1 fun d=>j1 v0 v1 v6 d h) (eld 1 h v6 v7 1 false fun e f=>Ga .i64 1 h f 0 fun g i=>tf n jV k n v0 v1 i i h)) (wy n jV k h)
def BG:Nat→Q1:=lpS (Bp n cf k0)
def tp (n:Nat) (jV:ak) (k:aA):Nat→dw:=lpF pK (tQ n jV k)
theorem aag (k:aA) (m:Nat):tp n jV k (m+1)=tQ n jV k (tp n jV k m):=rfl
theorem aal (m:Nat):lo pK (BG n (ml jV) k0 m)=tp n jV (kap kE k0) m:=sY (fun J1=>(by obtain ⟨J0,u0⟩:=exi (wn (ml jV) k0); obtain ⟨J3,u3⟩:=exi (BD (ml jV) k0 n); delta Bp tQ; rw [← Z0,u0, ← ZF,u3]; kernel_rfl:lo pK (Bp n (ml jV) k0 J1)=tQ n jV (kap kE k0) (lo pK J1))) m
def wt:Q1:=(cJ p15 (jB cf lO oL (lP kE k0)) (jB cf lO Iz (jB cf lO H8 (kJ pK (BG n cf k0 n)))))
def tH (n:Nat) (jV:ak) (k:aA) (v0:AV) (v1:Int) (v15:Bool) (h:ad):ah:=ifB v15 (k 0 2 h) (jV v0 h fun a b=>tp n jV k n v0 v1 a v1 b)
theorem aam:lo BK (wt n (ml jV) k0)=tH n jV (kap kE k0):=by obtain ⟨J1,u1⟩:=exi (BG n (ml jV) k0 n); delta wt tH; rw [← aal,u1]; kernel_rfl
def Ng:Q1:=(jB cf lO oH (jB cf lO Ip (kJ BK (wt n cf k0))))
def yj (n:Nat) (jV:ak) (k:aA) (a0:AV) (a1:Int) (h:ad):ah:=ifB (ltF a1 0) (tH n jV k a0 a1 true h) (tH n jV k a0 a1 (ltF 6 a1) h)
def DB (n:Nat) (jV:ak) (a0:AV) (a1:Int) (h:ad) (k:aA):ah:=yj n jV k a0 a1 h
theorem adb:DZ cf lO n Np kE k0=Ng n cf k0:=by funext s; kernel_rfl
theorem adc:lo ju (DZ (ml jV) lO n Np kE k0)=cmp ju (DB n jV) (kap kE k0):=(congrArg (lo ju) (adb n (ml jV) k0)).trans (show _=yj n jV (kap kE k0) by obtain ⟨J4,u4⟩:=exi (wt n (ml jV) k0); delta Ng yj; rw [← aam,u4]; kernel_rfl)
end
def cy (n:Nat):aw:=DB n (cu n)
abbrev DH (g:aI):Wr:=wrT lS lc g
def LL:aW:=pl []
section
variable (k0:Q0)
def NF:Q1:=(jB cf x8 mV (jB cf x8 Jo (lP lc k0)))
def xU (n:Nat) (k:ar) (a0:AV) (a1:Int) (a2:Int) (h:ad):ah:=nfa 0 a0 fun a=>oq .i64 1 h a fun b c=>Gb .i64 a2 c fun d=>nfa 17 a0 fun e=>fld 0 h e 1 false fun f g=>Ga .i64 1 h g a1 fun i l=>oK .i64 d l fun m=>k m h
def DK (n:Nat) (a0:AV) (a1:Int) (a2:Int) (h:ad) (k:ar):ah:=xU n k a0 a1 a2 h
theorem acQ:DZ cf x8 n Nm lc k0=NF cf k0:=by funext s; kernel_rfl
theorem ac2:lo lS (DZ LL x8 n Nm lc k0)=cmp lS (DK n) (kap lc k0):=(congrArg (lo lS) (acQ n LL k0)).trans (show _=xU n (kap lc k0) by delta NF xU; kernel_rfl)
end
def ce (n:Nat):aI:=DK n
abbrev ge:=Int→Int→ad→ah
abbrev OL (g:aw):Wr:=wrT qW kE g
def nF (jh:ak) (jc:aa) (kw:ab) (jf:aj) (jI:aw) (jH:aI):aW:=pl [(CW,C9 jh),(pr,pj jc),(NI,NV kw),(yi,yo jf),(DM,DQ jI),(DJ,DH jH)]
section
variable (jh:ak) (jc:aa) (kw:ab) (jf:aj) (jI:aw) (jH:aI) (k0:Q0)
def xv:Q1:=(jB cf lG Lv (jB cf lG LB (cJ p67 (jB cf lG yE (lP kE k0)) (jB cf lG Lr (jB cf lG Lx (jB cf lG LF (lP kE k0)))))))
def ud (n:Nat) (jh:ak) (jc:aa) (kw:ab) (jf:aj) (jI:aw) (jH:aI) (k:aA) (v0:AV) (v1:Int) (v6:Int) (h:ad):ah:=ys 25 h v0 1 false fun a b=>eld 1 h b v6 1 false fun c d=>jI d 0 h fun e f g=>ifB (mW (eqF f 0)) (k 0 4 g) (jH v0 v6 e g fun i l=>ys 26 l v0 1 false fun m o=>est 1 l o i 1 (.int .u8 v1) fun p q=>k i 0 q)
theorem acn:lo Ab (xv (nF jh jc kw jf jI jH) k0)=ud n jh jc kw jf jI jH (kap kE k0):=by delta xv ud; kernel_rfl
def uc (J1:Q1):Q1:=(jB cf lG K6 (kJ mT J1))
def tZ (n:Nat) (jh:ak) (jc:aa) (kw:ab) (jf:aj) (jI:aw) (jH:aI) (k:aA) (j1:bI) (v0:AV) (v1:Int) (v6:Int) (v7:Int) (h:ad):ah:=oK .i64 v7 1 fun a=>j1 v0 v1 v6 a h
theorem abD (J1:Q1):lo mT (uc (nF jh jc kw jf jI jH) J1)=tZ n jh jc kw jf jI jH (kap kE k0) (lo mT J1):=by delta uc tZ; kernel_rfl
def CR (J1:Q1):Q1:=(jB cf lG LA (cJ p34 (jB cf lG Lg (cJ p53 (jB cf lG Lk (kJ mT (uc cf J1))) (kJ mT (uc cf J1)))) (kJ Ab (xv cf k0))))
def tX (n:Nat) (jh:ak) (jc:aa) (kw:ab) (jf:aj) (jI:aw) (jH:aI) (k:aA) (j1:bI) (v0:AV) (v1:Int) (v6:Int) (v7:Int) (h:ad):ah:=ys 25 h v0 1 false fun a b=>mX b fun c=>ifB (ltF v7 c) (ys 25 h v0 1 false fun d e=>eld 1 h e v7 1 false fun f g=>jf g (h.shut true) fun i l=>ys 25 (l.back h.ro) v0 1 false fun m o=>eld 1 (l.back h.ro) o v6 1 false fun p q=>jf q (l.back h.ro) fun r s=>ifB (ltF r i) (tZ n jh jc kw jf jI jH k j1 v0 v1 v7 v7 s) (tZ n jh jc kw jf jI jH k j1 v0 v1 v6 v7 s)) (ud n jh jc kw jf jI jH k v0 v1 v6 h)
def CV:Nat→Q1:=lpS (CR cf k0)
def tV (n:Nat) (jh:ak) (jc:aa) (kw:ab) (jf:aj) (jI:aw) (jH:aI) (k:aA):Nat→bI:=lpF mT (tX n jh jc kw jf jI jH k)
theorem abo (k:aA) (m:Nat):tV n jh jc kw jf jI jH k (m+1)=tX n jh jc kw jf jI jH k (tV n jh jc kw jf jI jH k m):=rfl
theorem aa5 (m:Nat):lo mT (CV (nF jh jc kw jf jI jH) k0 m)=tV n jh jc kw jf jI jH (kap kE k0) m:=sY (fun J1=>(by obtain ⟨J0,u0⟩:=exi (xv (nF jh jc kw jf jI jH) k0); obtain ⟨J2,u2⟩:=exi (uc (nF jh jc kw jf jI jH) J1); delta CR tX; rw [← acn,u0, ← abD,u2]; kernel_rfl:lo mT (CR (nF jh jc kw jf jI jH) k0 J1)=tX n jh jc kw jf jI jH (kap kE k0) (lo mT J1))) m
def xp:Q1:=(cJ p19 (jB cf lG oL (lP kE k0)) (jB cf lG Jh (cJ p27 (jB cf lG yE (lP kE k0)) (jB cf lG mV (jB cf lG KR (kJ mT (CV cf k0 n)))))))
def rB (n:Nat) (jh:ak) (jc:aa) (kw:ab) (jf:aj) (jI:aw) (jH:aI) (k:aA) (v0:AV) (v1:Int) (v19:Bool) (h:ad):ah:=ifB v19 (k 0 2 h) (jh v0 h fun a b=>apC 1 7 false a v1 fun c=>ac0 .i64 c fun d=>kw v0 v1 b fun e f=>ifB (mW (ltF d e)) (k 0 4 f) (tV n jh jc kw jf jI jH k n v0 v1 0 1 f))
theorem abO:lo C6 (xp n (nF jh jc kw jf jI jH) k0)=rB n jh jc kw jf jI jH (kap kE k0):=by obtain ⟨J1,u1⟩:=exi (CV (nF jh jc kw jf jI jH) k0 n); delta xp rB; rw [← aa5,u1]; kernel_rfl
def OE:Q1:=(jB cf lG oH (jB cf lG JX (cJ p13 (jB cf lG wl (lP kE k0)) (jB cf lG Kf (kJ C6 (xp n cf k0))))))
def sH (n:Nat) (jh:ak) (jc:aa) (kw:ab) (jf:aj) (jI:aw) (jH:aI) (k:aA) (a0:AV) (a1:Int) (h:ad):ah:=jc a0 h fun a b=>ifB (mW a) (k 0 1 b) (ifB (ltF a1 2) (rB n jh jc kw jf jI jH k a0 a1 true b) (rB n jh jc kw jf jI jH k a0 a1 (ltF 6 a1) b))
def vx (n:Nat) (jh:ak) (jc:aa) (kw:ab) (jf:aj) (jI:aw) (jH:aI) (a0:AV) (a1:Int) (h:ad) (k:aA):ah:=sH n jh jc kw jf jI jH k a0 a1 h
theorem aeW:DZ cf lG n OM kE k0=OE n cf k0:=by funext s; kernel_rfl
theorem aeE:lo qW (DZ (nF jh jc kw jf jI jH) lG n OM kE k0)=cmp qW (vx n jh jc kw jf jI jH) (kap kE k0):=(congrArg (lo qW) (aeW n (nF jh jc kw jf jI jH) k0)).trans (show _=sH n jh jc kw jf jI jH (kap kE k0) by obtain ⟨J3,u3⟩:=exi (xp n (nF jh jc kw jf jI jH) k0); delta OE sH; rw [← abO,u3]; kernel_rfl)
end
def aK (n:Nat):aw:=vx n (bQ n) (aQ n) (dn n) (bB n) (cy n) (ce n)
abbrev Ny (g:aI):Wr:=wrT lS lc g
def mI:aW:=pl []
section
variable (k0:Q0)
def wA:Q1:=(jB cf mF mV (lP lc k0))
def wx (n:Nat) (k:ar) (h:ad):ah:=k 0 h
theorem Zx:lo kV (wA mI k0)=wx n (kap lc k0):=by delta wA wx; kernel_rfl
def Bt (J1:Q1):Q1:=(jB cf mF KA (cJ p49 (jB cf mF Jq (jB cf mF JZ (kJ pN J1))) (kJ kV (wA cf k0))))
def tL (n:Nat) (k:ar) (j1:bI) (v0:AV) (v1:Int) (v2:Int) (v7:Int) (h:ad):ah:=ak4 .i64 1 v2 fun a=>oK .i64 v1 a fun b=>ifB (ltF v7 b) (ys 0 h v0 1 false fun c d=>est 1 h d v7 1 (.bool true) fun e f=>oK .i64 v7 1 fun g=>j1 v0 v1 v2 g f) (wx n k h)
def Bz:Nat→Q1:=lpS (Bt cf k0)
def wF (n:Nat) (k:ar):Nat→bI:=lpF pN (tL n k)
theorem ZD (k:ar) (m:Nat):wF n k (m+1)=tL n k (wF n k m):=rfl
theorem Zz (m:Nat):lo pN (Bz mI k0 m)=wF n (kap lc k0) m:=sY (fun J1=>(by obtain ⟨J0,u0⟩:=exi (wA mI k0); delta Bt tL; rw [← Zx,u0]; kernel_rfl:lo pN (Bt mI k0 J1)=tL n (kap lc k0) (lo pN J1))) m
def wK:Q1:=(cJ p36 (jB cf mF Ev (lP lc k0)) (jB cf mF JF (jB cf mF JD (kJ pN (Bz cf k0 n)))))
def tD (n:Nat) (k:ar) (v0:AV) (v1:Int) (v2:Int) (v36:Bool) (h:ad):ah:=ifB v36 (k 91 h) (ys 1 h v0 1 false fun a b=>est 1 h b v1 1 (.int .i64 0) fun c d=>wF n k n v0 v1 v2 v1 d)
theorem ZJ:lo BB (wK n mI k0)=tD n (kap lc k0):=by obtain ⟨J1,u1⟩:=exi (Bz mI k0 n); delta wK tD; rw [← Zz,u1]; kernel_rfl
def wz:Q1:=(cJ p17 (jB cf mF EP (lP lc k0)) (jB cf mF Kd (kJ BB (wK n cf k0))))
def tu (n:Nat) (k:ar) (v0:AV) (v1:Int) (v2:Int) (v17:Bool) (h:ad):ah:=ifB v17 (k 2 h) (ys 1 h v0 1 false fun a b=>mX b fun c=>ifB (mW (ltF v1 c)) (tD n k v0 v1 v2 true h) (ys 1 h v0 1 false fun d e=>Ga .i64 1 h e v1 fun f g=>oK .i64 1 v2 fun i=>tD n k v0 v1 v2 (mW (eqF g i)) h))
theorem aar:lo Br (wz n mI k0)=tu n (kap lc k0):=by obtain ⟨J2,u2⟩:=exi (wK n mI k0); delta wz tu; rw [← ZJ,u2]; kernel_rfl
def wC:Q1:=(jB cf mF It (kJ Br (wz n cf k0)))
def tS (n:Nat) (k:ar) (v0:AV) (v1:Int) (v2:Int) (v13:Bool) (h:ad):ah:=ifB v13 (tu n k v0 v1 v2 true h) (tu n k v0 v1 v2 (ltF v1 0) h)
theorem aaz:lo Bq (wC n mI k0)=tS n (kap lc k0):=by obtain ⟨J4,u4⟩:=exi (wz n mI k0); delta wC tS; rw [← aar,u4]; kernel_rfl
def M7:Q1:=(jB cf mF mV (jB cf mF Kb (kJ Bq (wC n cf k0))))
def xR (n:Nat) (k:ar) (a0:AV) (a1:Int) (a2:Int) (h:ad):ah:=ifB (ltF a2 0) (tS n k a0 a1 a2 true h) (tS n k a0 a1 a2 (ltF 6 a2) h)
def DN (n:Nat) (a0:AV) (a1:Int) (a2:Int) (h:ad) (k:ar):ah:=xR n k a0 a1 a2 h
theorem acU:DZ cf mF n Nk lc k0=M7 n cf k0:=by funext s; kernel_rfl
theorem adm:lo lS (DZ mI mF n Nk lc k0)=cmp lS (DN n) (kap lc k0):=(congrArg (lo lS) (acU n mI k0)).trans (show _=xR n (kap lc k0) by obtain ⟨J3,u3⟩:=exi (wC n mI k0); delta M7 xR; rw [← aaz,u3]; kernel_rfl)
end
def cO (n:Nat):aI:=DN n
abbrev gd:=Int→ad→ah
abbrev O4 (g:ab):Wr:=wrT ju ji g
def mh (jc:aa) (jX:aI):aW:=pl [(pr,pj jc),(NT,Ny jX)]
section
variable (jc:aa) (jX:aI) (k0:Q0)
def xl:Q1:=(jB cf md LU (jB cf md kz (lP ji k0)))
def xk (n:Nat) (jc:aa) (jX:aI) (k:ar) (v0:AV) (v1:Int) (h:ad):ah:=ys 26 h v0 1 false fun a b=>est 1 h b v1 1 (.int .u8 0) fun c d=>k 0 d
theorem acs:lo ju (xl (mh jc jX) k0)=xk n jc jX (kap ji k0):=by delta xl xk; kernel_rfl
def tT (J1:Q1):Q1:=(jB cf md Ll (kJ mn J1))
def tU (n:Nat) (jc:aa) (jX:aI) (k:ar) (j1:ck) (v0:AV) (v1:Int) (v5:Int) (h:ad):ah:=oK .i64 v5 1 fun a=>j1 v0 v1 a h
theorem abb (J1:Q1):lo mn (tT (mh jc jX) J1)=tU n jc jX (kap ji k0) (lo mn J1):=by delta tT tU; kernel_rfl
def C1 (J1:Q1):Q1:=(jB cf md Lc (cJ p46 (jB cf md LG (cJ p64 (jB cf md K0 (kJ mn (tT cf J1))) (kJ mn (tT cf J1)))) (kJ ju (xl cf k0))))
def ue (n:Nat) (jc:aa) (jX:aI) (k:ar) (j1:ck) (v0:AV) (v1:Int) (v5:Int) (h:ad):ah:=ys 25 h v0 1 false fun a b=>mX b fun c=>ifB (ltF v5 c) (nfa 17 v0 fun d=>fld 0 h d 1 false fun e f=>Ga .i64 1 h f v5 fun g i=>nfa 0 v0 fun l=>oq .i64 1 h l fun m o=>remK .i64 v1 o fun p=>ifB (eqF i p) (ys 25 h v0 1 false fun q r=>eld 1 h r v5 1 false fun s t=>nfa 0 v0 fun u=>oq .i64 1 h u fun w x=>aw1 .i64 v1 x fun y=>jX t y 0 h fun z A=>tU n jc jX k j1 v0 v1 v5 A) (tU n jc jX k j1 v0 v1 v5 h)) (xk n jc jX k v0 v1 h)
def CZ:Nat→Q1:=lpS (C1 cf k0)
def tW (n:Nat) (jc:aa) (jX:aI) (k:ar):Nat→ck:=lpF mn (ue n jc jX k)
theorem ab8 (k:ar) (m:Nat):tW n jc jX k (m+1)=ue n jc jX k (tW n jc jX k m):=rfl
theorem abp (m:Nat):lo mn (CZ (mh jc jX) k0 m)=tW n jc jX (kap ji k0) m:=sY (fun J1=>(by obtain ⟨J0,u0⟩:=exi (xl (mh jc jX) k0); obtain ⟨J2,u2⟩:=exi (tT (mh jc jX) J1); delta C1 ue; rw [← acs,u0, ← abb,u2]; kernel_rfl:lo mn (C1 (mh jc jX) k0 J1)=ue n jc jX (kap ji k0) (lo mn J1))) m
def xf:Q1:=(cJ p39 (jB cf md Hc (lP ji k0)) (jB cf md mC (kJ mn (CZ cf k0 n))))
def rI (n:Nat) (jc:aa) (jX:aI) (k:ar) (v0:AV) (v1:Int) (v39:Bool) (h:ad):ah:=ifB v39 (k 91 h) (tW n jc jX k n v0 v1 0 h)
theorem abs:lo CT (xf n (mh jc jX) k0)=rI n jc jX (kap ji k0):=by obtain ⟨J1,u1⟩:=exi (CZ (mh jc jX) k0 n); delta xf rI; rw [← abp,u1]; kernel_rfl
def xr:Q1:=(jB cf md Jg (kJ CT (xf n cf k0)))
def rC (n:Nat) (jc:aa) (jX:aI) (k:ar) (v0:AV) (v1:Int) (v29:Bool) (h:ad):ah:=ifB v29 (rI n jc jX k v0 v1 true h) (ys 26 h v0 1 false fun a b=>Ga .u8 1 h b v1 fun c d=>rI n jc jX k v0 v1 (eqF d 1) h)
theorem ab2:lo C0 (xr n (mh jc jX) k0)=rC n jc jX (kap ji k0):=by obtain ⟨J5,u5⟩:=exi (xf n (mh jc jX) k0); delta xr rC; rw [← abs,u5]; kernel_rfl
def xo:Q1:=(jB cf md K4 (kJ C0 (xr n cf k0)))
def rE (n:Nat) (jc:aa) (jX:aI) (k:ar) (v0:AV) (v1:Int) (v19:Bool) (h:ad):ah:=ifB v19 (rC n jc jX k v0 v1 true h) (ys 26 h v0 1 false fun a b=>Ga .u8 1 h b v1 fun c d=>rC n jc jX k v0 v1 (eqF d 0) h)
theorem abf:lo CU (xo n (mh jc jX) k0)=rE n jc jX (kap ji k0):=by obtain ⟨J4,u4⟩:=exi (xr n (mh jc jX) k0); delta xo rE; rw [← ab2,u4]; kernel_rfl
def OG:Q1:=(jB cf md kz (jB cf md vu (cJ p8 (jB cf md G6 (lP ji k0)) (jB cf md K3 (kJ CU (xo n cf k0))))))
def sF (n:Nat) (jc:aa) (jX:aI) (k:ar) (a0:AV) (a1:Int) (h:ad):ah:=jc a0 h fun a b=>ifB (mW a) (k 1 b) (ifB (ltF a1 0) (rE n jc jX k a0 a1 true b) (ys 26 b a0 1 false fun c d=>mX d fun e=>rE n jc jX k a0 a1 (mW (ltF a1 e)) b))
def vv (n:Nat) (jc:aa) (jX:aI) (a0:AV) (a1:Int) (h:ad) (k:ar):ah:=sF n jc jX k a0 a1 h
theorem aet:DZ cf md n O1 ji k0=OG n cf k0:=by funext s; kernel_rfl
theorem ae6:lo ju (DZ (mh jc jX) md n O1 ji k0)=cmp ju (vv n jc jX) (kap ji k0):=(congrArg (lo ju) (aet n (mh jc jX) k0)).trans (show _=sF n jc jX (kap ji k0) by obtain ⟨J3,u3⟩:=exi (xo n (mh jc jX) k0); delta OG sF; rw [← abf,u3]; kernel_rfl)
end
def aJ (n:Nat):ab:=vv n (aQ n) (cO n)
abbrev f8:=AV→Int→ad→ah
abbrev MY (g:aB):Wr:=wrT jN mj g
def pY (jc:aa) (jI:aw) (jH:aI):aW:=pl [(pr,pj jc),(DM,DQ jI),(DJ,DH jH)]
section
variable (jc:aa) (jI:aw) (jH:aI) (k0:Q0)
def wj:Q1:=(jB cf lK Kz (lP mj k0))
def ww (n:Nat) (jc:aa) (jI:aw) (jH:aI) (k:aX) (v6:AV) (h:ad):ah:=k v6 0 h
theorem ZM:lo BN (wj (pY jc jI jH) k0)=ww n jc jI jH (kap mj k0):=by delta wj ww; kernel_rfl
def BO (J1:Q1):Q1:=(jB cf lK JE (cJ p43 (jB cf lK Jy (jB cf lK Kg (jB cf lK JN (jB cf lK Km (kJ pL J1))))) (kJ BN (wj cf k0))))
def tN (n:Nat) (jc:aa) (jI:aw) (jH:aI) (k:aX) (j1:dw) (v0:AV) (v4:Int) (v6:AV) (v7:Int) (h:ad):ah:=nfa 17 v0 fun a=>oq .i64 1 h a fun b c=>ak4 .i64 1 c fun d=>ifB (ltF v7 d) (oK .i64 v4 v7 fun e=>jH v0 0 e h fun f g=>ys 26 g v0 1 false fun i l=>est 1 g l f 1 (.int .u8 1) fun m o=>pZ o 1 [(.int .i64 0)] [(0,1,(.int .i64 f))] fun p q=>sI q 1 v6 p fun r s=>oK .i64 v7 1 fun t=>j1 v0 v4 r t s) (ww n jc jI jH k v6 h)
def Bx:Nat→Q1:=lpS (BO cf k0)
def ti (n:Nat) (jc:aa) (jI:aw) (jH:aI) (k:aX):Nat→dw:=lpF pL (tN n jc jI jH k)
theorem ZG (k:aX) (m:Nat):ti n jc jI jH k (m+1)=tN n jc jI jH k (ti n jc jI jH k m):=rfl
theorem Z8 (m:Nat):lo pL (Bx (pY jc jI jH) k0 m)=ti n jc jI jH (kap mj k0) m:=sY (fun J1=>(by obtain ⟨J0,u0⟩:=exi (wj (pY jc jI jH) k0); delta BO tN; rw [← ZM,u0]; kernel_rfl:lo pL (BO (pY jc jI jH) k0 J1)=tN n jc jI jH (kap mj k0) (lo pL J1))) m
def Nq:Q1:=(jB cf lK Ho (jB cf lK IG (cJ p11 (jB cf lK GQ (lP mj k0)) (jB cf lK IB (cJ p15 (jB cf lK Hr (lP mj k0)) (jB cf lK IA (jB cf lK H7 (cJ p32 (jB cf lK Je (lP mj k0)) (jB cf lK I5 (jB cf lK xW (jB cf lK qh (kJ pL (Bx cf k0 n)))))))))))))
def rU (n:Nat) (jc:aa) (jI:aw) (jH:aI) (k:aX) (a0:AV) (h:ad):ah:=jc a0 h fun a b=>ifB (mW a) (k .nilslice 1 b) (aDq 27 b a0 fun c d=>ifB d (k .nilslice 91 b) (ys 25 b a0 1 false fun e f=>eld 1 b f 0 1 false fun g i=>nfa 17 a0 fun l=>oq .i64 1 b l fun m o=>jI i o b fun p q r=>ifB (mW (eqF q 0)) (k .nilslice 4 r) (nfst 27 r a0 1 (.bool true) fun s t=>ti n jc jI jH k n a0 p .nilslice 0 t)))
def uB (n:Nat) (jc:aa) (jI:aw) (jH:aI) (a0:AV) (h:ad) (k:aX):ah:=rU n jc jI jH k a0 h
theorem acF:DZ cf lK n NE mj k0=Nq n cf k0:=by funext s; kernel_rfl
theorem ac7:lo jN (DZ (pY jc jI jH) lK n NE mj k0)=cmp jN (uB n jc jI jH) (kap mj k0):=(congrArg (lo jN) (acF n (pY jc jI jH) k0)).trans (show _=rU n jc jI jH (kap mj k0) by obtain ⟨J1,u1⟩:=exi (Bx (pY jc jI jH) k0 n); delta Nq rU; rw [← Z8,u1]; kernel_rfl)
end
def aG (n:Nat):aB:=uB n (aQ n) (cy n) (ce n)
abbrev fx:=AV→Int→AV→ad→(Bool→ad→ah)→ah
abbrev gm:=Bool→ad→ah
abbrev Ps (g:fx):Wr:=wrT vQ kN g
def kW (jK:Wr) (j8:bA) (jl:aB) (jt:aw) (jR:bA) (jG:ai) (jD:bz) (jv:aw) (jr:ab) (js:ab) (jo:aB) (jd:ai):aW:=pl [(EG,jK),(asv,ast j8),(UG,UC jl),(Wl,XR jt),(abK,ab4 jR),(Xp,W8 jG),(UT,VA jD),(OZ,OL jv),(X2,Xy jr),(O0,O4 js),(NM,MY jo),(Dj,Dm jd)]
abbrev fg:Type:=AV→AV→AV→AV→Int→AV→Int→ad→ah
section
variable (jK:Wr) (j8:bA) (jl:aB) (jt:aw) (jR:bA) (jG:ai) (jD:bz) (jv:aw) (jr:ab) (js:ab) (jo:aB) (jd:ai) (k0:Q0)
def xX:Q1:=(jB cf kx NU (lP kN k0))
def xS (n:Nat) (jK:Wr) (j8:bA) (jl:aB) (jt:aw) (jR:bA) (jG:ai) (jD:bz) (jv:aw) (jr:ab) (js:ab) (jo:aB) (jd:ai) (k:ae) (h:ad):ah:=jK [] h fun a b=>aoK a fun c=>k c b
theorem adr:lo kV (xX (kW jK j8 jl jt jR jG jD jv jr js jo jd) k0)=xS n jK j8 jl jt jR jG jD jv jr js jo jd (kap kN k0):=by delta xX xS; kernel_rfl
def nA (J1:Q1):Q1:=(jB cf kx NK (cJ p163 (jB cf kx mm (lP kN k0)) (jB cf kx NC (kJ li J1))))
def oI (n:Nat) (jK:Wr) (j8:bA) (jl:aB) (jt:aw) (jR:bA) (jG:ai) (jD:bz) (jv:aw) (jr:ab) (js:ab) (jo:aB) (jd:ai) (k:ae) (j1:bT) (v2:AV) (v7:AV) (v9:AV) (v11:AV) (v12:Int) (h:ad):ah:=jG v7 v9 h fun a b=>ifB (mW a) (k false b) (oK .i64 v12 1 fun c=>j1 v2 v7 v9 v11 c b)
theorem yq (J1:Q1):lo li (nA (kW jK j8 jl jt jR jG jD jv jr js jo jd) k0 J1)=oI n jK j8 jl jt jR jG jD jv jr js jo jd (kap kN k0) (lo li J1):=by delta nA oI; kernel_rfl
def yt (J1:Q1):Q1:=(cJ p120 (jB cf kx mm (lP kN k0)) (jB cf kx Ne (cJ p122 (jB cf kx Nj (kJ li (nA cf k0 J1))) (kJ li (nA cf k0 J1)))))
def sa (n:Nat) (jK:Wr) (j8:bA) (jl:aB) (jt:aw) (jR:bA) (jG:ai) (jD:bz) (jv:aw) (jr:ab) (js:ab) (jo:aB) (jd:ai) (k:ae) (j1:bT) (v2:AV) (v7:AV) (v9:AV) (v11:AV) (v12:Int) (v14:Int) (v15:Int) (v120:Bool) (h:ad):ah:=ifB v120 (k false h) (ifB (eqF v15 0) (pZ h 1 [(.int .i64 0)] [(0,1,(.int .i64 v14))] fun a b=>sI b 1 v11 a fun c d=>oI n jK j8 jl jt jR jG jD jv jr js jo jd k j1 v2 v7 v9 c v12 d) (oI n jK j8 jl jt jR jG jD jv jr js jo jd k j1 v2 v7 v9 v11 v12 h))
theorem adz (J1:Q1):lo DP (yt (kW jK j8 jl jt jR jG jD jv jr js jo jd) k0 J1)=sa n jK j8 jl jt jR jG jD jv jr js jo jd (kap kN k0) (lo li J1):=by obtain ⟨J2,u2⟩:=exi (nA (kW jK j8 jl jt jR jG jD jv jr js jo jd) k0 J1); delta yt sa; rw [← yq,u2]; kernel_rfl
def uN (J1:Q1):Q1:=(jB cf kx KX (cJ p148 (jB cf kx mm (lP kN k0)) (kJ li (nA cf k0 J1))))
def rY (n:Nat) (jK:Wr) (j8:bA) (jl:aB) (jt:aw) (jR:bA) (jG:ai) (jD:bz) (jv:aw) (jr:ab) (js:ab) (jo:aB) (jd:ai) (k:ae) (j1:bT) (v2:AV) (v7:AV) (v9:AV) (v11:AV) (v12:Int) (v18:Int) (h:ad):ah:=jr v7 v18 h fun a b=>js v9 v18 b fun c d=>ifB (mW (eqF a c)) (k false d) (oI n jK j8 jl jt jR jG jD jv jr js jo jd k j1 v2 v7 v9 v11 v12 d)
theorem adD (J1:Q1):lo yg (uN (kW jK j8 jl jt jR jG jD jv jr js jo jd) k0 J1)=rY n jK j8 jl jt jR jG jD jv jr js jo jd (kap kN k0) (lo li J1):=by obtain ⟨J2,u2⟩:=exi (nA (kW jK j8 jl jt jR jG jD jv jr js jo jd) k0 J1); delta uN rY; rw [← yq,u2]; kernel_rfl
def DS (J1:Q1) (J5:Q1):Q1:=(jB cf kx Ld (cJ p91 (jB cf kx Ln (jB cf kx LT (kJ qD J5))) (kJ li (nA cf k0 J1))))
def uA (n:Nat) (jK:Wr) (j8:bA) (jl:aB) (jt:aw) (jR:bA) (jG:ai) (jD:bz) (jv:aw) (jr:ab) (js:ab) (jo:aB) (jd:ai) (k:ae) (j1:bT) (j5:fg) (v2:AV) (v7:AV) (v9:AV) (v11:AV) (v12:Int) (v19:AV) (v23:Int) (h:ad):ah:=mX v19 fun a=>ifB (ltF v23 a) (est 1 h v19 v23 1 (.int .i64 (-3)) fun b c=>oK .i64 v23 1 fun d=>j5 v2 v7 v9 v11 v12 v19 d c) (oI n jK j8 jl jt jR jG jD jv jr js jo jd k j1 v2 v7 v9 v11 v12 h)
def DU (J1:Q1):Nat→Q1:=lpS (DS cf k0 J1)
def uF (n:Nat) (jK:Wr) (j8:bA) (jl:aB) (jt:aw) (jR:bA) (jG:ai) (jD:bz) (jv:aw) (jr:ab) (js:ab) (jo:aB) (jd:ai) (k:ae) (j1:bT):Nat→fg:=lpF qD (uA n jK j8 jl jt jR jG jD jv jr js jo jd k j1)
theorem acS (k:ae) (j1:bT) (m:Nat):uF n jK j8 jl jt jR jG jD jv jr js jo jd k j1 (m+1)=uA n jK j8 jl jt jR jG jD jv jr js jo jd k j1 (uF n jK j8 jl jt jR jG jD jv jr js jo jd k j1 m):=rfl
theorem acx (J1:Q1) (m:Nat):lo qD (DU (kW jK j8 jl jt jR jG jD jv jr js jo jd) k0 J1 m)=uF n jK j8 jl jt jR jG jD jv jr js jo jd (kap kN k0) (lo li J1) m:=sY (fun J5=>(by obtain ⟨J2,u2⟩:=exi (nA (kW jK j8 jl jt jR jG jD jv jr js jo jd) k0 J1); delta DS uA; rw [← yq,u2]; kernel_rfl:lo qD (DS (kW jK j8 jl jt jR jG jD jv jr js jo jd) k0 J1 J5)=uA n jK j8 jl jt jR jG jD jv jr js jo jd (kap kN k0) (lo li J1) (lo qD J5))) m
def yb (J1:Q1):Q1:=(cJ p87 (jB cf kx mm (lP kN k0)) (jB cf kx KT (kJ qD (DU cf k0 J1 n))))
def uD (n:Nat) (jK:Wr) (j8:bA) (jl:aB) (jt:aw) (jR:bA) (jG:ai) (jD:bz) (jv:aw) (jr:ab) (js:ab) (jo:aB) (jd:ai) (k:ae) (j1:bT) (v2:AV) (v7:AV) (v9:AV) (v11:AV) (v12:Int) (v19:AV) (v87:Bool) (h:ad):ah:=ifB v87 (k false h) (uF n jK j8 jl jt jR jG jD jv jr js jo jd k j1 n v2 v7 v9 v11 v12 v19 0 h)
theorem acW (J1:Q1):lo Dz (yb n (kW jK j8 jl jt jR jG jD jv jr js jo jd) k0 J1)=uD n jK j8 jl jt jR jG jD jv jr js jo jd (kap kN k0) (lo li J1):=by obtain ⟨J5,u5⟩:=exi (DU (kW jK j8 jl jt jR jG jD jv jr js jo jd) k0 J1 n); delta yb uD; rw [← acx,u5]; kernel_rfl
def xV (J1:Q1):Q1:=(cJ p59 (jB cf kx Lu (jB cf kx Lb (jB cf kx LP (cJ p97 (jB cf kx Nw (jB cf kx M4 (jB cf kx Nr (kJ DP (yt cf k0 J1))))) (jB cf kx LQ (cJ p127 (jB cf kx LJ (jB cf kx K5 (cJ p133 (jB cf kx KZ (kJ yg (uN cf k0 J1))) (kJ yg (uN cf k0 J1))))) (jB cf kx LK (cJ p149 (ayP cf kx NN 0 [] (cJ p159 (jB cf kx mm (lP kN k0)) (kJ li (nA cf k0 J1)))) (jB cf kx LH (jB cf kx LI (jB cf kx Lo (kJ Dz (yb n cf k0 J1))))))))))))) (kJ kV (xX cf k0)))
def pq (n:Nat) (jK:Wr) (j8:bA) (jl:aB) (jt:aw) (jR:bA) (jG:ai) (jD:bz) (jv:aw) (jr:ab) (js:ab) (jo:aB) (jd:ai) (k:ae) (j1:bT) (v2:AV) (v7:AV) (v9:AV) (v11:AV) (v12:Int) (v59:Bool) (h:ad):ah:=ifB v59 (eld 3 h v2 v12 3 true fun a b=>Jr h (.cells [(.int .i64 0),(.int .i64 0),(.int .u8 0)] true 0) fun c d=>qT d (.ptr c 0) 3 b fun e=>oq .i64 0 e (.ptr c 0) fun f g=>jD g 4 e fun i l=>ifB (eqF i 0) (oq .u8 2 l (.ptr c 0) fun m o=>jt v7 o l fun p q r=>oq .u8 2 r (.ptr c 0) fun s t=>jv v9 t r fun u w x=>ifB (mW (eqF p u)) (sa n jK j8 jl jt jR jG jD jv jr js jo jd k j1 v2 v7 v9 v11 v12 p q true x) (sa n jK j8 jl jt jR jG jD jv jr js jo jd k j1 v2 v7 v9 v11 v12 p q (mW (eqF q w)) x)) (ifB (eqF i 1) (oq .i64 1 l (.ptr c 0) fun y z=>mX v11 fun A=>ifB (ltF 0 A) (oq .i64 1 l (.ptr c 0) fun B C=>mX v11 fun E=>jD C E l fun F G=>Ga .i64 1 G v11 F fun I K=>rY n jK j8 jl jt jR jG jD jv jr js jo jd k j1 v2 v7 v9 v11 v12 K G) (rY n jK j8 jl jt jR jG jD jv jr js jo jd k j1 v2 v7 v9 v11 v12 z l)) (ifB (eqF i 2) (oq .i64 1 l (.ptr c 0) fun L M=>oq .i64 1 l (.ptr c 0) fun N O=>jr v7 M l fun P Q=>ldI .i64 Q N fun R=>ifB (eqF O R) (js v9 O Q fun S T=>ifB (mW (eqF P S)) (k false T) (oI n jK j8 jl jt jR jG jD jv jr js jo jd k j1 v2 v7 v9 v11 v12 T)) (.err)) (jl v7 l fun U V X=>jo v9 X fun Y Z qa=>ifB (mW (eqF V Z)) (uD n jK j8 jl jt jR jG jD jv jr js jo jd k j1 v2 v7 v9 v11 v12 U true qa) (jd U Y qa fun qb qc=>uD n jK j8 jl jt jR jG jD jv jr js jo jd k j1 v2 v7 v9 v11 v12 U (mW qb) qc)))))
 (xS n jK j8 jl jt jR jG jD jv jr js jo jd k h)
theorem adv (J1:Q1):lo DV (xV n (kW jK j8 jl jt jR jG jD jv jr js jo jd) k0 J1)=pq n jK j8 jl jt jR jG jD jv jr js jo jd (kap kN k0) (lo li J1):=by obtain ⟨J0,u0⟩:=exi (xX (kW jK j8 jl jt jR jG jD jv jr js jo jd) k0); obtain ⟨J2,u2⟩:=exi (nA (kW jK j8 jl jt jR jG jD jv jr js jo jd) k0 J1); obtain ⟨J3,u3⟩:=exi (yt (kW jK j8 jl jt jR jG jD jv jr js jo jd) k0 J1); obtain ⟨J4,u4⟩:=exi (uN (kW jK j8 jl jt jR jG jD jv jr js jo jd) k0 J1); obtain ⟨J6,u6⟩:=exi (yb n (kW jK j8 jl jt jR jG jD jv jr js jo jd) k0 J1); delta xV pq; rw [← adr,u0, ← yq,u2, ← adz,u3, ← adD,u4, ← acW,u6]; kernel_rfl
def DC (J1:Q1):Q1:=(jB cf kx LM (kJ DV (xV n cf k0 J1)))
def uC (n:Nat) (jK:Wr) (j8:bA) (jl:aB) (jt:aw) (jR:bA) (jG:ai) (jD:bz) (jv:aw) (jr:ab) (js:ab) (jo:aB) (jd:ai) (k:ae) (j1:bT) (v2:AV) (v7:AV) (v9:AV) (v11:AV) (v12:Int) (h:ad):ah:=mX v2 fun a=>ifB (ltF v12 a) (pq n jK j8 jl jt jR jG jD jv jr js jo jd k j1 v2 v7 v9 v11 v12 (ltF v12 80) h) (pq n jK j8 jl jt jR jG jD jv jr js jo jd k j1 v2 v7 v9 v11 v12 false h)
def DD:Nat→Q1:=lpS (DC n cf k0)
def mZ (n:Nat) (jK:Wr) (j8:bA) (jl:aB) (jt:aw) (jR:bA) (jG:ai) (jD:bz) (jv:aw) (jr:ab) (js:ab) (jo:aB) (jd:ai) (k:ae):Nat→bT:=lpF li (uC n jK j8 jl jt jR jG jD jv jr js jo jd k)
theorem ady (k:ae) (m:Nat):mZ n jK j8 jl jt jR jG jD jv jr js jo jd k (m+1)=uC n jK j8 jl jt jR jG jD jv jr js jo jd k (mZ n jK j8 jl jt jR jG jD jv jr js jo jd k m):=rfl
theorem acI (m:Nat):lo li (DD n (kW jK j8 jl jt jR jG jD jv jr js jo jd) k0 m)=mZ n jK j8 jl jt jR jG jD jv jr js jo jd (kap kN k0) m:=sY (fun J1=>(by obtain ⟨J7,u7⟩:=exi (xV n (kW jK j8 jl jt jR jG jD jv jr js jo jd) k0 J1); delta DC uC; rw [← adv,u7]; kernel_rfl:lo li (DC n (kW jK j8 jl jt jR jG jD jv jr js jo jd) k0 J1)=uC n jK j8 jl jt jR jG jD jv jr js jo jd (kap kN k0) (lo li J1))) m
def xZ:Q1:=(cJ p51 (jB cf kx mm (lP kN k0)) (jB cf kx Lw (jB cf kx KY (kJ li (DD n cf k0 n)))))
def uG (n:Nat) (jK:Wr) (j8:bA) (jl:aB) (jt:aw) (jR:bA) (jG:ai) (jD:bz) (jv:aw) (jr:ab) (js:ab) (jo:aB) (jd:ai) (k:ae) (v2:AV) (v7:AV) (v9:AV) (v51:Bool) (h:ad):ah:=ifB v51 (k false h) (mZ n jK j8 jl jt jR jG jD jv jr js jo jd k n v2 v7 v9 .nilslice 0 h)
theorem ac1:lo DR (xZ n (kW jK j8 jl jt jR jG jD jv jr js jo jd) k0)=uG n jK j8 jl jt jR jG jD jv jr js jo jd (kap kN k0):=by obtain ⟨J1,u1⟩:=exi (DD n (kW jK j8 jl jt jR jG jD jv jr js jo jd) k0 n); delta xZ uG; rw [← acI,u1]; kernel_rfl
def x7:Q1:=(jB cf kx LR (kJ DR (xZ n cf k0)))
def sc (n:Nat) (jK:Wr) (j8:bA) (jl:aB) (jt:aw) (jR:bA) (jG:ai) (jD:bz) (jv:aw) (jr:ab) (js:ab) (jo:aB) (jd:ai) (k:ae) (v2:AV) (v7:AV) (v9:AV) (v45:Bool) (h:ad):ah:=ifB v45 (uG n jK j8 jl jt jR jG jD jv jr js jo jd k v2 v7 v9 true h) (jG v7 v9 h fun a b=>uG n jK j8 jl jt jR jG jD jv jr js jo jd k v2 v7 v9 (mW a) b)
theorem ac6:lo DL (x7 n (kW jK j8 jl jt jR jG jD jv jr js jo jd) k0)=sc n jK j8 jl jt jR jG jD jv jr js jo jd (kap kN k0):=by obtain ⟨J9,u9⟩:=exi (xZ n (kW jK j8 jl jt jR jG jD jv jr js jo jd) k0); delta x7 sc; rw [← ac1,u9]; kernel_rfl
def PU:Q1:=(jB cf kx Lf (jB cf kx K8 (jB cf kx K2 (jB cf kx Li (kJ DL (x7 n cf k0))))))
def z8 (n:Nat) (jK:Wr) (j8:bA) (jl:aB) (jt:aw) (jR:bA) (jG:ai) (jD:bz) (jv:aw) (jr:ab) (js:ab) (jo:aB) (jd:ai) (k:ae) (a0:AV) (a1:Int) (a2:AV) (h:ad):ah:=Ad h a0 fun a b=>nq b (.ptr a 0) 17 true fun c=>j8 c a1 b fun d e f=>nq f (.ptr a 0) 17 true fun g=>jR g a1 f fun i l m=>ifB (mW (eqF e l)) (sc n jK j8 jl jt jR jG jD jv jr js jo jd k a2 d i true m) (aha (.nil .ptr) d .nilptr fun o=>aha (.nil .ptr) i .nilptr fun p=>sc n jK j8 jl jt jR jG jD jv jr js jo jd k a2 d i (X1 true (eqBB (X1 false o) (X1 false p))) m)
def FB (n:Nat) (jK:Wr) (j8:bA) (jl:aB) (jt:aw) (jR:bA) (jG:ai) (jD:bz) (jv:aw) (jr:ab) (js:ab) (jo:aB) (jd:ai) (a0:AV) (a1:Int) (a2:AV) (h:ad) (k:ae):ah:=z8 n jK j8 jl jt jR jG jD jv jr js jo jd k a0 a1 a2 h
theorem afb:DZ cf kx n Fz kN k0=PU n cf k0:=by funext s; kernel_rfl
theorem afz:lo vQ (DZ (kW jK j8 jl jt jR jG jD jv jr js jo jd) kx n Fz kN k0)=cmp vQ (FB n jK j8 jl jt jR jG jD jv jr js jo jd) (kap kN k0):=(congrArg (lo vQ) (afb n (kW jK j8 jl jt jR jG jD jv jr js jo jd) k0)).trans (show _=z8 n jK j8 jl jt jR jG jD jv jr js jo jd (kap kN k0) by obtain ⟨J8,u8⟩:=exi (x7 n (kW jK j8 jl jt jR jG jD jv jr js jo jd) k0); delta PU z8; rw [← ac6,u8]; kernel_rfl)
end
def dS (n:Nat):fx:=FB n (Eb br) (cI n) (ba n) (bh n) (bF n) (aY n) (bf n) (aK n) (aZ n) (aJ n) (aG n) (aH n)
end
end Go.Proofs.YtnlbfbiogfilfaaGreat.Sh
