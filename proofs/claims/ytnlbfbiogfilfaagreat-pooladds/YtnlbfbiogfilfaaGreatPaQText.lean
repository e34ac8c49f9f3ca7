/- The other half. -/
import Derived.Test.YtnlbfbiogfilfaaGreatPaQText0
import Derived.Test.YtnlbfbiogfilfaaGreatPaQCode
import Derived.Test.YtnlbfbiogfilfaaGreatAiXRunPaQPrims
import Derived.KernelRfl
set_option linter.all false
namespace Go.Proofs.YtnlbfbiogfilfaaGreat.Sh
open Go.Ai
set_option maxRecDepth 100000
noncomputable section
/-! cofferdam/colour.Frame -/
abbrev iR:=Int→Int→Int→Heap→(Int→Int→Heap→CRes)→CRes
abbrev qC:=Int→Int→Heap→CRes
def yg (g:iR):Wr:=fun l h k=>nH .i64 l fun a0 l=>nH .i64 l fun a1 l=>nH .i64 l fun a2 l=>lw l (g a0 a1 a2 h fun u0 u1 h=>k (.tuple [(.int .i64 u0),(.int .i64 u1)]) h)
def zI (aN:cj) (aX:cZ):dD:=ez [(eK,eC aN),(iP,ie aX)]
abbrev vJ (k0:Q0) (k:qC):Prop:=∀ u0 u1 h,k0 (.tuple [(.int .i64 u0),(.int .i64 u1)]) h=k u0 u1 h
abbrev D8:Type:=Int→Int→Int→Bool→Heap→CRes
abbrev Nc (J:Q1) (j:D8):Prop:=∀ v0 v1 v2 v26 h,J ⟨cH [(p0,(.int .i64 v0)),(p1,(.int .i64 v1)),(p2,(.int .i64 v2)),(p26,(.bool v26))],h⟩=j v0 v1 v2 v26 h
abbrev Eo:Type:=Int→Int→Int→Bool→Heap→CRes
abbrev Ol (J:Q1) (j:Eo):Prop:=∀ v0 v1 v2 v17 h,J ⟨cH [(p0,(.int .i64 v0)),(p1,(.int .i64 v1)),(p2,(.int .i64 v2)),(p17,(.bool v17))],h⟩=j v0 v1 v2 v17 h
section
variable (n:Nat) (aN:cj) (aX:cZ) (k0:Q0) (k:qC)
def YM (n:Nat) (aN:cj) (aX:cZ) (k0:Q0):Q1:=(fun s=>dH (.t p26) s (bE (zI aN aX) qI ZM (cG xV k0)) (bE (zI aN aX) qI aaI (cG xV k0)))
def Nh (n:Nat) (aN:cj) (aX:cZ) (k:qC) (v0:Int) (v1:Int) (v2:Int) (v26:Bool) (h:Heap):CRes:=
 ifB v26
 (k 0 2 h)
 (Ve .i64 v1 v2 fun x9=>
 lp .i64 x9 v0 fun x10=>
 k x10 0 h)
theorem ape (hk:vJ k0 k):Nc (YM n aN aX k0) (Nh n aN aX k):=by
  obtain rfl:=fx3 hk
  intro v0 v1 v2 v26 h
  kernel_rfl
def aaJ:Q1:=YM n aN aX k0
def Nw:D8:=Nh n aN aX k
theorem anZ (hk:vJ k0 k):Nc (aaJ n aN aX k0) (Nw n aN aX k):=ape n aN aX k0 k hk
def YP (n:Nat) (aN:cj) (aX:cZ) (k0:Q0) (J1:Q1):Q1:=(bE (zI aN aX) qI aaf (fun s=>cI aaX s J1))
def Oi (n:Nat) (aN:cj) (aX:cZ) (k:qC) (j1:D8) (v0:Int) (v1:Int) (v2:Int) (v17:Bool) (h:Heap):CRes:=
 ifB v17
 (j1 v0 v1 v2 true h)
 (YK .i64 4095 v0 fun x5=>
 quoK .i64 x5 v2 fun x6=>
 aN v1 0 x6 h fun x7 h8=>
 j1 v0 v1 v2 (fS x7) h8)
theorem aoA (hk:vJ k0 k) {J1:Q1} {j1:D8} (h1:Nc J1 j1):Ol (YP n aN aX k0 J1) (Oi n aN aX k j1):=by
  obtain rfl:=fx3 hk
  obtain rfl:=fx5 h1
  intro v0 v1 v2 v17 h
  kernel_rfl
def aad:Q1:=YP n aN aX k0 (aaJ n aN aX k0)
def Oc:Eo:=Oi n aN aX k (Nw n aN aX k)
theorem anL (hk:vJ k0 k):Ol (aad n aN aX k0) (Oc n aN aX k):=aoA n aN aX k0 k hk (anZ n aN aX k0 k hk)
def afx (n:Nat) (aN:cj) (aX:cZ) (k0:Q0) (J0:Q1):Q1:=(bE (zI aN aX) qI abd (bE (zI aN aX) qI YW (fun s=>cI Z6 s J0)))
def Ud (n:Nat) (aN:cj) (aX:cZ) (k:qC) (j0:Eo) (a0:Int) (a1:Int) (a2:Int) (h:Heap):CRes:=
 aX a2 h fun x0 h1=>
 ifB (fS x0)
 (j0 a0 a1 a2 true h1)
 (YK .i64 a2 1 fun x2=>
 aN a0 0 x2 h1 fun x3 h4=>
 j0 a0 a1 a2 (fS x3) h4)
theorem atd (n:Nat) (aN:cj) (aX:cZ) (k0:Q0) (k:qC) (hk:vJ k0 k) {J0:Q1} {j0:Eo} (h0:Ol J0 j0) (a0:Int) (a1:Int) (a2:Int) (h:Heap):(afx n aN aX k0 J0) ⟨cH [(p0,(.int .i64 a0)),(p1,(.int .i64 a1)),(p2,(.int .i64 a2))],h⟩=(Ud n aN aX k j0) a0 a1 a2 h:=by
  obtain rfl:=fx3 hk
  obtain rfl:=fx5 h0
  kernel_rfl
def asY:Q1:=afx n aN aX k0 (aad n aN aX k0)
def Uf (n:Nat) (aN:cj) (aX:cZ) (a0:Int) (a1:Int) (a2:Int) (h:Heap) (k:qC):CRes:=Ud n aN aX k (Oc n aN aX k) a0 a1 a2 h
theorem atA (n:Nat) (aN:cj) (aX:cZ) (k0:Q0) (s:St):D (ez [(eK,eC aN),(iP,ie aX)]) qI n UD (cG xV k0) (fun _ _=>.err) (cG xV k0) s=asY n aN aX k0 s:=by kernel_rfl
theorem ata (n:Nat) (aN:cj) (aX:cZ) (a0:Int) (a1:Int) (a2:Int) (h:Heap) (k0:Q0):W Ug xV [(eK,eC aN),(iP,ie aX)] qI n UD [(.int .i64 a0),(.int .i64 a1),(.int .i64 a2)] h k0=Uf n aN aX a0 a1 a2 h (fun u0 u1 h=>k0 (.tuple [(.int .i64 u0),(.int .i64 u1)]) h):=by
  let k:qC:=fun u0 u1 h=>k0 (.tuple [(.int .i64 u0),(.int .i64 u1)]) h
  have hk:vJ k0 k:=fun _ _ _=>rfl
  have hb:∀ F:Tr AV→CRes,fJ Ug [(.int .i64 a0),(.int .i64 a1),(.int .i64 a2)] .leaf F=F (cH [(p0,(.int .i64 a0)),(p1,(.int .i64 a1)),(p2,(.int .i64 a2))]):=fun F=>by kernel_rfl
  exact (lD hb).trans ((atA n aN aX k0 _).trans (atd n aN aX k0 k hk (anL n aN aX k0 k hk) a0 a1 a2 h))
end
def uD (n:Nat):iR:=Uf n (ft n) (kh n)
abbrev dg:=AV→Int→Int→Int→Heap→(AV→Int→Heap→CRes)→CRes
abbrev lP:=AV→Int→Heap→CRes
def i8 (g:dg):Wr:=fun l h k=>kL l fun a0 l=>nH .i64 l fun a1 l=>nH .i64 l fun a2 l=>nH .u8 l fun a3 l=>lw l (g a0 a1 a2 a3 h fun u0 u1 h=>k (.tuple [u0,(.int .i64 u1)]) h)
def eH (bG:eX) (cd:iR):dD:=ez [(si,oV bG),(Dc,yg cd)]
abbrev oW (k0:Q0) (k:lP):Prop:=∀ u0 u1 h,k0 (.tuple [u0,(.int .i64 u1)]) h=k u0 u1 h
abbrev wl:Type:=AV→Heap→CRes
abbrev DL (J:Q1) (j:wl):Prop:=∀ v12 h,J ⟨cH [(p12,v12)],h⟩=j v12 h
abbrev lL:Type:=AV→Int→Int→Int→AV→Int→Int→Heap→CRes
abbrev wC (J:Q1) (j:lL):Prop:=∀ v0 v1 v3 v10 v12 v31 v32 h,J ⟨cH [(p0,v0),(p1,(.int .i64 v1)),(p3,(.int .u8 v3)),(p10,(.int .i64 v10)),(p12,v12),(p31,(.int .i64 v31)),(p32,(.int .i64 v32))],h⟩=j v0 v1 v3 v10 v12 v31 v32 h
section
variable (n:Nat) (bG:eX) (cd:iR) (k0:Q0) (k:lP)
def Pb (n:Nat) (bG:eX) (cd:iR) (k0:Q0):Q1:=(bE (eH bG cd) d9 Pv (cG nl k0))
def DH (n:Nat) (bG:eX) (cd:iR) (k:lP) (v12:AV) (h:Heap):CRes:=
 k v12 0 h
theorem aij (hk:oW k0 k):DL (Pb n bG cd k0) (DH n bG cd k):=by
  obtain rfl:=fx3 hk
  intro v12 h
  kernel_rfl
def Ql:Q1:=Pb n bG cd k0
def wA:wl:=DH n bG cd k
theorem ahh (hk:oW k0 k):DL (Ql n bG cd k0) (wA n bG cd k):=aij n bG cd k0 k hk
def PE (n:Nat) (bG:eX) (cd:iR) (k0:Q0) (J0:Q1) (J1:Q1):Q1:=(bE (eH bG cd) d9 P9 (fun s=>dH (.t p33) s (bE (eH bG cd) d9 P3 (bE (eH bG cd) d9 Qb (bE (eH bG cd) d9 Ph (fun s=>dH (.t p54) s (bE (eH bG cd) d9 PJ (cG nl k0)) (bE (eH bG cd) d9 O9 (bE (eH bG cd) d9 Pc (bE (eH bG cd) d9 Qy (bE (eH bG cd) d9 PV (fun s=>cI Dv s J1))))))))) (fun s=>cI PF s J0)))
def vX (n:Nat) (bG:eX) (cd:iR) (k:lP) (j0:wl) (j1:lL) (v0:AV) (v1:Int) (v3:Int) (v10:Int) (v12:AV) (v31:Int) (v32:Int) (h:Heap):CRes:=
 ifB (ltF v32 v31)
 (TE 1 h v0 1 false fun x8 x9=>
 Lw .i64 1 h x9 v1 fun x10 x11=>
 lp .i64 v10 v32 fun x12=>
 arD .i64 0 h v0 fun x13 x14=>
 cd x11 x12 x14 h fun x15 x16 h17=>
 ifB (fS (eqF x16 0))
 (k .nilslice x16 h17)
 (TE 12 h17 v0 1 false fun x18 x19=>
 aiP h17 (.cell .int) x19 (.int .i64 x15) (.int .u8 v3) fun h20=>
 nfa 13 v0 fun x21=>
 Fw 1 7 x21 v3 fun x22=>
 ldI .i64 h20 x22 fun x23=>
 lp .i64 x23 1 fun x24=>
 nfa 13 v0 fun x25=>
 Fw 1 7 x25 v3 fun x26=>
 lS h20 x26 1 (.int .i64 x24) fun h27=>
 pG h27 1 [(.int .i64 0)] [(0,1,(.int .i64 x15))] fun x28 h29=>
 mQ h29 1 v12 x28 fun x30 h31=>
 lp .i64 v32 1 fun x32=>
 j1 v0 v1 v3 v10 x30 v31 x32 h31))
 (j0 v12 h)
theorem afN (hk:oW k0 k) {J0:Q1} {j0:wl} (h0:DL J0 j0) {J1:Q1} {j1:lL} (h1:wC J1 j1):wC (PE n bG cd k0 J0 J1) (vX n bG cd k j0 j1):=by
  obtain rfl:=fx3 hk
  obtain rfl:=fx2 h0
  obtain rfl:=fx8 h1
  intro v0 v1 v3 v10 v12 v31 v32 h
  kernel_rfl
def Qj (m:Nat):Q1:=Nat.rec (motive:=fun _=>Q1) (fun _=>.err) (fun _ ih=>PE n bG cd k0 (Ql n bG cd k0) ih) m
def qL (m:Nat):lL:=Nat.rec (motive:=fun _=>lL) (fun _ _ _ _ _ _ _ _=>.err) (fun _ ih=>vX n bG cd k (wA n bG cd k) ih) m
theorem ag8 (m:Nat):qL n bG cd k (m+1)=vX n bG cd k (wA n bG cd k) (qL n bG cd k m):=rfl
theorem agY (hk:oW k0 k) (m:Nat):wC (Qj n bG cd k0 m) (qL n bG cd k m):=by
  induction m with
  | zero=>intro v0 v1 v3 v10 v12 v31 v32 h; rfl
  | succ m ih=>exact afN n bG cd k0 k hk (ahh n bG cd k0 k hk) ih
def Ul (n:Nat) (bG:eX) (cd:iR) (k0:Q0) (J1:Q1):Q1:=(bE (eH bG cd) d9 M1 (bE (eH bG cd) d9 LX (bE (eH bG cd) d9 MH (fun s=>dH (.t p29) s (bE (eH bG cd) d9 LL (cG nl k0)) (bE (eH bG cd) d9 LZ (bE (eH bG cd) d9 MM (fun s=>cI Dv s J1)))))))
def HH (n:Nat) (bG:eX) (cd:iR) (k:lP) (j1:lL) (a0:AV) (a1:Int) (a2:Int) (a3:Int) (h:Heap):CRes:=
 TE 11 h a0 1 false fun x0 x1=>
 eld 1 h x1 a1 1 false fun x2 x3=>
 bG x3 a2 h fun x4 x5 h6=>
 ifB (fS (eqF x5 0))
 (k .nilslice 4 h6)
 (al0 .i64 1 a2 fun x7=>
 j1 a0 a1 a3 x4 .nilslice x7 0 h6)
theorem alJ (n:Nat) (bG:eX) (cd:iR) (k0:Q0) (k:lP) (hk:oW k0 k) {J1:Q1} {j1:lL} (h1:wC J1 j1) (a0:AV) (a1:Int) (a2:Int) (a3:Int) (h:Heap):(Ul n bG cd k0 J1) ⟨cH [(p0,a0),(p1,(.int .i64 a1)),(p2,(.int .i64 a2)),(p3,(.int .u8 a3))],h⟩=(HH n bG cd k j1) a0 a1 a2 a3 h:=by
  obtain rfl:=fx3 hk
  obtain rfl:=fx8 h1
  kernel_rfl
def alT:Q1:=Ul n bG cd k0 (Qj n bG cd k0 n)
def HK (n:Nat) (bG:eX) (cd:iR) (a0:AV) (a1:Int) (a2:Int) (a3:Int) (h:Heap) (k:lP):CRes:=HH n bG cd k (qL n bG cd k n) a0 a1 a2 a3 h
theorem alm (n:Nat) (bG:eX) (cd:iR) (k0:Q0) (s:St):D (ez [(si,oV bG),(Dc,yg cd)]) d9 n HQ (cG nl k0) (fun _ _=>.err) (cG nl k0) s=alT n bG cd k0 s:=by kernel_rfl
theorem alf (n:Nat) (bG:eX) (cd:iR) (a0:AV) (a1:Int) (a2:Int) (a3:Int) (h:Heap) (k0:Q0):W HW nl [(si,oV bG),(Dc,yg cd)] d9 n HQ [a0,(.int .i64 a1),(.int .i64 a2),(.int .u8 a3)] h k0=HK n bG cd a0 a1 a2 a3 h (fun u0 u1 h=>k0 (.tuple [u0,(.int .i64 u1)]) h):=by
  let k:lP:=fun u0 u1 h=>k0 (.tuple [u0,(.int .i64 u1)]) h
  have hk:oW k0 k:=fun _ _ _=>rfl
  have hb:∀ F:Tr AV→CRes,fJ HW [a0,(.int .i64 a1),(.int .i64 a2),(.int .u8 a3)] .leaf F=F (cH [(p0,a0),(p1,(.int .i64 a1)),(p2,(.int .i64 a2)),(p3,(.int .u8 a3))]):=fun F=>by kernel_rfl
  exact (lD hb).trans ((alm n bG cd k0 _).trans (alJ n bG cd k0 k hk (agY n bG cd k0 k hk n) a0 a1 a2 a3 h))
end
def kj (n:Nat):dg:=HK n (me n) (uD n)
abbrev bX:=AV→Heap→(AV→Int→Heap→CRes)→CRes
abbrev pM:=AV→Int→Heap→CRes
def pX (g:bX):Wr:=fun l h k=>kL l fun a0 l=>lw l (g a0 h fun u0 u1 h=>k (.tuple [u0,(.int .i64 u1)]) h)
def oT (ai:bg) (aR:dg):dD:=ez [(cY,cU ai),(jS,i8 aR)]
abbrev S0 (k0:Q0) (k:pM):Prop:=∀ u0 u1 h,k0 (.tuple [u0,(.int .i64 u1)]) h=k u0 u1 h
section
variable (n:Nat) (ai:bg) (aR:dg) (k0:Q0) (k:pM)
def VJ (n:Nat) (ai:bg) (aR:dg) (k0:Q0):Q1:=(bE (oT ai aR) jW Pj (bE (oT ai aR) jW Qa (fun s=>dH (.t p6) s (bE (oT ai aR) jW Qt (cG nd k0)) (bE (oT ai aR) jW Pd (fun s=>dH (.t p12) s (bE (oT ai aR) jW Pu (cG nd k0)) (bE (oT ai aR) jW PG (cG nd k0)))))))
def HE (n:Nat) (ai:bg) (aR:dg) (k:pM) (a0:AV) (h:Heap):CRes:=
 ai a0 h fun x0 h1=>
 ifB (fS x0)
 (k .nilslice 1 h1)
 (nfa 13 a0 fun x2=>
 Fw 1 7 x2 1 fun x3=>
 ldI .i64 h1 x3 fun x4=>
 ifB (ltF 0 x4)
 (k .nilslice 91 h1)
 (arD .i64 2 h1 a0 fun x5 x6=>
 aR a0 0 x6 1 h1 fun x7 x8 h9=>
 k x7 x8 h9))
theorem alh (n:Nat) (ai:bg) (aR:dg) (k0:Q0) (k:pM) (hk:S0 k0 k) (a0:AV) (h:Heap):(VJ n ai aR k0) ⟨cH [(p0,a0)],h⟩=(HE n ai aR k) a0 h:=by
  obtain rfl:=fx3 hk
  kernel_rfl
def alH:Q1:=VJ n ai aR k0
def Ig (n:Nat) (ai:bg) (aR:dg) (a0:AV) (h:Heap) (k:pM):CRes:=HE n ai aR k a0 h
theorem alU (n:Nat) (ai:bg) (aR:dg) (k0:Q0) (s:St):D (ez [(cY,cU ai),(jS,i8 aR)]) jW n H3 (cG nd k0) (fun _ _=>.err) (cG nd k0) s=alH n ai aR k0 s:=by kernel_rfl
theorem ak5 (n:Nat) (ai:bg) (aR:dg) (a0:AV) (h:Heap) (k0:Q0):W HZ nd [(cY,cU ai),(jS,i8 aR)] jW n H3 [a0] h k0=Ig n ai aR a0 h (fun u0 u1 h=>k0 (.tuple [u0,(.int .i64 u1)]) h):=by
  let k:pM:=fun u0 u1 h=>k0 (.tuple [u0,(.int .i64 u1)]) h
  have hk:S0 k0 k:=fun _ _ _=>rfl
  have hb:∀ F:Tr AV→CRes,fJ HZ [a0] .leaf F=F (cH [(p0,a0)]):=fun F=>by kernel_rfl
  exact (lD hb).trans ((alU n ai aR k0 _).trans (alh n ai aR k0 k hk a0 h))
end
def ec (n:Nat):bX:=Ig n (dn n) (kj n)
/-! cofferdam/cofferdamlaw12.quota -/
abbrev bT:=AV→Int→Heap→(Int→Heap→CRes)→CRes
abbrev l6:=Int→Heap→CRes
def lZ (g:bT):Wr:=fun l h k=>kL l fun a0 l=>nH .u8 l fun a1 l=>lw l (g a0 a1 h fun u0 h=>k (.int .i64 u0) h)
def IG:dD:=ez []
abbrev Iw (k0:Q0) (k:l6):Prop:=∀ u0 h,k0 (.int .i64 u0) h=k u0 h
section
variable (n:Nat) (k0:Q0) (k:l6)
def KX (n:Nat) (k0:Q0):Q1:=(bE (IG) oo GS (bE (IG) oo F8 (cG oH k0)))
def zh (n:Nat) (k:l6) (a0:AV) (a1:Int) (h:Heap):CRes:=
 Dh h a0 fun x0 h1=>
 iY .i64 2 h1 (.ptr x0 0) fun x2 x3=>
 iY .i64 3 h1 (.ptr x0 0) fun x4 x5=>
 iY .i64 4 h1 (.ptr x0 0) fun x6 x7=>
 iY .i64 5 h1 (.ptr x0 0) fun x8 x9=>
 iY .i64 6 h1 (.ptr x0 0) fun x10 x11=>
 yL [(.int .i64 0),(.int .i64 0),(.int .i64 0),(.int .i64 0),(.int .i64 0),(.int .i64 0),(.int .i64 0)] [(1,1,(.int .i64 8)),(2,1,(.int .i64 x3)),(3,1,(.int .i64 x5)),(4,1,(.int .i64 x7)),(5,1,(.int .i64 x9)),(6,1,(.int .i64 x11))] fun x12=>
 aes 1 7 false x12 a1 fun x13=>
 Wa .i64 x13 fun x14=>
 k x14 h1
theorem ab7 (n:Nat) (k0:Q0) (k:l6) (hk:Iw k0 k) (a0:AV) (a1:Int) (h:Heap):(KX n k0) ⟨cH [(p0,a0),(p1,(.int .u8 a1))],h⟩=(zh n k) a0 a1 h:=by
  obtain rfl:=fx2 hk
  kernel_rfl
def acs:Q1:=KX n k0
def zn (n:Nat) (a0:AV) (a1:Int) (h:Heap) (k:l6):CRes:=zh n k a0 a1 h
theorem abA (n:Nat) (k0:Q0) (s:St):D (ez []) oo n y5 (cG oH k0) (fun _ _=>.err) (cG oH k0) s=acs n k0 s:=by kernel_rfl
theorem acl (n:Nat) (a0:AV) (a1:Int) (h:Heap) (k0:Q0):W zk oH [] oo n y5 [a0,(.int .u8 a1)] h k0=zn n a0 a1 h (fun u0 h=>k0 (.int .i64 u0) h):=by
  let k:l6:=fun u0 h=>k0 (.int .i64 u0) h
  have hk:Iw k0 k:=fun _ _=>rfl
  have hb:∀ F:Tr AV→CRes,fJ zk [a0,(.int .u8 a1)] .leaf F=F (cH [(p0,a0),(p1,(.int .u8 a1))]):=fun F=>by kernel_rfl
  exact (lD hb).trans ((abA n k0 _).trans (ab7 n k0 k hk a0 a1 h))
end
def iL (n:Nat):bT:=zn n
abbrev cP:=AV→Heap→(Int→Heap→CRes)→CRes
abbrev kV:=Int→Heap→CRes
def iv (g:cP):Wr:=fun l h k=>kL l fun a0 l=>lw l (g a0 h fun u0 h=>k (.int .i64 u0) h)
def gS (av:bQ):dD:=ez [(fD,eY av)]
abbrev nr (k0:Q0) (k:kV):Prop:=∀ u0 h,k0 (.int .i64 u0) h=k u0 h
abbrev uF:Type:=Int→Heap→CRes
abbrev BJ (J:Q1) (j:uF):Prop:=∀ v3 h,J ⟨cH [(p3,(.int .i64 v3))],h⟩=j v3 h
abbrev lf:Type:=Int→AV→Int→Heap→CRes
abbrev uM (J:Q1) (j:lf):Prop:=∀ v3 v11 v12 h,J ⟨cH [(p3,(.int .i64 v3)),(p11,v11),(p12,(.int .i64 v12))],h⟩=j v3 v11 v12 h
section
variable (n:Nat) (av:bQ) (k0:Q0) (k:kV)
def L3 (n:Nat) (av:bQ) (k0:Q0):Q1:=(bE (gS av) fG Mm (cG oX k0))
def BX (n:Nat) (av:bQ) (k:kV) (v3:Int) (h:Heap):CRes:=
 k v3 h
theorem ae5 (hk:nr k0 k):BJ (L3 n av k0) (BX n av k):=by
  obtain rfl:=fx2 hk
  intro v3 h
  kernel_rfl
def M3:Q1:=L3 n av k0
def uR:uF:=BX n av k
theorem afd (hk:nr k0 k):BJ (M3 n av k0) (uR n av k):=ae5 n av k0 k hk
def LR (n:Nat) (av:bQ) (k0:Q0) (J0:Q1) (J1:Q1):Q1:=(bE (gS av) fG ME (fun s=>dH (.t p13) s (bE (gS av) fG MC (bE (gS av) fG Mz (bE (gS av) fG MQ (fun s=>cI BU s J1)))) (fun s=>cI MZ s J0)))
def uV (n:Nat) (av:bQ) (k:kV) (j0:uF) (j1:lf) (v3:Int) (v11:AV) (v12:Int) (h:Heap):CRes:=
 ifB (ltF v12 7)
 (aes 1 7 false v11 v12 fun x4=>
 fH x4 fun x5=>
 al0 .i64 x5 v12 fun x6=>
 lp .i64 v3 x6 fun x7=>
 lp .i64 v12 1 fun x8=>
 j1 x7 v11 x8 h)
 (j0 v3 h)
theorem ae8 (hk:nr k0 k) {J0:Q1} {j0:uF} (h0:BJ J0 j0) {J1:Q1} {j1:lf} (h1:uM J1 j1):uM (LR n av k0 J0 J1) (uV n av k j0 j1):=by
  obtain rfl:=fx2 hk
  obtain rfl:=fx2 h0
  obtain rfl:=fx4 h1
  intro v3 v11 v12 h
  kernel_rfl
def MU (m:Nat):Q1:=Nat.rec (motive:=fun _=>Q1) (fun _=>.err) (fun _ ih=>LR n av k0 (M3 n av k0) ih) m
def pF (m:Nat):lf:=Nat.rec (motive:=fun _=>lf) (fun _ _ _ _=>.err) (fun _ ih=>uV n av k (uR n av k) ih) m
theorem afa (m:Nat):pF n av k (m+1)=uV n av k (uR n av k) (pF n av k m):=rfl
theorem afc (hk:nr k0 k) (m:Nat):uM (MU n av k0 m) (pF n av k m):=by
  induction m with
  | zero=>intro v3 v11 v12 h; rfl
  | succ m ih=>exact ae8 n av k0 k hk (afd n av k0 k hk) ih
def Sl (n:Nat) (av:bQ) (k0:Q0) (J1:Q1):Q1:=(bE (gS av) fG MF (bE (gS av) fG L0 (fun s=>dH (.t p7) s (bE (gS av) fG LI (cG oX k0)) (bE (gS av) fG LF (bE (gS av) fG LD (fun s=>cI BU s J1))))))
def FM (n:Nat) (av:bQ) (k:kV) (j1:lf) (a0:AV) (h:Heap):CRes:=
 av a0 h fun x0 h1=>
 ifB x0
 (k 0 h1)
 (TE 2 h1 a0 7 true fun x2 x3=>
 j1 0 x3 0 h1)
theorem ai7 (n:Nat) (av:bQ) (k0:Q0) (k:kV) (hk:nr k0 k) {J1:Q1} {j1:lf} (h1:uM J1 j1) (a0:AV) (h:Heap):(Sl n av k0 J1) ⟨cH [(p0,a0)],h⟩=(FM n av k j1) a0 h:=by
  obtain rfl:=fx2 hk
  obtain rfl:=fx4 h1
  kernel_rfl
def ajf:Q1:=Sl n av k0 (MU n av k0 n)
def Fk (n:Nat) (av:bQ) (a0:AV) (h:Heap) (k:kV):CRes:=FM n av k (pF n av k n) a0 h
theorem ajA (n:Nat) (av:bQ) (k0:Q0) (s:St):D (ez [(fD,eY av)]) fG n Fs (cG oX k0) (fun _ _=>.err) (cG oX k0) s=ajf n av k0 s:=by kernel_rfl
theorem ai2 (n:Nat) (av:bQ) (a0:AV) (h:Heap) (k0:Q0):W FZ oX [(fD,eY av)] fG n Fs [a0] h k0=Fk n av a0 h (fun u0 h=>k0 (.int .i64 u0) h):=by
  let k:kV:=fun u0 h=>k0 (.int .i64 u0) h
  have hk:nr k0 k:=fun _ _=>rfl
  have hb:∀ F:Tr AV→CRes,fJ FZ [a0] .leaf F=F (cH [(p0,a0)]):=fun F=>by kernel_rfl
  exact (lD hb).trans ((ajA n av k0 _).trans (ai7 n av k0 k hk (afc n av k0 k hk n) a0 h))
end
def gc (n:Nat):cP:=Fk n (fF n)
abbrev ce:=AV→Int→Heap→(Int→Int→Heap→CRes)→CRes
abbrev iV:=Int→Int→Heap→CRes
def qU (g:ce):Wr:=fun l h k=>kL l fun a0 l=>nH .u8 l fun a1 l=>lw l (g a0 a1 h fun u0 u1 h=>k (.tuple [(.int .i64 u0),(.int .i64 u1)]) h)
def d8 (ai:bg) (aR:dg) (aM:cP):dD:=ez [(cY,cU ai),(jS,i8 aR),(jf,iv aM)]
abbrev i6 (k0:Q0) (k:iV):Prop:=∀ u0 u1 h,k0 (.tuple [(.int .i64 u0),(.int .i64 u1)]) h=k u0 u1 h
abbrev xm:Type:=AV→Int→Int→Heap→CRes
abbrev FS (J:Q1) (j:xm):Prop:=∀ v0 v1 v6 h,J ⟨cH [(p0,v0),(p1,(.int .u8 v1)),(p6,(.int .i64 v6))],h⟩=j v0 v1 v6 h
abbrev xj:Type:=AV→Int→Int→AV→Int→Int→Heap→CRes
abbrev FF (J:Q1) (j:xj):Prop:=∀ v0 v1 v6 v39 v40 v41 h,J ⟨cH [(p0,v0),(p1,(.int .u8 v1)),(p6,(.int .i64 v6)),(p39,v39),(p40,(.int .i64 v40)),(p41,(.int .i64 v41))],h⟩=j v0 v1 v6 v39 v40 v41 h
abbrev jh:Type:=AV→Int→Int→AV→Int→Int→Heap→CRes
abbrev r8 (J:Q1) (j:jh):Prop:=∀ v0 v1 v6 v39 v40 v41 h,J ⟨cH [(p0,v0),(p1,(.int .u8 v1)),(p6,(.int .i64 v6)),(p39,v39),(p40,(.int .i64 v40)),(p41,(.int .i64 v41))],h⟩=j v0 v1 v6 v39 v40 v41 h
abbrev xi:Type:=AV→Int→Bool→Heap→CRes
abbrev FB (J:Q1) (j:xi):Prop:=∀ v0 v1 v21 h,J ⟨cH [(p0,v0),(p1,(.int .u8 v1)),(p21,(.bool v21))],h⟩=j v0 v1 v21 h
section
variable (n:Nat) (ai:bg) (aR:dg) (aM:cP) (k0:Q0) (k:iV)
def SX (n:Nat) (ai:bg) (aR:dg) (aM:cP) (k0:Q0):Q1:=(bE (d8 ai aR aM) dG Sz (bE (d8 ai aR aM) dG Ss (fun s=>dH (.t p67) s (bE (d8 ai aR aM) dG SE (cG lr k0)) (bE (d8 ai aR aM) dG SN (cG lr k0)))))
def Fu (n:Nat) (ai:bg) (aR:dg) (aM:cP) (k:iV) (v0:AV) (v1:Int) (v6:Int) (h:Heap):CRes:=
 aR v0 v6 0 v1 h fun x11 x12 h13=>
 ifB (fS (eqF x12 0))
 (k 0 x12 h13)
 (Lw .i64 1 h13 x11 0 fun x14 x15=>
 k x15 0 h13)
theorem ajq (hk:i6 k0 k):FS (SX n ai aR aM k0) (Fu n ai aR aM k):=by
  obtain rfl:=fx3 hk
  intro v0 v1 v6 h
  kernel_rfl
def S3:Q1:=SX n ai aR aM k0
def sf:xm:=Fu n ai aR aM k
theorem ajt (hk:i6 k0 k):FS (S3 n ai aR aM k0) (sf n ai aR aM k):=ajq n ai aR aM k0 k hk
def R9 (n:Nat) (ai:bg) (aR:dg) (aM:cP) (k0:Q0) (J1:Q1):Q1:=(bE (d8 ai aR aM) dG Sg (fun s=>cI FP s J1))
def F5 (n:Nat) (ai:bg) (aR:dg) (aM:cP) (k:iV) (j1:jh) (v0:AV) (v1:Int) (v6:Int) (v39:AV) (v40:Int) (v41:Int) (h:Heap):CRes:=
 lp .i64 v41 1 fun x26=>
 j1 v0 v1 v6 v39 v40 x26 h
theorem ajB (hk:i6 k0 k) {J1:Q1} {j1:jh} (h1:r8 J1 j1):FF (R9 n ai aR aM k0 J1) (F5 n ai aR aM k j1):=by
  obtain rfl:=fx3 hk
  obtain rfl:=fx7 h1
  intro v0 v1 v6 v39 v40 v41 h
  kernel_rfl
def Sp (J1:Q1):Q1:=R9 n ai aR aM k0 J1
def xh (j1:jh):xj:=F5 n ai aR aM k j1
theorem ajh (hk:i6 k0 k) {J1:Q1} {j1:jh} (h1:r8 J1 j1):FF (Sp n ai aR aM k0 J1) (xh n ai aR aM k j1):=ajB n ai aR aM k0 k hk h1
def Sk (n:Nat) (ai:bg) (aR:dg) (aM:cP) (k0:Q0) (J0:Q1) (J2:Q1):Q1:=(bE (d8 ai aR aM) dG SV (fun s=>dH (.t p42) s (bE (d8 ai aR aM) dG Sa (bE (d8 ai aR aM) dG SS (fun s=>dH (.t p56) s (bE (d8 ai aR aM) dG Sb (fun s=>cI FH s J2)) (fun s=>cI FH s J2)))) (fun s=>cI Sf s J0)))
def xg (n:Nat) (ai:bg) (aR:dg) (aM:cP) (k:iV) (j0:xm) (j2:xj) (v0:AV) (v1:Int) (v6:Int) (v39:AV) (v40:Int) (v41:Int) (h:Heap):CRes:=
 ifB (ltF v41 v40)
 (eld 1 h v39 v41 1 false fun x16 x17=>
 aM x17 (h.shut true) fun x18 h19=>
 TE 11 (h19.back h.ro) v0 1 false fun x20 x21=>
 eld 1 (h19.back h.ro) x21 v6 1 false fun x22 x23=>
 aM x23 (h19.back h.ro) fun x24 h25=>
 ifB (ltF x24 x18)
 (j2 v0 v1 v41 v39 v40 v41 h25)
 (j2 v0 v1 v6 v39 v40 v41 h25))
 (j0 v0 v1 v6 h)
theorem ai5 (hk:i6 k0 k) {J0:Q1} {j0:xm} (h0:FS J0 j0) {J2:Q1} {j2:xj} (h2:FF J2 j2):r8 (Sk n ai aR aM k0 J0 J2) (xg n ai aR aM k j0 j2):=by
  obtain rfl:=fx3 hk
  obtain rfl:=fx4 h0
  obtain rfl:=fx7 h2
  intro v0 v1 v6 v39 v40 v41 h
  kernel_rfl
def Se (m:Nat):Q1:=Nat.rec (motive:=fun _=>Q1) (fun _=>.err) (fun _ ih=>Sk n ai aR aM k0 (S3 n ai aR aM k0) (Sp n ai aR aM k0 ih)) m
def r7 (m:Nat):jh:=Nat.rec (motive:=fun _=>jh) (fun _ _ _ _ _ _ _=>.err) (fun _ ih=>xg n ai aR aM k (sf n ai aR aM k) (xh n ai aR aM k ih)) m
theorem ajx (m:Nat):r7 n ai aR aM k (m+1)=xg n ai aR aM k (sf n ai aR aM k) (xh n ai aR aM k (r7 n ai aR aM k m)):=rfl
theorem ai6 (hk:i6 k0 k) (m:Nat):r8 (Se n ai aR aM k0 m) (r7 n ai aR aM k m):=by
  induction m with
  | zero=>intro v0 v1 v6 v39 v40 v41 h; rfl
  | succ m ih=>exact ai5 n ai aR aM k0 k hk (ajt n ai aR aM k0 k hk) (ajh n ai aR aM k0 k hk ih)
def SJ (n:Nat) (ai:bg) (aR:dg) (aM:cP) (k0:Q0) (J1:Q1):Q1:=(bE (d8 ai aR aM) dG Qe (fun s=>dH (.t p15) s (bE (d8 ai aR aM) dG Pm (cG lr k0)) (bE (d8 ai aR aM) dG Pr (fun s=>dH (.t p22) s (bE (d8 ai aR aM) dG Qx (cG lr k0)) (bE (d8 ai aR aM) dG Qi (bE (d8 ai aR aM) dG So (fun s=>cI FP s J1)))))))
def FA (n:Nat) (ai:bg) (aR:dg) (aM:cP) (k:iV) (j1:jh) (v0:AV) (v1:Int) (v21:Bool) (h:Heap):CRes:=
 ifB v21
 (k 0 2 h)
 (nfa 13 v0 fun x2=>
 Fw 1 7 x2 v1 fun x3=>
 ldI .i64 h x3 fun x4=>
 nfa 3 v0 fun x5=>
 Fw 1 7 x5 v1 fun x6=>
 ldI .i64 h x6 fun x7=>
 ifB (fS (ltF x4 x7))
 (k 0 4 h)
 (TE 11 h v0 1 false fun x8 x9=>
 fH x9 fun x10=>
 j1 v0 v1 0 x9 x10 0 h))
theorem ajz (hk:i6 k0 k) {J1:Q1} {j1:jh} (h1:r8 J1 j1):FB (SJ n ai aR aM k0 J1) (FA n ai aR aM k j1):=by
  obtain rfl:=fx3 hk
  obtain rfl:=fx7 h1
  intro v0 v1 v21 h
  kernel_rfl
def Sw:Q1:=SJ n ai aR aM k0 (Se n ai aR aM k0 n)
def F3:xi:=FA n ai aR aM k (r7 n ai aR aM k n)
theorem ai1 (hk:i6 k0 k):FB (Sw n ai aR aM k0) (F3 n ai aR aM k):=ajz n ai aR aM k0 k hk (ai6 n ai aR aM k0 k hk n)
def WO (n:Nat) (ai:bg) (aR:dg) (aM:cP) (k0:Q0) (J3:Q1):Q1:=(bE (d8 ai aR aM) dG Qw (bE (d8 ai aR aM) dG PR (fun s=>dH (.t p11) s (bE (d8 ai aR aM) dG PT (cG lr k0)) (bE (d8 ai aR aM) dG Qd (fun s=>cI Sy s J3)))))
def KB (n:Nat) (ai:bg) (aR:dg) (aM:cP) (k:iV) (j3:xi) (a0:AV) (a1:Int) (h:Heap):CRes:=
 ai a0 h fun x0 h1=>
 ifB (fS x0)
 (k 0 1 h1)
 (ifB (ltF a1 2)
 (j3 a0 a1 true h1)
 (j3 a0 a1 (ltF 6 a1) h1))
theorem al9 (n:Nat) (ai:bg) (aR:dg) (aM:cP) (k0:Q0) (k:iV) (hk:i6 k0 k) {J3:Q1} {j3:xi} (h3:FB J3 j3) (a0:AV) (a1:Int) (h:Heap):(WO n ai aR aM k0 J3) ⟨cH [(p0,a0),(p1,(.int .u8 a1))],h⟩=(KB n ai aR aM k j3) a0 a1 h:=by
  obtain rfl:=fx3 hk
  obtain rfl:=fx4 h3
  kernel_rfl
def amy:Q1:=WO n ai aR aM k0 (Sw n ai aR aM k0)
def Kc (n:Nat) (ai:bg) (aR:dg) (aM:cP) (a0:AV) (a1:Int) (h:Heap) (k:iV):CRes:=KB n ai aR aM k (F3 n ai aR aM k) a0 a1 h
theorem amt (n:Nat) (ai:bg) (aR:dg) (aM:cP) (k0:Q0) (s:St):D (ez [(cY,cU ai),(jS,i8 aR),(jf,iv aM)]) dG n KP (cG lr k0) (fun _ _=>.err) (cG lr k0) s=amy n ai aR aM k0 s:=by kernel_rfl
theorem anw (n:Nat) (ai:bg) (aR:dg) (aM:cP) (a0:AV) (a1:Int) (h:Heap) (k0:Q0):W Jt lr [(cY,cU ai),(jS,i8 aR),(jf,iv aM)] dG n KP [a0,(.int .u8 a1)] h k0=Kc n ai aR aM a0 a1 h (fun u0 u1 h=>k0 (.tuple [(.int .i64 u0),(.int .i64 u1)]) h):=by
  let k:iV:=fun u0 u1 h=>k0 (.tuple [(.int .i64 u0),(.int .i64 u1)]) h
  have hk:i6 k0 k:=fun _ _ _=>rfl
  have hb:∀ F:Tr AV→CRes,fJ Jt [a0,(.int .u8 a1)] .leaf F=F (cH [(p0,a0),(p1,(.int .u8 a1))]):=fun F=>by kernel_rfl
  exact (lD hb).trans ((amt n ai aR aM k0 _).trans (al9 n ai aR aM k0 k hk (ai1 n ai aR aM k0 k hk) a0 a1 h))
end
def eN (n:Nat):ce:=Kc n (dn n) (kj n) (gc n)
abbrev bf:=AV→Heap→(AV→Heap→CRes)→CRes
abbrev mt:=AV→Heap→CRes
def jv (g:bf):Wr:=fun l h k=>kL l fun a0 l=>lw l (g a0 h fun u0 h=>k u0 h)
def jb (ai:bg) (aM:cP):dD:=ez [(cY,cU ai),(jf,iv aM)]
abbrev pS (k0:Q0) (k:mt):Prop:=∀ u0 h,k0 u0 h=k u0 h
abbrev xt:Type:=AV→Heap→CRes
abbrev F2 (J:Q1) (j:xt):Prop:=∀ v3 h,J ⟨cH [(p3,v3)],h⟩=j v3 h
abbrev mf:Type:=AV→AV→Int→Int→Heap→CRes
abbrev xn (J:Q1) (j:mf):Prop:=∀ v3 v12 v13 v14 h,J ⟨cH [(p3,v3),(p12,v12),(p13,(.int .i64 v13)),(p14,(.int .i64 v14))],h⟩=j v3 v12 v13 v14 h
section
variable (n:Nat) (ai:bg) (aM:cP) (k0:Q0) (k:mt)
def SU (n:Nat) (ai:bg) (aM:cP) (k0:Q0):Q1:=(bE (jb ai aM) gz SH (cG qX k0))
def Fl (n:Nat) (ai:bg) (aM:cP) (k:mt) (v3:AV) (h:Heap):CRes:=
 k v3 h
theorem aja (hk:pS k0 k):F2 (SU n ai aM k0) (Fl n ai aM k):=by
  obtain rfl:=fx2 hk
  intro v3 h
  kernel_rfl
def S7:Q1:=SU n ai aM k0
def xr:xt:=Fl n ai aM k
theorem ajg (hk:pS k0 k):F2 (S7 n ai aM k0) (xr n ai aM k):=aja n ai aM k0 k hk
def Su (n:Nat) (ai:bg) (aM:cP) (k0:Q0) (J0:Q1) (J1:Q1):Q1:=(bE (jb ai aM) gz Tc (fun s=>dH (.t p15) s (bE (jb ai aM) gz Sj (bE (jb ai aM) gz S6 (bE (jb ai aM) gz SF (fun s=>cI F4 s J1)))) (fun s=>cI SY s J0)))
def xq (n:Nat) (ai:bg) (aM:cP) (k:mt) (j0:xt) (j1:mf) (v3:AV) (v12:AV) (v13:Int) (v14:Int) (h:Heap):CRes:=
 ifB (ltF v14 v13)
 (eld 1 h v12 v14 1 false fun x5 x6=>
 aM x6 h fun x7 h8=>
 pG h8 1 [(.int .i64 0)] [(0,1,(.int .i64 x7))] fun x9 h10=>
 mQ h10 1 v3 x9 fun x11 h12=>
 lp .i64 v14 1 fun x13=>
 j1 x11 v12 v13 x13 h12)
 (j0 v3 h)
theorem aju (hk:pS k0 k) {J0:Q1} {j0:xt} (h0:F2 J0 j0) {J1:Q1} {j1:mf} (h1:xn J1 j1):xn (Su n ai aM k0 J0 J1) (xq n ai aM k j0 j1):=by
  obtain rfl:=fx2 hk
  obtain rfl:=fx2 h0
  obtain rfl:=fx5 h1
  intro v3 v12 v13 v14 h
  kernel_rfl
def SI (m:Nat):Q1:=Nat.rec (motive:=fun _=>Q1) (fun _=>.err) (fun _ ih=>Su n ai aM k0 (S7 n ai aM k0) ih) m
def sa (m:Nat):mf:=Nat.rec (motive:=fun _=>mf) (fun _ _ _ _ _=>.err) (fun _ ih=>xq n ai aM k (xr n ai aM k) ih) m
theorem ajc (m:Nat):sa n ai aM k (m+1)=xq n ai aM k (xr n ai aM k) (sa n ai aM k m):=rfl
theorem ai9 (hk:pS k0 k) (m:Nat):xn (SI n ai aM k0 m) (sa n ai aM k m):=by
  induction m with
  | zero=>intro v3 v12 v13 v14 h; rfl
  | succ m ih=>exact aju n ai aM k0 k hk (ajg n ai aM k0 k hk) ih
def Xg (n:Nat) (ai:bg) (aM:cP) (k0:Q0) (J1:Q1):Q1:=(bE (jb ai aM) gz Tb (bE (jb ai aM) gz SG (fun s=>dH (.t p8) s (bE (jb ai aM) gz SB (cG qX k0)) (bE (jb ai aM) gz Sd (bE (jb ai aM) gz SM (fun s=>cI F4 s J1))))))
def Jz (n:Nat) (ai:bg) (aM:cP) (k:mt) (j1:mf) (a0:AV) (h:Heap):CRes:=
 ai a0 h fun x0 h1=>
 ifB (fS x0)
 (k .nilslice h1)
 (TE 11 h1 a0 1 false fun x2 x3=>
 fH x3 fun x4=>
 j1 .nilslice x3 x4 0 h1)
theorem amn (n:Nat) (ai:bg) (aM:cP) (k0:Q0) (k:mt) (hk:pS k0 k) {J1:Q1} {j1:mf} (h1:xn J1 j1) (a0:AV) (h:Heap):(Xg n ai aM k0 J1) ⟨cH [(p0,a0)],h⟩=(Jz n ai aM k j1) a0 h:=by
  obtain rfl:=fx2 hk
  obtain rfl:=fx5 h1
  kernel_rfl
def anD:Q1:=Xg n ai aM k0 (SI n ai aM k0 n)
def Kb (n:Nat) (ai:bg) (aM:cP) (a0:AV) (h:Heap) (k:mt):CRes:=Jz n ai aM k (sa n ai aM k n) a0 h
theorem anb (n:Nat) (ai:bg) (aM:cP) (k0:Q0) (s:St):D (ez [(cY,cU ai),(jf,iv aM)]) gz n JG (cG qX k0) (fun _ _=>.err) (cG qX k0) s=anD n ai aM k0 s:=by kernel_rfl
theorem amm (n:Nat) (ai:bg) (aM:cP) (a0:AV) (h:Heap) (k0:Q0):W Ju qX [(cY,cU ai),(jf,iv aM)] gz n JG [a0] h k0=Kb n ai aM a0 h (fun u0 h=>k0 u0 h):=by
  let k:mt:=fun u0 h=>k0 u0 h
  have hk:pS k0 k:=fun _ _=>rfl
  have hb:∀ F:Tr AV→CRes,fJ Ju [a0] .leaf F=F (cH [(p0,a0)]):=fun F=>by kernel_rfl
  exact (lD hb).trans ((anb n ai aM k0 _).trans (amn n ai aM k0 k hk (ai9 n ai aM k0 k hk n) a0 h))
end
def dB (n:Nat):bf:=Kb n (dn n) (gc n)
abbrev ci:=AV→Heap→(AV→Heap→CRes)→CRes
abbrev oS:=AV→Heap→CRes
def pd (g:ci):Wr:=fun l h k=>kL l fun a0 l=>lw l (g a0 h fun u0 h=>k u0 h)
def nA (ai:bg):dD:=ez [(cY,cU ai)]
abbrev Pt (k0:Q0) (k:oS):Prop:=∀ u0 h,k0 u0 h=k u0 h
section
variable (n:Nat) (ai:bg) (k0:Q0) (k:oS)
def S8 (n:Nat) (ai:bg) (k0:Q0):Q1:=(bE (nA ai) jg M2 (bE (nA ai) jg Mr (fun s=>dH (.t p6) s (bE (nA ai) jg MB (cG pe k0)) (bE (nA ai) jg LG (bE (nA ai) jg MJ (bE (nA ai) jg MT (cG pe k0)))))))
def FV (n:Nat) (ai:bg) (k:oS) (a0:AV) (h:Heap):CRes:=
 Bv h (.cells [(.int .i64 0),(.int .i64 0),(.int .i64 0),(.int .i64 0),(.int .i64 0),(.int .i64 0),(.int .i64 0)] true 0) fun x0 h1=>
 ai a0 h1 fun x2 h3=>
 ifB (fS x2)
 (yL [(.int .i64 0),(.int .i64 0),(.int .i64 0),(.int .i64 0),(.int .i64 0),(.int .i64 0),(.int .i64 0)] [] fun x4=>
 lS h3 (.ptr x0 0) 7 x4 fun h5=>
 f8 h5 (.ptr x0 0) 7 true fun x6=>
 k x6 h5)
 (TE 13 h3 a0 7 true fun x7 x8=>
 Bv h3 (.cells [(.int .i64 0),(.int .i64 0),(.int .i64 0),(.int .i64 0),(.int .i64 0),(.int .i64 0),(.int .i64 0)] true 0) fun x9 h10=>
 lS h10 (.ptr x9 0) 7 x8 fun h11=>
 arD .i64 10 h11 a0 fun x12 x13=>
 TE 12 h11 a0 1 false fun x14 x15=>
 aoB h11 x15 fun x16=>
 YK .i64 x13 x16 fun x17=>
 Fw 1 7 (.ptr x9 0) 0 fun x18=>
 lS h11 x18 1 (.int .i64 x17) fun h19=>
 f8 h19 (.ptr x9 0) 7 true fun x20=>
 lS h19 (.ptr x0 0) 7 x20 fun h21=>
 f8 h21 (.ptr x0 0) 7 true fun x22=>
 k x22 h21)
theorem ajm (n:Nat) (ai:bg) (k0:Q0) (k:oS) (hk:Pt k0 k) (a0:AV) (h:Heap):(S8 n ai k0) ⟨cH [(p0,a0)],h⟩=(FV n ai k) a0 h:=by
  obtain rfl:=fx2 hk
  kernel_rfl
def ai0:Q1:=S8 n ai k0
def FO (n:Nat) (ai:bg) (a0:AV) (h:Heap) (k:oS):CRes:=FV n ai k a0 h
theorem ajk (n:Nat) (ai:bg) (k0:Q0) (s:St):D (ez [(cY,cU ai)]) jg n FY (cG pe k0) (fun _ _=>.err) (cG pe k0) s=ai0 n ai k0 s:=by kernel_rfl
theorem aiV (n:Nat) (ai:bg) (a0:AV) (h:Heap) (k0:Q0):W FX pe [(cY,cU ai)] jg n FY [a0] h k0=FO n ai a0 h (fun u0 h=>k0 u0 h):=by
  let k:oS:=fun u0 h=>k0 u0 h
  have hk:Pt k0 k:=fun _ _=>rfl
  have hb:∀ F:Tr AV→CRes,fJ FX [a0] .leaf F=F (cH [(p0,a0)]):=fun F=>by kernel_rfl
  exact (lD hb).trans ((ajk n ai k0 _).trans (ajm n ai k0 k hk a0 h))
end
def mi (n:Nat):ci:=FO n (dn n)
abbrev cT:=AV→Heap→(AV→Heap→CRes)→CRes
abbrev fE:=AV→Heap→CRes
def fC (g:cT):Wr:=fun l h k=>kL l fun a0 l=>lw l (g a0 h fun u0 h=>k u0 h)
def rf:dD:=ez []
abbrev q0 (k0:Q0) (k:fE):Prop:=∀ u0 h,k0 u0 h=k u0 h
section
variable (n:Nat) (k0:Q0) (k:fE)
def r9 (n:Nat) (k0:Q0):Q1:=(bE (rf) gJ qB (bE (rf) gJ qK (cG gH k0)))
def mh (n:Nat) (k:fE) (a0:AV) (h:Heap):CRes:=
 Dh h a0 fun x0 h1=>
 k (.func 76 [] [(.ptr x0 0)]) h1
theorem FG (n:Nat) (k0:Q0) (k:fE) (hk:q0 k0 k) (a0:AV) (h:Heap):(r9 n k0) ⟨cH [(p0,a0)],h⟩=(mh n k) a0 h:=by
  obtain rfl:=fx2 hk
  kernel_rfl
def FW:Q1:=r9 n k0
def mg (n:Nat) (a0:AV) (h:Heap) (k:fE):CRes:=mh n k a0 h
theorem Fp (n:Nat) (k0:Q0) (s:St):D (ez []) gJ n ml (cG gH k0) (fun _ _=>.err) (cG gH k0) s=FW n k0 s:=by kernel_rfl
theorem Fo (n:Nat) (a0:AV) (h:Heap) (k0:Q0):W mm gH [] gJ n ml [a0] h k0=mg n a0 h (fun u0 h=>k0 u0 h):=by
  let k:fE:=fun u0 h=>k0 u0 h
  have hk:q0 k0 k:=fun _ _=>rfl
  have hb:∀ F:Tr AV→CRes,fJ mm [a0] .leaf F=F (cH [(p0,a0)]):=fun F=>by kernel_rfl
  exact (lD hb).trans ((Fp n k0 _).trans (FG n k0 k hk a0 h))
end
def gG (n:Nat):cT:=mg n
abbrev cq:=AV→Heap→(AV→Heap→CRes)→CRes
abbrev lQ:=AV→Heap→CRes
def pV (g:cq):Wr:=fun l h k=>kL l fun a0 l=>lw l (g a0 h fun u0 h=>k u0 h)
def iu (ai:bg) (bK:Wr) (aQ:cT):dD:=ez [(cY,cU ai),(qO,bK),(gK,fC aQ)]
abbrev oZ (k0:Q0) (k:lQ):Prop:=∀ u0 h,k0 u0 h=k u0 h
abbrev wt:Type:=AV→Heap→CRes
abbrev DM (J:Q1) (j:wt):Prop:=∀ v3 h,J ⟨cH [(p3,v3)],h⟩=j v3 h
abbrev lN:Type:=AV→AV→AV→Int→Int→Heap→CRes
abbrev vW (J:Q1) (j:lN):Prop:=∀ v0 v3 v14 v15 v16 h,J ⟨cH [(p0,v0),(p3,v3),(p14,v14),(p15,(.int .i64 v15)),(p16,(.int .i64 v16))],h⟩=j v0 v3 v14 v15 v16 h
section
variable (n:Nat) (ai:bg) (bK:Wr) (aQ:cT) (k0:Q0) (k:lQ)
def PN (n:Nat) (ai:bg) (bK:Wr) (aQ:cT) (k0:Q0):Q1:=(bE (iu ai bK aQ) f0 PX (cG pY k0))
def Dl (n:Nat) (ai:bg) (bK:Wr) (aQ:cT) (k:lQ) (v3:AV) (h:Heap):CRes:=
 k v3 h
theorem ag4 (hk:oZ k0 k):DM (PN n ai bK aQ k0) (Dl n ai bK aQ k):=by
  obtain rfl:=fx2 hk
  intro v3 h
  kernel_rfl
def P8:Q1:=PN n ai bK aQ k0
def vT:wt:=Dl n ai bK aQ k
theorem ahB (hk:oZ k0 k):DM (P8 n ai bK aQ k0) (vT n ai bK aQ k):=ag4 n ai bK aQ k0 k hk
def P2 (n:Nat) (ai:bg) (bK:Wr) (aQ:cT) (k0:Q0) (J0:Q1) (J1:Q1):Q1:=(bE (iu ai bK aQ) f0 Pp (fun s=>dH (.t p17) s (bE (iu ai bK aQ) f0 PM (bE (iu ai bK aQ) f0 PU (bE (iu ai bK aQ) f0 Qr (fun s=>cI DQ s J1)))) (fun s=>cI Qz s J0)))
def vU (n:Nat) (ai:bg) (bK:Wr) (aQ:cT) (k:lQ) (j0:wt) (j1:lN) (v0:AV) (v3:AV) (v14:AV) (v15:Int) (v16:Int) (h:Heap):CRes:=
 ifB (ltF v16 v15)
 (Lw .i64 1 h v14 v16 fun x9 x10=>
 TE 12 h v0 1 false fun x11 x12=>
 Tn h (.cell .int) (.int .u8 0) x12 (.int .i64 x10) fun x13 b14=>
 Wa .u8 x13 fun x15=>
 yL [(.int .i64 0),(.int .u8 0)] [(0,1,(.int .i64 x10)),(1,1,(.int .u8 x15))] fun x16=>
 pG h 1 [(.int .i64 0),(.int .u8 0)] [(0,2,x16)] fun x17 h18=>
 mQ h18 2 v3 x17 fun x19 h20=>
 lp .i64 v16 1 fun x21=>
 j1 v0 x19 v14 v15 x21 h20)
 (j0 v3 h)
theorem ah5 (hk:oZ k0 k) {J0:Q1} {j0:wt} (h0:DM J0 j0) {J1:Q1} {j1:lN} (h1:vW J1 j1):vW (P2 n ai bK aQ k0 J0 J1) (vU n ai bK aQ k j0 j1):=by
  obtain rfl:=fx2 hk
  obtain rfl:=fx2 h0
  obtain rfl:=fx6 h1
  intro v0 v3 v14 v15 v16 h
  kernel_rfl
def Qp (m:Nat):Q1:=Nat.rec (motive:=fun _=>Q1) (fun _=>.err) (fun _ ih=>P2 n ai bK aQ k0 (P8 n ai bK aQ k0) ih) m
def qJ (m:Nat):lN:=Nat.rec (motive:=fun _=>lN) (fun _ _ _ _ _ _=>.err) (fun _ ih=>vU n ai bK aQ k (vT n ai bK aQ k) ih) m
theorem af4 (m:Nat):qJ n ai bK aQ k (m+1)=vU n ai bK aQ k (vT n ai bK aQ k) (qJ n ai bK aQ k m):=rfl
theorem aie (hk:oZ k0 k) (m:Nat):vW (Qp n ai bK aQ k0 m) (qJ n ai bK aQ k m):=by
  induction m with
  | zero=>intro v0 v3 v14 v15 v16 h; rfl
  | succ m ih=>exact ah5 n ai bK aQ k0 k hk (ahB n ai bK aQ k0 k hk) ih
def Vi (n:Nat) (ai:bg) (bK:Wr) (aQ:cT) (k0:Q0) (J1:Q1):Q1:=(bE (iu ai bK aQ) f0 PI (bE (iu ai bK aQ) f0 Pz (fun s=>dH (.t p8) s (bE (iu ai bK aQ) f0 PO (cG pY k0)) (bE (iu ai bK aQ) f0 Pe (bE (iu ai bK aQ) f0 Qv (fun s=>cI DQ s J1))))))
def Id (n:Nat) (ai:bg) (bK:Wr) (aQ:cT) (k:lQ) (j1:lN) (a0:AV) (h:Heap):CRes:=
 ai a0 h fun x0 h1=>
 ifB (fS x0)
 (k .nilslice h1)
 (TE 12 h1 a0 1 false fun x2 x3=>
 aQ x3 h1 fun x4 h5=>
 bK [x4] h5 fun x6 h7=>
 fH x6 fun x8=>
 j1 a0 .nilslice x6 x8 0 h7)
theorem alP (n:Nat) (ai:bg) (bK:Wr) (aQ:cT) (k0:Q0) (k:lQ) (hk:oZ k0 k) {J1:Q1} {j1:lN} (h1:vW J1 j1) (a0:AV) (h:Heap):(Vi n ai bK aQ k0 J1) ⟨cH [(p0,a0)],h⟩=(Id n ai bK aQ k j1) a0 h:=by
  obtain rfl:=fx2 hk
  obtain rfl:=fx6 h1
  kernel_rfl
def alb:Q1:=Vi n ai bK aQ k0 (Qp n ai bK aQ k0 n)
def HO (n:Nat) (ai:bg) (bK:Wr) (aQ:cT) (a0:AV) (h:Heap) (k:lQ):CRes:=Id n ai bK aQ k (qJ n ai bK aQ k n) a0 h
theorem alq (n:Nat) (ai:bg) (bK:Wr) (aQ:cT) (k0:Q0) (s:St):D (ez [(cY,cU ai),(qO,bK),(gK,fC aQ)]) f0 n HY (cG pY k0) (fun _ _=>.err) (cG pY k0) s=alb n ai bK aQ k0 s:=by kernel_rfl
theorem ak7 (n:Nat) (ai:bg) (bK:Wr) (aQ:cT) (a0:AV) (h:Heap) (k0:Q0):W HG pY [(cY,cU ai),(qO,bK),(gK,fC aQ)] f0 n HY [a0] h k0=HO n ai bK aQ a0 h (fun u0 h=>k0 u0 h):=by
  let k:lQ:=fun u0 h=>k0 u0 h
  have hk:oZ k0 k:=fun _ _=>rfl
  have hb:∀ F:Tr AV→CRes,fJ HG [a0] .leaf F=F (cH [(p0,a0)]):=fun F=>by kernel_rfl
  exact (lD hb).trans ((alq n ai bK aQ k0 _).trans (alP n ai bK aQ k0 k hk (aie n ai bK aQ k0 k hk n) a0 h))
end
def jT (n:Nat):cq:=HO n (dn n) (GF lM) (gG n)
/-! cofferdam/cofferdamlaw12.has -/
abbrev cb:=AV→Int→Heap→(Bool→Heap→CRes)→CRes
abbrev jJ:=Bool→Heap→CRes
def nG (g:cb):Wr:=fun l h k=>kL l fun a0 l=>nH .i64 l fun a1 l=>lw l (g a0 a1 h fun u0 h=>k (.bool u0) h)
def lg:dD:=ez []
abbrev mw (k0:Q0) (k:jJ):Prop:=∀ u0 h,k0 (.bool u0) h=k u0 h
abbrev sU:Type:=Heap→CRes
abbrev zi (J:Q1) (j:sU):Prop:=∀ h,J ⟨cH [],h⟩=j h
abbrev jX:Type:=AV→Int→Int→Heap→CRes
abbrev sD (J:Q1) (j:jX):Prop:=∀ v0 v1 v5 h,J ⟨cH [(p0,v0),(p1,(.int .i64 v1)),(p5,(.int .i64 v5))],h⟩=j v0 v1 v5 h
section
variable (n:Nat) (k0:Q0) (k:jJ)
def Lk (n:Nat) (k0:Q0):Q1:=(bE (lg) gR Kg (cG nE k0))
def JC (n:Nat) (k:jJ) (h:Heap):CRes:=
 k false h
theorem acg (hk:mw k0 k):zi (Lk n k0) (JC n k):=by
  obtain rfl:=fx2 hk
  intro h
  kernel_rfl
def JV:Q1:=Lk n k0
def za:sU:=JC n k
theorem abq (hk:mw k0 k):zi (JV n k0) (za n k):=acg n k0 k hk
def Js (n:Nat) (k0:Q0) (J0:Q1) (J1:Q1):Q1:=(bE (lg) gR JJ (fun s=>dH (.t p9) s (bE (lg) gR Lq (fun s=>dH (.t p17) s (bE (lg) gR JA (cG nE k0)) (bE (lg) gR KZ (fun s=>cI zm s J1)))) (fun s=>cI KM s J0)))
def sG (n:Nat) (k:jJ) (j0:sU) (j1:jX) (v0:AV) (v1:Int) (v5:Int) (h:Heap):CRes:=
 fH v0 fun x0=>
 ifB (ltF v5 x0)
 (Lw .i64 1 h v0 v5 fun x1 x2=>
 ifB (eqF x2 v1)
 (k true h)
 (lp .i64 v5 1 fun x3=>
 j1 v0 v1 x3 h))
 (j0 h)
theorem abW (hk:mw k0 k) {J0:Q1} {j0:sU} (h0:zi J0 j0) {J1:Q1} {j1:jX} (h1:sD J1 j1):sD (Js n k0 J0 J1) (sG n k j0 j1):=by
  obtain rfl:=fx2 hk
  obtain rfl:=fx1 h0
  obtain rfl:=fx4 h1
  intro v0 v1 v5 h
  kernel_rfl
def JR (m:Nat):Q1:=Nat.rec (motive:=fun _=>Q1) (fun _=>.err) (fun _ ih=>Js n k0 (JV n k0) ih) m
def ov (m:Nat):jX:=Nat.rec (motive:=fun _=>jX) (fun _ _ _ _=>.err) (fun _ ih=>sG n k (za n k) ih) m
theorem ab9 (m:Nat):ov n k (m+1)=sG n k (za n k) (ov n k m):=rfl
theorem ab1 (hk:mw k0 k) (m:Nat):sD (JR n k0 m) (ov n k m):=by
  induction m with
  | zero=>intro v0 v1 v5 h; rfl
  | succ m ih=>exact abW n k0 k hk (abq n k0 k hk) ih
def Pn (n:Nat) (k0:Q0) (J1:Q1):Q1:=(bE (lg) gR Kt (bE (lg) gR KL (fun s=>cI zm s J1)))
def Ds (n:Nat) (k:jJ) (j1:jX) (a0:AV) (a1:Int) (h:Heap):CRes:=
 j1 a0 a1 0 h
theorem agD (n:Nat) (k0:Q0) (k:jJ) (hk:mw k0 k) {J1:Q1} {j1:jX} (h1:sD J1 j1) (a0:AV) (a1:Int) (h:Heap):(Pn n k0 J1) ⟨cH [(p0,a0),(p1,(.int .i64 a1))],h⟩=(Ds n k j1) a0 a1 h:=by
  obtain rfl:=fx2 hk
  obtain rfl:=fx4 h1
  kernel_rfl
def ahJ:Q1:=Pn n k0 (JR n k0 n)
def D4 (n:Nat) (a0:AV) (a1:Int) (h:Heap) (k:jJ):CRes:=Ds n k (ov n k n) a0 a1 h
theorem afL (n:Nat) (k0:Q0) (s:St):D (ez []) gR n DF (cG nE k0) (fun _ _=>.err) (cG nE k0) s=ahJ n k0 s:=by kernel_rfl
theorem agw (n:Nat) (a0:AV) (a1:Int) (h:Heap) (k0:Q0):W DR nE [] gR n DF [a0,(.int .i64 a1)] h k0=D4 n a0 a1 h (fun u0 h=>k0 (.bool u0) h):=by
  let k:jJ:=fun u0 h=>k0 (.bool u0) h
  have hk:mw k0 k:=fun _ _=>rfl
  have hb:∀ F:Tr AV→CRes,fJ DR [a0,(.int .i64 a1)] .leaf F=F (cH [(p0,a0),(p1,(.int .i64 a1))]):=fun F=>by kernel_rfl
  exact (lD hb).trans ((afL n k0 _).trans (agD n k0 k hk (ab1 n k0 k hk n) a0 a1 h))
end
def dk (n:Nat):cb:=D4 n
/-! cofferdam/cofferdamlaw12.adds -/
abbrev bO:=AV→Int→AV→Heap→(Bool→Heap→CRes)→CRes
abbrev da:=Bool→Heap→CRes
def my (g:bO):Wr:=fun l h k=>kL l fun a0 l=>nH .i64 l fun a1 l=>kL l fun a2 l=>lw l (g a0 a1 a2 h fun u0 h=>k (.bool u0) h)
def cx (aq:bT) (aa:bf) (aH:cM) (aB:ci) (aD:cq) (aw:cb):dD:=ez [(oF,lZ aq),(li,jv aa),(sK,qe aH),(se,pd aB),(uc,pV aD),(qF,nG aw)]
abbrev cm (k0:Q0) (k:da):Prop:=∀ u0 h,k0 (.bool u0) h=k u0 h
abbrev rh:Type:=Bool→Heap→CRes
abbrev yi (J:Q1) (j:rh):Prop:=∀ v156 h,J ⟨cH [(aqo,(.bool v156))],h⟩=j v156 h
abbrev rl:Type:=Int→Int→AV→Bool→Heap→CRes
abbrev yM (J:Q1) (j:rl):Prop:=∀ v7 v12 v15 v148 h,J ⟨cH [(p7,(.int .i64 v7)),(p12,(.int .i64 v12)),(p15,v15),(p148,(.bool v148))],h⟩=j v7 v12 v15 v148 h
abbrev rj:Type:=Int→AV→Int→AV→Bool→Heap→CRes
abbrev xz (J:Q1) (j:rj):Prop:=∀ v7 v9 v12 v15 v142 h,J ⟨cH [(p7,(.int .i64 v7)),(p9,v9),(p12,(.int .i64 v12)),(p15,v15),(p142,(.bool v142))],h⟩=j v7 v9 v12 v15 v142 h
abbrev rk:Type:=Int→Int→AV→Int→Int→AV→Heap→CRes
abbrev yt (J:Q1) (j:rk):Prop:=∀ v7 v8 v9 v10 v12 v15 h,J ⟨cH [(p7,(.int .i64 v7)),(p8,(.int .i64 v8)),(p9,v9),(p10,(.int .i64 v10)),(p12,(.int .i64 v12)),(p15,v15)],h⟩=j v7 v8 v9 v10 v12 v15 h
abbrev qd:Type:=Int→AV→Int→Int→AV→Int→Int→AV→Int→Bool→Heap→CRes
abbrev wS (J:Q1) (j:qd):Prop:=∀ v1 v3 v7 v8 v9 v10 v12 v15 v16 v135 h,J ⟨cH [(p1,(.int .i64 v1)),(p3,v3),(p7,(.int .i64 v7)),(p8,(.int .i64 v8)),(p9,v9),(p10,(.int .i64 v10)),(p12,(.int .i64 v12)),(p15,v15),(p16,(.int .i64 v16)),(p135,(.bool v135))],h⟩=j v1 v3 v7 v8 v9 v10 v12 v15 v16 v135 h
abbrev rb:Type:=Int→AV→Int→Int→AV→Int→Int→AV→Int→Bool→Heap→CRes
abbrev ym (J:Q1) (j:rb):Prop:=∀ v1 v3 v7 v8 v9 v10 v12 v15 v16 v127 h,J ⟨cH [(p1,(.int .i64 v1)),(p3,v3),(p7,(.int .i64 v7)),(p8,(.int .i64 v8)),(p9,v9),(p10,(.int .i64 v10)),(p12,(.int .i64 v12)),(p15,v15),(p16,(.int .i64 v16)),(p127,(.bool v127))],h⟩=j v1 v3 v7 v8 v9 v10 v12 v15 v16 v127 h
abbrev qW:Type:=Int→AV→Int→Int→AV→Int→Int→AV→Int→Bool→Heap→CRes
abbrev yw (J:Q1) (j:qW):Prop:=∀ v1 v3 v7 v8 v9 v10 v12 v15 v16 v119 h,J ⟨cH [(p1,(.int .i64 v1)),(p3,v3),(p7,(.int .i64 v7)),(p8,(.int .i64 v8)),(p9,v9),(p10,(.int .i64 v10)),(p12,(.int .i64 v12)),(p15,v15),(p16,(.int .i64 v16)),(p119,(.bool v119))],h⟩=j v1 v3 v7 v8 v9 v10 v12 v15 v16 v119 h
abbrev q7:Type:=Int→AV→Int→Int→AV→Int→Int→AV→Int→Bool→Heap→CRes
abbrev yu (J:Q1) (j:q7):Prop:=∀ v1 v3 v7 v8 v9 v10 v12 v15 v16 v101 h,J ⟨cH [(p1,(.int .i64 v1)),(p3,v3),(p7,(.int .i64 v7)),(p8,(.int .i64 v8)),(p9,v9),(p10,(.int .i64 v10)),(p12,(.int .i64 v12)),(p15,v15),(p16,(.int .i64 v16)),(p101,(.bool v101))],h⟩=j v1 v3 v7 v8 v9 v10 v12 v15 v16 v101 h
abbrev qR:Type:=Int→AV→Int→Int→AV→Int→Int→AV→Int→Bool→Heap→CRes
abbrev xS (J:Q1) (j:qR):Prop:=∀ v1 v3 v7 v8 v9 v10 v12 v15 v16 v91 h,J ⟨cH [(p1,(.int .i64 v1)),(p3,v3),(p7,(.int .i64 v7)),(p8,(.int .i64 v8)),(p9,v9),(p10,(.int .i64 v10)),(p12,(.int .i64 v12)),(p15,v15),(p16,(.int .i64 v16)),(p91,(.bool v91))],h⟩=j v1 v3 v7 v8 v9 v10 v12 v15 v16 v91 h
abbrev rm:Type:=Int→AV→Int→Int→AV→Int→Int→AV→Int→Bool→Heap→CRes
abbrev xT (J:Q1) (j:rm):Prop:=∀ v1 v3 v7 v8 v9 v10 v12 v15 v16 v83 h,J ⟨cH [(p1,(.int .i64 v1)),(p3,v3),(p7,(.int .i64 v7)),(p8,(.int .i64 v8)),(p9,v9),(p10,(.int .i64 v10)),(p12,(.int .i64 v12)),(p15,v15),(p16,(.int .i64 v16)),(p83,(.bool v83))],h⟩=j v1 v3 v7 v8 v9 v10 v12 v15 v16 v83 h
abbrev dj:Type:=Int→AV→Int→Int→AV→Int→Int→AV→Int→Heap→CRes
abbrev fO (J:Q1) (j:dj):Prop:=∀ v1 v3 v7 v8 v9 v10 v12 v15 v16 h,J ⟨cH [(p1,(.int .i64 v1)),(p3,v3),(p7,(.int .i64 v7)),(p8,(.int .i64 v8)),(p9,v9),(p10,(.int .i64 v10)),(p12,(.int .i64 v12)),(p15,v15),(p16,(.int .i64 v16))],h⟩=j v1 v3 v7 v8 v9 v10 v12 v15 v16 h
abbrev qk:Type:=Int→AV→AV→Int→Int→AV→Int→Int→Heap→CRes
abbrev wL (J:Q1) (j:qk):Prop:=∀ v1 v2 v3 v7 v8 v9 v10 v12 h,J ⟨cH [(p1,(.int .i64 v1)),(p2,v2),(p3,v3),(p7,(.int .i64 v7)),(p8,(.int .i64 v8)),(p9,v9),(p10,(.int .i64 v10)),(p12,(.int .i64 v12))],h⟩=j v1 v2 v3 v7 v8 v9 v10 v12 h
abbrev i7:Type:=Int→AV→AV→Int→Int→AV→Int→Int→AV→Int→Int→Heap→CRes
abbrev qz (J:Q1) (j:i7):Prop:=∀ v1 v2 v3 v7 v8 v9 v10 v12 v50 v51 v52 h,J ⟨cH [(p1,(.int .i64 v1)),(p2,v2),(p3,v3),(p7,(.int .i64 v7)),(p8,(.int .i64 v8)),(p9,v9),(p10,(.int .i64 v10)),(p12,(.int .i64 v12)),(p50,v50),(p51,(.int .i64 v51)),(p52,(.int .i64 v52))],h⟩=j v1 v2 v3 v7 v8 v9 v10 v12 v50 v51 v52 h
abbrev qn:Type:=Int→AV→AV→Int→Int→AV→Int→Heap→CRes
abbrev wG (J:Q1) (j:qn):Prop:=∀ v1 v2 v3 v7 v8 v9 v10 h,J ⟨cH [(p1,(.int .i64 v1)),(p2,v2),(p3,v3),(p7,(.int .i64 v7)),(p8,(.int .i64 v8)),(p9,v9),(p10,(.int .i64 v10))],h⟩=j v1 v2 v3 v7 v8 v9 v10 h
abbrev qw:Type:=Int→AV→AV→Int→Int→AV→Int→Int→Bool→Heap→CRes
abbrev wD (J:Q1) (j:qw):Prop:=∀ v1 v2 v3 v7 v8 v9 v10 v11 v48 h,J ⟨cH [(p1,(.int .i64 v1)),(p2,v2),(p3,v3),(p7,(.int .i64 v7)),(p8,(.int .i64 v8)),(p9,v9),(p10,(.int .i64 v10)),(p11,(.int .u8 v11)),(p48,(.bool v48))],h⟩=j v1 v2 v3 v7 v8 v9 v10 v11 v48 h
abbrev gk:Type:=Int→AV→AV→Int→Int→AV→Int→Int→Heap→CRes
abbrev mC (J:Q1) (j:gk):Prop:=∀ v1 v2 v3 v7 v8 v9 v10 v11 h,J ⟨cH [(p1,(.int .i64 v1)),(p2,v2),(p3,v3),(p7,(.int .i64 v7)),(p8,(.int .i64 v8)),(p9,v9),(p10,(.int .i64 v10)),(p11,(.int .u8 v11))],h⟩=j v1 v2 v3 v7 v8 v9 v10 v11 h
section
variable (n:Nat) (aq:bT) (aa:bf) (aH:cM) (aB:ci) (aD:cq) (aw:cb) (k0:Q0) (k:da)
def IX (n:Nat) (aq:bT) (aa:bf) (aH:cM) (aB:ci) (aD:cq) (aw:cb) (k0:Q0):Q1:=(bE (cx aq aa aH aB aD aw) ct I6 (cG kY k0))
def yG (n:Nat) (aq:bT) (aa:bf) (aH:cM) (aB:ci) (aD:cq) (aw:cb) (k:da) (v156:Bool) (h:Heap):CRes:=
 k v156 h
theorem aa6 (hk:cm k0 k):yi (IX n aq aa aH aB aD aw k0) (yG n aq aa aH aB aD aw k):=by
  obtain rfl:=fx2 hk
  intro v156 h
  kernel_rfl
def II:Q1:=IX n aq aa aH aB aD aw k0
def yr:rh:=yG n aq aa aH aB aD aw k
theorem ZT (hk:cm k0 k):yi (II n aq aa aH aB aD aw k0) (yr n aq aa aH aB aD aw k):=aa6 n aq aa aH aB aD aw k0 k hk
def IZ (n:Nat) (aq:bT) (aa:bf) (aH:cM) (aB:ci) (aD:cq) (aw:cb) (k0:Q0) (J2:Q1):Q1:=(bE (cx aq aa aH aB aD aw) ct IA (fun s=>cI IQ s J2))
def xD (n:Nat) (aq:bT) (aa:bf) (aH:cM) (aB:ci) (aD:cq) (aw:cb) (k:da) (j2:rh) (v7:Int) (v12:Int) (v15:AV) (v148:Bool) (h:Heap):CRes:=
 ifB v148
 (fH v15 fun x45=>
 YK .i64 v7 v12 fun x46=>
 j2 (eqF x45 x46) h)
 (j2 false h)
theorem ZF (hk:cm k0 k) {J2:Q1} {j2:rh} (h2:yi J2 j2):yM (IZ n aq aa aH aB aD aw k0 J2) (xD n aq aa aH aB aD aw k j2):=by
  obtain rfl:=fx2 hk
  obtain rfl:=fx2 h2
  intro v7 v12 v15 v148 h
  kernel_rfl
def IO:Q1:=IZ n aq aa aH aB aD aw k0 (II n aq aa aH aB aD aw k0)
def ye:rl:=xD n aq aa aH aB aD aw k (yr n aq aa aH aB aD aw k)
theorem abj (hk:cm k0 k):yM (IO n aq aa aH aB aD aw k0) (ye n aq aa aH aB aD aw k):=ZF n aq aa aH aB aD aw k0 k hk (ZT n aq aa aH aB aD aw k0 k hk)
def IH (n:Nat) (aq:bT) (aa:bf) (aH:cM) (aB:ci) (aD:cq) (aw:cb) (k0:Q0) (J1:Q1):Q1:=(bE (cx aq aa aH aB aD aw) ct Ja (fun s=>cI I3 s J1))
def xL (n:Nat) (aq:bT) (aa:bf) (aH:cM) (aB:ci) (aD:cq) (aw:cb) (k:da) (j1:rl) (v7:Int) (v9:AV) (v12:Int) (v15:AV) (v142:Bool) (h:Heap):CRes:=
 ifB v142
 (Fw 1 7 v9 0 fun x40=>
 ldI .i64 h x40 fun x41=>
 j1 v7 v12 v15 (eqF v12 x41) h)
 (j1 v7 v12 v15 false h)
theorem Zy (hk:cm k0 k) {J1:Q1} {j1:rl} (h1:yM J1 j1):xz (IH n aq aa aH aB aD aw k0 J1) (xL n aq aa aH aB aD aw k j1):=by
  obtain rfl:=fx2 hk
  obtain rfl:=fx5 h1
  intro v7 v9 v12 v15 v142 h
  kernel_rfl
def Ii:Q1:=IH n aq aa aH aB aD aw k0 (IO n aq aa aH aB aD aw k0)
def yn:rj:=xL n aq aa aH aB aD aw k (ye n aq aa aH aB aD aw k)
theorem Zb (hk:cm k0 k):xz (Ii n aq aa aH aB aD aw k0) (yn n aq aa aH aB aD aw k):=Zy n aq aa aH aB aD aw k0 k hk (abj n aq aa aH aB aD aw k0 k hk)
def IT (n:Nat) (aq:bT) (aa:bf) (aH:cM) (aB:ci) (aD:cq) (aw:cb) (k0:Q0) (J0:Q1):Q1:=(bE (cx aq aa aH aB aD aw) ct IR (fun s=>cI I7 s J0))
def yj (n:Nat) (aq:bT) (aa:bf) (aH:cM) (aB:ci) (aD:cq) (aw:cb) (k:da) (j0:rj) (v7:Int) (v8:Int) (v9:AV) (v10:Int) (v12:Int) (v15:AV) (h:Heap):CRes:=
 ifB (eqF v8 0)
 (j0 v7 v9 v12 v15 (eqF v10 v7) h)
 (j0 v7 v9 v12 v15 false h)
theorem aaC (hk:cm k0 k) {J0:Q1} {j0:rj} (h0:xz J0 j0):yt (IT n aq aa aH aB aD aw k0 J0) (yj n aq aa aH aB aD aw k j0):=by
  obtain rfl:=fx2 hk
  obtain rfl:=fx6 h0
  intro v7 v8 v9 v10 v12 v15 h
  kernel_rfl
def Iq:Q1:=IT n aq aa aH aB aD aw k0 (Ii n aq aa aH aB aD aw k0)
def rc:rk:=yj n aq aa aH aB aD aw k (yn n aq aa aH aB aD aw k)
theorem YD (hk:cm k0 k):yt (Iq n aq aa aH aB aD aw k0) (rc n aq aa aH aB aD aw k):=aaC n aq aa aH aB aD aw k0 k hk (Zb n aq aa aH aB aD aw k0 k hk)
def Gj (n:Nat) (aq:bT) (aa:bf) (aH:cM) (aB:ci) (aD:cq) (aw:cb) (k0:Q0) (J4:Q1):Q1:=(fun s=>dH (.t p135) s (bE (cx aq aa aH aB aD aw) ct Jl (cG kY k0)) (bE (cx aq aa aH aB aD aw) ct IL (fun s=>cI xX s J4)))
def wV (n:Nat) (aq:bT) (aa:bf) (aH:cM) (aB:ci) (aD:cq) (aw:cb) (k:da) (j4:dj) (v1:Int) (v3:AV) (v7:Int) (v8:Int) (v9:AV) (v10:Int) (v12:Int) (v15:AV) (v16:Int) (v135:Bool) (h:Heap):CRes:=
 ifB v135
 (k false h)
 (lp .i64 v16 1 fun x71=>
 j4 v1 v3 v7 v8 v9 v10 v12 v15 x71 h)
theorem Xz (hk:cm k0 k) {J4:Q1} {j4:dj} (h4:fO J4 j4):wS (Gj n aq aa aH aB aD aw k0 J4) (wV n aq aa aH aB aD aw k j4):=by
  obtain rfl:=fx2 hk
  obtain rfl:=fx10 h4
  intro v1 v3 v7 v8 v9 v10 v12 v15 v16 v135 h
  kernel_rfl
def Gv (J4:Q1):Q1:=Gj n aq aa aH aB aD aw k0 J4
def qc (j4:dj):qd:=wV n aq aa aH aB aD aw k j4
theorem Xu (hk:cm k0 k) {J4:Q1} {j4:dj} (h4:fO J4 j4):wS (Gv n aq aa aH aB aD aw k0 J4) (qc n aq aa aH aB aD aw k j4):=Xz n aq aa aH aB aD aw k0 k hk h4
def Ix (n:Nat) (aq:bT) (aa:bf) (aH:cM) (aB:ci) (aD:cq) (aw:cb) (k0:Q0) (J10:Q1):Q1:=(bE (cx aq aa aH aB aD aw) ct Gl (fun s=>cI G0 s J10))
def xQ (n:Nat) (aq:bT) (aa:bf) (aH:cM) (aB:ci) (aD:cq) (aw:cb) (k:da) (j10:qd) (v1:Int) (v3:AV) (v7:Int) (v8:Int) (v9:AV) (v10:Int) (v12:Int) (v15:AV) (v16:Int) (v127:Bool) (h:Heap):CRes:=
 ifB v127
 (j10 v1 v3 v7 v8 v9 v10 v12 v15 v16 true h)
 (LC 2 v15 v16 fun x68=>
 iY .u8 1 h x68 fun x69 x70=>
 j10 v1 v3 v7 v8 v9 v10 v12 v15 v16 (ltF 6 x70) h)
theorem YQ (hk:cm k0 k) {J10:Q1} {j10:qd} (h10:wS J10 j10):ym (Ix n aq aa aH aB aD aw k0 J10) (xQ n aq aa aH aB aD aw k j10):=by
  obtain rfl:=fx2 hk
  obtain rfl:=fx11 h10
  intro v1 v3 v7 v8 v9 v10 v12 v15 v16 v127 h
  kernel_rfl
def IP (J4:Q1):Q1:=Ix n aq aa aH aB aD aw k0 (Gv n aq aa aH aB aD aw k0 J4)
def qS (j4:dj):rb:=xQ n aq aa aH aB aD aw k (qc n aq aa aH aB aD aw k j4)
theorem aao (hk:cm k0 k) {J4:Q1} {j4:dj} (h4:fO J4 j4):ym (IP n aq aa aH aB aD aw k0 J4) (qS n aq aa aH aB aD aw k j4):=YQ n aq aa aH aB aD aw k0 k hk (Xu n aq aa aH aB aD aw k0 k hk h4)
def Jc (n:Nat) (aq:bT) (aa:bf) (aH:cM) (aB:ci) (aD:cq) (aw:cb) (k0:Q0) (J9:Q1):Q1:=(bE (cx aq aa aH aB aD aw) ct GQ (fun s=>cI Iv s J9))
def yN (n:Nat) (aq:bT) (aa:bf) (aH:cM) (aB:ci) (aD:cq) (aw:cb) (k:da) (j9:rb) (v1:Int) (v3:AV) (v7:Int) (v8:Int) (v9:AV) (v10:Int) (v12:Int) (v15:AV) (v16:Int) (v119:Bool) (h:Heap):CRes:=
 ifB v119
 (j9 v1 v3 v7 v8 v9 v10 v12 v15 v16 true h)
 (LC 2 v15 v16 fun x65=>
 iY .u8 1 h x65 fun x66 x67=>
 j9 v1 v3 v7 v8 v9 v10 v12 v15 v16 (ltF x67 1) h)
theorem aaL (hk:cm k0 k) {J9:Q1} {j9:rb} (h9:ym J9 j9):yw (Jc n aq aa aH aB aD aw k0 J9) (yN n aq aa aH aB aD aw k j9):=by
  obtain rfl:=fx2 hk
  obtain rfl:=fx11 h9
  intro v1 v3 v7 v8 v9 v10 v12 v15 v16 v119 h
  kernel_rfl
def Iz (J4:Q1):Q1:=Jc n aq aa aH aB aD aw k0 (IP n aq aa aH aB aD aw k0 J4)
def re (j4:dj):qW:=yN n aq aa aH aB aD aw k (qS n aq aa aH aB aD aw k j4)
theorem YZ (hk:cm k0 k) {J4:Q1} {j4:dj} (h4:fO J4 j4):yw (Iz n aq aa aH aB aD aw k0 J4) (re n aq aa aH aB aD aw k j4):=aaL n aq aa aH aB aD aw k0 k hk (aao n aq aa aH aB aD aw k0 k hk h4)
def IU (n:Nat) (aq:bT) (aa:bf) (aH:cM) (aB:ci) (aD:cq) (aw:cb) (k0:Q0) (J8:Q1):Q1:=(bE (cx aq aa aH aB aD aw) ct Ij (fun s=>cI Io s J8))
def yE (n:Nat) (aq:bT) (aa:bf) (aH:cM) (aB:ci) (aD:cq) (aw:cb) (k:da) (j8:qW) (v1:Int) (v3:AV) (v7:Int) (v8:Int) (v9:AV) (v10:Int) (v12:Int) (v15:AV) (v16:Int) (v101:Bool) (h:Heap):CRes:=
 ifB v101
 (j8 v1 v3 v7 v8 v9 v10 v12 v15 v16 true h)
 (faK 16 v3 fun x52=>
 f8 h x52 1 false fun x53=>
 LC 8 x53 v1 fun x54=>
 fld 0 h x54 1 false fun x55 x56=>
 LC 2 v15 v16 fun x57=>
 iY .i64 0 h x57 fun x58 x59=>
 iY .i64 1 h v3 fun x60 x61=>
 asT .i64 x59 x61 fun x62=>
 aw x56 x62 h fun x63 h64=>
 j8 v1 v3 v7 v8 v9 v10 v12 v15 v16 (fS x63) h64)
theorem Z3 (hk:cm k0 k) {J8:Q1} {j8:qW} (h8:yw J8 j8):yu (IU n aq aa aH aB aD aw k0 J8) (yE n aq aa aH aB aD aw k j8):=by
  obtain rfl:=fx2 hk
  obtain rfl:=fx11 h8
  intro v1 v3 v7 v8 v9 v10 v12 v15 v16 v101 h
  kernel_rfl
def IM (J4:Q1):Q1:=IU n aq aa aH aB aD aw k0 (Iz n aq aa aH aB aD aw k0 J4)
def qT (j4:dj):q7:=yE n aq aa aH aB aD aw k (re n aq aa aH aB aD aw k j4)
theorem Y0 (hk:cm k0 k) {J4:Q1} {j4:dj} (h4:fO J4 j4):yu (IM n aq aa aH aB aD aw k0 J4) (qT n aq aa aH aB aD aw k j4):=Z3 n aq aa aH aB aD aw k0 k hk (YZ n aq aa aH aB aD aw k0 k hk h4)
def Ji (n:Nat) (aq:bT) (aa:bf) (aH:cM) (aB:ci) (aD:cq) (aw:cb) (k0:Q0) (J7:Q1):Q1:=(bE (cx aq aa aH aB aD aw) ct Ir (fun s=>cI IY s J7))
def yf (n:Nat) (aq:bT) (aa:bf) (aH:cM) (aB:ci) (aD:cq) (aw:cb) (k:da) (j7:q7) (v1:Int) (v3:AV) (v7:Int) (v8:Int) (v9:AV) (v10:Int) (v12:Int) (v15:AV) (v16:Int) (v91:Bool) (h:Heap):CRes:=
 ifB v91
 (j7 v1 v3 v7 v8 v9 v10 v12 v15 v16 true h)
 (LC 2 v15 v16 fun x47=>
 iY .i64 0 h x47 fun x48 x49=>
 iY .i64 0 h v3 fun x50 x51=>
 j7 v1 v3 v7 v8 v9 v10 v12 v15 v16 (fS (ltF x49 x51)) h)
theorem Zz (hk:cm k0 k) {J7:Q1} {j7:q7} (h7:yu J7 j7):xS (Ji n aq aa aH aB aD aw k0 J7) (yf n aq aa aH aB aD aw k j7):=by
  obtain rfl:=fx2 hk
  obtain rfl:=fx11 h7
  intro v1 v3 v7 v8 v9 v10 v12 v15 v16 v91 h
  kernel_rfl
def Jj (J4:Q1):Q1:=Ji n aq aa aH aB aD aw k0 (IM n aq aa aH aB aD aw k0 J4)
def ri (j4:dj):qR:=yf n aq aa aH aB aD aw k (qT n aq aa aH aB aD aw k j4)
theorem Y1 (hk:cm k0 k) {J4:Q1} {j4:dj} (h4:fO J4 j4):xS (Jj n aq aa aH aB aD aw k0 J4) (ri n aq aa aH aB aD aw k j4):=Zz n aq aa aH aB aD aw k0 k hk (Y0 n aq aa aH aB aD aw k0 k hk h4)
def I5 (n:Nat) (aq:bT) (aa:bf) (aH:cM) (aB:ci) (aD:cq) (aw:cb) (k0:Q0) (J6:Q1):Q1:=(bE (cx aq aa aH aB aD aw) ct Jg (fun s=>cI Is s J6))
def yO (n:Nat) (aq:bT) (aa:bf) (aH:cM) (aB:ci) (aD:cq) (aw:cb) (k:da) (j6:qR) (v1:Int) (v3:AV) (v7:Int) (v8:Int) (v9:AV) (v10:Int) (v12:Int) (v15:AV) (v16:Int) (v83:Bool) (h:Heap):CRes:=
 ifB v83
 (j6 v1 v3 v7 v8 v9 v10 v12 v15 v16 true h)
 (LC 2 v15 v16 fun x42=>
 iY .i64 0 h x42 fun x43 x44=>
 j6 v1 v3 v7 v8 v9 v10 v12 v15 v16 (ltF x44 0) h)
theorem aa3 (hk:cm k0 k) {J6:Q1} {j6:qR} (h6:xS J6 j6):xT (I5 n aq aa aH aB aD aw k0 J6) (yO n aq aa aH aB aD aw k j6):=by
  obtain rfl:=fx2 hk
  obtain rfl:=fx11 h6
  intro v1 v3 v7 v8 v9 v10 v12 v15 v16 v83 h
  kernel_rfl
def Iu (J4:Q1):Q1:=I5 n aq aa aH aB aD aw k0 (Jj n aq aa aH aB aD aw k0 J4)
def nv (j4:dj):rm:=yO n aq aa aH aB aD aw k (ri n aq aa aH aB aD aw k j4)
theorem abl (hk:cm k0 k) {J4:Q1} {j4:dj} (h4:fO J4 j4):xT (Iu n aq aa aH aB aD aw k0 J4) (nv n aq aa aH aB aD aw k j4):=aa3 n aq aa aH aB aD aw k0 k hk (Y1 n aq aa aH aB aD aw k0 k hk h4)
def It (n:Nat) (aq:bT) (aa:bf) (aH:cM) (aB:ci) (aD:cq) (aw:cb) (k0:Q0) (J3:Q1) (J5:Q1):Q1:=(bE (cx aq aa aH aB aD aw) ct GB (fun s=>dH (.t p65) s (bE (cx aq aa aH aB aD aw) ct IV (fun s=>cI IB s J5)) (fun s=>cI Jf s J3)))
def qY (n:Nat) (aq:bT) (aa:bf) (aH:cM) (aB:ci) (aD:cq) (aw:cb) (k:da) (j3:rk) (j5:rm) (v1:Int) (v3:AV) (v7:Int) (v8:Int) (v9:AV) (v10:Int) (v12:Int) (v15:AV) (v16:Int) (h:Heap):CRes:=
 fH v15 fun x32=>
 ifB (ltF v16 x32)
 (ifB (ltF 0 v16)
 (LC 2 v15 v16 fun x33=>
 iY .i64 0 h x33 fun x34 x35=>
 YK .i64 v16 1 fun x36=>
 LC 2 v15 x36 fun x37=>
 iY .i64 0 h x37 fun x38 x39=>
 j5 v1 v3 v7 v8 v9 v10 v12 v15 v16 (fS (ltF x39 x35)) h)
 (j5 v1 v3 v7 v8 v9 v10 v12 v15 v16 false h))
 (j3 v7 v8 v9 v10 v12 v15 h)
theorem aaY (hk:cm k0 k) {J3:Q1} {j3:rk} (h3:yt J3 j3) {J5:Q1} {j5:rm} (h5:xT J5 j5):fO (It n aq aa aH aB aD aw k0 J3 J5) (qY n aq aa aH aB aD aw k j3 j5):=by
  obtain rfl:=fx2 hk
  obtain rfl:=fx7 h3
  obtain rfl:=fx11 h5
  intro v1 v3 v7 v8 v9 v10 v12 v15 v16 h
  kernel_rfl
def Jm (m:Nat):Q1:=Nat.rec (motive:=fun _=>Q1) (fun _=>.err) (fun _ ih=>It n aq aa aH aB aD aw k0 (Iq n aq aa aH aB aD aw k0) (Iu n aq aa aH aB aD aw k0 ih)) m
def fg (m:Nat):dj:=Nat.rec (motive:=fun _=>dj) (fun _ _ _ _ _ _ _ _ _ _=>.err) (fun _ ih=>qY n aq aa aH aB aD aw k (rc n aq aa aH aB aD aw k) (nv n aq aa aH aB aD aw k ih)) m
theorem YC (m:Nat):fg n aq aa aH aB aD aw k (m+1)=qY n aq aa aH aB aD aw k (rc n aq aa aH aB aD aw k) (nv n aq aa aH aB aD aw k (fg n aq aa aH aB aD aw k m)):=rfl
theorem aaP (hk:cm k0 k) (m:Nat):fO (Jm n aq aa aH aB aD aw k0 m) (fg n aq aa aH aB aD aw k m):=by
  induction m with
  | zero=>intro v1 v3 v7 v8 v9 v10 v12 v15 v16 h; rfl
  | succ m ih=>exact aaY n aq aa aH aB aD aw k0 k hk (YD n aq aa aH aB aD aw k0 k hk) (abl n aq aa aH aB aD aw k0 k hk ih)
def Gx (n:Nat) (aq:bT) (aa:bf) (aH:cM) (aB:ci) (aD:cq) (aw:cb) (k0:Q0) (J4:Q1):Q1:=(bE (cx aq aa aH aB aD aw) ct GY (bE (cx aq aa aH aB aD aw) ct GW (fun s=>cI xX s J4)))
def wM (n:Nat) (aq:bT) (aa:bf) (aH:cM) (aB:ci) (aD:cq) (aw:cb) (k:da) (j4:dj) (v1:Int) (v2:AV) (v3:AV) (v7:Int) (v8:Int) (v9:AV) (v10:Int) (v12:Int) (h:Heap):CRes:=
 aD v2 h fun x25 h26=>
 j4 v1 v3 v7 v8 v9 v10 v12 x25 0 h26
theorem X1 (hk:cm k0 k) {J4:Q1} {j4:dj} (h4:fO J4 j4):wL (Gx n aq aa aH aB aD aw k0 J4) (wM n aq aa aH aB aD aw k j4):=by
  obtain rfl:=fx2 hk
  obtain rfl:=fx10 h4
  intro v1 v2 v3 v7 v8 v9 v10 v12 h
  kernel_rfl
def Gg:Q1:=Gx n aq aa aH aB aD aw k0 (Jm n aq aa aH aB aD aw k0 n)
def qu:qk:=wM n aq aa aH aB aD aw k (fg n aq aa aH aB aD aw k n)
theorem X0 (hk:cm k0 k):wL (Gg n aq aa aH aB aD aw k0) (qu n aq aa aH aB aD aw k):=X1 n aq aa aH aB aD aw k0 k hk (aaP n aq aa aH aB aD aw k0 k hk n)
def GK (n:Nat) (aq:bT) (aa:bf) (aH:cM) (aB:ci) (aD:cq) (aw:cb) (k0:Q0) (J11:Q1) (J12:Q1):Q1:=(bE (cx aq aa aH aB aD aw) ct GO (fun s=>dH (.t p53) s (bE (cx aq aa aH aB aD aw) ct F7 (bE (cx aq aa aH aB aD aw) ct GD (bE (cx aq aa aH aB aD aw) ct GJ (fun s=>cI wK s J12)))) (fun s=>cI GM s J11)))
def qg (n:Nat) (aq:bT) (aa:bf) (aH:cM) (aB:ci) (aD:cq) (aw:cb) (k:da) (j11:qk) (j12:i7) (v1:Int) (v2:AV) (v3:AV) (v7:Int) (v8:Int) (v9:AV) (v10:Int) (v12:Int) (v50:AV) (v51:Int) (v52:Int) (h:Heap):CRes:=
 ifB (ltF v52 v51)
 (Lw .i64 1 h v50 v52 fun x27 x28=>
 lp .i64 v12 x28 fun x29=>
 lp .i64 v52 1 fun x30=>
 j12 v1 v2 v3 v7 v8 v9 v10 x29 v50 v51 x30 h)
 (j11 v1 v2 v3 v7 v8 v9 v10 v12 h)
theorem XI (hk:cm k0 k) {J11:Q1} {j11:qk} (h11:wL J11 j11) {J12:Q1} {j12:i7} (h12:qz J12 j12):qz (GK n aq aa aH aB aD aw k0 J11 J12) (qg n aq aa aH aB aD aw k j11 j12):=by
  obtain rfl:=fx2 hk
  obtain rfl:=fx9 h11
  obtain rfl:=fx12 h12
  intro v1 v2 v3 v7 v8 v9 v10 v12 v50 v51 v52 h
  kernel_rfl
def Gy (m:Nat):Q1:=Nat.rec (motive:=fun _=>Q1) (fun _=>.err) (fun _ ih=>GK n aq aa aH aB aD aw k0 (Gg n aq aa aH aB aD aw k0) ih) m
def mz (m:Nat):i7:=Nat.rec (motive:=fun _=>i7) (fun _ _ _ _ _ _ _ _ _ _ _ _=>.err) (fun _ ih=>qg n aq aa aH aB aD aw k (qu n aq aa aH aB aD aw k) ih) m
theorem XM (m:Nat):mz n aq aa aH aB aD aw k (m+1)=qg n aq aa aH aB aD aw k (qu n aq aa aH aB aD aw k) (mz n aq aa aH aB aD aw k m):=rfl
theorem XO (hk:cm k0 k) (m:Nat):qz (Gy n aq aa aH aB aD aw k0 m) (mz n aq aa aH aB aD aw k m):=by
  induction m with
  | zero=>intro v1 v2 v3 v7 v8 v9 v10 v12 v50 v51 v52 h; rfl
  | succ m ih=>exact XI n aq aa aH aB aD aw k0 k hk (X0 n aq aa aH aB aD aw k0 k hk) ih
def GR (n:Nat) (aq:bT) (aa:bf) (aH:cM) (aB:ci) (aD:cq) (aw:cb) (k0:Q0) (J12:Q1):Q1:=(bE (cx aq aa aH aB aD aw) ct GA (bE (cx aq aa aH aB aD aw) ct GP (fun s=>cI wK s J12)))
def wO (n:Nat) (aq:bT) (aa:bf) (aH:cM) (aB:ci) (aD:cq) (aw:cb) (k:da) (j12:i7) (v1:Int) (v2:AV) (v3:AV) (v7:Int) (v8:Int) (v9:AV) (v10:Int) (h:Heap):CRes:=
 aa v2 h fun x11 h12=>
 fH x11 fun x13=>
 j12 v1 v2 v3 v7 v8 v9 v10 0 x11 x13 0 h12
theorem X9 (hk:cm k0 k) {J12:Q1} {j12:i7} (h12:qz J12 j12):wG (GR n aq aa aH aB aD aw k0 J12) (wO n aq aa aH aB aD aw k j12):=by
  obtain rfl:=fx2 hk
  obtain rfl:=fx12 h12
  intro v1 v2 v3 v7 v8 v9 v10 h
  kernel_rfl
def GU:Q1:=GR n aq aa aH aB aD aw k0 (Gy n aq aa aH aB aD aw k0 n)
def qm:qn:=wO n aq aa aH aB aD aw k (mz n aq aa aH aB aD aw k n)
theorem Yq (hk:cm k0 k):wG (GU n aq aa aH aB aD aw k0) (qm n aq aa aH aB aD aw k):=X9 n aq aa aH aB aD aw k0 k hk (XO n aq aa aH aB aD aw k0 k hk n)
def Gq (n:Nat) (aq:bT) (aa:bf) (aH:cM) (aB:ci) (aD:cq) (aw:cb) (k0:Q0) (J14:Q1):Q1:=(fun s=>dH (.t p48) s (bE (cx aq aa aH aB aD aw) ct GV (cG kY k0)) (bE (cx aq aa aH aB aD aw) ct GE (fun s=>cI wE s J14)))
def wN (n:Nat) (aq:bT) (aa:bf) (aH:cM) (aB:ci) (aD:cq) (aw:cb) (k:da) (j14:gk) (v1:Int) (v2:AV) (v3:AV) (v7:Int) (v8:Int) (v9:AV) (v10:Int) (v11:Int) (v48:Bool) (h:Heap):CRes:=
 ifB v48
 (k false h)
 (lp .u8 v11 1 fun x31=>
 j14 v1 v2 v3 v7 v8 v9 v10 x31 h)
theorem X3 (hk:cm k0 k) {J14:Q1} {j14:gk} (h14:mC J14 j14):wD (Gq n aq aa aH aB aD aw k0 J14) (wN n aq aa aH aB aD aw k j14):=by
  obtain rfl:=fx2 hk
  obtain rfl:=fx9 h14
  intro v1 v2 v3 v7 v8 v9 v10 v11 v48 h
  kernel_rfl
def Gn (J14:Q1):Q1:=Gq n aq aa aH aB aD aw k0 J14
def qy (j14:gk):qw:=wN n aq aa aH aB aD aw k j14
theorem Yn (hk:cm k0 k) {J14:Q1} {j14:gk} (h14:mC J14 j14):wD (Gn n aq aa aH aB aD aw k0 J14) (qy n aq aa aH aB aD aw k j14):=X3 n aq aa aH aB aD aw k0 k hk h14
def GI (n:Nat) (aq:bT) (aa:bf) (aH:cM) (aB:ci) (aD:cq) (aw:cb) (k0:Q0) (J13:Q1) (J15:Q1):Q1:=(bE (cx aq aa aH aB aD aw) ct GX (fun s=>dH (.t p26) s (bE (cx aq aa aH aB aD aw) ct F9 (bE (cx aq aa aH aB aD aw) ct Gf (fun s=>cI GN s J15))) (fun s=>cI Gb s J13)))
def qh (n:Nat) (aq:bT) (aa:bf) (aH:cM) (aB:ci) (aD:cq) (aw:cb) (k:da) (j13:qn) (j15:qw) (v1:Int) (v2:AV) (v3:AV) (v7:Int) (v8:Int) (v9:AV) (v10:Int) (v11:Int) (h:Heap):CRes:=
 ifB (ltF v11 7)
 (Fw 1 7 v9 v11 fun x14=>
 ldI .i64 h x14 fun x15=>
 lp .i64 v10 x15 fun x16=>
 ifB (ltF 1 v11)
 (Fw 1 7 v9 v11 fun x17=>
 ldI .i64 h x17 fun x18=>
 fld 16 h v3 1 false fun x19 x20=>
 eld 8 h x20 v1 8 true fun x21 x22=>
 aq x22 v11 (h.shut true) fun x23 h24=>
 j15 v1 v2 v3 v7 v8 v9 x16 v11 (ltF x23 x18) (h24.back h.ro))
 (j15 v1 v2 v3 v7 v8 v9 x16 v11 false h))
 (j13 v1 v2 v3 v7 v8 v9 v10 h)
theorem XW (hk:cm k0 k) {J13:Q1} {j13:qn} (h13:wG J13 j13) {J15:Q1} {j15:qw} (h15:wD J15 j15):mC (GI n aq aa aH aB aD aw k0 J13 J15) (qh n aq aa aH aB aD aw k j13 j15):=by
  obtain rfl:=fx2 hk
  obtain rfl:=fx8 h13
  obtain rfl:=fx10 h15
  intro v1 v2 v3 v7 v8 v9 v10 v11 h
  kernel_rfl
def Ga (m:Nat):Q1:=Nat.rec (motive:=fun _=>Q1) (fun _=>.err) (fun _ ih=>GI n aq aa aH aB aD aw k0 (GU n aq aa aH aB aD aw k0) (Gn n aq aa aH aB aD aw k0 ih)) m
def kT (m:Nat):gk:=Nat.rec (motive:=fun _=>gk) (fun _ _ _ _ _ _ _ _ _=>.err) (fun _ ih=>qh n aq aa aH aB aD aw k (qm n aq aa aH aB aD aw k) (qy n aq aa aH aB aD aw k ih)) m
theorem Xy (m:Nat):kT n aq aa aH aB aD aw k (m+1)=qh n aq aa aH aB aD aw k (qm n aq aa aH aB aD aw k) (qy n aq aa aH aB aD aw k (kT n aq aa aH aB aD aw k m)):=rfl
theorem XS (hk:cm k0 k) (m:Nat):mC (Ga n aq aa aH aB aD aw k0 m) (kT n aq aa aH aB aD aw k m):=by
  induction m with
  | zero=>intro v1 v2 v3 v7 v8 v9 v10 v11 h; rfl
  | succ m ih=>exact XW n aq aa aH aB aD aw k0 k hk (Yq n aq aa aH aB aD aw k0 k hk) (Yn n aq aa aH aB aD aw k0 k hk ih)
def MR (n:Nat) (aq:bT) (aa:bf) (aH:cM) (aB:ci) (aD:cq) (aw:cb) (k0:Q0) (J14:Q1):Q1:=(bE (cx aq aa aH aB aD aw) ct Ge (bE (cx aq aa aH aB aD aw) ct GT (bE (cx aq aa aH aB aD aw) ct GH (bE (cx aq aa aH aB aD aw) ct Gc (bE (cx aq aa aH aB aD aw) ct GC (fun s=>cI wE s J14))))))
def BH (n:Nat) (aq:bT) (aa:bf) (aH:cM) (aB:ci) (aD:cq) (aw:cb) (k:da) (j14:gk) (a0:AV) (a1:Int) (a2:AV) (h:Heap):CRes:=
 Dh h a0 fun x0 h1=>
 f8 h1 (.ptr x0 0) 17 true fun x2=>
 aH x2 a1 h1 fun x3 x4 h5=>
 aB a2 h5 fun x6 h7=>
 Bv h7 (.cells [(.int .i64 0),(.int .i64 0),(.int .i64 0),(.int .i64 0),(.int .i64 0),(.int .i64 0),(.int .i64 0)] true 0) fun x8 h9=>
 lS h9 (.ptr x8 0) 7 x6 fun h10=>
 j14 a1 a2 (.ptr x0 0) x3 x4 (.ptr x8 0) 0 0 h10
theorem afi (n:Nat) (aq:bT) (aa:bf) (aH:cM) (aB:ci) (aD:cq) (aw:cb) (k0:Q0) (k:da) (hk:cm k0 k) {J14:Q1} {j14:gk} (h14:mC J14 j14) (a0:AV) (a1:Int) (a2:AV) (h:Heap):(MR n aq aa aH aB aD aw k0 J14) ⟨cH [(p0,a0),(p1,(.int .i64 a1)),(p2,a2)],h⟩=(BH n aq aa aH aB aD aw k j14) a0 a1 a2 h:=by
  obtain rfl:=fx2 hk
  obtain rfl:=fx9 h14
  kernel_rfl
def ae3:Q1:=MR n aq aa aH aB aD aw k0 (Ga n aq aa aH aB aD aw k0 n)
def BN (n:Nat) (aq:bT) (aa:bf) (aH:cM) (aB:ci) (aD:cq) (aw:cb) (a0:AV) (a1:Int) (a2:AV) (h:Heap) (k:da):CRes:=BH n aq aa aH aB aD aw k (kT n aq aa aH aB aD aw k n) a0 a1 a2 h
theorem aeU (n:Nat) (aq:bT) (aa:bf) (aH:cM) (aB:ci) (aD:cq) (aw:cb) (k0:Q0) (s:St):D (ez [(oF,lZ aq),(li,jv aa),(sK,qe aH),(se,pd aB),(uc,pV aD),(qF,nG aw)]) ct n BS (cG kY k0) (fun _ _=>.err) (cG kY k0) s=ae3 n aq aa aH aB aD aw k0 s:=by kernel_rfl
theorem aeX (n:Nat) (aq:bT) (aa:bf) (aH:cM) (aB:ci) (aD:cq) (aw:cb) (a0:AV) (a1:Int) (a2:AV) (h:Heap) (k0:Q0):W B0 kY [(oF,lZ aq),(li,jv aa),(sK,qe aH),(se,pd aB),(uc,pV aD),(qF,nG aw)] ct n BS [a0,(.int .i64 a1),a2] h k0=BN n aq aa aH aB aD aw a0 a1 a2 h (fun u0 h=>k0 (.bool u0) h):=by
  let k:da:=fun u0 h=>k0 (.bool u0) h
  have hk:cm k0 k:=fun _ _=>rfl
  have hb:∀ F:Tr AV→CRes,fJ B0 [a0,(.int .i64 a1),a2] .leaf F=F (cH [(p0,a0),(p1,(.int .i64 a1)),(p2,a2)]):=fun F=>by kernel_rfl
  exact (lD hb).trans ((aeU n aq aa aH aB aD aw k0 _).trans (afi n aq aa aH aB aD aw k0 k hk (XS n aq aa aH aB aD aw k0 k hk n) a0 a1 a2 h))
end
def dA (n:Nat):bO:=BN n (iL n) (dB n) (qi n) (mi n) (jT n) (dk n)
/-! cofferdam/cofferdamlaw12.PoolQuotas -/
abbrev arz:=Bool→Heap→CRes
/-! cofferdam/cofferdamref00.Within -/
abbrev bH:=Int→Int→Heap→(Int→Heap→CRes)→CRes
abbrev jr:=Int→Heap→CRes
def lF (g:bH):Wr:=fun l h k=>nH .i64 l fun a0 l=>nH .i64 l fun a1 l=>lw l (g a0 a1 h fun u0 h=>k (.int .i64 u0) h)
def mA:dD:=ez []
abbrev qv (k0:Q0) (k:jr):Prop:=∀ u0 h,k0 (.int .i64 u0) h=k u0 h
abbrev pu:Type:=Int→Heap→CRes
abbrev vC (J:Q1) (j:pu):Prop:=∀ v0 h,J ⟨cH [(p0,(.int .i64 v0))],h⟩=j v0 h
section
variable (n:Nat) (k0:Q0) (k:jr)
def E5 (n:Nat) (k0:Q0):Q1:=(bE (mA) ij EW (cG nu k0))
def vr (n:Nat) (k:jr) (v0:Int) (h:Heap):CRes:=
 k v0 h
theorem VU (hk:qv k0 k):vC (E5 n k0) (vr n k):=by
  obtain rfl:=fx2 hk
  intro v0 h
  kernel_rfl
def E4:Q1:=E5 n k0
def vA:pu:=vr n k
theorem V7 (hk:qv k0 k):vC (E4 n k0) (vA n k):=VU n k0 k hk
def I1 (n:Nat) (k0:Q0) (J0:Q1):Q1:=(bE (mA) ij E9 (bE (mA) ij EV (bE (mA) ij EY (fun s=>dH (.t p9) s (bE (mA) ij E6 (fun s=>cI vB s J0)) (fun s=>cI vB s J0)))))
def xE (n:Nat) (k:jr) (j0:pu) (a0:Int) (a1:Int) (h:Heap):CRes:=
 asT .i64 a0 a1 fun x0=>
 ifB (ltF x0 0)
 (lp .i64 x0 a1 fun x1=>
 j0 x1 h)
 (j0 x0 h)
theorem ZK (n:Nat) (k0:Q0) (k:jr) (hk:qv k0 k) {J0:Q1} {j0:pu} (h0:vC J0 j0) (a0:Int) (a1:Int) (h:Heap):(I1 n k0 J0) ⟨cH [(p0,(.int .i64 a0)),(p1,(.int .i64 a1))],h⟩=(xE n k j0) a0 a1 h:=by
  obtain rfl:=fx2 hk
  obtain rfl:=fx2 h0
  kernel_rfl
def ZU:Q1:=I1 n k0 (E4 n k0)
def yQ (n:Nat) (a0:Int) (a1:Int) (h:Heap) (k:jr):CRes:=xE n k (vA n k) a0 a1 h
theorem aae (n:Nat) (k0:Q0) (s:St):D (ez []) ij n xy (cG nu k0) (fun _ _=>.err) (cG nu k0) s=ZU n k0 s:=by kernel_rfl
theorem YH (n:Nat) (a0:Int) (a1:Int) (h:Heap) (k0:Q0):W xW nu [] ij n xy [(.int .i64 a0),(.int .i64 a1)] h k0=yQ n a0 a1 h (fun u0 h=>k0 (.int .i64 u0) h):=by
  let k:jr:=fun u0 h=>k0 (.int .i64 u0) h
  have hk:qv k0 k:=fun _ _=>rfl
  have hb:∀ F:Tr AV→CRes,fJ xW [(.int .i64 a0),(.int .i64 a1)] .leaf F=F (cH [(p0,(.int .i64 a0)),(p1,(.int .i64 a1))]):=fun F=>by kernel_rfl
  exact (lD hb).trans ((aae n k0 _).trans (ZK n k0 k hk (V7 n k0 k hk) a0 a1 h))
end
def dp (n:Nat):bH:=yQ n
/-! cofferdam/colour.Of -/
abbrev pj:=Int→Int→Heap→(Int→Int→Heap→CRes)→CRes
abbrev Dk:=Int→Int→Heap→CRes
def IW (g:pj):Wr:=fun l h k=>nH .i64 l fun a0 l=>nH .i64 l fun a1 l=>lw l (g a0 a1 h fun u0 u1 h=>k (.tuple [(.int .i64 u0),(.int .i64 u1)]) h)
def TY (aN:cj) (aX:cZ):dD:=ez [(eK,eC aN),(iP,ie aX)]
abbrev TG (k0:Q0) (k:Dk):Prop:=∀ u0 u1 h,k0 (.tuple [(.int .i64 u0),(.int .i64 u1)]) h=k u0 u1 h
abbrev OT:Type:=Int→Int→Bool→Heap→CRes
abbrev X2 (J:Q1) (j:OT):Prop:=∀ v0 v1 v13 h,J ⟨cH [(p0,(.int .i64 v0)),(p1,(.int .i64 v1)),(p13,(.bool v13))],h⟩=j v0 v1 v13 h
section
variable (n:Nat) (aN:cj) (aX:cZ) (k0:Q0) (k:Dk)
def akA (n:Nat) (aN:cj) (aX:cZ) (k0:Q0):Q1:=(fun s=>dH (.t p13) s (bE (TY aN aX) DE ajL (cG Jh k0)) (bE (TY aN aX) DE ajK (cG Jh k0)))
def XQ (n:Nat) (aN:cj) (aX:cZ) (k:Dk) (v0:Int) (v1:Int) (v13:Bool) (h:Heap):CRes:=
 ifB v13
 (k 0 2 h)
 (asT .i64 v0 v1 fun x4=>
 k x4 0 h)
theorem at2 (hk:TG k0 k):X2 (akA n aN aX k0) (XQ n aN aX k):=by
  obtain rfl:=fx3 hk
  intro v0 v1 v13 h
  kernel_rfl
def ajN:Q1:=akA n aN aX k0
def XV:OT:=XQ n aN aX k
theorem auV (hk:TG k0 k):X2 (ajN n aN aX k0) (XV n aN aX k):=at2 n aN aX k0 k hk
def apY (n:Nat) (aN:cj) (aX:cZ) (k0:Q0) (J0:Q1):Q1:=(bE (TY aN aX) DE akk (bE (TY aN aX) DE akS (fun s=>cI ajT s J0)))
def agI (n:Nat) (aN:cj) (aX:cZ) (k:Dk) (j0:OT) (a0:Int) (a1:Int) (h:Heap):CRes:=
 aN a0 0 4095 h fun x0 h1=>
 ifB (fS x0)
 (j0 a0 a1 true h1)
 (aX a1 h1 fun x2 h3=>
 j0 a0 a1 (fS x2) h3)
theorem ayt (n:Nat) (aN:cj) (aX:cZ) (k0:Q0) (k:Dk) (hk:TG k0 k) {J0:Q1} {j0:OT} (h0:X2 J0 j0) (a0:Int) (a1:Int) (h:Heap):(apY n aN aX k0 J0) ⟨cH [(p0,(.int .i64 a0)),(p1,(.int .i64 a1))],h⟩=(agI n aN aX k j0) a0 a1 h:=by
  obtain rfl:=fx3 hk
  obtain rfl:=fx4 h0
  kernel_rfl
def ax5:Q1:=apY n aN aX k0 (ajN n aN aX k0)
def ahQ (n:Nat) (aN:cj) (aX:cZ) (a0:Int) (a1:Int) (h:Heap) (k:Dk):CRes:=agI n aN aX k (XV n aN aX k) a0 a1 h
theorem aya (n:Nat) (aN:cj) (aX:cZ) (k0:Q0) (s:St):D (ez [(eK,eC aN),(iP,ie aX)]) DE n ag0 (cG Jh k0) (fun _ _=>.err) (cG Jh k0) s=ax5 n aN aX k0 s:=by kernel_rfl
theorem axI (n:Nat) (aN:cj) (aX:cZ) (a0:Int) (a1:Int) (h:Heap) (k0:Q0):W aht Jh [(eK,eC aN),(iP,ie aX)] DE n ag0 [(.int .i64 a0),(.int .i64 a1)] h k0=ahQ n aN aX a0 a1 h (fun u0 u1 h=>k0 (.tuple [(.int .i64 u0),(.int .i64 u1)]) h):=by
  let k:Dk:=fun u0 u1 h=>k0 (.tuple [(.int .i64 u0),(.int .i64 u1)]) h
  have hk:TG k0 k:=fun _ _ _=>rfl
  have hb:∀ F:Tr AV→CRes,fJ aht [(.int .i64 a0),(.int .i64 a1)] .leaf F=F (cH [(p0,(.int .i64 a0)),(p1,(.int .i64 a1))]):=fun F=>by kernel_rfl
  exact (lD hb).trans ((aya n aN aX k0 _).trans (ayt n aN aX k0 k hk (auV n aN aX k0 k hk) a0 a1 h))
end
def Jd (n:Nat):pj:=ahQ n (ft n) (kh n)
/-! cofferdam/colour.Index -/
abbrev kz:=Int→Int→Heap→(Int→Int→Heap→CRes)→CRes
abbrev ut:=Int→Int→Heap→CRes
def xH (g:kz):Wr:=fun l h k=>nH .i64 l fun a0 l=>nH .i64 l fun a1 l=>lw l (g a0 a1 h fun u0 u1 h=>k (.tuple [(.int .i64 u0),(.int .i64 u1)]) h)
def G3 (aN:cj) (aX:cZ):dD:=ez [(eK,eC aN),(iP,ie aX)]
abbrev G4 (k0:Q0) (k:ut):Prop:=∀ u0 u1 h,k0 (.tuple [(.int .i64 u0),(.int .i64 u1)]) h=k u0 u1 h
abbrev Ey:Type:=Int→Int→Bool→Heap→CRes
abbrev NM (J:Q1) (j:Ey):Prop:=∀ v0 v1 v13 h,J ⟨cH [(p0,(.int .i64 v0)),(p1,(.int .i64 v1)),(p13,(.bool v13))],h⟩=j v0 v1 v13 h
section
variable (n:Nat) (aN:cj) (aX:cZ) (k0:Q0) (k:ut)
def aaE (n:Nat) (aN:cj) (aX:cZ) (k0:Q0):Q1:=(fun s=>dH (.t p13) s (bE (G3 aN aX) ur Zi (cG yx k0)) (bE (G3 aN aX) ur aak (cG yx k0)))
def Of (n:Nat) (aN:cj) (aX:cZ) (k:ut) (v0:Int) (v1:Int) (v13:Bool) (h:Heap):CRes:=
 ifB v13
 (k 0 2 h)
 (quoK .i64 v0 v1 fun x4=>
 k x4 0 h)
theorem aoq (hk:G4 k0 k):NM (aaE n aN aX k0) (Of n aN aX k):=by
  obtain rfl:=fx3 hk
  intro v0 v1 v13 h
  kernel_rfl
def Zl:Q1:=aaE n aN aX k0
def Nm:Ey:=Of n aN aX k
theorem aoF (hk:G4 k0 k):NM (Zl n aN aX k0) (Nm n aN aX k):=aoq n aN aX k0 k hk
def ah1 (n:Nat) (aN:cj) (aX:cZ) (k0:Q0) (J0:Q1):Q1:=(bE (G3 aN aX) ur Y3 (bE (G3 aN aX) ur aan (fun s=>cI Zx s J0)))
def Up (n:Nat) (aN:cj) (aX:cZ) (k:ut) (j0:Ey) (a0:Int) (a1:Int) (h:Heap):CRes:=
 aN a0 0 4095 h fun x0 h1=>
 ifB (fS x0)
 (j0 a0 a1 true h1)
 (aX a1 h1 fun x2 h3=>
 j0 a0 a1 (fS x2) h3)
theorem ass (n:Nat) (aN:cj) (aX:cZ) (k0:Q0) (k:ut) (hk:G4 k0 k) {J0:Q1} {j0:Ey} (h0:NM J0 j0) (a0:Int) (a1:Int) (h:Heap):(ah1 n aN aX k0 J0) ⟨cH [(p0,(.int .i64 a0)),(p1,(.int .i64 a1))],h⟩=(Up n aN aX k j0) a0 a1 h:=by
  obtain rfl:=fx3 hk
  obtain rfl:=fx4 h0
  kernel_rfl
def atU:Q1:=ah1 n aN aX k0 (Zl n aN aX k0)
def Uk (n:Nat) (aN:cj) (aX:cZ) (a0:Int) (a1:Int) (h:Heap) (k:ut):CRes:=Up n aN aX k (Nm n aN aX k) a0 a1 h
theorem ato (n:Nat) (aN:cj) (aX:cZ) (k0:Q0) (s:St):D (ez [(eK,eC aN),(iP,ie aX)]) ur n UX (cG yx k0) (fun _ _=>.err) (cG yx k0) s=atU n aN aX k0 s:=by kernel_rfl
theorem asj (n:Nat) (aN:cj) (aX:cZ) (a0:Int) (a1:Int) (h:Heap) (k0:Q0):W Vm yx [(eK,eC aN),(iP,ie aX)] ur n UX [(.int .i64 a0),(.int .i64 a1)] h k0=Uk n aN aX a0 a1 h (fun u0 u1 h=>k0 (.tuple [(.int .i64 u0),(.int .i64 u1)]) h):=by
  let k:ut:=fun u0 u1 h=>k0 (.tuple [(.int .i64 u0),(.int .i64 u1)]) h
  have hk:G4 k0 k:=fun _ _ _=>rfl
  have hb:∀ F:Tr AV→CRes,fJ Vm [(.int .i64 a0),(.int .i64 a1)] .leaf F=F (cH [(p0,(.int .i64 a0)),(p1,(.int .i64 a1))]):=fun F=>by kernel_rfl
  exact (lD hb).trans ((ato n aN aX k0 _).trans (ass n aN aX k0 k hk (aoF n aN aX k0 k hk) a0 a1 h))
end
def yv (n:Nat):kz:=Uk n (ft n) (kh n)
abbrev gh:=AV→Int→Int→Heap→(Int→Heap→CRes)→CRes
abbrev gI:=Int→Heap→CRes
def oU (g:gh):Wr:=fun l h k=>kL l fun a0 l=>nH .i64 l fun a1 l=>nH .i64 l fun a2 l=>lw l (g a0 a1 a2 h fun u0 h=>k (.int .i64 u0) h)
def dt (av:bQ) (aE:bR) (aj:bN) (aG:cv):dD:=ez [(fD,eY av),(eB,dP aE),(fA,eT aj),(jV,ja aG)]
abbrev fK (k0:Q0) (k:gI):Prop:=∀ u0 h,k0 (.int .i64 u0) h=k u0 h
abbrev uJ:Type:=AV→Int→Int→Heap→CRes
abbrev BR (J:Q1) (j:uJ):Prop:=∀ v0 v1 v2 h,J ⟨cH [(p0,v0),(p1,(.int .i64 v1)),(p2,(.int .i64 v2))],h⟩=j v0 v1 v2 h
abbrev lh:Type:=AV→Int→Int→Heap→CRes
abbrev uS (J:Q1) (j:lh):Prop:=∀ v0 v1 v2 h,J ⟨cH [(p0,v0),(p1,(.int .i64 v1)),(p2,(.int .i64 v2))],h⟩=j v0 v1 v2 h
abbrev uO:Type:=AV→Int→Int→Bool→Heap→CRes
abbrev BI (J:Q1) (j:uO):Prop:=∀ v0 v1 v2 v41 h,J ⟨cH [(p0,v0),(p1,(.int .i64 v1)),(p2,(.int .i64 v2)),(p41,(.bool v41))],h⟩=j v0 v1 v2 v41 h
abbrev uP:Type:=AV→Int→Int→Bool→Heap→CRes
abbrev B3 (J:Q1) (j:uP):Prop:=∀ v0 v1 v2 v25 h,J ⟨cH [(p0,v0),(p1,(.int .i64 v1)),(p2,(.int .i64 v2)),(p25,(.bool v25))],h⟩=j v0 v1 v2 v25 h
abbrev uW:Type:=AV→Int→Int→Bool→Heap→CRes
abbrev B2 (J:Q1) (j:uW):Prop:=∀ v0 v1 v2 v21 h,J ⟨cH [(p0,v0),(p1,(.int .i64 v1)),(p2,(.int .i64 v2)),(p21,(.bool v21))],h⟩=j v0 v1 v2 v21 h
section
variable (n:Nat) (av:bQ) (aE:bR) (aj:bN) (aG:cv) (k0:Q0) (k:gI)
def Mc (n:Nat) (av:bQ) (aE:bR) (aj:bN) (aG:cv) (k0:Q0):Q1:=(bE (dt av aE aj aG) dm MS (bE (dt av aE aj aG) dm MG (cG kW k0)))
def Br (n:Nat) (av:bQ) (aE:bR) (aj:bN) (aG:cv) (k:gI) (v0:AV) (v1:Int) (v2:Int) (h:Heap):CRes:=
 aG v0 v1 v2 h fun h10=>
 k 0 h10
theorem ae9 (hk:fK k0 k):BR (Mc n av aE aj aG k0) (Br n av aE aj aG k):=by
  obtain rfl:=fx2 hk
  intro v0 v1 v2 h
  kernel_rfl
def L5:Q1:=Mc n av aE aj aG k0
def uX:uJ:=Br n av aE aj aG k
theorem afl (hk:fK k0 k):BR (L5 n av aE aj aG k0) (uX n av aE aj aG k):=ae9 n av aE aj aG k0 k hk
def Mb (n:Nat) (av:bQ) (aE:bR) (aj:bN) (aG:cv) (k0:Q0) (J0:Q1) (J1:Q1):Q1:=(bE (dt av aE aj aG) dm L6 (fun s=>dH (.t p48) s (bE (dt av aE aj aG) dm MP (bE (dt av aE aj aG) dm L1 (bE (dt av aE aj aG) dm L9 (fun s=>dH (.t p65) s (fun s=>cI BW s J0) (bE (dt av aE aj aG) dm LS (bE (dt av aE aj aG) dm Ml (bE (dt av aE aj aG) dm Mt (fun s=>cI BM s J1)))))))) (fun s=>cI BW s J0)))
def uH (n:Nat) (av:bQ) (aE:bR) (aj:bN) (aG:cv) (k:gI) (j0:uJ) (j1:lh) (v0:AV) (v1:Int) (v2:Int) (h:Heap):CRes:=
 ifB (ltF v2 6)
 (al0 .i64 1 v2 fun x11=>
 aol .xor .i64 v1 x11 fun x12=>
 nfa 2 v0 fun x13=>
 Fw 1 7 x13 v2 fun x14=>
 f8 h x14 1 false fun x15=>
 aE x15 x12 h fun x16 x17 h18=>
 ifB (fS x17)
 (j0 v0 v1 v2 h18)
 (nfa 2 v0 fun x19=>
 Fw 1 7 x19 v2 fun x20=>
 f8 h18 x20 1 false fun x21=>
 lp .i64 x16 1 fun x22=>
 aj x21 x16 x22 h18 fun x23 h24=>
 nfa 2 v0 fun x25=>
 Fw 1 7 x25 v2 fun x26=>
 lS h24 x26 1 x23 fun h27=>
 O1 false [(.int .i64 v1),(.int .i64 x12)] fun x28=>
 Wa .i64 x28 fun x29=>
 lp .i64 v2 1 fun x30=>
 j1 v0 x29 x30 h27))
 (j0 v0 v1 v2 h)
theorem aeT (hk:fK k0 k) {J0:Q1} {j0:uJ} (h0:BR J0 j0) {J1:Q1} {j1:lh} (h1:uS J1 j1):uS (Mb n av aE aj aG k0 J0 J1) (uH n av aE aj aG k j0 j1):=by
  obtain rfl:=fx2 hk
  obtain rfl:=fx4 h0
  obtain rfl:=fx4 h1
  intro v0 v1 v2 h
  kernel_rfl
def MY (m:Nat):Q1:=Nat.rec (motive:=fun _=>Q1) (fun _=>.err) (fun _ ih=>Mb n av aE aj aG k0 (L5 n av aE aj aG k0) ih) m
def pE (m:Nat):lh:=Nat.rec (motive:=fun _=>lh) (fun _ _ _ _=>.err) (fun _ ih=>uH n av aE aj aG k (uX n av aE aj aG k) ih) m
theorem aeP (m:Nat):pE n av aE aj aG k (m+1)=uH n av aE aj aG k (uX n av aE aj aG k) (pE n av aE aj aG k m):=rfl
theorem aeW (hk:fK k0 k) (m:Nat):uS (MY n av aE aj aG k0 m) (pE n av aE aj aG k m):=by
  induction m with
  | zero=>intro v0 v1 v2 h; rfl
  | succ m ih=>exact aeT n av aE aj aG k0 k hk (afl n av aE aj aG k0 k hk) ih
def M4 (n:Nat) (av:bQ) (aE:bR) (aj:bN) (aG:cv) (k0:Q0) (J1:Q1):Q1:=(fun s=>dH (.t p41) s (bE (dt av aE aj aG) dm Kj (cG kW k0)) (bE (dt av aE aj aG) dm LH (fun s=>cI BM s J1)))
def BG (n:Nat) (av:bQ) (aE:bR) (aj:bN) (aG:cv) (k:gI) (j1:lh) (v0:AV) (v1:Int) (v2:Int) (v41:Bool) (h:Heap):CRes:=
 ifB v41
 (k 91 h)
 (TE 9 h v0 1 false fun x7 x8=>
 aiE h (.cell .int) x8 (.int .i64 v1) fun h9=>
 j1 v0 v1 v2 h9)
theorem aeQ (hk:fK k0 k) {J1:Q1} {j1:lh} (h1:uS J1 j1):BI (M4 n av aE aj aG k0 J1) (BG n av aE aj aG k j1):=by
  obtain rfl:=fx2 hk
  obtain rfl:=fx4 h1
  intro v0 v1 v2 v41 h
  kernel_rfl
def LQ:Q1:=M4 n av aE aj aG k0 (MY n av aE aj aG k0 n)
def Bw:uO:=BG n av aE aj aG k (pE n av aE aj aG k n)
theorem aff (hk:fK k0 k):BI (LQ n av aE aj aG k0) (Bw n av aE aj aG k):=aeQ n av aE aj aG k0 k hk (aeW n av aE aj aG k0 k hk n)
def Mh (n:Nat) (av:bQ) (aE:bR) (aj:bN) (aG:cv) (k0:Q0) (J2:Q1):Q1:=(bE (dt av aE aj aG) dm Lu (fun s=>dH (.t p15) s (bE (dt av aE aj aG) dm Ks (cG kW k0)) (bE (dt av aE aj aG) dm JB (bE (dt av aE aj aG) dm JP (fun s=>cI My s J2)))))
def BP (n:Nat) (av:bQ) (aE:bR) (aj:bN) (aG:cv) (k:gI) (j2:uO) (v0:AV) (v1:Int) (v2:Int) (v25:Bool) (h:Heap):CRes:=
 ifB v25
 (k 2 h)
 (TE 9 h v0 1 false fun x2 x3=>
 Tn h (.cell .int) (.int .i64 0) x3 (.int .i64 v1) fun x4 b5=>
 Wa .i64 x4 fun x6=>
 ifB (fS b5)
 (j2 v0 v1 v2 true h)
 (j2 v0 v1 v2 (fS (eqF x6 v2)) h))
theorem ae0 (hk:fK k0 k) {J2:Q1} {j2:uO} (h2:BI J2 j2):B3 (Mh n av aE aj aG k0 J2) (BP n av aE aj aG k j2):=by
  obtain rfl:=fx2 hk
  obtain rfl:=fx5 h2
  intro v0 v1 v2 v25 h
  kernel_rfl
def LY:Q1:=Mh n av aE aj aG k0 (LQ n av aE aj aG k0)
def B4:uP:=BP n av aE aj aG k (Bw n av aE aj aG k)
theorem aeV (hk:fK k0 k):B3 (LY n av aE aj aG k0) (B4 n av aE aj aG k):=ae0 n av aE aj aG k0 k hk (aff n av aE aj aG k0 k hk)
def Mx (n:Nat) (av:bQ) (aE:bR) (aj:bN) (aG:cv) (k0:Q0) (J4:Q1):Q1:=(bE (dt av aE aj aG) dm Lt (fun s=>cI Mk s J4))
def BB (n:Nat) (av:bQ) (aE:bR) (aj:bN) (aG:cv) (k:gI) (j4:uP) (v0:AV) (v1:Int) (v2:Int) (v21:Bool) (h:Heap):CRes:=
 ifB v21
 (j4 v0 v1 v2 true h)
 (j4 v0 v1 v2 (ltF v1 0) h)
theorem afg (hk:fK k0 k) {J4:Q1} {j4:uP} (h4:B3 J4 j4):B2 (Mx n av aE aj aG k0 J4) (BB n av aE aj aG k j4):=by
  obtain rfl:=fx2 hk
  obtain rfl:=fx5 h4
  intro v0 v1 v2 v21 h
  kernel_rfl
def LP:Q1:=Mx n av aE aj aG k0 (LY n av aE aj aG k0)
def Bt:uW:=BB n av aE aj aG k (B4 n av aE aj aG k)
theorem aeS (hk:fK k0 k):B2 (LP n av aE aj aG k0) (Bt n av aE aj aG k):=afg n av aE aj aG k0 k hk (aeV n av aE aj aG k0 k hk)
def S1 (n:Nat) (av:bQ) (aE:bR) (aj:bN) (aG:cv) (k0:Q0) (J3:Q1):Q1:=(bE (dt av aE aj aG) dm JM (bE (dt av aE aj aG) dm Li (fun s=>dH (.t p12) s (bE (dt av aE aj aG) dm JQ (cG kW k0)) (bE (dt av aE aj aG) dm K6 (fun s=>cI Mi s J3)))))
def Fz (n:Nat) (av:bQ) (aE:bR) (aj:bN) (aG:cv) (k:gI) (j3:uW) (a0:AV) (a1:Int) (a2:Int) (h:Heap):CRes:=
 av a0 h fun x0 h1=>
 ifB x0
 (k 1 h1)
 (ifB (ltF a2 0)
 (j3 a0 a1 a2 true h1)
 (j3 a0 a1 a2 (ltF 6 a2) h1))
theorem ajd (n:Nat) (av:bQ) (aE:bR) (aj:bN) (aG:cv) (k0:Q0) (k:gI) (hk:fK k0 k) {J3:Q1} {j3:uW} (h3:B2 J3 j3) (a0:AV) (a1:Int) (a2:Int) (h:Heap):(S1 n av aE aj aG k0 J3) ⟨cH [(p0,a0),(p1,(.int .i64 a1)),(p2,(.int .i64 a2))],h⟩=(Fz n av aE aj aG k j3) a0 a1 a2 h:=by
  obtain rfl:=fx2 hk
  obtain rfl:=fx5 h3
  kernel_rfl
def aji:Q1:=S1 n av aE aj aG k0 (LP n av aE aj aG k0)
def Fv (n:Nat) (av:bQ) (aE:bR) (aj:bN) (aG:cv) (a0:AV) (a1:Int) (a2:Int) (h:Heap) (k:gI):CRes:=Fz n av aE aj aG k (Bt n av aE aj aG k) a0 a1 a2 h
theorem ajo (n:Nat) (av:bQ) (aE:bR) (aj:bN) (aG:cv) (k0:Q0) (s:St):D (ez [(fD,eY av),(eB,dP aE),(fA,eT aj),(jV,ja aG)]) dm n FR (cG kW k0) (fun _ _=>.err) (cG kW k0) s=aji n av aE aj aG k0 s:=by kernel_rfl
theorem ajl (n:Nat) (av:bQ) (aE:bR) (aj:bN) (aG:cv) (a0:AV) (a1:Int) (a2:Int) (h:Heap) (k0:Q0):W Fq kW [(fD,eY av),(eB,dP aE),(fA,eT aj),(jV,ja aG)] dm n FR [a0,(.int .i64 a1),(.int .i64 a2)] h k0=Fv n av aE aj aG a0 a1 a2 h (fun u0 h=>k0 (.int .i64 u0) h):=by
  let k:gI:=fun u0 h=>k0 (.int .i64 u0) h
  have hk:fK k0 k:=fun _ _=>rfl
  have hb:∀ F:Tr AV→CRes,fJ Fq [a0,(.int .i64 a1),(.int .i64 a2)] .leaf F=F (cH [(p0,a0),(p1,(.int .i64 a1)),(p2,(.int .i64 a2))]):=fun F=>by kernel_rfl
  exact (lD hb).trans ((ajo n av aE aj aG k0 _).trans (ajd n av aE aj aG k0 k hk (aeS n av aE aj aG k0 k hk) a0 a1 a2 h))
end
def ph (n:Nat):gh:=Fv n (fF n) (dQ n) (eo n) (fY n)
abbrev cg:=AV→Int→Heap→(Int→Heap→CRes)→CRes
abbrev oe:=Int→Heap→CRes
def ra (g:cg):Wr:=fun l h k=>kL l fun a0 l=>nH .i64 l fun a1 l=>lw l (g a0 a1 h fun u0 h=>k (.int .i64 u0) h)
def eu (ai:bg) (db:pj) (cD:kz) (aY:cX) (bV:gh):dD:=ez [(cY,cU ai),(PA,IW db),(DD,xH cD),(fQ,fd aY),(sc,oU bV)]
abbrev y7 (k0:Q0) (k:oe):Prop:=∀ u0 h,k0 (.int .i64 u0) h=k u0 h
abbrev xf:Type:=AV→Int→Int→Bool→Heap→CRes
abbrev FE (J:Q1) (j:xf):Prop:=∀ v0 v1 v5 v28 h,J ⟨cH [(p0,v0),(p1,(.int .i64 v1)),(p5,(.int .u8 v5)),(p28,(.bool v28))],h⟩=j v0 v1 v5 v28 h
section
variable (n:Nat) (ai:bg) (db:pj) (cD:kz) (aY:cX) (bV:gh) (k0:Q0) (k:oe)
def SZ (n:Nat) (ai:bg) (db:pj) (cD:kz) (aY:cX) (bV:gh) (k0:Q0):Q1:=(fun s=>dH (.t p28) s (bE (eu ai db cD aY bV) dM P1 (cG jD k0)) (bE (eu ai db cD aY bV) dM PB (bE (eu ai db cD aY bV) dM PC (fun s=>dH (.t p39) s (bE (eu ai db cD aY bV) dM SA (cG jD k0)) (bE (eu ai db cD aY bV) dM SP (bE (eu ai db cD aY bV) dM Si (fun s=>dH (.t p51) s (bE (eu ai db cD aY bV) dM S2 (cG jD k0)) (bE (eu ai db cD aY bV) dM SR (bE (eu ai db cD aY bV) dM ST (fun s=>dH (.t p68) s (bE (eu ai db cD aY bV) dM Ta (cG jD k0)) (bE (eu ai db cD aY bV) dM Sn (bE (eu ai db cD aY bV) dM Sx (bE (eu ai db cD aY bV) dM S5 (cG jD k0))))))))))))))
def xl (n:Nat) (ai:bg) (db:pj) (cD:kz) (aY:cX) (bV:gh) (k:oe) (v0:AV) (v1:Int) (v5:Int) (v28:Bool) (h:Heap):CRes:=
 ifB v28
 (k 91 h)
 (arD .i64 0 h v0 fun x7 x8=>
 db v1 x8 h fun x9 x10 h11=>
 ifB (fS (eqF x10 0))
 (k x10 h11)
 (arD .i64 0 h11 v0 fun x12 x13=>
 cD v1 x13 h11 fun x14 x15 h16=>
 ifB (fS (eqF x15 0))
 (k x15 h16)
 (TE 11 h16 v0 1 false fun x17 x18=>
 TE 1 h16 v0 1 false fun x19 x20=>
 aY x20 x9 (h16.shut true) fun x21 h22=>
 eld 1 (h22.back h16.ro) x18 x21 1 false fun x23 x24=>
 bV x24 x14 0 (h22.back h16.ro) fun x25 h26=>
 ifB (fS (eqF x25 0))
 (k x25 h26)
 (TE 12 h26 v0 1 false fun x27 x28=>
 aiE h26 (.cell .int) x28 (.int .i64 v1) fun h29=>
 nfa 13 v0 fun x30=>
 Fw 1 7 x30 v5 fun x31=>
 ldI .i64 h29 x31 fun x32=>
 YK .i64 x32 1 fun x33=>
 nfa 13 v0 fun x34=>
 Fw 1 7 x34 v5 fun x35=>
 lS h29 x35 1 (.int .i64 x33) fun h36=>
 k 0 h36))))
theorem ajn (hk:y7 k0 k):FE (SZ n ai db cD aY bV k0) (xl n ai db cD aY bV k):=by
  obtain rfl:=fx2 hk
  intro v0 v1 v5 v28 h
  kernel_rfl
def SQ:Q1:=SZ n ai db cD aY bV k0
def xo:xf:=xl n ai db cD aY bV k
theorem aiZ (hk:y7 k0 k):FE (SQ n ai db cD aY bV k0) (xo n ai db cD aY bV k):=ajn n ai db cD aY bV k0 k hk
def Xp (n:Nat) (ai:bg) (db:pj) (cD:kz) (aY:cX) (bV:gh) (k0:Q0) (J0:Q1):Q1:=(bE (eu ai db cD aY bV) dM Pa (bE (eu ai db cD aY bV) dM PS (fun s=>dH (.t p13) s (bE (eu ai db cD aY bV) dM PW (cG jD k0)) (bE (eu ai db cD aY bV) dM Qh (bE (eu ai db cD aY bV) dM Pw (fun s=>cI SO s J0))))))
def Cb (n:Nat) (ai:bg) (db:pj) (cD:kz) (aY:cX) (bV:gh) (k:oe) (j0:xf) (a0:AV) (a1:Int) (h:Heap):CRes:=
 ai a0 h fun x0 h1=>
 ifB (fS x0)
 (k 1 h1)
 (TE 12 h1 a0 1 false fun x2 x3=>
 Tn h1 (.cell .int) (.int .u8 0) x3 (.int .i64 a1) fun x4 b5=>
 Wa .u8 x4 fun x6=>
 ifB (fS b5)
 (j0 a0 a1 x6 true h1)
 (j0 a0 a1 x6 (eqF x6 1) h1))
theorem amw (n:Nat) (ai:bg) (db:pj) (cD:kz) (aY:cX) (bV:gh) (k0:Q0) (k:oe) (hk:y7 k0 k) {J0:Q1} {j0:xf} (h0:FE J0 j0) (a0:AV) (a1:Int) (h:Heap):(Xp n ai db cD aY bV k0 J0) ⟨cH [(p0,a0),(p1,(.int .i64 a1))],h⟩=(Cb n ai db cD aY bV k j0) a0 a1 h:=by
  obtain rfl:=fx2 hk
  obtain rfl:=fx5 h0
  kernel_rfl
def anB:Q1:=Xp n ai db cD aY bV k0 (SQ n ai db cD aY bV k0)
def Ct (n:Nat) (ai:bg) (db:pj) (cD:kz) (aY:cX) (bV:gh) (a0:AV) (a1:Int) (h:Heap) (k:oe):CRes:=Cb n ai db cD aY bV k (xo n ai db cD aY bV k) a0 a1 h
theorem anj (n:Nat) (ai:bg) (db:pj) (cD:kz) (aY:cX) (bV:gh) (k0:Q0) (s:St):D (ez [(cY,cU ai),(PA,IW db),(DD,xH cD),(fQ,fd aY),(sc,oU bV)]) dM n Lh (cG jD k0) (fun _ _=>.err) (cG jD k0) s=anB n ai db cD aY bV k0 s:=by kernel_rfl
theorem aml (n:Nat) (ai:bg) (db:pj) (cD:kz) (aY:cX) (bV:gh) (a0:AV) (a1:Int) (h:Heap) (k0:Q0):W La jD [(cY,cU ai),(PA,IW db),(DD,xH cD),(fQ,fd aY),(sc,oU bV)] dM n Lh [a0,(.int .i64 a1)] h k0=Ct n ai db cD aY bV a0 a1 h (fun u0 h=>k0 (.int .i64 u0) h):=by
  let k:oe:=fun u0 h=>k0 (.int .i64 u0) h
  have hk:y7 k0 k:=fun _ _=>rfl
  have hb:∀ F:Tr AV→CRes,fJ La [a0,(.int .i64 a1)] .leaf F=F (cH [(p0,a0),(p1,(.int .i64 a1))]):=fun F=>by kernel_rfl
  exact (lD hb).trans ((anj n ai db cD aY bV k0 _).trans (amw n ai db cD aY bV k0 k hk (aiZ n ai db cD aY bV k0 k hk) a0 a1 h))
end
def dN (n:Nat):cg:=Ct n (dn n) (Jd n) (yv n) (fP n) (ph n)
/-! cofferdam/cofferdamref00.EqInts -/
abbrev bI:=AV→AV→Heap→(Bool→Heap→CRes)→CRes
abbrev il:=Bool→Heap→CRes
def lE (g:bI):Wr:=fun l h k=>kL l fun a0 l=>kL l fun a1 l=>lw l (g a0 a1 h fun u0 h=>k (.bool u0) h)
def gj:dD:=ez []
abbrev kM (k0:Q0) (k:il):Prop:=∀ u0 h,k0 (.bool u0) h=k u0 h
abbrev pA:Type:=Heap→CRes
abbrev vp (J:Q1) (j:pA):Prop:=∀ h,J ⟨cH [],h⟩=j h
abbrev iz:Type:=AV→AV→Int→Heap→CRes
abbrev px (J:Q1) (j:iz):Prop:=∀ v0 v1 v5 h,J ⟨cH [(p0,v0),(p1,v1),(p5,(.int .i64 v5))],h⟩=j v0 v1 v5 h
section
variable (n:Nat) (k0:Q0) (k:il)
def Fd (n:Nat) (k0:Q0):Q1:=(bE (gj) eR Fh (cG jo k0))
def vI (n:Nat) (k:il) (h:Heap):CRes:=
 k true h
theorem V4 (hk:kM k0 k):vp (Fd n k0) (vI n k):=by
  obtain rfl:=fx2 hk
  intro h
  kernel_rfl
def ET:Q1:=Fd n k0
def pz:pA:=vI n k
theorem V0 (hk:kM k0 k):vp (ET n k0) (pz n k):=V4 n k0 k hk
def E2 (n:Nat) (k0:Q0) (J0:Q1) (J1:Q1):Q1:=(bE (gj) eR E7 (fun s=>dH (.t p14) s (bE (gj) eR EX (fun s=>dH (.t p25) s (bE (gj) eR EZ (cG jo k0)) (bE (gj) eR Fb (fun s=>cI vF s J1)))) (fun s=>cI Fi s J0)))
def pB (n:Nat) (k:il) (j0:pA) (j1:iz) (v0:AV) (v1:AV) (v5:Int) (h:Heap):CRes:=
 fH v0 fun x2=>
 ifB (ltF v5 x2)
 (Lw .i64 1 h v0 v5 fun x3 x4=>
 Lw .i64 1 h v1 v5 fun x5 x6=>
 ifB (fS (eqF x4 x6))
 (k false h)
 (lp .i64 v5 1 fun x7=>
 j1 v0 v1 x7 h))
 (j0 h)
theorem We (hk:kM k0 k) {J0:Q1} {j0:pA} (h0:vp J0 j0) {J1:Q1} {j1:iz} (h1:px J1 j1):px (E2 n k0 J0 J1) (pB n k j0 j1):=by
  obtain rfl:=fx2 hk
  obtain rfl:=fx1 h0
  obtain rfl:=fx4 h1
  intro v0 v1 v5 h
  kernel_rfl
def ES (m:Nat):Q1:=Nat.rec (motive:=fun _=>Q1) (fun _=>.err) (fun _ ih=>E2 n k0 (ET n k0) ih) m
def ma (m:Nat):iz:=Nat.rec (motive:=fun _=>iz) (fun _ _ _ _=>.err) (fun _ ih=>pB n k (pz n k) ih) m
theorem Wk (m:Nat):ma n k (m+1)=pB n k (pz n k) (ma n k m):=rfl
theorem V8 (hk:kM k0 k) (m:Nat):px (ES n k0 m) (ma n k m):=by
  induction m with
  | zero=>intro v0 v1 v5 h; rfl
  | succ m ih=>exact We n k0 k hk (V0 n k0 k hk) ih
def I9 (n:Nat) (k0:Q0) (J1:Q1):Q1:=(bE (gj) eR Fg (bE (gj) eR E8 (fun s=>dH (.t p10) s (bE (gj) eR E0 (cG jo k0)) (bE (gj) eR Fe (fun s=>cI vF s J1)))))
def yJ (n:Nat) (k:il) (j1:iz) (a0:AV) (a1:AV) (h:Heap):CRes:=
 fH a0 fun x0=>
 fH a1 fun x1=>
 ifB (fS (eqF x0 x1))
 (k false h)
 (j1 a0 a1 0 h)
theorem aaA (n:Nat) (k0:Q0) (k:il) (hk:kM k0 k) {J1:Q1} {j1:iz} (h1:px J1 j1) (a0:AV) (a1:AV) (h:Heap):(I9 n k0 J1) ⟨cH [(p0,a0),(p1,a1)],h⟩=(yJ n k j1) a0 a1 h:=by
  obtain rfl:=fx2 hk
  obtain rfl:=fx4 h1
  kernel_rfl
def Yv:Q1:=I9 n k0 (ES n k0 n)
def xI (n:Nat) (a0:AV) (a1:AV) (h:Heap) (k:il):CRes:=yJ n k (ma n k n) a0 a1 h
theorem ZJ (n:Nat) (k0:Q0) (s:St):D (ez []) eR n yD (cG jo k0) (fun _ _=>.err) (cG jo k0) s=Yv n k0 s:=by kernel_rfl
theorem aaG (n:Nat) (a0:AV) (a1:AV) (h:Heap) (k0:Q0):W xw jo [] eR n yD [a0,a1] h k0=xI n a0 a1 h (fun u0 h=>k0 (.bool u0) h):=by
  let k:il:=fun u0 h=>k0 (.bool u0) h
  have hk:kM k0 k:=fun _ _=>rfl
  have hb:∀ F:Tr AV→CRes,fJ xw [a0,a1] .leaf F=F (cH [(p0,a0),(p1,a1)]):=fun F=>by kernel_rfl
  exact (lD hb).trans ((ZJ n k0 _).trans (aaA n k0 k hk (V8 n k0 k hk n) a0 a1 h))
end
def dq (n:Nat):bI:=xI n
/-! cofferdam/cofferdamref00.CopyInts -/
abbrev bq:=AV→Heap→(AV→Heap→CRes)→CRes
abbrev jQ:=AV→Heap→CRes
def jN (g:bq):Wr:=fun l h k=>kL l fun a0 l=>lw l (g a0 h fun u0 h=>k u0 h)
def tW:dD:=ez []
abbrev D6 (k0:Q0) (k:jQ):Prop:=∀ u0 h,k0 u0 h=k u0 h
section
variable (n:Nat) (k0:Q0) (k:jQ)
def Ff (n:Nat) (k0:Q0):Q1:=(bE (tW) jP CZ (bE (tW) jP Cf (bE (tW) jP Cm (cG mc k0))))
def vv (n:Nat) (k:jQ) (a0:AV) (h:Heap):CRes:=
 mQ h 1 .nilslice a0 fun x0 h1=>
 k x0 h1
theorem VW (n:Nat) (k0:Q0) (k:jQ) (hk:D6 k0 k) (a0:AV) (h:Heap):(Ff n k0) ⟨cH [(p0,a0)],h⟩=(vv n k) a0 h:=by
  obtain rfl:=fx2 hk
  kernel_rfl
def Wc:Q1:=Ff n k0
def vi (n:Nat) (a0:AV) (h:Heap) (k:jQ):CRes:=vv n k a0 h
theorem VT (n:Nat) (k0:Q0) (s:St):D (ez []) jP n vG (cG mc k0) (fun _ _=>.err) (cG mc k0) s=Wc n k0 s:=by kernel_rfl
theorem Wj (n:Nat) (a0:AV) (h:Heap) (k0:Q0):W vk mc [] jP n vG [a0] h k0=vi n a0 h (fun u0 h=>k0 u0 h):=by
  let k:jQ:=fun u0 h=>k0 u0 h
  have hk:D6 k0 k:=fun _ _=>rfl
  have hb:∀ F:Tr AV→CRes,fJ vk [a0] .leaf F=F (cH [(p0,a0)]):=fun F=>by kernel_rfl
  exact (lD hb).trans ((VT n k0 _).trans (VW n k0 k hk a0 h))
end
def de (n:Nat):bq:=vi n
abbrev bZ:=AV→Heap→(Bool→Heap→CRes)→CRes
abbrev m7:=Bool→Heap→CRes
def pO (g:bZ):Wr:=fun l h k=>kL l fun a0 l=>lw l (g a0 h fun u0 h=>k (.bool u0) h)
def Fy (ai:bg):dD:=ez [(cY,cU ai)]
abbrev xk (k0:Q0) (k:m7):Prop:=∀ u0 h,k0 (.bool u0) h=k u0 h
abbrev wk:Type:=Bool→Heap→CRes
abbrev Dr (J:Q1) (j:wk):Prop:=∀ v17 h,J ⟨cH [(p17,(.bool v17))],h⟩=j v17 h
section
variable (n:Nat) (ai:bg) (k0:Q0) (k:m7)
def PZ (n:Nat) (ai:bg) (k0:Q0):Q1:=(bE (Fy ai) pU PY (cG tM k0))
def Dg (n:Nat) (ai:bg) (k:m7) (v17:Bool) (h:Heap):CRes:=
 k v17 h
theorem ag3 (hk:xk k0 k):Dr (PZ n ai k0) (Dg n ai k):=by
  obtain rfl:=fx2 hk
  intro v17 h
  kernel_rfl
def Pq:Q1:=PZ n ai k0
def Dw:wk:=Dg n ai k
theorem ahn (hk:xk k0 k):Dr (Pq n ai k0) (Dw n ai k):=ag3 n ai k0 k hk
def Ue (n:Nat) (ai:bg) (k0:Q0) (J0:Q1):Q1:=(bE (Fy ai) pU P5 (bE (Fy ai) pU PH (fun s=>cI PQ s J0)))
def HV (n:Nat) (ai:bg) (k:m7) (j0:wk) (a0:AV) (h:Heap):CRes:=
 ai a0 h fun x0 h1=>
 ifB x0
 (TE 12 h1 a0 1 false fun x2 x3=>
 aoB h1 x3 fun x4=>
 nfa 13 a0 fun x5=>
 Fw 1 7 x5 1 fun x6=>
 ldI .i64 h1 x6 fun x7=>
 j0 (eqF x4 x7) h1)
 (j0 false h1)
theorem ald (n:Nat) (ai:bg) (k0:Q0) (k:m7) (hk:xk k0 k) {J0:Q1} {j0:wk} (h0:Dr J0 j0) (a0:AV) (h:Heap):(Ue n ai k0 J0) ⟨cH [(p0,a0)],h⟩=(HV n ai k j0) a0 h:=by
  obtain rfl:=fx2 hk
  obtain rfl:=fx2 h0
  kernel_rfl
def alK:Q1:=Ue n ai k0 (Pq n ai k0)
def HR (n:Nat) (ai:bg) (a0:AV) (h:Heap) (k:m7):CRes:=HV n ai k (Dw n ai k) a0 h
theorem alN (n:Nat) (ai:bg) (k0:Q0) (s:St):D (ez [(cY,cU ai)]) pU n H9 (cG tM k0) (fun _ _=>.err) (cG tM k0) s=alK n ai k0 s:=by kernel_rfl
theorem ali (n:Nat) (ai:bg) (a0:AV) (h:Heap) (k0:Q0):W H6 tM [(cY,cU ai)] pU n H9 [a0] h k0=HR n ai a0 h (fun u0 h=>k0 (.bool u0) h):=by
  let k:m7:=fun u0 h=>k0 (.bool u0) h
  have hk:xk k0 k:=fun _ _=>rfl
  have hb:∀ F:Tr AV→CRes,fJ H6 [a0] .leaf F=F (cH [(p0,a0)]):=fun F=>by kernel_rfl
  exact (lD hb).trans ((alN n ai k0 _).trans (ald n ai k0 k hk (ahn n ai k0 k hk) a0 h))
end
def ew (n:Nat):bZ:=HR n (dn n)
/-! cofferdam/cofferdamlaw12.PoolAdds -/
abbrev E3:=AV→Int→AV→Heap→(Bool→Heap→CRes)→CRes
abbrev cw:=Bool→Heap→CRes
def Fc (g:E3):Wr:=fun l h k=>kL l fun a0 l=>nH .i64 l fun a1 l=>kL l fun a2 l=>lw l (g a0 a1 a2 h fun u0 h=>k (.bool u0) h)
def bo (af:Wr) (aL:dl) (ak:bX) (au:ce) (ah:bO) (ad:bH) (ar:cg) (ae:bI) (aI:cW) (aa:bf) (ab:bq) (am:bZ):dD:=ez [(oj,af),(UC,N2 aL),(tZ,pX ak),(ws,qU au),(pC,my ah),(ny,lF ad),(wd,ra ar),(nC,lE ae),(zb,wR aI),(li,jv aa),(md,jN ab),(ug,pO am)]
abbrev bL (k0:Q0) (k:cw):Prop:=∀ u0 h,k0 (.bool u0) h=k u0 h
abbrev nX:Type:=Bool→Heap→CRes
abbrev sM (J:Q1) (j:nX):Prop:=∀ v255 h,J ⟨cH [(p255,(.bool v255))],h⟩=j v255 h
abbrev nQ:Type:=Int→Int→Heap→CRes
abbrev su (J:Q1) (j:nQ):Prop:=∀ v8 v20 h,J ⟨cH [(p8,(.int .i64 v8)),(p20,(.int .i64 v20))],h⟩=j v8 v20 h
abbrev nO:Type:=AV→Int→AV→Int→Int→Bool→Heap→CRes
abbrev sV (J:Q1) (j:nO):Prop:=∀ v7 v8 v18 v20 v21 v249 h,J ⟨cH [(p7,v7),(p8,(.int .i64 v8)),(p18,v18),(p20,(.int .i64 v20)),(p21,(.int .i64 v21)),(p249,(.bool v249))],h⟩=j v7 v8 v18 v20 v21 v249 h
abbrev fk:Type:=AV→Int→AV→Int→Int→Heap→CRes
abbrev ll (J:Q1) (j:fk):Prop:=∀ v7 v8 v18 v20 v21 h,J ⟨cH [(p7,v7),(p8,(.int .i64 v8)),(p18,v18),(p20,(.int .i64 v20)),(p21,(.int .i64 v21))],h⟩=j v7 v8 v18 v20 v21 h
abbrev nP:Type:=Int→AV→AV→Bool→Heap→CRes
abbrev sF (J:Q1) (j:nP):Prop:=∀ v1 v3 v7 v208 h,J ⟨cH [(p1,(.int .i64 v1)),(p3,v3),(p7,v7),(p208,(.bool v208))],h⟩=j v1 v3 v7 v208 h
abbrev nU:Type:=Int→AV→AV→Bool→Heap→CRes
abbrev sW (J:Q1) (j:nU):Prop:=∀ v1 v3 v7 v203 h,J ⟨cH [(p1,(.int .i64 v1)),(p3,v3),(p7,v7),(p203,(.bool v203))],h⟩=j v1 v3 v7 v203 h
abbrev nY:Type:=Int→AV→AV→AV→AV→Bool→Heap→CRes
abbrev sO (J:Q1) (j:nY):Prop:=∀ v1 v3 v7 v9 v17 v195 h,J ⟨cH [(p1,(.int .i64 v1)),(p3,v3),(p7,v7),(p9,v9),(p17,v17),(p195,(.bool v195))],h⟩=j v1 v3 v7 v9 v17 v195 h
abbrev nL:Type:=Int→AV→AV→AV→AV→Heap→CRes
abbrev sY (J:Q1) (j:nL):Prop:=∀ v1 v3 v7 v9 v10 h,J ⟨cH [(p1,(.int .i64 v1)),(p3,v3),(p7,v7),(p9,v9),(p10,v10)],h⟩=j v1 v3 v7 v9 v10 h
abbrev gO:Type:=Int→AV→AV→AV→AV→AV→Int→Heap→CRes
abbrev nT (J:Q1) (j:gO):Prop:=∀ v1 v3 v7 v9 v10 v11 v16 h,J ⟨cH [(p1,(.int .i64 v1)),(p3,v3),(p7,v7),(p9,v9),(p10,v10),(p11,v11),(p16,(.int .i64 v16))],h⟩=j v1 v3 v7 v9 v10 v11 v16 h
abbrev nN:Type:=Int→AV→AV→AV→AV→AV→Heap→CRes
abbrev sL (J:Q1) (j:nN):Prop:=∀ v1 v3 v7 v9 v10 v11 h,J ⟨cH [(p1,(.int .i64 v1)),(p3,v3),(p7,v7),(p9,v9),(p10,v10),(p11,v11)],h⟩=j v1 v3 v7 v9 v10 v11 h
abbrev mR:Type:=Int→AV→AV→AV→AV→AV→AV→Int→Bool→Heap→CRes
abbrev rL (J:Q1) (j:mR):Prop:=∀ v1 v2 v3 v7 v9 v10 v11 v12 v163 h,J ⟨cH [(p1,(.int .i64 v1)),(p2,v2),(p3,v3),(p7,v7),(p9,v9),(p10,v10),(p11,v11),(p12,(.int .i64 v12)),(p163,(.bool v163))],h⟩=j v1 v2 v3 v7 v9 v10 v11 v12 v163 h
abbrev fL:Type:=Int→AV→AV→AV→AV→AV→AV→Int→Heap→CRes
abbrev kq (J:Q1) (j:fL):Prop:=∀ v1 v2 v3 v7 v9 v10 v11 v12 h,J ⟨cH [(p1,(.int .i64 v1)),(p2,v2),(p3,v3),(p7,v7),(p9,v9),(p10,v10),(p11,v11),(p12,(.int .i64 v12))],h⟩=j v1 v2 v3 v7 v9 v10 v11 v12 h
abbrev mJ:Type:=Int→AV→AV→AV→AV→AV→AV→Int→Bool→Heap→CRes
abbrev rN (J:Q1) (j:mJ):Prop:=∀ v1 v2 v3 v7 v9 v10 v11 v12 v117 h,J ⟨cH [(p1,(.int .i64 v1)),(p2,v2),(p3,v3),(p7,v7),(p9,v9),(p10,v10),(p11,v11),(p12,(.int .i64 v12)),(p117,(.bool v117))],h⟩=j v1 v2 v3 v7 v9 v10 v11 v12 v117 h
abbrev mY:Type:=Int→AV→AV→AV→AV→AV→AV→Int→Int→Bool→Heap→CRes
abbrev rQ (J:Q1) (j:mY):Prop:=∀ v1 v2 v3 v7 v9 v10 v11 v12 v15 v141 h,J ⟨cH [(p1,(.int .i64 v1)),(p2,v2),(p3,v3),(p7,v7),(p9,v9),(p10,v10),(p11,v11),(p12,(.int .i64 v12)),(p15,(.int .i64 v15)),(p141,(.bool v141))],h⟩=j v1 v2 v3 v7 v9 v10 v11 v12 v15 v141 h
abbrev mG:Type:=Int→AV→AV→AV→AV→AV→AV→Int→Bool→Heap→CRes
abbrev rU (J:Q1) (j:mG):Prop:=∀ v1 v2 v3 v7 v9 v10 v11 v12 v93 h,J ⟨cH [(p1,(.int .i64 v1)),(p2,v2),(p3,v3),(p7,v7),(p9,v9),(p10,v10),(p11,v11),(p12,(.int .i64 v12)),(p93,(.bool v93))],h⟩=j v1 v2 v3 v7 v9 v10 v11 v12 v93 h
abbrev mT:Type:=Int→AV→AV→AV→AV→AV→AV→Int→Bool→Heap→CRes
abbrev rH (J:Q1) (j:mT):Prop:=∀ v1 v2 v3 v7 v9 v10 v11 v12 v79 h,J ⟨cH [(p1,(.int .i64 v1)),(p2,v2),(p3,v3),(p7,v7),(p9,v9),(p10,v10),(p11,v11),(p12,(.int .i64 v12)),(p79,(.bool v79))],h⟩=j v1 v2 v3 v7 v9 v10 v11 v12 v79 h
abbrev cQ:Type:=Int→AV→AV→AV→AV→AV→AV→Int→Heap→CRes
abbrev eL (J:Q1) (j:cQ):Prop:=∀ v1 v2 v3 v7 v9 v10 v11 v12 h,J ⟨cH [(p1,(.int .i64 v1)),(p2,v2),(p3,v3),(p7,v7),(p9,v9),(p10,v10),(p11,v11),(p12,(.int .i64 v12))],h⟩=j v1 v2 v3 v7 v9 v10 v11 v12 h
abbrev mL:Type:=Int→AV→AV→AV→AV→AV→Bool→Heap→CRes
abbrev rz (J:Q1) (j:mL):Prop:=∀ v1 v2 v3 v7 v9 v10 v71 h,J ⟨cH [(p1,(.int .i64 v1)),(p2,v2),(p3,v3),(p7,v7),(p9,v9),(p10,v10),(p71,(.bool v71))],h⟩=j v1 v2 v3 v7 v9 v10 v71 h
abbrev mV:Type:=Bool→Heap→CRes
abbrev rW (J:Q1) (j:mV):Prop:=∀ v50 h,J ⟨cH [(p50,(.bool v50))],h⟩=j v50 h
abbrev mN:Type:=AV→Int→Bool→Heap→CRes
abbrev rn (J:Q1) (j:mN):Prop:=∀ v3 v8 v42 h,J ⟨cH [(p3,v3),(p8,(.int .i64 v8)),(p42,(.bool v42))],h⟩=j v3 v8 v42 h
section
variable (n:Nat) (af:Wr) (aL:dl) (ak:bX) (au:ce) (ah:bO) (ad:bH) (ar:cg) (ae:bI) (aI:cW) (aa:bf) (ab:bq) (am:bZ) (k0:Q0) (k:cw)
def CD (n:Nat) (af:Wr) (aL:dl) (ak:bX) (au:ce) (ah:bO) (ad:bH) (ar:cg) (ae:bI) (aI:cW) (aa:bf) (ab:bq) (am:bZ) (k0:Q0):Q1:=(bE (bo af aL ak au ah ad ar ae aI aa ab am) bj Cn (cG dF k0))
def sy (n:Nat) (af:Wr) (aL:dl) (ak:bX) (au:ce) (ah:bO) (ad:bH) (ar:cg) (ae:bI) (aI:cW) (aa:bf) (ab:bq) (am:bZ) (k:cw) (v255:Bool) (h:Heap):CRes:=
 k v255 h
theorem Tg (hk:bL k0 k):sM (CD n af aL ak au ah ad ar ae aI aa ab am k0) (sy n af aL ak au ah ad ar ae aI aa ab am k):=by
  obtain rfl:=fx2 hk
  intro v255 h
  kernel_rfl
def Ce:Q1:=CD n af aL ak au ah ad ar ae aI aa ab am k0
def sI:nX:=sy n af aL ak au ah ad ar ae aI aa ab am k
theorem Tl (hk:bL k0 k):sM (Ce n af aL ak au ah ad ar ae aI aa ab am k0) (sI n af aL ak au ah ad ar ae aI aa ab am k):=Tg n af aL ak au ah ad ar ae aI aa ab am k0 k hk
def Ck (n:Nat) (af:Wr) (aL:dl) (ak:bX) (au:ce) (ah:bO) (ad:bH) (ar:cg) (ae:bI) (aI:cW) (aa:bf) (ab:bq) (am:bZ) (k0:Q0) (J0:Q1):Q1:=(bE (bo af aL ak au ah ad ar ae aI aa ab am) bj CS (fun s=>cI CO s J0))
def sC (n:Nat) (af:Wr) (aL:dl) (ak:bX) (au:ce) (ah:bO) (ad:bH) (ar:cg) (ae:bI) (aI:cW) (aa:bf) (ab:bq) (am:bZ) (k:cw) (j0:nX) (v8:Int) (v20:Int) (h:Heap):CRes:=
 ifB (eqF v8 0)
 (j0 (eqF v20 0) h)
 (j0 false h)
theorem TQ (hk:bL k0 k) {J0:Q1} {j0:nX} (h0:sM J0 j0):su (Ck n af aL ak au ah ad ar ae aI aa ab am k0 J0) (sC n af aL ak au ah ad ar ae aI aa ab am k j0):=by
  obtain rfl:=fx2 hk
  obtain rfl:=fx2 h0
  intro v8 v20 h
  kernel_rfl
def CP:Q1:=Ck n af aL ak au ah ad ar ae aI aa ab am k0 (Ce n af aL ak au ah ad ar ae aI aa ab am k0)
def nM:nQ:=sC n af aL ak au ah ad ar ae aI aa ab am k (sI n af aL ak au ah ad ar ae aI aa ab am k)
theorem TK (hk:bL k0 k):su (CP n af aL ak au ah ad ar ae aI aa ab am k0) (nM n af aL ak au ah ad ar ae aI aa ab am k):=TQ n af aL ak au ah ad ar ae aI aa ab am k0 k hk (Tl n af aL ak au ah ad ar ae aI aa ab am k0 k hk)
def CC (n:Nat) (af:Wr) (aL:dl) (ak:bX) (au:ce) (ah:bO) (ad:bH) (ar:cg) (ae:bI) (aI:cW) (aa:bf) (ab:bq) (am:bZ) (k0:Q0) (J2:Q1):Q1:=(fun s=>dH (.t p249) s (bE (bo af aL ak au ah ad ar ae aI aa ab am) bj CL (cG dF k0)) (bE (bo af aL ak au ah ad ar ae aI aa ab am) bj Cy (fun s=>cI sT s J2)))
def sr (n:Nat) (af:Wr) (aL:dl) (ak:bX) (au:ce) (ah:bO) (ad:bH) (ar:cg) (ae:bI) (aI:cW) (aa:bf) (ab:bq) (am:bZ) (k:cw) (j2:fk) (v7:AV) (v8:Int) (v18:AV) (v20:Int) (v21:Int) (v249:Bool) (h:Heap):CRes:=
 ifB v249
 (k false h)
 (lp .i64 v21 1 fun x115=>
 j2 v7 v8 v18 v20 x115 h)
theorem T1 (hk:bL k0 k) {J2:Q1} {j2:fk} (h2:ll J2 j2):sV (CC n af aL ak au ah ad ar ae aI aa ab am k0 J2) (sr n af aL ak au ah ad ar ae aI aa ab am k j2):=by
  obtain rfl:=fx2 hk
  obtain rfl:=fx6 h2
  intro v7 v8 v18 v20 v21 v249 h
  kernel_rfl
def Cq (J2:Q1):Q1:=CC n af aL ak au ah ad ar ae aI aa ab am k0 J2
def nJ (j2:fk):nO:=sr n af aL ak au ah ad ar ae aI aa ab am k j2
theorem TB (hk:bL k0 k) {J2:Q1} {j2:fk} (h2:ll J2 j2):sV (Cq n af aL ak au ah ad ar ae aI aa ab am k0 J2) (nJ n af aL ak au ah ad ar ae aI aa ab am k j2):=T1 n af aL ak au ah ad ar ae aI aa ab am k0 k hk h2
def C1 (n:Nat) (af:Wr) (aL:dl) (ak:bX) (au:ce) (ah:bO) (ad:bH) (ar:cg) (ae:bI) (aI:cW) (aa:bf) (ab:bq) (am:bZ) (k0:Q0) (J1:Q1) (J3:Q1):Q1:=(bE (bo af aL ak au ah ad ar ae aI aa ab am) bj B6 (fun s=>dH (.t p221) s (bE (bo af aL ak au ah ad ar ae aI aa ab am) bj Cw (bE (bo af aL ak au ah ad ar ae aI aa ab am) bj CW (bE (bo af aL ak au ah ad ar ae aI aa ab am) bj CF (fun s=>cI Cp s J3)))) (fun s=>cI Cj s J1)))
def nZ (n:Nat) (af:Wr) (aL:dl) (ak:bX) (au:ce) (ah:bO) (ad:bH) (ar:cg) (ae:bI) (aI:cW) (aa:bf) (ab:bq) (am:bZ) (k:cw) (j1:nQ) (j3:nO) (v7:AV) (v8:Int) (v18:AV) (v20:Int) (v21:Int) (h:Heap):CRes:=
 ifB (ltF v21 12)
 (asT .i64 v21 5 fun x103=>
 lp .i64 2 x103 fun x104=>
 Dn .u8 x104 fun x105=>
 au v7 x105 h fun x106 x107 h108=>
 asT .i64 v21 5 fun x109=>
 lp .i64 2 x109 fun x110=>
 Dn .u8 x110 fun x111=>
 au v18 x111 h108 fun x112 x113 h114=>
 ifB (fS (eqF x106 x112))
 (j3 v7 v8 v18 v20 v21 true h114)
 (j3 v7 v8 v18 v20 v21 (fS (eqF x107 x113)) h114))
 (j1 v8 v20 h)
theorem TS (hk:bL k0 k) {J1:Q1} {j1:nQ} (h1:su J1 j1) {J3:Q1} {j3:nO} (h3:sV J3 j3):ll (C1 n af aL ak au ah ad ar ae aI aa ab am k0 J1 J3) (nZ n af aL ak au ah ad ar ae aI aa ab am k j1 j3):=by
  obtain rfl:=fx2 hk
  obtain rfl:=fx3 h1
  obtain rfl:=fx7 h3
  intro v7 v8 v18 v20 v21 h
  kernel_rfl
def Cd (m:Nat):Q1:=Nat.rec (motive:=fun _=>Q1) (fun _=>.err) (fun _ ih=>C1 n af aL ak au ah ad ar ae aI aa ab am k0 (CP n af aL ak au ah ad ar ae aI aa ab am k0) (Cq n af aL ak au ah ad ar ae aI aa ab am k0 ih)) m
def lu (m:Nat):fk:=Nat.rec (motive:=fun _=>fk) (fun _ _ _ _ _ _=>.err) (fun _ ih=>nZ n af aL ak au ah ad ar ae aI aa ab am k (nM n af aL ak au ah ad ar ae aI aa ab am k) (nJ n af aL ak au ah ad ar ae aI aa ab am k ih)) m
theorem Tp (m:Nat):lu n af aL ak au ah ad ar ae aI aa ab am k (m+1)=nZ n af aL ak au ah ad ar ae aI aa ab am k (nM n af aL ak au ah ad ar ae aI aa ab am k) (nJ n af aL ak au ah ad ar ae aI aa ab am k (lu n af aL ak au ah ad ar ae aI aa ab am k m)):=rfl
theorem TR (hk:bL k0 k) (m:Nat):ll (Cd n af aL ak au ah ad ar ae aI aa ab am k0 m) (lu n af aL ak au ah ad ar ae aI aa ab am k m):=by
  induction m with
  | zero=>intro v7 v8 v18 v20 v21 h; rfl
  | succ m ih=>exact TS n af aL ak au ah ad ar ae aI aa ab am k0 k hk (TK n af aL ak au ah ad ar ae aI aa ab am k0 k hk) (TB n af aL ak au ah ad ar ae aI aa ab am k0 k hk ih)
def C5 (n:Nat) (af:Wr) (aL:dl) (ak:bX) (au:ce) (ah:bO) (ad:bH) (ar:cg) (ae:bI) (aI:cW) (aa:bf) (ab:bq) (am:bZ) (k0:Q0) (J2:Q1):Q1:=(fun s=>dH (.t p208) s (bE (bo af aL ak au ah ad ar ae aI aa ab am) bj z6 (cG dF k0)) (bE (bo af aL ak au ah ad ar ae aI aa ab am) bj zY (bE (bo af aL ak au ah ad ar ae aI aa ab am) bj C9 (bE (bo af aL ak au ah ad ar ae aI aa ab am) bj C7 (fun s=>cI sT s J2)))))
def so (n:Nat) (af:Wr) (aL:dl) (ak:bX) (au:ce) (ah:bO) (ad:bH) (ar:cg) (ae:bI) (aI:cW) (aa:bf) (ab:bq) (am:bZ) (k:cw) (j2:fk) (v1:Int) (v3:AV) (v7:AV) (v208:Bool) (h:Heap):CRes:=
 ifB v208
 (k false h)
 (f8 h v3 17 true fun x96=>
 aL x96 v1 h fun x97 x98 h99=>
 ak x97 h99 fun x100 x101 h102=>
 j2 v7 x98 x97 x101 0 h102)
theorem Tu (hk:bL k0 k) {J2:Q1} {j2:fk} (h2:ll J2 j2):sF (C5 n af aL ak au ah ad ar ae aI aa ab am k0 J2) (so n af aL ak au ah ad ar ae aI aa ab am k j2):=by
  obtain rfl:=fx2 hk
  obtain rfl:=fx6 h2
  intro v1 v3 v7 v208 h
  kernel_rfl
def Co:Q1:=C5 n af aL ak au ah ad ar ae aI aa ab am k0 (Cd n af aL ak au ah ad ar ae aI aa ab am k0 n)
def sZ:nP:=so n af aL ak au ah ad ar ae aI aa ab am k (lu n af aL ak au ah ad ar ae aI aa ab am k n)
theorem TC (hk:bL k0 k):sF (Co n af aL ak au ah ad ar ae aI aa ab am k0) (sZ n af aL ak au ah ad ar ae aI aa ab am k):=Tu n af aL ak au ah ad ar ae aI aa ab am k0 k hk (TR n af aL ak au ah ad ar ae aI aa ab am k0 k hk n)
def Cx (n:Nat) (af:Wr) (aL:dl) (ak:bX) (au:ce) (ah:bO) (ad:bH) (ar:cg) (ae:bI) (aI:cW) (aa:bf) (ab:bq) (am:bZ) (k0:Q0) (J6:Q1):Q1:=(bE (bo af aL ak au ah ad ar ae aI aa ab am) bj AI (fun s=>cI B9 s J6))
def sH (n:Nat) (af:Wr) (aL:dl) (ak:bX) (au:ce) (ah:bO) (ad:bH) (ar:cg) (ae:bI) (aI:cW) (aa:bf) (ab:bq) (am:bZ) (k:cw) (j6:nP) (v1:Int) (v3:AV) (v7:AV) (v203:Bool) (h:Heap):CRes:=
 ifB v203
 (j6 v1 v3 v7 true h)
 (am v7 h fun x86 h87=>
 j6 v1 v3 v7 (fS x86) h87)
theorem To (hk:bL k0 k) {J6:Q1} {j6:nP} (h6:sF J6 j6):sW (Cx n af aL ak au ah ad ar ae aI aa ab am k0 J6) (sH n af aL ak au ah ad ar ae aI aa ab am k j6):=by
  obtain rfl:=fx2 hk
  obtain rfl:=fx5 h6
  intro v1 v3 v7 v203 h
  kernel_rfl
def C2:Q1:=Cx n af aL ak au ah ad ar ae aI aa ab am k0 (Co n af aL ak au ah ad ar ae aI aa ab am k0)
def sw:nU:=sH n af aL ak au ah ad ar ae aI aa ab am k (sZ n af aL ak au ah ad ar ae aI aa ab am k)
theorem Ts (hk:bL k0 k):sW (C2 n af aL ak au ah ad ar ae aI aa ab am k0) (sw n af aL ak au ah ad ar ae aI aa ab am k):=To n af aL ak au ah ad ar ae aI aa ab am k0 k hk (TC n af aL ak au ah ad ar ae aI aa ab am k0 k hk)
def B8 (n:Nat) (af:Wr) (aL:dl) (ak:bX) (au:ce) (ah:bO) (ad:bH) (ar:cg) (ae:bI) (aI:cW) (aa:bf) (ab:bq) (am:bZ) (k0:Q0) (J5:Q1):Q1:=(bE (bo af aL ak au ah ad ar ae aI aa ab am) bj AH (fun s=>cI CB s J5))
def sJ (n:Nat) (af:Wr) (aL:dl) (ak:bX) (au:ce) (ah:bO) (ad:bH) (ar:cg) (ae:bI) (aI:cW) (aa:bf) (ab:bq) (am:bZ) (k:cw) (j5:nU) (v1:Int) (v3:AV) (v7:AV) (v9:AV) (v17:AV) (v195:Bool) (h:Heap):CRes:=
 ifB v195
 (j5 v1 v3 v7 true h)
 (slK (.sl 1) v17 (some (.int .i64 1)) none none fun x50=>
 slK (.sl 1) v9 (some (.int .i64 1)) none none fun x51=>
 ae x50 x51 h fun x52 h53=>
 j5 v1 v3 v7 (fS x52) h53)
theorem Tv (hk:bL k0 k) {J5:Q1} {j5:nU} (h5:sW J5 j5):sO (B8 n af aL ak au ah ad ar ae aI aa ab am k0 J5) (sJ n af aL ak au ah ad ar ae aI aa ab am k j5):=by
  obtain rfl:=fx2 hk
  obtain rfl:=fx5 h5
  intro v1 v3 v7 v9 v17 v195 h
  kernel_rfl
def C6:Q1:=B8 n af aL ak au ah ad ar ae aI aa ab am k0 (C2 n af aL ak au ah ad ar ae aI aa ab am k0)
def s7:nY:=sJ n af aL ak au ah ad ar ae aI aa ab am k (sw n af aL ak au ah ad ar ae aI aa ab am k)
theorem Th (hk:bL k0 k):sO (C6 n af aL ak au ah ad ar ae aI aa ab am k0) (s7 n af aL ak au ah ad ar ae aI aa ab am k):=Tv n af aL ak au ah ad ar ae aI aa ab am k0 k hk (Ts n af aL ak au ah ad ar ae aI aa ab am k0 k hk)
def Ch (n:Nat) (af:Wr) (aL:dl) (ak:bX) (au:ce) (ah:bO) (ad:bH) (ar:cg) (ae:bI) (aI:cW) (aa:bf) (ab:bq) (am:bZ) (k0:Q0) (J4:Q1):Q1:=(bE (bo af aL ak au ah ad ar ae aI aa ab am) bj zD (bE (bo af aL ak au ah ad ar ae aI aa ab am) bj AP (fun s=>cI B7 s J4)))
def sA (n:Nat) (af:Wr) (aL:dl) (ak:bX) (au:ce) (ah:bO) (ad:bH) (ar:cg) (ae:bI) (aI:cW) (aa:bf) (ab:bq) (am:bZ) (k:cw) (j4:nY) (v1:Int) (v3:AV) (v7:AV) (v9:AV) (v10:AV) (h:Heap):CRes:=
 aa v7 h fun x28 h29=>
 fH x28 fun x30=>
 fH v9 fun x31=>
 ifB (fS (eqF x30 x31))
 (j4 v1 v3 v7 v9 x28 true h29)
 (Lw .i64 1 h29 x28 0 fun x32 x33=>
 Lw .i64 1 h29 v9 0 fun x34 x35=>
 fH v10 fun x36=>
 YK .i64 x35 x36 fun x37=>
 j4 v1 v3 v7 v9 x28 (fS (eqF x33 x37)) h29)
theorem TP (hk:bL k0 k) {J4:Q1} {j4:nY} (h4:sO J4 j4):sY (Ch n af aL ak au ah ad ar ae aI aa ab am k0 J4) (sA n af aL ak au ah ad ar ae aI aa ab am k j4):=by
  obtain rfl:=fx2 hk
  obtain rfl:=fx7 h4
  intro v1 v3 v7 v9 v10 h
  kernel_rfl
def CX:Q1:=Ch n af aL ak au ah ad ar ae aI aa ab am k0 (C6 n af aL ak au ah ad ar ae aI aa ab am k0)
def ly:nL:=sA n af aL ak au ah ad ar ae aI aa ab am k (s7 n af aL ak au ah ad ar ae aI aa ab am k)
theorem Tj (hk:bL k0 k):sY (CX n af aL ak au ah ad ar ae aI aa ab am k0) (ly n af aL ak au ah ad ar ae aI aa ab am k):=TP n af aL ak au ah ad ar ae aI aa ab am k0 k hk (Th n af aL ak au ah ad ar ae aI aa ab am k0 k hk)
def Cu (n:Nat) (af:Wr) (aL:dl) (ak:bX) (au:ce) (ah:bO) (ad:bH) (ar:cg) (ae:bI) (aI:cW) (aa:bf) (ab:bq) (am:bZ) (k0:Q0) (J7:Q1) (J8:Q1):Q1:=(bE (bo af aL ak au ah ad ar ae aI aa ab am) bj A3 (fun s=>dH (.t p167) s (bE (bo af aL ak au ah ad ar ae aI aa ab am) bj zJ (fun s=>dH (.t p176) s (bE (bo af aL ak au ah ad ar ae aI aa ab am) bj Ac (cG dF k0)) (bE (bo af aL ak au ah ad ar ae aI aa ab am) bj Aa (fun s=>cI sR s J8)))) (fun s=>cI CM s J7)))
def nK (n:Nat) (af:Wr) (aL:dl) (ak:bX) (au:ce) (ah:bO) (ad:bH) (ar:cg) (ae:bI) (aI:cW) (aa:bf) (ab:bq) (am:bZ) (k:cw) (j7:nL) (j8:gO) (v1:Int) (v3:AV) (v7:AV) (v9:AV) (v10:AV) (v11:AV) (v16:Int) (h:Heap):CRes:=
 fH v11 fun x38=>
 ifB (ltF v16 x38)
 (Lw .i64 1 h v11 v16 fun x39 x40=>
 ar v7 x40 h fun x41 h42=>
 ifB (fS (eqF x41 0))
 (k false h42)
 (lp .i64 v16 1 fun x43=>
 j8 v1 v3 v7 v9 v10 v11 x43 h42))
 (j7 v1 v3 v7 v9 v10 h)
theorem T0 (hk:bL k0 k) {J7:Q1} {j7:nL} (h7:sY J7 j7) {J8:Q1} {j8:gO} (h8:nT J8 j8):nT (Cu n af aL ak au ah ad ar ae aI aa ab am k0 J7 J8) (nK n af aL ak au ah ad ar ae aI aa ab am k j7 j8):=by
  obtain rfl:=fx2 hk
  obtain rfl:=fx6 h7
  obtain rfl:=fx8 h8
  intro v1 v3 v7 v9 v10 v11 v16 h
  kernel_rfl
def CG (m:Nat):Q1:=Nat.rec (motive:=fun _=>Q1) (fun _=>.err) (fun _ ih=>Cu n af aL ak au ah ad ar ae aI aa ab am k0 (CX n af aL ak au ah ad ar ae aI aa ab am k0) ih) m
def lj (m:Nat):gO:=Nat.rec (motive:=fun _=>gO) (fun _ _ _ _ _ _ _ _=>.err) (fun _ ih=>nK n af aL ak au ah ad ar ae aI aa ab am k (ly n af aL ak au ah ad ar ae aI aa ab am k) ih) m
theorem TU (m:Nat):lj n af aL ak au ah ad ar ae aI aa ab am k (m+1)=nK n af aL ak au ah ad ar ae aI aa ab am k (ly n af aL ak au ah ad ar ae aI aa ab am k) (lj n af aL ak au ah ad ar ae aI aa ab am k m):=rfl
theorem Tk (hk:bL k0 k) (m:Nat):nT (CG n af aL ak au ah ad ar ae aI aa ab am k0 m) (lj n af aL ak au ah ad ar ae aI aa ab am k m):=by
  induction m with
  | zero=>intro v1 v3 v7 v9 v10 v11 v16 h; rfl
  | succ m ih=>exact T0 n af aL ak au ah ad ar ae aI aa ab am k0 k hk (Tj n af aL ak au ah ad ar ae aI aa ab am k0 k hk) ih
def Cs (n:Nat) (af:Wr) (aL:dl) (ak:bX) (au:ce) (ah:bO) (ad:bH) (ar:cg) (ae:bI) (aI:cW) (aa:bf) (ab:bq) (am:bZ) (k0:Q0) (J8:Q1):Q1:=(bE (bo af aL ak au ah ad ar ae aI aa ab am) bj A4 (fun s=>cI sR s J8))
def sq (n:Nat) (af:Wr) (aL:dl) (ak:bX) (au:ce) (ah:bO) (ad:bH) (ar:cg) (ae:bI) (aI:cW) (aa:bf) (ab:bq) (am:bZ) (k:cw) (j8:gO) (v1:Int) (v3:AV) (v7:AV) (v9:AV) (v10:AV) (v11:AV) (h:Heap):CRes:=
 j8 v1 v3 v7 v9 v10 v11 0 h
theorem Tm (hk:bL k0 k) {J8:Q1} {j8:gO} (h8:nT J8 j8):sL (Cs n af aL ak au ah ad ar ae aI aa ab am k0 J8) (sq n af aL ak au ah ad ar ae aI aa ab am k j8):=by
  obtain rfl:=fx2 hk
  obtain rfl:=fx8 h8
  intro v1 v3 v7 v9 v10 v11 h
  kernel_rfl
def C3:Q1:=Cs n af aL ak au ah ad ar ae aI aa ab am k0 (CG n af aL ak au ah ad ar ae aI aa ab am k0 n)
def sS:nN:=sq n af aL ak au ah ad ar ae aI aa ab am k (lj n af aL ak au ah ad ar ae aI aa ab am k n)
theorem TT (hk:bL k0 k):sL (C3 n af aL ak au ah ad ar ae aI aa ab am k0) (sS n af aL ak au ah ad ar ae aI aa ab am k):=Tm n af aL ak au ah ad ar ae aI aa ab am k0 k hk (Tk n af aL ak au ah ad ar ae aI aa ab am k0 k hk n)
def AX (n:Nat) (af:Wr) (aL:dl) (ak:bX) (au:ce) (ah:bO) (ad:bH) (ar:cg) (ae:bI) (aI:cW) (aa:bf) (ab:bq) (am:bZ) (k0:Q0) (J10:Q1):Q1:=(fun s=>dH (.t p163) s (bE (bo af aL ak au ah ad ar ae aI aa ab am) bj AE (cG dF k0)) (bE (bo af aL ak au ah ad ar ae aI aa ab am) bj Az (fun s=>cI ry s J10)))
def rx (n:Nat) (af:Wr) (aL:dl) (ak:bX) (au:ce) (ah:bO) (ad:bH) (ar:cg) (ae:bI) (aI:cW) (aa:bf) (ab:bq) (am:bZ) (k:cw) (j10:cQ) (v1:Int) (v2:AV) (v3:AV) (v7:AV) (v9:AV) (v10:AV) (v11:AV) (v12:Int) (v163:Bool) (h:Heap):CRes:=
 ifB v163
 (k false h)
 (lp .i64 v12 1 fun x88=>
 j10 v1 v2 v3 v7 v9 v10 v11 x88 h)
theorem RX (hk:bL k0 k) {J10:Q1} {j10:cQ} (h10:eL J10 j10):rL (AX n af aL ak au ah ad ar ae aI aa ab am k0 J10) (rx n af aL ak au ah ad ar ae aI aa ab am k j10):=by
  obtain rfl:=fx2 hk
  obtain rfl:=fx9 h10
  intro v1 v2 v3 v7 v9 v10 v11 v12 v163 h
  kernel_rfl
def zZ (J10:Q1):Q1:=AX n af aL ak au ah ad ar ae aI aa ab am k0 J10
def rp (j10:cQ):mR:=rx n af aL ak au ah ad ar ae aI aa ab am k j10
theorem R7 (hk:bL k0 k) {J10:Q1} {j10:cQ} (h10:eL J10 j10):rL (zZ n af aL ak au ah ad ar ae aI aa ab am k0 J10) (rp n af aL ak au ah ad ar ae aI aa ab am k j10):=RX n af aL ak au ah ad ar ae aI aa ab am k0 k hk h10
def A5 (n:Nat) (af:Wr) (aL:dl) (ak:bX) (au:ce) (ah:bO) (ad:bH) (ar:cg) (ae:bI) (aI:cW) (aa:bf) (ab:bq) (am:bZ) (k0:Q0) (J11:Q1):Q1:=(bE (bo af aL ak au ah ad ar ae aI aa ab am) bj zW (fun s=>cI A7 s J11))
def rK (n:Nat) (af:Wr) (aL:dl) (ak:bX) (au:ce) (ah:bO) (ad:bH) (ar:cg) (ae:bI) (aI:cW) (aa:bf) (ab:bq) (am:bZ) (k:cw) (j11:mR) (v1:Int) (v2:AV) (v3:AV) (v7:AV) (v9:AV) (v10:AV) (v11:AV) (v12:Int) (h:Heap):CRes:=
 f8 h v3 17 true fun x54=>
 ah x54 v1 v7 h fun x55 h56=>
 ifB (fS x55)
 (j11 v1 v2 v3 v7 v9 v10 v11 v12 true h56)
 (am v7 h56 fun x57 h58=>
 fH v11 fun x59=>
 j11 v1 v2 v3 v7 v9 v10 v11 v12 (aeZ true (eqBB x57 (eqF x59 0))) h58)
theorem Rf (hk:bL k0 k) {J11:Q1} {j11:mR} (h11:rL J11 j11):kq (A5 n af aL ak au ah ad ar ae aI aa ab am k0 J11) (rK n af aL ak au ah ad ar ae aI aa ab am k j11):=by
  obtain rfl:=fx2 hk
  obtain rfl:=fx10 h11
  intro v1 v2 v3 v7 v9 v10 v11 v12 h
  kernel_rfl
def mZ (J10:Q1):Q1:=A5 n af aL ak au ah ad ar ae aI aa ab am k0 (zZ n af aL ak au ah ad ar ae aI aa ab am k0 J10)
def gE (j10:cQ):fL:=rK n af aL ak au ah ad ar ae aI aa ab am k (rp n af aL ak au ah ad ar ae aI aa ab am k j10)
theorem rV (hk:bL k0 k) {J10:Q1} {j10:cQ} (h10:eL J10 j10):kq (mZ n af aL ak au ah ad ar ae aI aa ab am k0 J10) (gE n af aL ak au ah ad ar ae aI aa ab am k j10):=Rf n af aL ak au ah ad ar ae aI aa ab am k0 k hk (R7 n af aL ak au ah ad ar ae aI aa ab am k0 k hk h10)
def A0 (n:Nat) (af:Wr) (aL:dl) (ak:bX) (au:ce) (ah:bO) (ad:bH) (ar:cg) (ae:bI) (aI:cW) (aa:bf) (ab:bq) (am:bZ) (k0:Q0) (J12:Q1):Q1:=(fun s=>dH (.t p117) s (bE (bo af aL ak au ah ad ar ae aI aa ab am) bj A9 (cG dF k0)) (fun s=>cI mU s J12))
def rR (n:Nat) (af:Wr) (aL:dl) (ak:bX) (au:ce) (ah:bO) (ad:bH) (ar:cg) (ae:bI) (aI:cW) (aa:bf) (ab:bq) (am:bZ) (k:cw) (j12:fL) (v1:Int) (v2:AV) (v3:AV) (v7:AV) (v9:AV) (v10:AV) (v11:AV) (v12:Int) (v117:Bool) (h:Heap):CRes:=
 ifB v117
 (k false h)
 (j12 v1 v2 v3 v7 v9 v10 v11 v12 h)
theorem QY (hk:bL k0 k) {J12:Q1} {j12:fL} (h12:kq J12 j12):rN (A0 n af aL ak au ah ad ar ae aI aa ab am k0 J12) (rR n af aL ak au ah ad ar ae aI aa ab am k j12):=by
  obtain rfl:=fx2 hk
  obtain rfl:=fx9 h12
  intro v1 v2 v3 v7 v9 v10 v11 v12 v117 h
  kernel_rfl
def zE (J10:Q1):Q1:=A0 n af aL ak au ah ad ar ae aI aa ab am k0 (mZ n af aL ak au ah ad ar ae aI aa ab am k0 J10)
def rG (j10:cQ):mJ:=rR n af aL ak au ah ad ar ae aI aa ab am k (gE n af aL ak au ah ad ar ae aI aa ab am k j10)
theorem QH (hk:bL k0 k) {J10:Q1} {j10:cQ} (h10:eL J10 j10):rN (zE n af aL ak au ah ad ar ae aI aa ab am k0 J10) (rG n af aL ak au ah ad ar ae aI aa ab am k j10):=QY n af aL ak au ah ad ar ae aI aa ab am k0 k hk (rV n af aL ak au ah ad ar ae aI aa ab am k0 k hk h10)
def AU (n:Nat) (af:Wr) (aL:dl) (ak:bX) (au:ce) (ah:bO) (ad:bH) (ar:cg) (ae:bI) (aI:cW) (aa:bf) (ab:bq) (am:bZ) (k0:Q0) (J12:Q1):Q1:=(fun s=>dH (.t p141) s (bE (bo af aL ak au ah ad ar ae aI aa ab am) bj zX (cG dF k0)) (bE (bo af aL ak au ah ad ar ae aI aa ab am) bj zM (fun s=>cI mU s J12)))
def rv (n:Nat) (af:Wr) (aL:dl) (ak:bX) (au:ce) (ah:bO) (ad:bH) (ar:cg) (ae:bI) (aI:cW) (aa:bf) (ab:bq) (am:bZ) (k:cw) (j12:fL) (v1:Int) (v2:AV) (v3:AV) (v7:AV) (v9:AV) (v10:AV) (v11:AV) (v12:Int) (v15:Int) (v141:Bool) (h:Heap):CRes:=
 ifB v141
 (k false h)
 (slK (.sl 1) v11 none (some (.int .i64 v15)) none fun x89=>
 ab x89 h fun x90 h91=>
 lp .i64 v15 1 fun x92=>
 slK (.sl 1) v11 (some (.int .i64 x92)) none none fun x93=>
 mQ h91 1 x90 x93 fun x94 h95=>
 j12 v1 v2 v3 v7 v9 v10 x94 v12 h95)
theorem QZ (hk:bL k0 k) {J12:Q1} {j12:fL} (h12:kq J12 j12):rQ (AU n af aL ak au ah ad ar ae aI aa ab am k0 J12) (rv n af aL ak au ah ad ar ae aI aa ab am k j12):=by
  obtain rfl:=fx2 hk
  obtain rfl:=fx9 h12
  intro v1 v2 v3 v7 v9 v10 v11 v12 v15 v141 h
  kernel_rfl
def zG (J10:Q1):Q1:=AU n af aL ak au ah ad ar ae aI aa ab am k0 (mZ n af aL ak au ah ad ar ae aI aa ab am k0 J10)
def rS (j10:cQ):mY:=rv n af aL ak au ah ad ar ae aI aa ab am k (gE n af aL ak au ah ad ar ae aI aa ab am k j10)
theorem Q8 (hk:bL k0 k) {J10:Q1} {j10:cQ} (h10:eL J10 j10):rQ (zG n af aL ak au ah ad ar ae aI aa ab am k0 J10) (rS n af aL ak au ah ad ar ae aI aa ab am k j10):=QZ n af aL ak au ah ad ar ae aI aa ab am k0 k hk (rV n af aL ak au ah ad ar ae aI aa ab am k0 k hk h10)
def z8 (n:Nat) (af:Wr) (aL:dl) (ak:bX) (au:ce) (ah:bO) (ad:bH) (ar:cg) (ae:bI) (aI:cW) (aa:bf) (ab:bq) (am:bZ) (k0:Q0) (J12:Q1) (J13:Q1) (J14:Q1):Q1:=(fun s=>dH (.t p93) s (bE (bo af aL ak au ah ad ar ae aI aa ab am) bj Ay (bE (bo af aL ak au ah ad ar ae aI aa ab am) bj zK (fun s=>dH (.t p107) s (bE (bo af aL ak au ah ad ar ae aI aa ab am) bj AF (fun s=>cI mU s J12)) (bE (bo af aL ak au ah ad ar ae aI aa ab am) bj AR (fun s=>cI Ak s J13))))) (bE (bo af aL ak au ah ad ar ae aI aa ab am) bj As (bE (bo af aL ak au ah ad ar ae aI aa ab am) bj A2 (fun s=>cI Au s J14))))
def rt (n:Nat) (af:Wr) (aL:dl) (ak:bX) (au:ce) (ah:bO) (ad:bH) (ar:cg) (ae:bI) (aI:cW) (aa:bf) (ab:bq) (am:bZ) (k:cw) (j12:fL) (j13:mJ) (j14:mY) (v1:Int) (v2:AV) (v3:AV) (v7:AV) (v9:AV) (v10:AV) (v11:AV) (v12:Int) (v93:Bool) (h:Heap):CRes:=
 ifB v93
 (LC 3 v2 v12 fun x60=>
 iY .u8 2 h x60 fun x61 x62=>
 asT .u8 x62 5 fun x63=>
 lp .u8 2 x63 fun x64=>
 au v7 x64 h fun x65 x66 h67=>
 ifB (eqF x66 0)
 (pG h67 1 [(.int .i64 0)] [(0,1,(.int .i64 x65))] fun x68 h69=>
 mQ h69 1 v11 x68 fun x70 h71=>
 j12 v1 v2 v3 v7 v9 v10 x70 v12 h71)
 (ifB (fS (eqF x66 4))
 (j13 v1 v2 v3 v7 v9 v10 v11 v12 true h67)
 (j13 v1 v2 v3 v7 v9 v10 v11 v12 (fS (eqF x65 0)) h67)))
 (LC 3 v2 v12 fun x72=>
 iY .i64 1 h x72 fun x73 x74=>
 fH v11 fun x75=>
 ad x74 x75 h fun x76 h77=>
 Lw .i64 1 h77 v11 x76 fun x78 x79=>
 ar v7 x79 h77 fun x80 h81=>
 ifB (fS (eqF x80 0))
 (j14 v1 v2 v3 v7 v9 v10 v11 v12 x76 true h81)
 (Lw .i64 1 h81 v11 x76 fun x82 x83=>
 ar v7 x83 h81 fun x84 h85=>
 j14 v1 v2 v3 v7 v9 v10 v11 v12 x76 (fS (eqF x84 91)) h85))
theorem RS (hk:bL k0 k) {J12:Q1} {j12:fL} (h12:kq J12 j12) {J13:Q1} {j13:mJ} (h13:rN J13 j13) {J14:Q1} {j14:mY} (h14:rQ J14 j14):rU (z8 n af aL ak au ah ad ar ae aI aa ab am k0 J12 J13 J14) (rt n af aL ak au ah ad ar ae aI aa ab am k j12 j13 j14):=by
  obtain rfl:=fx2 hk
  obtain rfl:=fx9 h12
  obtain rfl:=fx10 h13
  obtain rfl:=fx11 h14
  intro v1 v2 v3 v7 v9 v10 v11 v12 v93 h
  kernel_rfl
def A6 (J10:Q1):Q1:=z8 n af aL ak au ah ad ar ae aI aa ab am k0 (mZ n af aL ak au ah ad ar ae aI aa ab am k0 J10) (zE n af aL ak au ah ad ar ae aI aa ab am k0 J10) (zG n af aL ak au ah ad ar ae aI aa ab am k0 J10)
def mP (j10:cQ):mG:=rt n af aL ak au ah ad ar ae aI aa ab am k (gE n af aL ak au ah ad ar ae aI aa ab am k j10) (rG n af aL ak au ah ad ar ae aI aa ab am k j10) (rS n af aL ak au ah ad ar ae aI aa ab am k j10)
theorem Rc (hk:bL k0 k) {J10:Q1} {j10:cQ} (h10:eL J10 j10):rU (A6 n af aL ak au ah ad ar ae aI aa ab am k0 J10) (mP n af aL ak au ah ad ar ae aI aa ab am k j10):=RS n af aL ak au ah ad ar ae aI aa ab am k0 k hk (rV n af aL ak au ah ad ar ae aI aa ab am k0 k hk h10) (QH n af aL ak au ah ad ar ae aI aa ab am k0 k hk h10) (Q8 n af aL ak au ah ad ar ae aI aa ab am k0 k hk h10)
def Ax (n:Nat) (af:Wr) (aL:dl) (ak:bX) (au:ce) (ah:bO) (ad:bH) (ar:cg) (ae:bI) (aI:cW) (aa:bf) (ab:bq) (am:bZ) (k0:Q0) (J9:Q1) (J15:Q1):Q1:=(fun s=>dH (.t p79) s (bE (bo af aL ak au ah ad ar ae aI aa ab am) bj zN (fun s=>cI zS s J15)) (fun s=>cI C8 s J9))
def mK (n:Nat) (af:Wr) (aL:dl) (ak:bX) (au:ce) (ah:bO) (ad:bH) (ar:cg) (ae:bI) (aI:cW) (aa:bf) (ab:bq) (am:bZ) (k:cw) (j9:nN) (j15:mG) (v1:Int) (v2:AV) (v3:AV) (v7:AV) (v9:AV) (v10:AV) (v11:AV) (v12:Int) (v79:Bool) (h:Heap):CRes:=
 ifB v79
 (LC 3 v2 v12 fun x44=>
 iY .i64 0 h x44 fun x45 x46=>
 ad x46 2 h fun x47 h48=>
 ifB (eqF x47 0)
 (j15 v1 v2 v3 v7 v9 v10 v11 v12 true h48)
 (fH v11 fun x49=>
 j15 v1 v2 v3 v7 v9 v10 v11 v12 (eqF x49 0) h48))
 (j9 v1 v3 v7 v9 v10 v11 h)
theorem QM (hk:bL k0 k) {J9:Q1} {j9:nN} (h9:sL J9 j9) {J15:Q1} {j15:mG} (h15:rU J15 j15):rH (Ax n af aL ak au ah ad ar ae aI aa ab am k0 J9 J15) (mK n af aL ak au ah ad ar ae aI aa ab am k j9 j15):=by
  obtain rfl:=fx2 hk
  obtain rfl:=fx7 h9
  obtain rfl:=fx10 h15
  intro v1 v2 v3 v7 v9 v10 v11 v12 v79 h
  kernel_rfl
def zL (J10:Q1):Q1:=Ax n af aL ak au ah ad ar ae aI aa ab am k0 (C3 n af aL ak au ah ad ar ae aI aa ab am k0) (A6 n af aL ak au ah ad ar ae aI aa ab am k0 J10)
def iE (j10:cQ):mT:=mK n af aL ak au ah ad ar ae aI aa ab am k (sS n af aL ak au ah ad ar ae aI aa ab am k) (mP n af aL ak au ah ad ar ae aI aa ab am k j10)
theorem Rj (hk:bL k0 k) {J10:Q1} {j10:cQ} (h10:eL J10 j10):rH (zL n af aL ak au ah ad ar ae aI aa ab am k0 J10) (iE n af aL ak au ah ad ar ae aI aa ab am k j10):=QM n af aL ak au ah ad ar ae aI aa ab am k0 k hk (TT n af aL ak au ah ad ar ae aI aa ab am k0 k hk) (Rc n af aL ak au ah ad ar ae aI aa ab am k0 k hk h10)
def Ar (n:Nat) (af:Wr) (aL:dl) (ak:bX) (au:ce) (ah:bO) (ad:bH) (ar:cg) (ae:bI) (aI:cW) (aa:bf) (ab:bq) (am:bZ) (k0:Q0) (J16:Q1):Q1:=(bE (bo af aL ak au ah ad ar ae aI aa ab am) bj zV (fun s=>cI AL s J16))
def mX (n:Nat) (af:Wr) (aL:dl) (ak:bX) (au:ce) (ah:bO) (ad:bH) (ar:cg) (ae:bI) (aI:cW) (aa:bf) (ab:bq) (am:bZ) (k:cw) (j16:mT) (v1:Int) (v2:AV) (v3:AV) (v7:AV) (v9:AV) (v10:AV) (v11:AV) (v12:Int) (h:Heap):CRes:=
 fH v2 fun x27=>
 ifB (ltF v12 x27)
 (j16 v1 v2 v3 v7 v9 v10 v11 v12 (ltF v12 80) h)
 (j16 v1 v2 v3 v7 v9 v10 v11 v12 false h)
theorem Rp (hk:bL k0 k) {J16:Q1} {j16:mT} (h16:rH J16 j16):eL (Ar n af aL ak au ah ad ar ae aI aa ab am k0 J16) (mX n af aL ak au ah ad ar ae aI aa ab am k j16):=by
  obtain rfl:=fx2 hk
  obtain rfl:=fx10 h16
  intro v1 v2 v3 v7 v9 v10 v11 v12 h
  kernel_rfl
def AY (m:Nat):Q1:=Nat.rec (motive:=fun _=>Q1) (fun _=>.err) (fun _ ih=>Ar n af aL ak au ah ad ar ae aI aa ab am k0 (zL n af aL ak au ah ad ar ae aI aa ab am k0 ih)) m
def eV (m:Nat):cQ:=Nat.rec (motive:=fun _=>cQ) (fun _ _ _ _ _ _ _ _ _=>.err) (fun _ ih=>mX n af aL ak au ah ad ar ae aI aa ab am k (iE n af aL ak au ah ad ar ae aI aa ab am k ih)) m
theorem QW (m:Nat):eV n af aL ak au ah ad ar ae aI aa ab am k (m+1)=mX n af aL ak au ah ad ar ae aI aa ab am k (iE n af aL ak au ah ad ar ae aI aa ab am k (eV n af aL ak au ah ad ar ae aI aa ab am k m)):=rfl
theorem Rx (hk:bL k0 k) (m:Nat):eL (AY n af aL ak au ah ad ar ae aI aa ab am k0 m) (eV n af aL ak au ah ad ar ae aI aa ab am k m):=by
  induction m with
  | zero=>intro v1 v2 v3 v7 v9 v10 v11 v12 h; rfl
  | succ m ih=>exact Rp n af aL ak au ah ad ar ae aI aa ab am k0 k hk (Rj n af aL ak au ah ad ar ae aI aa ab am k0 k hk ih)
def AQ (n:Nat) (af:Wr) (aL:dl) (ak:bX) (au:ce) (ah:bO) (ad:bH) (ar:cg) (ae:bI) (aI:cW) (aa:bf) (ab:bq) (am:bZ) (k0:Q0) (J10:Q1):Q1:=(fun s=>dH (.t p71) s (bE (bo af aL ak au ah ad ar ae aI aa ab am) bj zQ (cG dF k0)) (bE (bo af aL ak au ah ad ar ae aI aa ab am) bj zR (bE (bo af aL ak au ah ad ar ae aI aa ab am) bj zv (fun s=>cI ry s J10))))
def rF (n:Nat) (af:Wr) (aL:dl) (ak:bX) (au:ce) (ah:bO) (ad:bH) (ar:cg) (ae:bI) (aI:cW) (aa:bf) (ab:bq) (am:bZ) (k:cw) (j10:cQ) (v1:Int) (v2:AV) (v3:AV) (v7:AV) (v9:AV) (v10:AV) (v71:Bool) (h:Heap):CRes:=
 ifB v71
 (k false h)
 (j10 v1 v2 v3 v7 v9 v10 .nilslice 0 h)
theorem RI (hk:bL k0 k) {J10:Q1} {j10:cQ} (h10:eL J10 j10):rz (AQ n af aL ak au ah ad ar ae aI aa ab am k0 J10) (rF n af aL ak au ah ad ar ae aI aa ab am k j10):=by
  obtain rfl:=fx2 hk
  obtain rfl:=fx9 h10
  intro v1 v2 v3 v7 v9 v10 v71 h
  kernel_rfl
def Ao:Q1:=AQ n af aL ak au ah ad ar ae aI aa ab am k0 (AY n af aL ak au ah ad ar ae aI aa ab am k0 n)
def rC:mL:=rF n af aL ak au ah ad ar ae aI aa ab am k (eV n af aL ak au ah ad ar ae aI aa ab am k n)
theorem RQ (hk:bL k0 k):rz (Ao n af aL ak au ah ad ar ae aI aa ab am k0) (rC n af aL ak au ah ad ar ae aI aa ab am k):=RI n af aL ak au ah ad ar ae aI aa ab am k0 k hk (Rx n af aL ak au ah ad ar ae aI aa ab am k0 k hk n)
def A1 (n:Nat) (af:Wr) (aL:dl) (ak:bX) (au:ce) (ah:bO) (ad:bH) (ar:cg) (ae:bI) (aI:cW) (aa:bf) (ab:bq) (am:bZ) (k0:Q0):Q1:=(bE (bo af aL ak au ah ad ar ae aI aa ab am) bj AJ (cG dF k0))
def rq (n:Nat) (af:Wr) (aL:dl) (ak:bX) (au:ce) (ah:bO) (ad:bH) (ar:cg) (ae:bI) (aI:cW) (aa:bf) (ab:bq) (am:bZ) (k:cw) (v50:Bool) (h:Heap):CRes:=
 k v50 h
theorem RR (hk:bL k0 k):rW (A1 n af aL ak au ah ad ar ae aI aa ab am k0) (rq n af aL ak au ah ad ar ae aI aa ab am k):=by
  obtain rfl:=fx2 hk
  intro v50 h
  kernel_rfl
def z7:Q1:=A1 n af aL ak au ah ad ar ae aI aa ab am k0
def rO:mV:=rq n af aL ak au ah ad ar ae aI aa ab am k
theorem QC (hk:bL k0 k):rW (z7 n af aL ak au ah ad ar ae aI aa ab am k0) (rO n af aL ak au ah ad ar ae aI aa ab am k):=RR n af aL ak au ah ad ar ae aI aa ab am k0 k hk
def Ad (n:Nat) (af:Wr) (aL:dl) (ak:bX) (au:ce) (ah:bO) (ad:bH) (ar:cg) (ae:bI) (aI:cW) (aa:bf) (ab:bq) (am:bZ) (k0:Q0) (J19:Q1):Q1:=(bE (bo af aL ak au ah ad ar ae aI aa ab am) bj zu (fun s=>cI Ag s J19))
def rA (n:Nat) (af:Wr) (aL:dl) (ak:bX) (au:ce) (ah:bO) (ad:bH) (ar:cg) (ae:bI) (aI:cW) (aa:bf) (ab:bq) (am:bZ) (k:cw) (j19:mV) (v3:AV) (v8:Int) (v42:Bool) (h:Heap):CRes:=
 ifB v42
 (j19 true h)
 (f8 h v3 17 true fun x24=>
 aI x24 h fun x25 h26=>
 ifB x25
 (j19 (eqF v8 270) h26)
 (j19 false h26))
theorem RV (hk:bL k0 k) {J19:Q1} {j19:mV} (h19:rW J19 j19):rn (Ad n af aL ak au ah ad ar ae aI aa ab am k0 J19) (rA n af aL ak au ah ad ar ae aI aa ab am k j19):=by
  obtain rfl:=fx2 hk
  obtain rfl:=fx2 h19
  intro v3 v8 v42 h
  kernel_rfl
def Av:Q1:=Ad n af aL ak au ah ad ar ae aI aa ab am k0 (z7 n af aL ak au ah ad ar ae aI aa ab am k0)
def rM:mN:=rA n af aL ak au ah ad ar ae aI aa ab am k (rO n af aL ak au ah ad ar ae aI aa ab am k)
theorem Ry (hk:bL k0 k):rn (Av n af aL ak au ah ad ar ae aI aa ab am k0) (rM n af aL ak au ah ad ar ae aI aa ab am k):=RV n af aL ak au ah ad ar ae aI aa ab am k0 k hk (QC n af aL ak au ah ad ar ae aI aa ab am k0 k hk)
def E1 (n:Nat) (af:Wr) (aL:dl) (ak:bX) (au:ce) (ah:bO) (ad:bH) (ar:cg) (ae:bI) (aI:cW) (aa:bf) (ab:bq) (am:bZ) (k0:Q0) (J17:Q1) (J18:Q1):Q1:=(bE (bo af aL ak au ah ad ar ae aI aa ab am) bj Ah (bE (bo af aL ak au ah ad ar ae aI aa ab am) bj zH (fun s=>dH (.t p27) s (bE (bo af aL ak au ah ad ar ae aI aa ab am) bj Ab (cG dF k0)) (bE (bo af aL ak au ah ad ar ae aI aa ab am) bj zO (bE (bo af aL ak au ah ad ar ae aI aa ab am) bj zT (fun s=>dH (.t p35) s (bE (bo af aL ak au ah ad ar ae aI aa ab am) bj AK (fun s=>cI Aj s J18)) (bE (bo af aL ak au ah ad ar ae aI aa ab am) bj zx (bE (bo af aL ak au ah ad ar ae aI aa ab am) bj Al (bE (bo af aL ak au ah ad ar ae aI aa ab am) bj Aq (fun s=>cI zB s J17))))))))))
def vy (n:Nat) (af:Wr) (aL:dl) (ak:bX) (au:ce) (ah:bO) (ad:bH) (ar:cg) (ae:bI) (aI:cW) (aa:bf) (ab:bq) (am:bZ) (k:cw) (j17:mL) (j18:mN) (a0:AV) (a1:Int) (a2:AV) (h:Heap):CRes:=
 Dh h a0 fun x0 h1=>
 af [] h1 fun x2 h3=>
 Te x2 fun x4=>
 ifB (fS x4)
 (k false h3)
 (f8 h3 (.ptr x0 0) 17 true fun x5=>
 aL x5 a1 h3 fun x6 x7 h8=>
 ifB (fS (eqF x7 0))
 (f8 h8 (.ptr x0 0) 17 true fun x9=>
 aI x9 h8 fun x10 h11=>
 ifB (fS x10)
 (j18 (.ptr x0 0) x7 (eqF x7 5) h11)
 (j18 (.ptr x0 0) x7 false h11))
 (aa x6 h8 fun x12 h13=>
 ak x6 h13 fun x14 x15 h16=>
 ifB (fS (eqF x15 0))
 (j17 a1 a2 (.ptr x0 0) x6 x12 x14 true h16)
 (fH x14 fun x17=>
 fld 16 h16 (.ptr x0 0) 1 false fun x18 x19=>
 LC 8 x19 a1 fun x20=>
 iY .i64 1 h16 x20 fun x21 x22=>
 al0 .i64 1 x22 fun x23=>
 j17 a1 a2 (.ptr x0 0) x6 x12 x14 (fS (eqF x17 x23)) h16)))
theorem Wg (n:Nat) (af:Wr) (aL:dl) (ak:bX) (au:ce) (ah:bO) (ad:bH) (ar:cg) (ae:bI) (aI:cW) (aa:bf) (ab:bq) (am:bZ) (k0:Q0) (k:cw) (hk:bL k0 k) {J17:Q1} {j17:mL} (h17:rz J17 j17) {J18:Q1} {j18:mN} (h18:rn J18 j18) (a0:AV) (a1:Int) (a2:AV) (h:Heap):(E1 n af aL ak au ah ad ar ae aI aa ab am k0 J17 J18) ⟨cH [(p0,a0),(p1,(.int .i64 a1)),(p2,a2)],h⟩=(vy n af aL ak au ah ad ar ae aI aa ab am k j17 j18) a0 a1 a2 h:=by
  obtain rfl:=fx2 hk
  obtain rfl:=fx8 h17
  obtain rfl:=fx4 h18
  kernel_rfl
def V6:Q1:=E1 n af aL ak au ah ad ar ae aI aa ab am k0 (Ao n af aL ak au ah ad ar ae aI aa ab am k0) (Av n af aL ak au ah ad ar ae aI aa ab am k0)
def vx (n:Nat) (af:Wr) (aL:dl) (ak:bX) (au:ce) (ah:bO) (ad:bH) (ar:cg) (ae:bI) (aI:cW) (aa:bf) (ab:bq) (am:bZ) (a0:AV) (a1:Int) (a2:AV) (h:Heap) (k:cw):CRes:=vy n af aL ak au ah ad ar ae aI aa ab am k (rC n af aL ak au ah ad ar ae aI aa ab am k) (rM n af aL ak au ah ad ar ae aI aa ab am k) a0 a1 a2 h
theorem VY (n:Nat) (af:Wr) (aL:dl) (ak:bX) (au:ce) (ah:bO) (ad:bH) (ar:cg) (ae:bI) (aI:cW) (aa:bf) (ab:bq) (am:bZ) (k0:Q0) (s:St):D (ez [(oj,af),(UC,N2 aL),(tZ,pX ak),(ws,qU au),(pC,my ah),(ny,lF ad),(wd,ra ar),(nC,lE ae),(zb,wR aI),(li,jv aa),(md,jN ab),(ug,pO am)]) bj n vq (cG dF k0) (fun _ _=>.err) (cG dF k0) s=V6 n af aL ak au ah ad ar ae aI aa ab am k0 s:=by kernel_rfl
theorem VX (n:Nat) (af:Wr) (aL:dl) (ak:bX) (au:ce) (ah:bO) (ad:bH) (ar:cg) (ae:bI) (aI:cW) (aa:bf) (ab:bq) (am:bZ) (a0:AV) (a1:Int) (a2:AV) (h:Heap) (k0:Q0):W vw dF [(oj,af),(UC,N2 aL),(tZ,pX ak),(ws,qU au),(pC,my ah),(ny,lF ad),(wd,ra ar),(nC,lE ae),(zb,wR aI),(li,jv aa),(md,jN ab),(ug,pO am)] bj n vq [a0,(.int .i64 a1),a2] h k0=vx n af aL ak au ah ad ar ae aI aa ab am a0 a1 a2 h (fun u0 h=>k0 (.bool u0) h):=by
  let k:cw:=fun u0 h=>k0 (.bool u0) h
  have hk:bL k0 k:=fun _ _=>rfl
  have hb:∀ F:Tr AV→CRes,fJ vw [a0,(.int .i64 a1),a2] .leaf F=F (cH [(p0,a0),(p1,(.int .i64 a1)),(p2,a2)]):=fun F=>by kernel_rfl
  exact (lD hb).trans ((VY n af aL ak au ah ad ar ae aI aa ab am k0 _).trans (Wg n af aL ak au ah ad ar ae aI aa ab am k0 k hk (RQ n af aL ak au ah ad ar ae aI aa ab am k0 k hk) (Ry n af aL ak au ah ad ar ae aI aa ab am k0 k hk) a0 a1 a2 h))
end
def vD (n:Nat):E3:=vx n (GF oh) (la n) (ec n) (eN n) (dA n) (dp n) (dN n) (dq n) (i9 n) (dB n) (de n) (ew n)
end
end Go.Proofs.YtnlbfbiogfilfaaGreat.Sh
