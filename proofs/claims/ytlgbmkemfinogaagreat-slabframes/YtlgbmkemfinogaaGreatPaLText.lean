/- The program's functions in continuation style: printed by a program, held against their code by the kernel. -/
import Derived.Test.YtlgbmkemfinogaaGreatPaLCode
import Derived.Test.YtlgbmkemfinogaaGreatAiSortedPaLPrims
import Derived.KernelRfl
set_option linter.all false
namespace Go.Proofs.YtlgbmkemfinogaaGreat.Sh
open Go.Ai
set_option maxRecDepth 100000
noncomputable section
variable (n:Nat) (cf:aO)
abbrev cV:=Bool→Int→Int→AV→Heap→(Heap→ab)→ab
abbrev eA:=Heap→ab
abbrev Um (g:cV):Wr:=wrT EN mM g
def Se:aO:=mH []
section
variable (k0:Q0)
def UA:Q1:=(iG cf ET PF (cJ p8 (iG cf ET Qs (jU mM k0)) (jU mM k0)))
def Fk (n:Nat) (k:eA) (a0:Bool) (a1:Int) (a2:Int) (a3:AV) (h:Heap):ab:=ifB (lH a0) (me h a3 1 false fun a=>tw [(.int .i64 0),(.int .i64 0)] [(0,1,(.int .i64 a1)),(1,1,(.int .i64 a2))] fun b=>nS h 1 [(.int .i64 0),(.int .i64 0)] [(0,2,b)] fun c d=>px d 2 a c fun e f=>nu f a3 1 e fun g=>k g) (k h)
def LU (n:Nat) (a0:Bool) (a1:Int) (a2:Int) (a3:AV) (h:Heap) (k:eA):ab:=Fk n k a0 a1 a2 a3 h
theorem afY:DZ cf ET n U5 mM k0=UA cf k0:=by funext s; kernel_rfl
theorem afQ:lo EN (DZ Se ET n U5 mM k0)=cmp EN (LU n) (kap mM k0):=(congrArg (lo EN) (afY n Se k0)).trans (show _=Fk n (kap mM k0) by delta UA Fk; kernel_rfl)
end
def dg (n:Nat):cV:=LU n
abbrev aj:=Int→Int→Int→Heap→(Bool→Heap→ab)→ab
abbrev ae:=Bool→Heap→ab
abbrev Ab (g:aj):Wr:=wrT lK jE g
def GK:aO:=mH []
section
variable (k0:Q0)
def EO:Q1:=(iG cf mV vH (jU jE k0))
def zv (n:Nat) (k:ae) (v14:Bool) (h:Heap):ab:=k v14 h
theorem afV:lo nr (EO GK k0)=zv n (kap jE k0):=by delta EO zv; kernel_rfl
def Zz:Q1:=(iG cf mV mn (iG cf mV vG (kJ nr (EO cf k0))))
def JZ (n:Nat) (k:ae) (a0:Int) (a1:Int) (a2:Int) (h:Heap):ab:=ifB (lH (ltF a0 a1)) (zv n k (lH (ltF a2 a0)) h) (zv n k false h)
def Q4 (n:Nat) (a0:Int) (a1:Int) (a2:Int) (h:Heap) (k:ae):ab:=JZ n k a0 a1 a2 h
theorem aiR:DZ cf mV n aak jE k0=Zz cf k0:=by funext s; kernel_rfl
theorem aiK:lo lK (DZ GK mV n aak jE k0)=cmp lK (Q4 n) (kap jE k0):=(congrArg (lo lK) (aiR n GK k0)).trans (show _=JZ n (kap jE k0) by obtain ⟨J0,u0⟩:=exi (EO GK k0); delta Zz JZ; rw [← afV,u0]; kernel_rfl)
end
def cj (n:Nat):aj:=Q4 n
abbrev bK:=Int→Int→Heap→(Bool→Heap→ab)→ab
abbrev abD (g:bK):Wr:=wrT lw iQ g
def JM (il:aj):aO:=mH [(Ac,Ab il)]
section
variable (il:aj) (k0:Q0)
def GW:Q1:=(iG cf Hc V9 (jU iQ k0))
def BA (n:Nat) (il:aj) (k:ae) (v14:Bool) (h:Heap):ab:=k v14 h
theorem aht:lo nr (GW (JM il) k0)=BA n il (kap iQ k0):=by delta GW BA; kernel_rfl
def abL:Q1:=(iG cf Hc jF (iG cf Hc WS (kJ nr (GW cf k0))))
def Nz (n:Nat) (il:aj) (k:ae) (a0:Int) (a1:Int) (h:Heap):ab:=il a0 1 a1 h fun a b=>ifB a (TH .i64 a0 1 fun c=>aa3 .and .i64 a0 c fun d=>BA n il k (eqF d 0) b) (BA n il k false b)
def TU (n:Nat) (il:aj) (a0:Int) (a1:Int) (h:Heap) (k:ae):ab:=Nz n il k a0 a1 h
theorem akG:DZ cf Hc n ab0 iQ k0=abL cf k0:=by funext s; kernel_rfl
theorem akJ:lo lw (DZ (JM il) Hc n ab0 iQ k0)=cmp lw (TU n il) (kap iQ k0):=(congrArg (lo lw) (akG n (JM il) k0)).trans (show _=Nz n il (kap iQ k0) by obtain ⟨J0,u0⟩:=exi (GW (JM il) k0); delta abL Nz; rw [← aht,u0]; kernel_rfl)
end
def eM (n:Nat):bK:=TU n (cj n)
abbrev ad:=AV→Heap→(Bool→Heap→ab)→ab
abbrev HJ (g:ad):Wr:=wrT iJ iH g
def lU (jz:bK) (il:aj):aO:=mH [(acW,abD jz),(Ac,Ab il)]
section
variable (jz:bK) (il:aj) (k0:Q0)
def CU:Q1:=(iG cf oK SK (jU iH k0))
def yr (n:Nat) (jz:bK) (il:aj) (k:ae) (v44:Bool) (h:Heap):ab:=k v44 h
theorem adX:lo uy (CU (lU jz il) k0)=yr n jz il (kap iH k0):=by delta CU yr; kernel_rfl
def B5:Q1:=(iG cf oK SZ (kJ uy (CU cf k0)))
def xH (n:Nat) (jz:bK) (il:aj) (k:ae) (v1:AV) (v38:Bool) (h:Heap):ab:=ifB v38 (faK 16 v1 fun a=>me h a 1 false fun b=>lz b fun c=>il c 1 8 h fun d e=>yr n jz il k d e) (yr n jz il k false h)
theorem aeK:lo I4 (B5 (lU jz il) k0)=xH n jz il (kap iH k0):=by obtain ⟨J6,u6⟩:=exi (CU (lU jz il) k0); delta B5 xH; rw [← adX,u6]; kernel_rfl
def CN:Q1:=(iG cf oK SQ (kJ I4 (B5 cf k0)))
def xw (n:Nat) (jz:bK) (il:aj) (k:ae) (v1:AV) (v33:Bool) (h:Heap):ab:=ifB v33 (faK 5 v1 fun a=>ldI .i64 h a fun b=>il b 1 64 h fun c d=>xH n jz il k v1 c d) (xH n jz il k v1 false h)
theorem aex:lo Jy (CN (lU jz il) k0)=xw n jz il (kap iH k0):=by obtain ⟨J5,u5⟩:=exi (B5 (lU jz il) k0); delta CN xw; rw [← aeK,u5]; kernel_rfl
def B2:Q1:=(iG cf oK S1 (kJ Jy (CN cf k0)))
def xN (n:Nat) (jz:bK) (il:aj) (k:ae) (v1:AV) (v28:Bool) (h:Heap):ab:=ifB v28 (faK 4 v1 fun a=>ldI .i64 h a fun b=>il b 1 16 h fun c d=>xw n jz il k v1 c d) (xw n jz il k v1 false h)
theorem adG:lo Jn (B2 (lU jz il) k0)=xN n jz il (kap iH k0):=by obtain ⟨J4,u4⟩:=exi (CN (lU jz il) k0); delta B2 xN; rw [← aex,u4]; kernel_rfl
def B7:Q1:=(iG cf oK Sb (kJ Jn (B2 cf k0)))
def xC (n:Nat) (jz:bK) (il:aj) (k:ae) (v1:AV) (v23:Bool) (h:Heap):ab:=ifB v23 (faK 2 v1 fun a=>ldI .i64 h a fun b=>il b 1 16 h fun c d=>xN n jz il k v1 c d) (xN n jz il k v1 false h)
theorem adM:lo IY (B7 (lU jz il) k0)=xC n jz il (kap iH k0):=by obtain ⟨J3,u3⟩:=exi (B2 (lU jz il) k0); delta B7 xC; rw [← adG,u3]; kernel_rfl
def CX:Q1:=(iG cf oK RS (kJ IY (B7 cf k0)))
def xt (n:Nat) (jz:bK) (il:aj) (k:ae) (v1:AV) (v18:Bool) (h:Heap):ab:=ifB v18 (faK 3 v1 fun a=>ldI .i64 h a fun b=>jz b 4096 h fun c d=>xC n jz il k v1 c d) (xC n jz il k v1 false h)
theorem adw:lo I7 (CX (lU jz il) k0)=xt n jz il (kap iH k0):=by obtain ⟨J2,u2⟩:=exi (B7 (lU jz il) k0); delta CX xt; rw [← adM,u2]; kernel_rfl
def Ce:Q1:=(iG cf oK Sp (kJ I7 (CX cf k0)))
def xx (n:Nat) (jz:bK) (il:aj) (k:ae) (v1:AV) (v10:Bool) (h:Heap):ab:=ifB v10 (faK 0 v1 fun a=>ldI .i64 h a fun b=>nR .i64 1 h v1 fun c d=>afN .i64 b d fun e=>xt n jz il k v1 (eqF e 0) h) (xt n jz il k v1 false h)
theorem adL:lo Jo (Ce (lU jz il) k0)=xx n jz il (kap iH k0):=by obtain ⟨J1,u1⟩:=exi (CX (lU jz il) k0); delta Ce xx; rw [← adw,u1]; kernel_rfl
def V1:Q1:=(iG cf oK qA (iG cf oK Sy (kJ Jo (Ce cf k0))))
def Gh (n:Nat) (jz:bK) (il:aj) (k:ae) (a0:AV) (h:Heap):ab:=A5 h a0 fun a b=>nR .i64 1 b (.ptr a 0) fun c d=>jz d 16 b fun e f=>ifB e (faK 0 (.ptr a 0) fun g=>ldI .i64 f g fun i=>il i 1 4096 f fun l m=>xx n jz il k (.ptr a 0) l m) (xx n jz il k (.ptr a 0) false f)
def Ow (n:Nat) (jz:bK) (il:aj) (a0:AV) (h:Heap) (k:ae):ab:=Gh n jz il k a0 h
theorem aha:DZ cf oK n V0 iH k0=V1 cf k0:=by funext s; kernel_rfl
theorem agS:lo iJ (DZ (lU jz il) oK n V0 iH k0)=cmp iJ (Ow n jz il) (kap iH k0):=(congrArg (lo iJ) (aha n (lU jz il) k0)).trans (show _=Gh n jz il (kap iH k0) by obtain ⟨J0,u0⟩:=exi (Ce (lU jz il) k0); delta V1 Gh; rw [← adL,u0]; kernel_rfl)
end
def ce (n:Nat):ad:=Ow n (eM n) (cj n)
abbrev af:=AV→Heap→(Int→Heap→ab)→ab
abbrev ai:=Int→Heap→ab
abbrev Hz (g:af):Wr:=wrT iJ j9 g
def mE:aO:=mH []
abbrev cB:Type:=AV→Int→Int→Heap→ab
abbrev fd:Type:=AV→Int→AV→Int→Int→Heap→ab
section
variable (k0:Q0)
def G8:Q1:=(iG cf mC yl (jU j9 k0))
def HD (n:Nat) (k:ai) (h:Heap):ab:=k 0 h
theorem aiC:lo jR (G8 mE k0)=HD n (kap j9 k0):=by delta G8 HD; kernel_rfl
def GO (J1:Q1):Q1:=(cJ p46 (iG cf mC F2 (jU j9 k0)) (iG cf mC Wj (kJ s7 J1)))
def BF (n:Nat) (k:ai) (j1:cB) (v35:AV) (v36:Int) (v37:Int) (v46:Bool) (h:Heap):ab:=ifB v46 (k 100 h) (og .i64 v37 1 fun a=>j1 v35 v36 a h)
theorem ait (J1:Q1):lo Oi (GO mE k0 J1)=BF n (kap j9 k0) (lo s7 J1):=by delta GO BF; kernel_rfl
def OY (J1:Q1):Q1:=(iG cf mC VV (cJ p38 (iG cf mC Xk (iG cf mC V5 (kJ Oi (GO cf k0 J1)))) (kJ jR (G8 cf k0))))
def BU (n:Nat) (k:ai) (j1:cB) (v35:AV) (v36:Int) (v37:Int) (h:Heap):ab:=ifB (ltF v37 v36) (EE .u64 1 h v35 v37 fun a b=>ifB (ltF b 1) (BF n k j1 v35 v36 v37 true h) (BF n k j1 v35 v36 v37 (ltF 65536 b) h)) (HD n k h)
def Pg:Nat→Q1:=lpS (OY cf k0)
def Hh (n:Nat) (k:ai):Nat→cB:=lpF s7 (BU n k)
theorem aio (m:Nat):lo s7 (Pg mE k0 m)=Hh n (kap j9 k0) m:=ti (fun J1=>(by obtain ⟨J0,u0⟩:=exi (G8 mE k0); obtain ⟨J2,u2⟩:=exi (GO mE k0 J1); delta OY BU; rw [← aiC,u0, ← ait,u2]; kernel_rfl:lo s7 (OY mE k0 J1)=BU n (kap j9 k0) (lo s7 J1))) m
def HB:Q1:=(iG cf mC Xr (kJ s7 (Pg cf k0 n)))
def BQ (n:Nat) (k:ai) (v1:AV) (h:Heap):ab:=nR .u64 3 h v1 fun a b=>nR .u64 4 h v1 fun c d=>nR .u64 5 h v1 fun e f=>nS h 3 [(.int .u64 0),(.int .u64 0),(.int .u64 0)] [(0,1,(.int .u64 b)),(1,1,(.int .u64 d)),(2,1,(.int .u64 f))] fun g i=>lz g fun l=>Hh n k n g l 0 i
theorem agY:lo Pf (HB n mE k0)=BQ n (kap j9 k0):=by obtain ⟨J1,u1⟩:=exi (Pg mE k0 n); delta HB BQ; rw [← aio,u1]; kernel_rfl
def Gx (J4:Q1):Q1:=(cJ p26 (iG cf mC F2 (jU j9 k0)) (iG cf mC Wl (iG cf mC X4 (kJ sK J4))))
def Bj (n:Nat) (k:ai) (j4:fd) (v1:AV) (v5:Int) (v14:AV) (v15:Int) (v16:Int) (v26:Bool) (h:Heap):ab:=ifB v26 (k 100 h) (og .i64 v16 1 fun a=>j4 v1 v5 v14 v15 a h)
theorem aiv (J4:Q1):lo OH (Gx mE k0 J4)=Bj n (kap j9 k0) (lo sK J4):=by delta Gx Bj; kernel_rfl
def OJ (J4:Q1):Q1:=(iG cf mC EK (cJ p17 (iG cf mC EP (iG cf mC U1 (kJ OH (Gx cf k0 J4)))) (kJ Pf (HB n cf k0))))
def BN (n:Nat) (k:ai) (j4:fd) (v1:AV) (v3:Int) (v14:AV) (v15:Int) (v16:Int) (h:Heap):ab:=ifB (ltF v16 v15) (EE .u64 1 h v14 v16 fun a b=>ifB (ltF b v3) (Bj n k j4 v1 b v14 v15 v16 true h) (Bj n k j4 v1 b v14 v15 v16 (ltF 65536 b) h)) (BQ n k v1 h)
def O0:Nat→Q1:=lpS (OJ n cf k0)
def Hy (n:Nat) (k:ai):Nat→fd:=lpF sK (BN n k)
theorem agK (m:Nat):lo sK (O0 n mE k0 m)=Hy n (kap j9 k0) m:=ti (fun J4=>(by obtain ⟨J3,u3⟩:=exi (HB n mE k0); obtain ⟨J5,u5⟩:=exi (Gx mE k0 J4); delta OJ BN; rw [← agY,u3, ← aiv,u5]; kernel_rfl:lo sK (OJ n mE k0 J4)=BN n (kap j9 k0) (lo sK J4))) m
def acy:Q1:=(iG cf mC E0 (iG cf mC UL (iG cf mC Va (kJ sK (O0 n cf k0 n)))))
def NT (n:Nat) (k:ai) (a0:AV) (h:Heap):ab:=A5 h a0 fun a b=>nR .u64 0 b (.ptr a 0) fun c d=>nR .u64 1 b (.ptr a 0) fun e f=>nR .u64 2 b (.ptr a 0) fun g i=>nS b 3 [(.int .u64 0),(.int .u64 0),(.int .u64 0)] [(0,1,(.int .u64 d)),(1,1,(.int .u64 f)),(2,1,(.int .u64 i))] fun l m=>lz l fun o=>Hy n k n (.ptr a 0) 1 l o 0 m
def Uc (n:Nat) (a0:AV) (h:Heap) (k:ai):ab:=NT n k a0 h
theorem aki:DZ cf mC n abM j9 k0=acy n cf k0:=by funext s; kernel_rfl
theorem akQ:lo iJ (DZ mE mC n abM j9 k0)=cmp iJ (Uc n) (kap j9 k0):=(congrArg (lo iJ) (aki n mE k0)).trans (show _=NT n (kap j9 k0) by obtain ⟨J4,u4⟩:=exi (O0 n mE k0 n); delta acy NT; rw [← agK,u4]; kernel_rfl)
end
def cp (n:Nat):af:=Uc n
abbrev aa:=AV→Int→Heap→(Int→Heap→ab)→ab
abbrev vv (g:aa):Wr:=wrT iI gZ g
def mt:aO:=mH []
abbrev bP:Type:=AV→Int→Int→Int→Heap→ab
section
variable (k0:Q0)
def qE:Q1:=(iG cf lm nf (jU gZ k0))
def qG (n:Nat) (k:ai) (h:Heap):ab:=k (-1) h
theorem N3:lo jR (qE mt k0)=qG n (kap gZ k0):=by delta qE qG; kernel_rfl
def un (J1:Q1):Q1:=(iG cf lm ng (cJ p9 (iG cf lm na (iG cf lm A4 (cJ p16 (iG cf lm nb (jU gZ k0)) (iG cf lm m7 (kJ mi J1))))) (kJ jR (qE cf k0))))
def oi (n:Nat) (k:ai) (j1:bP) (v0:AV) (v1:Int) (v7:Int) (v8:Int) (h:Heap):ab:=ifB (ltF v8 v7) (EE .i64 1 h v0 v8 fun a b=>ifB (eqF v1 b) (k v8 h) (og .i64 v8 1 fun c=>j1 v0 v1 v7 c h)) (qG n k h)
def ul:Nat→Q1:=lpS (un cf k0)
def qF (n:Nat) (k:ai):Nat→bP:=lpF mi (oi n k)
theorem NP (m:Nat):lo mi (ul mt k0 m)=qF n (kap gZ k0) m:=ti (fun J1=>(by obtain ⟨J0,u0⟩:=exi (qE mt k0); delta un oi; rw [← N3,u0]; kernel_rfl:lo mi (un mt k0 J1)=oi n (kap gZ k0) (lo mi J1))) m
def Dg:Q1:=(iG cf lm jm (iG cf lm nc (kJ mi (ul cf k0 n))))
def rh (n:Nat) (k:ai) (a0:AV) (a1:Int) (h:Heap):ab:=lz a0 fun a=>qF n k n a0 a1 a 0 h
def vz (n:Nat) (a0:AV) (a1:Int) (h:Heap) (k:ai):ab:=rh n k a0 a1 h
theorem Pw:DZ cf lm n Dp gZ k0=Dg n cf k0:=by funext s; kernel_rfl
theorem Pv:lo iI (DZ mt lm n Dp gZ k0)=cmp iI (vz n) (kap gZ k0):=(congrArg (lo iI) (Pw n mt k0)).trans (show _=rh n (kap gZ k0) by obtain ⟨J1,u1⟩:=exi (ul mt k0 n); delta Dg rh; rw [← NP,u1]; kernel_rfl)
end
def bW (n:Nat):aa:=vz n
abbrev ar:=AV→Int→Heap→(Bool→Heap→ab)→ab
abbrev zY (g:ar):Wr:=wrT iI iQ g
def yy (jd:aa):aO:=mH [(vw,vv jd)]
section
variable (jd:aa) (k0:Q0)
def zu:Q1:=(iG cf pY jF (iG cf pY yh (jU iQ k0)))
def pZ (n:Nat) (jd:aa) (k:ae) (a0:AV) (a1:Int) (h:Heap):ab:=jd a0 a1 h fun a b=>k (lH (ltF a 0)) b
def tv (n:Nat) (jd:aa) (a0:AV) (a1:Int) (h:Heap) (k:ae):ab:=pZ n jd k a0 a1 h
theorem L5:DZ cf pY n zF iQ k0=zu cf k0:=by funext s; kernel_rfl
theorem LZ:lo iI (DZ (yy jd) pY n zF iQ k0)=cmp iI (tv n jd) (kap iQ k0):=(congrArg (lo iI) (L5 n (yy jd) k0)).trans (show _=pZ n jd (kap iQ k0) by delta zu pZ; kernel_rfl)
end
def aQ (n:Nat):ar:=tv n (bW n)
abbrev WE:=Bool→Heap→ab
abbrev XP (g:ar):Wr:=wrT iI iQ g
def lV (iE:ar):aO:=mH [(zC,zY iE)]
abbrev fA:Type:=Int→AV→AV→Int→AV→Int→Int→AV→Int→Int→Heap→ab
abbrev di:Type:=Int→AV→AV→AV→Int→Int→Heap→ab
section
variable (iE:ar) (k0:Q0)
def Cx:Q1:=(iG cf lP RB (jU iQ k0))
def CR (n:Nat) (iE:ar) (k:ae) (v5:AV) (h:Heap):ab:=lz v5 fun a=>k (ltF 0 a) h
theorem aeI:lo I6 (Cx (lV iE) k0)=CR n iE (kap iQ k0):=by delta Cx CR; kernel_rfl
def Cj (J1:Q1):Q1:=(iG cf lP RN (kJ lS J1))
def CJ (n:Nat) (iE:ar) (k:ae) (j1:di) (v1:Int) (v2:AV) (v5:AV) (v16:AV) (v17:Int) (v18:Int) (h:Heap):ab:=og .i64 v18 1 fun a=>j1 v1 v2 v5 v16 v17 a h
theorem aer (J1:Q1):lo lS (Cj (lV iE) J1)=CJ n iE (kap iQ k0) (lo lS J1):=by delta Cj CJ; kernel_rfl
def IX (J1:Q1) (J3:Q1):Q1:=(iG cf lP SY (cJ p50 (iG cf lP Sw (iG cf lP Sg (cJ p56 (iG cf lP jF (jU iQ k0)) (iG cf lP Sk (kJ rO J3))))) (kJ lS (Cj cf J1))))
def xo (n:Nat) (iE:ar) (k:ae) (j1:di) (j3:fA) (v1:Int) (v2:AV) (v5:AV) (v7:Int) (v16:AV) (v17:Int) (v18:Int) (v47:AV) (v48:Int) (v49:Int) (h:Heap):ab:=ifB (ltF v49 v48) (eld 8 h v47 v49 8 true fun a b=>zy h (.cells [.nilslice,(.int .i64 0),(.int .i64 0),(.int .i64 0),(.int .i64 0),(.int .i64 0),(.int .i64 0),(.int .i64 0)] true 0) fun c d=>nu d (.ptr c 0) 8 b fun e=>fld 0 e (.ptr c 0) 1 false fun f g=>iE g v7 e fun i l=>ifB i (k false l) (og .i64 v49 1 fun m=>j3 v1 v2 v5 v7 v16 v17 v18 v47 v48 m l)) (CJ n iE k j1 v1 v2 v5 v16 v17 v18 h)
def I1 (J1:Q1):Nat→Q1:=lpS (IX cf k0 J1)
def xY (n:Nat) (iE:ar) (k:ae) (j1:di):Nat→fA:=lpF rO (xo n iE k j1)
theorem ael (J1:Q1) (m:Nat):lo rO (I1 (lV iE) k0 J1 m)=xY n iE (kap iQ k0) (lo lS J1) m:=ti (fun J3=>(by obtain ⟨J2,u2⟩:=exi (Cj (lV iE) J1); delta IX xo; rw [← aer,u2]; kernel_rfl:lo rO (IX (lV iE) k0 J1 J3)=xo n iE (kap iQ k0) (lo lS J1) (lo rO J3))) m
def CM (J1:Q1):Q1:=(cJ p43 (iG cf lP jF (jU iQ k0)) (iG cf lP Te (kJ rO (I1 cf k0 J1 n))))
def ux (n:Nat) (iE:ar) (k:ae) (j1:di) (v1:Int) (v2:AV) (v5:AV) (v7:Int) (v16:AV) (v17:Int) (v18:Int) (v43:Bool) (h:Heap):ab:=ifB v43 (k false h) (fld 16 h v2 1 false fun a b=>slK (.sl 8) b none (some (.int .i64 v1)) none fun c=>lz c fun d=>xY n iE k j1 n v1 v2 v5 v7 v16 v17 v18 c d 0 h)
theorem aek (J1:Q1):lo I2 (CM n (lV iE) k0 J1)=ux n iE (kap iQ k0) (lo lS J1):=by obtain ⟨J3,u3⟩:=exi (I1 (lV iE) k0 J1 n); delta CM ux; rw [← ael,u3]; kernel_rfl
def Cc (J1:Q1):Q1:=(iG cf lP Qc (kJ I2 (CM n cf k0 J1)))
def xV (n:Nat) (iE:ar) (k:ae) (j1:di) (v1:Int) (v2:AV) (v5:AV) (v6:Int) (v7:Int) (v16:AV) (v17:Int) (v18:Int) (v30:Bool) (h:Heap):ab:=ifB v30 (ux n iE k j1 v1 v2 v5 v7 v16 v17 v18 true h) (ifB (ltF 0 v6) (TH .i64 v6 1 fun a=>EE .i64 1 h v5 a fun b c=>ux n iE k j1 v1 v2 v5 v7 v16 v17 v18 (lH (ltF c v7)) h) (ux n iE k j1 v1 v2 v5 v7 v16 v17 v18 false h))
theorem aeL (J1:Q1):lo Jd (Cc n (lV iE) k0 J1)=xV n iE (kap iQ k0) (lo lS J1):=by obtain ⟨J5,u5⟩:=exi (CM n (lV iE) k0 J1); delta Cc xV; rw [← aek,u5]; kernel_rfl
def Ji (J1:Q1):Q1:=(iG cf lP QA (cJ p19 (iG cf lP Qr (iG cf lP Ta (kJ Jd (Cc n cf k0 J1)))) (kJ I6 (Cx cf k0))))
def yb (n:Nat) (iE:ar) (k:ae) (j1:di) (v1:Int) (v2:AV) (v5:AV) (v16:AV) (v17:Int) (v18:Int) (h:Heap):ab:=ifB (ltF v18 v17) (EE .i64 1 h v16 v18 fun a b=>ifB (ltF b 0) (xV n iE k j1 v1 v2 v5 v18 b v16 v17 v18 true h) (nR .i64 1 h v2 fun c d=>xV n iE k j1 v1 v2 v5 v18 b v16 v17 v18 (lH (ltF b d)) h)) (CR n iE k v5 h)
def Jz:Nat→Q1:=lpS (Ji n cf k0)
def uz (n:Nat) (iE:ar) (k:ae):Nat→di:=lpF lS (yb n iE k)
theorem aep (m:Nat):lo lS (Jz n (lV iE) k0 m)=uz n iE (kap iQ k0) m:=ti (fun J1=>(by obtain ⟨J0,u0⟩:=exi (Cx (lV iE) k0); obtain ⟨J4,u4⟩:=exi (Cc n (lV iE) k0 J1); delta Ji yb; rw [← aeI,u0, ← aeL,u4]; kernel_rfl:lo lS (Ji n (lV iE) k0 J1)=yb n iE (kap iQ k0) (lo lS J1))) m
def X7:Q1:=(iG cf lP tl (iG cf lP PY (iG cf lP Qm (kJ lS (Jz n cf k0 n)))))
def HE (n:Nat) (iE:ar) (k:ae) (a0:AV) (a1:Int) (h:Heap):ab:=A5 h a0 fun a b=>fld 16 b (.ptr a 0) 1 false fun c d=>Rh 8 d a1 fun e=>fld 0 b e 1 false fun f g=>lz g fun i=>uz n iE k n a1 (.ptr a 0) g g i 0 b
def Ok (n:Nat) (iE:ar) (a0:AV) (a1:Int) (h:Heap) (k:ae):ab:=HE n iE k a0 a1 h
theorem agU:DZ cf lP n VM iQ k0=X7 n cf k0:=by funext s; kernel_rfl
theorem ag9:lo iI (DZ (lV iE) lP n VM iQ k0)=cmp iI (Ok n iE) (kap iQ k0):=(congrArg (lo iI) (agU n (lV iE) k0)).trans (show _=HE n iE (kap iQ k0) by obtain ⟨J1,u1⟩:=exi (Jz n (lV iE) k0 n); delta X7 HE; rw [← aep,u1]; kernel_rfl)
end
def d6 (n:Nat):ar:=Ok n (aQ n)
abbrev Wo (g:af):Wr:=wrT iJ j9 g
def acB:aO:=mH []
section
variable (k0:Q0)
def afB:Q1:=(iG cf QH E0 (iG cf QH ZF (jU j9 k0)))
def Qw (n:Nat) (k:ai) (a0:AV) (h:Heap):ab:=A5 h a0 fun a b=>nR .i64 0 b (.ptr a 0) fun c d=>nR .i64 1 b (.ptr a 0) fun e f=>VN .i64 d f fun g=>k g b
def Xt (n:Nat) (a0:AV) (h:Heap) (k:ai):ab:=Qw n k a0 h
theorem amC:DZ cf QH n ae1 j9 k0=afB cf k0:=by funext s; kernel_rfl
theorem alQ:lo iJ (DZ acB QH n ae1 j9 k0)=cmp iJ (Xt n) (kap j9 k0):=(congrArg (lo iJ) (amC n acB k0)).trans (show _=Qw n (kap j9 k0) by delta afB Qw; kernel_rfl)
end
def dT (n:Nat):af:=Xt n
abbrev TB (g:aa):Wr:=wrT iI gZ g
def ZK (i9:af):aO:=mH [(Xm,Wo i9)]
section
variable (i9:af) (k0:Q0)
def acp:Q1:=(iG cf NK sI (iG cf NK VX (jU gZ k0)))
def NG (n:Nat) (i9:af) (k:ai) (a0:AV) (a1:Int) (h:Heap):ab:=A5 h a0 fun a b=>fld 16 b (.ptr a 0) 1 false fun c d=>Rh 8 d a1 fun e=>fld 0 b e 1 false fun f g=>lz g fun i=>me b (.ptr a 0) 17 true fun l=>i9 l (b.shut true) fun m o=>L2 .i64 i m fun p=>k p (o.back b.ro)
def TO (n:Nat) (i9:af) (a0:AV) (a1:Int) (h:Heap) (k:ai):ab:=NG n i9 k a0 a1 h
theorem alt:DZ cf NK n acI gZ k0=acp cf k0:=by funext s; kernel_rfl
theorem alA:lo iI (DZ (ZK i9) NK n acI gZ k0)=cmp iI (TO n i9) (kap gZ k0):=(congrArg (lo iI) (alt n (ZK i9) k0)).trans (show _=NG n i9 (kap gZ k0) by delta acp NG; kernel_rfl)
end
def dD (n:Nat):aa:=TO n (dT n)
abbrev aiJ:=Bool→Heap→ab
abbrev aar (g:ar):Wr:=wrT iI iQ g
def kT (iX:aa) (ii:ad) (i9:af) (il:aj):aO:=mH [(Tx,TB iX),(Gy,HJ ii),(Xm,Wo i9),(Ac,Ab il)]
abbrev eS:Type:=Int→AV→AV→Int→AV→Int→Int→Heap→ab
abbrev Vd:Type:=Int→AV→AV→AV→Int→Heap→ab
section
variable (iX:aa) (ii:ad) (i9:af) (il:aj) (k0:Q0)
def E8:Q1:=(iG cf kw Vi (jU iQ k0))
def zJ (n:Nat) (iX:aa) (ii:ad) (i9:af) (il:aj) (k:ae) (v104:Bool) (h:Heap):ab:=k v104 h
theorem aga:lo LQ (E8 (kT iX ii i9 il) k0)=zJ n iX ii i9 il (kap iQ k0):=by delta E8 zJ; kernel_rfl
def Ff:Q1:=(cJ p72 (iG cf kw jF (jU iQ k0)) (iG cf kw Un (cJ p75 (iG cf kw Fc (jU iQ k0)) (iG cf kw Uw (iG cf kw Vh (kJ LQ (E8 cf k0)))))))
def zX (n:Nat) (iX:aa) (ii:ad) (i9:af) (il:aj) (k:ae) (v1:Int) (v2:AV) (v5:AV) (v72:Bool) (h:Heap):ab:=ifB v72 (k false h) (me h v2 17 true fun a=>ii a h fun b c=>ifB (lH b) (k true c) (nR .i64 1 c v5 fun d e=>aeC .i64 1 e fun f=>me c v2 17 true fun g=>i9 g c fun i l=>ifB (lH (ltF i f)) (nR .i64 2 l v5 fun m o=>og .i64 f o fun p=>nR .i64 3 l v5 fun q r=>og .i64 p r fun s=>nR .i64 4 l v5 fun t u=>og .i64 s u fun w=>nR .i64 5 l v5 fun x y=>og .i64 w y fun z=>nR .i64 6 l v5 fun A B=>og .i64 z B fun C=>me l v2 17 true fun E=>iX E v1 (l.shut true) fun F G=>zJ n iX ii i9 il k (lH (ltF F C)) (G.back l.ro)) (zJ n iX ii i9 il k false l)))
theorem afW:lo LN (Ff (kT iX ii i9 il) k0)=zX n iX ii i9 il (kap iQ k0):=by obtain ⟨J0,u0⟩:=exi (E8 (kT iX ii i9 il) k0); delta Ff zX; rw [← aga,u0]; kernel_rfl
def ES:Q1:=(iG cf kw Vf (kJ LN (Ff cf k0)))
def Aa (n:Nat) (iX:aa) (ii:ad) (i9:af) (il:aj) (k:ae) (v1:Int) (v2:AV) (v5:AV) (v8:Int) (h:Heap):ab:=nR .i64 7 h v5 fun a b=>il b 1 1024 h fun c d=>ifB (lH c) (zX n iX ii i9 il k v1 v2 v5 true d) (zX n iX ii i9 il k v1 v2 v5 (ltF 1024 v8) d)
theorem afO:lo LC (ES (kT iX ii i9 il) k0)=Aa n iX ii i9 il (kap iQ k0):=by obtain ⟨J1,u1⟩:=exi (Ff (kT iX ii i9 il) k0); delta ES Aa; rw [← afW,u1]; kernel_rfl
def zG (J3:Q1):Q1:=(iG cf kw Uu (kJ ns J3))
def zH (n:Nat) (iX:aa) (ii:ad) (i9:af) (il:aj) (k:ae) (j3:eS) (v1:Int) (v2:AV) (v5:AV) (v8:Int) (v51:AV) (v52:Int) (v53:Int) (h:Heap):ab:=og .i64 v53 1 fun a=>j3 v1 v2 v5 v8 v51 v52 a h
theorem afJ (J3:Q1):lo ns (zG (kT iX ii i9 il) J3)=zH n iX ii i9 il (kap iQ k0) (lo ns J3):=by delta zG zH; kernel_rfl
def LH (J3:Q1):Q1:=(iG cf kw Sf (cJ p54 (iG cf kw S4 (iG cf kw UT (cJ p59 (iG cf kw Uk (kJ ns (zG cf J3))) (kJ ns (zG cf J3))))) (kJ LC (ES cf k0))))
def zt (n:Nat) (iX:aa) (ii:ad) (i9:af) (il:aj) (k:ae) (j3:eS) (v1:Int) (v2:AV) (v5:AV) (v8:Int) (v51:AV) (v52:Int) (v53:Int) (h:Heap):ab:=ifB (ltF v53 v52) (eld 8 h v51 v53 8 true fun a b=>zy h (.cells [.nilslice,(.int .i64 0),(.int .i64 0),(.int .i64 0),(.int .i64 0),(.int .i64 0),(.int .i64 0),(.int .i64 0)] true 0) fun c d=>nu d (.ptr c 0) 8 b fun e=>nR .i64 7 e (.ptr c 0) fun f g=>il g 1 1024 e fun i l=>ifB i (nR .i64 7 l (.ptr c 0) fun m o=>og .i64 v8 o fun p=>zH n iX ii i9 il k j3 v1 v2 v5 p v51 v52 v53 l) (zH n iX ii i9 il k j3 v1 v2 v5 v8 v51 v52 v53 l)) (Aa n iX ii i9 il k v1 v2 v5 v8 h)
def Lz:Nat→Q1:=lpS (LH cf k0)
def zL (n:Nat) (iX:aa) (ii:ad) (i9:af) (il:aj) (k:ae):Nat→eS:=lpF ns (zt n iX ii i9 il k)
theorem af6 (k:ae) (m:Nat):zL n iX ii i9 il k (m+1)=zt n iX ii i9 il k (zL n iX ii i9 il k m):=rfl
theorem agb (m:Nat):lo ns (Lz (kT iX ii i9 il) k0 m)=zL n iX ii i9 il (kap iQ k0) m:=ti (fun J3=>(by obtain ⟨J2,u2⟩:=exi (ES (kT iX ii i9 il) k0); obtain ⟨J4,u4⟩:=exi (zG (kT iX ii i9 il) J3); delta LH zt; rw [← afO,u2, ← afJ,u4]; kernel_rfl:lo ns (LH (kT iX ii i9 il) k0 J3)=zt n iX ii i9 il (kap iQ k0) (lo ns J3))) m
def Fj:Q1:=(iG cf kw SS (iG cf kw R0 (kJ ns (Lz cf k0 n))))
def E9 (n:Nat) (iX:aa) (ii:ad) (i9:af) (il:aj) (k:ae) (v1:Int) (v2:AV) (v5:AV) (h:Heap):ab:=fld 16 h v2 1 false fun a b=>og .i64 v1 1 fun c=>slK (.sl 8) b none (some (.int .i64 c)) none fun d=>lz d fun e=>zL n iX ii i9 il k n v1 v2 v5 0 d e 0 h
theorem agd:lo L3 (Fj n (kT iX ii i9 il) k0)=E9 n iX ii i9 il (kap iQ k0):=by obtain ⟨J3,u3⟩:=exi (Lz (kT iX ii i9 il) k0 n); delta Fj E9; rw [← agb,u3]; kernel_rfl
def L4 (J6:Q1):Q1:=(iG cf kw RZ (cJ p41 (iG cf kw SW (iG cf kw Sd (cJ p45 (iG cf kw jF (jU iQ k0)) (iG cf kw S9 (kJ tu J6))))) (kJ L3 (Fj n cf k0))))
def zr (n:Nat) (iX:aa) (ii:ad) (i9:af) (il:aj) (k:ae) (j6:Vd) (v1:Int) (v2:AV) (v5:AV) (v39:AV) (v40:Int) (h:Heap):ab:=ifB (ltF v40 3) (acM 1 3 false v39 v40 fun a=>Pr .i64 a fun b=>il b 1 4096 h fun c d=>ifB (lH c) (k false d) (og .i64 v40 1 fun e=>j6 v1 v2 v5 v39 e d)) (E9 n iX ii i9 il k v1 v2 v5 h)
def LL:Nat→Q1:=lpS (L4 n cf k0)
def EM (n:Nat) (iX:aa) (ii:ad) (i9:af) (il:aj) (k:ae):Nat→Vd:=lpF tu (zr n iX ii i9 il k)
theorem afK (k:ae) (m:Nat):EM n iX ii i9 il k (m+1)=zr n iX ii i9 il k (EM n iX ii i9 il k m):=rfl
theorem agc (m:Nat):lo tu (LL n (kT iX ii i9 il) k0 m)=EM n iX ii i9 il (kap iQ k0) m:=ti (fun J6=>(by obtain ⟨J5,u5⟩:=exi (Fj n (kT iX ii i9 il) k0); delta L4 zr; rw [← agd,u5]; kernel_rfl:lo tu (L4 n (kT iX ii i9 il) k0 J6)=zr n iX ii i9 il (kap iQ k0) (lo tu J6))) m
def EZ:Q1:=(cJ p32 (iG cf kw jF (jU iQ k0)) (iG cf kw SO (kJ tu (LL n cf k0 n))))
def zx (n:Nat) (iX:aa) (ii:ad) (i9:af) (il:aj) (k:ae) (v1:Int) (v2:AV) (v5:AV) (v32:Bool) (h:Heap):ab:=ifB v32 (k false h) (nR .i64 4 h v5 fun a b=>nR .i64 5 h v5 fun c d=>nR .i64 6 h v5 fun e f=>tw [(.int .i64 0),(.int .i64 0),(.int .i64 0)] [(0,1,(.int .i64 b)),(1,1,(.int .i64 d)),(2,1,(.int .i64 f))] fun g=>EM n iX ii i9 il k n v1 v2 v5 g 0 h)
theorem afX:lo LY (EZ n (kT iX ii i9 il) k0)=zx n iX ii i9 il (kap iQ k0):=by obtain ⟨J6,u6⟩:=exi (LL n (kT iX ii i9 il) k0 n); delta EZ zx; rw [← agc,u6]; kernel_rfl
def EU:Q1:=(iG cf kw R8 (kJ LY (EZ n cf k0)))
def zV (n:Nat) (iX:aa) (ii:ad) (i9:af) (il:aj) (k:ae) (v1:Int) (v2:AV) (v5:AV) (v26:Bool) (h:Heap):ab:=ifB v26 (zx n iX ii i9 il k v1 v2 v5 true h) (faK 3 v5 fun a=>ldI .i64 h a fun b=>il b 4 4096 h fun c d=>zx n iX ii i9 il k v1 v2 v5 (lH c) d)
theorem afL:lo L8 (EU n (kT iX ii i9 il) k0)=zV n iX ii i9 il (kap iQ k0):=by obtain ⟨J8,u8⟩:=exi (EZ n (kT iX ii i9 il) k0); delta EU zV; rw [← afX,u8]; kernel_rfl
def Zc:Q1:=(iG cf kw tl (iG cf kw SH (iG cf kw R7 (kJ L8 (EU n cf k0)))))
def JQ (n:Nat) (iX:aa) (ii:ad) (i9:af) (il:aj) (k:ae) (a0:AV) (a1:Int) (h:Heap):ab:=A5 h a0 fun a b=>fld 16 b (.ptr a 0) 1 false fun c d=>eld 8 b d a1 8 true fun e f=>zy b (.cells [.nilslice,(.int .i64 0),(.int .i64 0),(.int .i64 0),(.int .i64 0),(.int .i64 0),(.int .i64 0),(.int .i64 0)] true 0) fun g i=>nu i (.ptr g 0) 8 f fun l=>nR .i64 1 l (.ptr g 0) fun m o=>il o 0 3 l fun p q=>ifB (lH p) (zV n iX ii i9 il k a1 (.ptr a 0) (.ptr g 0) true q) (faK 2 (.ptr g 0) fun r=>ldI .i64 q r fun s=>il s 2 4096 q fun t u=>zV n iX ii i9 il k a1 (.ptr a 0) (.ptr g 0) (lH t) u)
def Rk (n:Nat) (iX:aa) (ii:ad) (i9:af) (il:aj) (a0:AV) (a1:Int) (h:Heap) (k:ae):ab:=JQ n iX ii i9 il k a0 a1 h
theorem aji:DZ cf kw n ZG iQ k0=Zc n cf k0:=by funext s; kernel_rfl
theorem ajf:lo iI (DZ (kT iX ii i9 il) kw n ZG iQ k0)=cmp iI (Rk n iX ii i9 il) (kap iQ k0):=(congrArg (lo iI) (aji n (kT iX ii i9 il) k0)).trans (show _=JQ n iX ii i9 il (kap iQ k0) by obtain ⟨J7,u7⟩:=exi (EU n (kT iX ii i9 il) k0); delta Zc JQ; rw [← afL,u7]; kernel_rfl)
end
def ez (n:Nat):ar:=Rk n (dD n) (ce n) (dT n) (cj n)
abbrev We (g:aa):Wr:=wrT iI gZ g
def abY (pI:ar) (qO:ar):aO:=mH [(XB,XP pI),(ZC,aar qO)]
section
variable (pI:ar) (qO:ar) (k0:Q0)
def afx:Q1:=(iG cf yI sI (iG cf yI aan (cJ p5 (iG cf yI ZQ (jU gZ k0)) (iG cf yI aaq (cJ p10 (iG cf yI aap (jU gZ k0)) (iG cf yI jm (jU gZ k0)))))))
def PK (n:Nat) (pI:ar) (qO:ar) (k:ai) (a0:AV) (a1:Int) (h:Heap):ab:=A5 h a0 fun a b=>me b (.ptr a 0) 17 true fun c=>pI c a1 b fun d e=>ifB (lH d) (k 110 e) (me e (.ptr a 0) 17 true fun f=>qO f a1 e fun g i=>ifB (lH g) (k 111 i) (k 0 i))
def Xo (n:Nat) (pI:ar) (qO:ar) (a0:AV) (a1:Int) (h:Heap) (k:ai):ab:=PK n pI qO k a0 a1 h
theorem alO:DZ cf yI n afd gZ k0=afx cf k0:=by funext s; kernel_rfl
theorem alX:lo iI (DZ (abY pI qO) yI n afd gZ k0)=cmp iI (Xo n pI qO) (kap gZ k0):=(congrArg (lo iI) (alO n (abY pI qO) k0)).trans (show _=PK n pI qO (kap gZ k0) by delta afx PK; kernel_rfl)
end
def dp (n:Nat):aa:=Xo n (d6 n) (ez n)
abbrev Ra (g:aj):Wr:=wrT lK jE g
def GR:aO:=mH []
section
variable (k0:Q0)
def EQ:Q1:=(iG cf mV vH (jU jE k0))
def zO (n:Nat) (k:ae) (v14:Bool) (h:Heap):ab:=k v14 h
theorem afZ:lo nr (EQ GR k0)=zO n (kap jE k0):=by delta EQ zO; kernel_rfl
def ZH:Q1:=(iG cf mV mn (iG cf mV vG (kJ nr (EQ cf k0))))
def JJ (n:Nat) (k:ae) (a0:Int) (a1:Int) (a2:Int) (h:Heap):ab:=ifB (lH (ltF a0 a1)) (zO n k (lH (ltF a2 a0)) h) (zO n k false h)
def Ri (n:Nat) (a0:Int) (a1:Int) (a2:Int) (h:Heap) (k:ae):ab:=JJ n k a0 a1 a2 h
theorem aje:DZ cf mV n ZS jE k0=ZH cf k0:=by funext s; kernel_rfl
theorem ai9:lo lK (DZ GR mV n ZS jE k0)=cmp lK (Ri n) (kap jE k0):=(congrArg (lo lK) (aje n GR k0)).trans (show _=JJ n (kap jE k0) by obtain ⟨J0,u0⟩:=exi (EQ GR k0); delta ZH JJ; rw [← afZ,u0]; kernel_rfl)
end
def dl (n:Nat):aj:=Ri n
abbrev bU:=AV→Int→Int→Heap→(Int→Int→Heap→ab)→ab
abbrev az:=Int→Int→Heap→ab
abbrev aab (g:bU):Wr:=wrT kx sy g
def Hv (iu:af) (i6:aj):aO:=mH [(HF,Hz iu),(Q5,Ra i6)]
section
variable (iu:af) (i6:aj) (k0:Q0)
def Fe:Q1:=(cJ p21 (iG cf sq Uj (jU sy k0)) (iG cf sq UY (jU sy k0)))
def zD (n:Nat) (iu:af) (i6:aj) (k:az) (v1:Int) (v2:Int) (v3:AV) (v21:Bool) (h:Heap):ab:=ifB v21 (k 0 2 h) (og .i64 v1 v2 fun a=>xv .u64 a fun b=>nR .u64 4 h v3 fun c d=>L2 .u64 b d fun e=>k e 0 h)
theorem afC:lo LI (Fe (Hv iu i6) k0)=zD n iu i6 (kap sy k0):=by delta Fe zD; kernel_rfl
def Z7:Q1:=(iG cf sq UC (iG cf sq Ut (iG cf sq UW (cJ p12 (iG cf sq Ur (jU sy k0)) (iG cf sq UH (kJ LI (Fe cf k0)))))))
def JU (n:Nat) (iu:af) (i6:aj) (k:az) (a0:AV) (a1:Int) (a2:Int) (h:Heap):ab:=A5 h a0 fun a b=>me b (.ptr a 0) 6 true fun c=>iu c b fun d e=>ifB (lH (eqF d 0)) (k 0 d e) (i6 a1 0 65536 e fun f g=>ifB (lH f) (zD n iu i6 k a1 a2 (.ptr a 0) true g) (i6 a2 0 64 g fun i l=>zD n iu i6 k a1 a2 (.ptr a 0) (lH i) l))
def Rp (n:Nat) (iu:af) (i6:aj) (a0:AV) (a1:Int) (a2:Int) (h:Heap) (k:az):ab:=JU n iu i6 k a0 a1 a2 h
theorem aiP:DZ cf sq n Z2 sy k0=Z7 cf k0:=by funext s; kernel_rfl
theorem ai3:lo kx (DZ (Hv iu i6) sq n Z2 sy k0)=cmp kx (Rp n iu i6) (kap sy k0):=(congrArg (lo kx) (aiP n (Hv iu i6) k0)).trans (show _=JU n iu i6 (kap sy k0) by obtain ⟨J0,u0⟩:=exi (Fe (Hv iu i6) k0); delta Z7 JU; rw [← afC,u0]; kernel_rfl)
end
def dM (n:Nat):bU:=Rp n (cp n) (dl n)
abbrev aD:=AV→AV→Heap→(Int→Heap→ab)→ab
abbrev adf (g:aD):Wr:=wrT jJ gZ g
def mY (iu:af) (i6:aj):aO:=mH [(HF,Hz iu),(Q5,Ra i6)]
abbrev eY:Type:=AV→Bool→Int→Heap→ab
section
variable (iu:af) (i6:aj) (k0:Q0)
def GX:Q1:=(cJ p44 (iG cf mA WM (jU gZ k0)) (iG cf mA jm (jU gZ k0)))
def BS (n:Nat) (iu:af) (i6:aj) (k:ai) (v44:Bool) (h:Heap):ab:=ifB v44 (k 2 h) (k 0 h)
theorem ahs:lo uy (GX (mY iu i6) k0)=BS n iu i6 (kap gZ k0):=by delta GX BS; kernel_rfl
def F4:Q1:=(iG cf mA Xi (kJ uy (GX cf k0)))
def BL (n:Nat) (iu:af) (i6:aj) (k:ai) (v3:AV) (v38:Bool) (h:Heap):ab:=ifB v38 (BS n iu i6 k true h) (faK 3 v3 fun a=>ldI .i64 h a fun b=>i6 b 1 4096 h fun c d=>BS n iu i6 k (lH c) d)
theorem ahC:lo Oz (F4 (mY iu i6) k0)=BL n iu i6 (kap gZ k0):=by obtain ⟨J2,u2⟩:=exi (GX (mY iu i6) k0); delta F4 BL; rw [← ahs,u2]; kernel_rfl
def Ho:Q1:=(iG cf mA V8 (kJ Oz (F4 cf k0)))
def Bz (n:Nat) (iu:af) (i6:aj) (k:ai) (v3:AV) (v32:Bool) (h:Heap):ab:=ifB v32 (BL n iu i6 k v3 true h) (faK 2 v3 fun a=>ldI .i64 h a fun b=>i6 b 1 5120 h fun c d=>BL n iu i6 k v3 (lH c) d)
theorem ais:lo Ov (Ho (mY iu i6) k0)=Bz n iu i6 (kap gZ k0):=by obtain ⟨J1,u1⟩:=exi (F4 (mY iu i6) k0); delta Ho Bz; rw [← ahC,u1]; kernel_rfl
def Hw:Q1:=(iG cf mA Xc (kJ Ov (Ho cf k0)))
def BR (n:Nat) (iu:af) (i6:aj) (k:ai) (v3:AV) (v6:Bool) (h:Heap):ab:=ifB (lH v6) (Bz n iu i6 k v3 true h) (faK 1 v3 fun a=>ldI .i64 h a fun b=>i6 b 2 4096 h fun c d=>Bz n iu i6 k v3 (lH c) d)
theorem ah7:lo OK (Hw (mY iu i6) k0)=BR n iu i6 (kap gZ k0):=by obtain ⟨J0,u0⟩:=exi (Ho (mY iu i6) k0); delta Hw BR; rw [← ais,u0]; kernel_rfl
def F7 (J4:Q1):Q1:=(iG cf mA Wa (iG cf mA Wg (kJ sJ J4)))
def Bb (n:Nat) (iu:af) (i6:aj) (k:ai) (j4:eY) (v3:AV) (v13:Int) (v23:Bool) (h:Heap):ab:=og .i64 v13 1 fun a=>j4 v3 v23 a h
theorem ag5 (J4:Q1):lo Po (F7 (mY iu i6) J4)=Bb n iu i6 (kap gZ k0) (lo sJ J4):=by delta F7 Bb; kernel_rfl
def Od (J4:Q1):Q1:=(iG cf mA X2 (cJ p14 (iG cf mA WN (iG cf mA W8 (kJ Po (F7 cf J4)))) (kJ OK (Hw cf k0))))
def BG (n:Nat) (iu:af) (i6:aj) (k:ai) (j4:eY) (v3:AV) (v6:Bool) (v13:Int) (h:Heap):ab:=ifB (ltF v13 4) (ifB v6 (Bb n iu i6 k j4 v3 v13 true h) (faK 0 v3 fun a=>ldI .i64 h a fun b=>aeC .i64 1 v13 fun c=>Bb n iu i6 k j4 v3 v13 (eqF b c) h)) (BR n iu i6 k v3 v6 h)
def Pm:Nat→Q1:=lpS (Od cf k0)
def BT (n:Nat) (iu:af) (i6:aj) (k:ai):Nat→eY:=lpF sJ (BG n iu i6 k)
theorem ahg (k:ai) (m:Nat):BT n iu i6 k (m+1)=BG n iu i6 k (BT n iu i6 k m):=rfl
theorem ahx (m:Nat):lo sJ (Pm (mY iu i6) k0 m)=BT n iu i6 (kap gZ k0) m:=ti (fun J4=>(by obtain ⟨J3,u3⟩:=exi (Hw (mY iu i6) k0); obtain ⟨J5,u5⟩:=exi (F7 (mY iu i6) J4); delta Od BG; rw [← ah7,u3, ← ag5,u5]; kernel_rfl:lo sJ (Od (mY iu i6) k0 J4)=BG n iu i6 (kap gZ k0) (lo sJ J4))) m
def abi:Q1:=(iG cf mA UF (iG cf mA UO (iG cf mA UM (cJ p11 (iG cf mA Vb (jU gZ k0)) (iG cf mA mn (iG cf mA Fh (kJ sJ (Pm cf k0 n))))))))
def NU (n:Nat) (iu:af) (i6:aj) (k:ai) (a0:AV) (a1:AV) (h:Heap):ab:=A5 h a0 fun a b=>A5 b a1 fun c d=>me d (.ptr a 0) 6 true fun e=>iu e d fun f g=>ifB (lH (eqF f 0)) (k f g) (BT n iu i6 k n (.ptr c 0) false 0 g)
def T4 (n:Nat) (iu:af) (i6:aj) (a0:AV) (a1:AV) (h:Heap) (k:ai):ab:=NU n iu i6 k a0 a1 h
theorem akj:DZ cf mA n adt gZ k0=abi n cf k0:=by funext s; kernel_rfl
theorem ali:lo jJ (DZ (mY iu i6) mA n adt gZ k0)=cmp jJ (T4 n iu i6) (kap gZ k0):=(congrArg (lo jJ) (akj n (mY iu i6) k0)).trans (show _=NU n iu i6 (kap gZ k0) by obtain ⟨J4,u4⟩:=exi (Pm (mY iu i6) k0 n); delta abi NU; rw [← ahx,u4]; kernel_rfl)
end
def dW (n:Nat):aD:=T4 n (cp n) (dl n)
abbrev dm:=AV→AV→Heap→(AV→Heap→ab)→ab
abbrev aC:=AV→Heap→ab
abbrev Zy (g:dm):Wr:=wrT jJ Ae g
def Xb:aO:=mH []
section
variable (k0:Q0)
def ZY:Q1:=(iG cf pL Vk (iG cf pL Ul (iG cf pL UV (iG cf pL UP (iG cf pL Uz (iG cf pL UK (iG cf pL U7 (iG cf pL U8 (iG cf pL UB (jU Ae k0))))))))))
def JL (n:Nat) (k:aC) (a0:AV) (a1:AV) (h:Heap):ab:=A5 h a0 fun a b=>A5 b a1 fun c d=>zy d (.cells [.nilfunc,.nilfunc,.nilfunc,.nilfunc,.nilfunc,.nilfunc,.nilfunc,.nilfunc,.nilfunc,.nilfunc,.nilfunc] true 0) fun e f=>nR .u64 2 f (.ptr a 0) fun g i=>zy f (.cells [(.int .u64 0)] true 0) fun l m=>nu m (.ptr l 0) 1 (.int .u64 i) fun o=>nR .u64 4 o (.ptr a 0) fun p q=>ldI .u64 o (.ptr l 0) fun r=>L2 .u64 2 r fun s=>og .u64 q s fun t=>zy o (.cells [(.int .u64 0)] true 0) fun u w=>nu w (.ptr u 0) 1 (.int .u64 t) fun x=>nR .i64 2 x (.ptr c 0) fun y z=>xv .u64 z fun A=>ldI .u64 x (.ptr u 0) fun B=>L2 .u64 A B fun C=>zy x (.cells [(.int .u64 0)] true 0) fun E F=>nu F (.ptr E 0) 1 (.int .u64 C) fun G=>nR .i64 1 G (.ptr c 0) fun I K=>xv .u64 K fun L=>L2 .u64 2 L fun M=>og .u64 M 1 fun N=>nR .u64 4 G (.ptr a 0) fun O P=>L2 .u64 N P fun Q=>nR .u64 5 G (.ptr a 0) fun R S=>og .u64 Q S fun T=>zy G (.cells [(.int .u64 0)] true 0) fun U V=>nu V (.ptr U 0) 1 (.int .u64 T) fun X=>zy X (.cells [.nilfunc] true 0) fun Y Z=>nu Z (.ptr Y 0) 1 (.func 161 [] [(.ptr l 0)]) fun qa=>zy qa (.cells [.nilfunc] true 0) fun qb qc=>nu qc (.ptr qb 0) 1 (.func 162 [] [(.ptr u 0)]) fun qd=>me qd (.ptr Y 0) 1 false fun qe=>me qd (.ptr qb 0) 1 false fun qf=>
 tw [.nilfunc,.nilfunc,.nilfunc,.nilfunc,.nilfunc,.nilfunc,.nilfunc,.nilfunc,.nilfunc,.nilfunc,.nilfunc] [(0,1,(.func 163 [] [])),(1,1,(.func 164 [] [(.ptr l 0)])),(2,1,(.func 165 [] [(.ptr E 0),(.ptr l 0)])),(3,1,(.func 166 [] [(.ptr l 0),(.ptr c 0),(.ptr E 0)])),(4,1,qe),(5,1,qf),(6,1,(.func 167 [] [(.ptr a 0),(.ptr l 0)])),(7,1,(.func 168 [] [(.ptr Y 0),(.ptr qb 0)])),(8,1,(.func 169 [] [(.ptr l 0),(.ptr a 0),(.ptr U 0)])),(9,1,(.func 170 [] [(.ptr l 0),(.ptr a 0),(.ptr U 0)])),(10,1,(.func 163 [] []))] fun qg=>nu qd (.ptr e 0) 11 qg fun qi=>me qi (.ptr e 0) 11 true fun ql=>k ql qi
def RA (n:Nat) (a0:AV) (a1:AV) (h:Heap) (k:aC):ab:=JL n k a0 a1 h
theorem ai2:DZ cf pL n Zm Ae k0=ZY cf k0:=by funext s; kernel_rfl
theorem aiX:lo jJ (DZ Xb pL n Zm Ae k0)=cmp jJ (RA n) (kap Ae k0):=(congrArg (lo jJ) (ai2 n Xb k0)).trans (show _=JL n (kap Ae k0) by delta ZY JL; kernel_rfl)
end
def dI (n:Nat):dm:=RA n
abbrev Jp (g:af):Wr:=wrT iJ lc g
def PH:aO:=mH []
section
variable (k0:Q0)
def Tg:Q1:=(iG cf mJ rR (iG cf mJ Pe (jU lc k0)))
def Ck (n:Nat) (k:ai) (a0:AV) (h:Heap):ab:=ldI .u64 h a0 fun a=>L2 .u64 113 a fun b=>k b h
def Jv (n:Nat) (a0:AV) (h:Heap) (k:ai):ab:=Ck n k a0 h
theorem aev:DZ cf mJ n SJ lc k0=Tg cf k0:=by funext s; kernel_rfl
theorem ad3:lo iJ (DZ PH mJ n SJ lc k0)=cmp iJ (Jv n) (kap lc k0):=(congrArg (lo iJ) (aev n PH k0)).trans (show _=Ck n (kap lc k0) by delta Tg Ck; kernel_rfl)
end
def b8 (n:Nat):af:=Jv n
abbrev JA (g:af):Wr:=wrT iJ lc g
def P7:aO:=mH []
section
variable (k0:Q0)
def R2:Q1:=(iG cf mJ rR (iG cf mJ Ox (jU lc k0)))
def Cs (n:Nat) (k:ai) (a0:AV) (h:Heap):ab:=ldI .u64 h a0 fun a=>L2 .u64 64 a fun b=>k b h
def Jq (n:Nat) (a0:AV) (h:Heap) (k:ai):ab:=Cs n k a0 h
theorem adD:DZ cf mJ n RC lc k0=R2 cf k0:=by funext s; kernel_rfl
theorem aei:lo iJ (DZ P7 mJ n RC lc k0)=cmp iJ (Jq n) (kap lc k0):=(congrArg (lo iJ) (adD n P7 k0)).trans (show _=Cs n (kap lc k0) by delta R2 Cs; kernel_rfl)
end
def bZ (n:Nat):af:=Jq n
abbrev bQ:=Heap→(Int→Heap→ab)→ab
abbrev JB (g:bQ):Wr:=wrT jR uB g
def PQ:aO:=mH []
section
variable (k0:Q0)
def SD:Q1:=(iG cf Cu y8 (iG cf Cu y8 (jU uB k0)))
def I9 (n:Nat) (k:ai) (h:Heap):ab:=k 0 h
def RU (n:Nat) (h:Heap) (k:ai):ab:=I9 n k h
theorem aeS:DZ cf Cu n SM uB k0=SD cf k0:=by funext s; kernel_rfl
theorem ad1:lo jR (DZ PQ Cu n SM uB k0)=cmp jR (RU n) (kap uB k0):=(congrArg (lo jR) (aeS n PQ k0)).trans (show _=I9 n (kap uB k0) by delta SD I9; kernel_rfl)
end
def cO (n:Nat):bQ:=RU n
abbrev Jm (g:af):Wr:=wrT iJ lc g
def PR:aO:=mH []
section
variable (k0:Q0)
def RH:Q1:=(iG cf mJ rR (iG cf mJ OL (jU lc k0)))
def B4 (n:Nat) (k:ai) (a0:AV) (h:Heap):ab:=ldI .u64 h a0 fun a=>L2 .u64 17 a fun b=>k b h
def Jw (n:Nat) (a0:AV) (h:Heap) (k:ai):ab:=B4 n k a0 h
theorem aet:DZ cf mJ n S6 lc k0=RH cf k0:=by funext s; kernel_rfl
theorem aem:lo iJ (DZ PR mJ n S6 lc k0)=cmp iJ (Jw n) (kap lc k0):=(congrArg (lo iJ) (aet n PR k0)).trans (show _=B4 n (kap lc k0) by delta RH B4; kernel_rfl)
end
def cu (n:Nat):af:=Jw n
abbrev JD (g:aD):Wr:=wrT jJ jW g
def QG:aO:=mH []
section
variable (k0:Q0)
def Sj:Q1:=(iG cf CL oA (iG cf CL OP (jU jW k0)))
def Cq (n:Nat) (k:ai) (a0:AV) (a1:AV) (h:Heap):ab:=ldI .u64 h a0 fun a=>ldI .u64 h a1 fun b=>og .u64 a b fun c=>k c h
def Jr (n:Nat) (a0:AV) (a1:AV) (h:Heap) (k:ai):ab:=Cq n k a0 a1 h
theorem aeN:DZ cf CL n RR jW k0=Sj cf k0:=by funext s; kernel_rfl
theorem aeu:lo jJ (DZ QG CL n RR jW k0)=cmp jJ (Jr n) (kap jW k0):=(congrArg (lo jJ) (aeN n QG k0)).trans (show _=Cq n (kap jW k0) by delta Sj Cq; kernel_rfl)
end
def cq (n:Nat):aD:=Jr n
abbrev aB:=AV→AV→AV→Heap→(Int→Heap→ab)→ab
abbrev Jf (g:aB):Wr:=wrT mL lf g
def Qd:aO:=mH []
section
variable (k0:Q0)
def Sc:Q1:=(iG cf B9 rS (iG cf B9 O9 (jU lf k0)))
def Ch (n:Nat) (k:ai) (a0:AV) (a1:AV) (a2:AV) (h:Heap):ab:=ldI .u64 h a0 fun a=>nR .i64 3 h a1 fun b c=>xv .u64 c fun d=>L2 .u64 16 d fun e=>ldI .u64 h a0 fun f=>L2 .u64 e f fun g=>og .u64 a g fun i=>ldI .u64 h a2 fun l=>og .u64 i l fun m=>k m h
def Ju (n:Nat) (a0:AV) (a1:AV) (a2:AV) (h:Heap) (k:ai):ab:=Ch n k a0 a1 a2 h
theorem adQ:DZ cf B9 n R9 lf k0=Sc cf k0:=by funext s; kernel_rfl
theorem aeM:lo mL (DZ Qd B9 n R9 lf k0)=cmp mL (Ju n) (kap lf k0):=(congrArg (lo mL) (adQ n Qd k0)).trans (show _=Ch n (kap lf k0) by delta Sc Ch; kernel_rfl)
end
def ct (n:Nat):aB:=Ju n
abbrev JF (g:aD):Wr:=wrT jJ jW g
def P9:aO:=mH []
section
variable (k0:Q0)
def RY:Q1:=(iG cf CP oA (iG cf CP OO (jU jW k0)))
def CI (n:Nat) (k:ai) (a0:AV) (a1:AV) (h:Heap):ab:=nR .u64 4 h a0 fun a b=>ldI .u64 h a1 fun c=>og .u64 b c fun d=>L2 .u64 64 d fun e=>ldI .u64 h a1 fun f=>og .u64 e f fun g=>k g h
def IU (n:Nat) (a0:AV) (a1:AV) (h:Heap) (k:ai):ab:=CI n k a0 a1 h
theorem aez:DZ cf CP n RP jW k0=RY cf k0:=by funext s; kernel_rfl
theorem adW:lo jJ (DZ P9 CP n RP jW k0)=cmp jJ (IU n) (kap jW k0):=(congrArg (lo jJ) (aez n P9 k0)).trans (show _=CI n (kap jW k0) by delta RY CI; kernel_rfl)
end
def cv (n:Nat):aD:=IU n
abbrev I3 (g:aB):Wr:=wrT mL lf g
def QJ:aO:=mH []
section
variable (k0:Q0)
def SE:Q1:=(iG cf Cm rS (iG cf Cm OM (jU lf k0)))
def Ci (n:Nat) (k:ai) (a0:AV) (a1:AV) (a2:AV) (h:Heap):ab:=ldI .u64 h a0 fun a=>L2 .u64 26 a fun b=>nR .u64 3 h a1 fun c d=>og .u64 b d fun e=>ldI .u64 h a2 fun f=>og .u64 e f fun g=>nR .u64 5 h a1 fun i l=>og .u64 g l fun m=>k m h
def Jg (n:Nat) (a0:AV) (a1:AV) (a2:AV) (h:Heap) (k:ai):ab:=Ci n k a0 a1 a2 h
theorem adR:DZ cf Cm n RX lf k0=SE cf k0:=by funext s; kernel_rfl
theorem adz:lo mL (DZ QJ Cm n RX lf k0)=cmp mL (Jg n) (kap lf k0):=(congrArg (lo mL) (adR n QJ k0)).trans (show _=Ci n (kap lf k0) by delta SE Ci; kernel_rfl)
end
def cr (n:Nat):aB:=Jg n
abbrev Hk (g:aB):Wr:=wrT mL lf g
def OI:aO:=mH []
section
variable (k0:Q0)
def PL:Q1:=(iG cf AB rS (iG cf AB Mc (jU lf k0)))
def A2 (n:Nat) (k:ai) (a0:AV) (a1:AV) (a2:AV) (h:Heap):ab:=ldI .u64 h a0 fun a=>L2 .u64 64 a fun b=>nR .u64 3 h a1 fun c d=>L2 .u64 2 d fun e=>og .u64 b e fun f=>ldI .u64 h a2 fun g=>L2 .u64 2 g fun i=>og .u64 f i fun l=>nR .u64 5 h a1 fun m o=>og .u64 l o fun p=>k p h
def GV (n:Nat) (a0:AV) (a1:AV) (a2:AV) (h:Heap) (k:ai):ab:=A2 n k a0 a1 a2 h
theorem ac0:DZ cf AB n QC lf k0=PL cf k0:=by funext s; kernel_rfl
theorem abr:lo mL (DZ OI AB n QC lf k0)=cmp mL (GV n) (kap lf k0):=(congrArg (lo mL) (ac0 n OI k0)).trans (show _=A2 n (kap lf k0) by delta PL A2; kernel_rfl)
end
def cb (n:Nat):aB:=GV n
abbrev So (g:aD):Wr:=wrT jJ jW g
def tj (jv:af) (jp:af) (ju:bQ) (js:af) (jq:aD) (jo:aB) (jx:aD) (jt:aB) (ji:aB):aO:=mH [(oU,Jp jv),(oP,JA jp),(ye,JB ju),(B8,Jm js),(B0,JD jq),(B1,Jf jo),(Ct,JF jx),(Cw,I3 jt),(AP,Hk ji)]
section
variable (jv:af) (jp:af) (ju:bQ) (js:af) (jq:aD) (jo:aB) (jx:aD) (jt:aB) (ji:aB) (k0:Q0)
def Tf:Q1:=(iG cf CE oA (iG cf CE Pi (jU jW k0)))
def Cg (n:Nat) (jv:af) (jp:af) (ju:bQ) (js:af) (jq:aD) (jo:aB) (jx:aD) (jt:aB) (ji:aB) (k:ai) (a0:AV) (a1:AV) (h:Heap):ab:=me h a0 1 false fun a=>tj jv jp ju js jq jo jx jt ji a [] (h.shut true) fun b c=>Pr .u64 b fun d=>me (c.back h.ro) a1 1 false fun e=>tj jv jp ju js jq jo jx jt ji e [] (c.back h.ro) fun f g=>Pr .u64 f fun i=>NJ true [(.int .u64 d),(.int .u64 i)] fun l=>Pr .u64 l fun m=>k m g
def Jk (n:Nat) (jv:af) (jp:af) (ju:bQ) (js:af) (jq:aD) (jo:aB) (jx:aD) (jt:aB) (ji:aB) (a0:AV) (a1:AV) (h:Heap) (k:ai):ab:=Cg n jv jp ju js jq jo jx jt ji k a0 a1 h
theorem ad0:DZ cf CE n Tk jW k0=Tf cf k0:=by funext s; kernel_rfl
theorem adU:lo jJ (DZ (tj jv jp ju js jq jo jx jt ji) CE n Tk jW k0)=cmp jJ (Jk n jv jp ju js jq jo jx jt ji) (kap jW k0):=(congrArg (lo jJ) (ad0 n (tj jv jp ju js jq jo jx jt ji) k0)).trans (show _=Cg n jv jp ju js jq jo jx jt ji (kap jW k0) by delta Tf Cg; kernel_rfl)
end
def dj (n:Nat):aD:=Jk n (b8 n) (bZ n) (cO n) (cu n) (cq n) (ct n) (cv n) (cr n) (cb n)
abbrev cD:=AV→AV→Heap→(Int→Int→Heap→ab)→ab
abbrev afq (g:cD):Wr:=wrT jJ mT g
def uh (kG:aD) (kj:dm) (jv:af) (jp:af) (ju:bQ) (js:af) (jq:aD) (jo:aB) (jx:aD) (jO:aD) (jt:aB) (ji:aB):aO:=mH [(abO,adf kG),(aal,Zy kj),(oU,Jp jv),(oP,JA jp),(ye,JB ju),(B8,Jm js),(B0,JD jq),(B1,Jf jo),(Ct,JF jx),(Js,So jO),(Cw,I3 jt),(AP,Hk ji)]
abbrev aam:Type:=AV→AV→Int→AV→Int→Heap→ab
section
variable (kG:aD) (kj:dm) (jv:af) (jp:af) (ju:bQ) (js:af) (jq:aD) (jo:aB) (jx:aD) (jO:aD) (jt:aB) (ji:aB) (k0:Q0)
def JX:Q1:=(iG cf qC Zw (jU mT k0))
def JS (n:Nat) (kG:aD) (kj:dm) (jv:af) (jp:af) (ju:bQ) (js:af) (jq:aD) (jo:aB) (jx:aD) (jO:aD) (jt:aB) (ji:aB) (k:az) (v2:AV) (v3:AV) (v7:Int) (h:Heap):ab:=nR .i64 0 h v3 fun a b=>xv .u64 b fun c=>nR .u64 2 h v2 fun d e=>L2 .u64 c e fun f=>og .u64 f v7 fun g=>k g 0 h
theorem aiN:lo QP (JX (uh kG kj jv jp ju js jq jo jx jO jt ji) k0)=JS n kG kj jv jp ju js jq jo jx jO jt ji (kap mT k0):=by delta JX JS; kernel_rfl
def Rj (J1:Q1):Q1:=(iG cf qC aah (cJ p20 (iG cf qC Zh (iG cf qC Zq (iG cf qC ZW (kJ wH J1)))) (kJ QP (JX cf k0))))
def EB (n:Nat) (kG:aD) (kj:dm) (jv:af) (jp:af) (ju:bQ) (js:af) (jq:aD) (jo:aB) (jx:aD) (jO:aD) (jt:aB) (ji:aB) (k:az) (j1:aam) (v2:AV) (v3:AV) (v7:Int) (v18:AV) (v19:Int) (h:Heap):ab:=ifB (ltF v19 11) (acM 1 11 false v18 v19 fun a=>uh kG kj jv jp ju js jq jo jx jO jt ji a [] h fun b c=>Pr .u64 b fun d=>NJ true [(.int .u64 v7),(.int .u64 d)] fun e=>Pr .u64 e fun f=>og .i64 v19 1 fun g=>j1 v2 v3 f v18 g c) (JS n kG kj jv jp ju js jq jo jx jO jt ji k v2 v3 v7 h)
def Rm:Nat→Q1:=lpS (Rj cf k0)
def Eo (n:Nat) (kG:aD) (kj:dm) (jv:af) (jp:af) (ju:bQ) (js:af) (jq:aD) (jo:aB) (jx:aD) (jO:aD) (jt:aB) (ji:aB) (k:az):Nat→aam:=lpF wH (EB n kG kj jv jp ju js jq jo jx jO jt ji k)
theorem ai1 (k:az) (m:Nat):Eo n kG kj jv jp ju js jq jo jx jO jt ji k (m+1)=EB n kG kj jv jp ju js jq jo jx jO jt ji k (Eo n kG kj jv jp ju js jq jo jx jO jt ji k m):=rfl
theorem ajb (m:Nat):lo wH (Rm (uh kG kj jv jp ju js jq jo jx jO jt ji) k0 m)=Eo n kG kj jv jp ju js jq jo jx jO jt ji (kap mT k0) m:=ti (fun J1=>(by obtain ⟨J0,u0⟩:=exi (JX (uh kG kj jv jp ju js jq jo jx jO jt ji) k0); delta Rj EB; rw [← aiN,u0]; kernel_rfl:lo wH (Rj (uh kG kj jv jp ju js jq jo jx jO jt ji) k0 J1)=EB n kG kj jv jp ju js jq jo jx jO jt ji (kap mT k0) (lo wH J1))) m
def afn:Q1:=(iG cf qC Wh (iG cf qC Zl (iG cf qC aai (cJ p14 (iG cf qC Z5 (jU mT k0)) (iG cf qC Zg (iG cf qC ZE (kJ wH (Rm cf k0 n))))))))
def Qx (n:Nat) (kG:aD) (kj:dm) (jv:af) (jp:af) (ju:bQ) (js:af) (jq:aD) (jo:aB) (jx:aD) (jO:aD) (jt:aB) (ji:aB) (k:az) (a0:AV) (a1:AV) (h:Heap):ab:=A5 h a0 fun a b=>A5 b a1 fun c d=>me d (.ptr a 0) 6 true fun e=>me d (.ptr c 0) 4 true fun f=>kG e f d fun g i=>ifB (lH (eqF g 0)) (k 0 g i) (me i (.ptr a 0) 6 true fun l=>me i (.ptr c 0) 4 true fun m=>kj l m i fun o p=>Eo n kG kj jv jp ju js jq jo jx jO jt ji k n (.ptr a 0) (.ptr c 0) 0 o 0 p)
def Wy (n:Nat) (kG:aD) (kj:dm) (jv:af) (jp:af) (ju:bQ) (js:af) (jq:aD) (jo:aB) (jx:aD) (jO:aD) (jt:aB) (ji:aB) (a0:AV) (a1:AV) (h:Heap) (k:az):ab:=Qx n kG kj jv jp ju js jq jo jx jO jt ji k a0 a1 h
theorem amc:DZ cf qC n afz mT k0=afn n cf k0:=by funext s; kernel_rfl
theorem alT:lo jJ (DZ (uh kG kj jv jp ju js jq jo jx jO jt ji) qC n afz mT k0)=cmp jJ (Wy n kG kj jv jp ju js jq jo jx jO jt ji) (kap mT k0):=(congrArg (lo jJ) (amc n (uh kG kj jv jp ju js jq jo jx jO jt ji) k0)).trans (show _=Qx n kG kj jv jp ju js jq jo jx jO jt ji (kap mT k0) by obtain ⟨J1,u1⟩:=exi (Rm (uh kG kj jv jp ju js jq jo jx jO jt ji) k0 n); delta afn Qx; rw [← ajb,u1]; kernel_rfl)
end
def d0 (n:Nat):cD:=Wy n (dW n) (dI n) (b8 n) (bZ n) (cO n) (cu n) (cq n) (ct n) (cv n) (dj n) (cr n) (cb n)
abbrev cm:=AV→Int→Heap→(AV→Heap→ab)→ab
abbrev ads (g:cm):Wr:=wrT iI CQ g
def Z0:aO:=mH []
section
variable (k0:Q0)
def acR:Q1:=(iG cf Ca XR (iG cf Ca XL (iG cf Ca WW (iG cf Ca WO (jU CQ k0)))))
def NY (n:Nat) (k:aC) (a0:AV) (a1:Int) (h:Heap):ab:=A5 h a0 fun a b=>zy b (.cells [(.int .i64 0),(.int .i64 0),(.int .i64 0),(.int .i64 0)] true 0) fun c d=>fld 16 d (.ptr a 0) 1 false fun e f=>eld 8 d f a1 8 true fun g i=>zy d (.cells [.nilslice,(.int .i64 0),(.int .i64 0),(.int .i64 0),(.int .i64 0),(.int .i64 0),(.int .i64 0),(.int .i64 0)] true 0) fun l m=>nu m (.ptr l 0) 8 i fun o=>nR .i64 1 o (.ptr l 0) fun p q=>aeC .i64 1 q fun r=>nR .i64 2 o (.ptr l 0) fun s t=>nR .i64 2 o (.ptr l 0) fun u w=>nR .i64 7 o (.ptr l 0) fun x y=>og .i64 w y fun z=>TH .i64 z 1 fun A=>nR .i64 6 o (.ptr l 0) fun B C=>L2 .i64 16 C fun E=>NJ false [(.int .i64 A),(.int .i64 E)] fun F=>Pr .i64 F fun G=>nR .i64 3 o (.ptr l 0) fun I K=>tw [(.int .i64 0),(.int .i64 0),(.int .i64 0),(.int .i64 0)] [(0,1,(.int .i64 r)),(1,1,(.int .i64 t)),(2,1,(.int .i64 G)),(3,1,(.int .i64 K))] fun L=>nu o (.ptr c 0) 4 L fun M=>me M (.ptr c 0) 4 true fun N=>k N M
def Ub (n:Nat) (a0:AV) (a1:Int) (h:Heap) (k:aC):ab:=NY n k a0 a1 h
theorem alB:DZ cf Ca n abJ CQ k0=acR cf k0:=by funext s; kernel_rfl
theorem akZ:lo iI (DZ Z0 Ca n abJ CQ k0)=cmp iI (Ub n) (kap CQ k0):=(congrArg (lo iI) (alB n Z0 k0)).trans (show _=NY n (kap CQ k0) by delta acR NY; kernel_rfl)
end
def dX (n:Nat):cm:=Ub n
abbrev aad (g:ad):Wr:=wrT iJ iH g
def kS (ii:ad) (iu:af) (iV:aa) (i7:bU) (jg:cD) (jb:cm):aO:=mH [(Gy,HJ ii),(HF,Hz iu),(XH,We iV),(Zf,aab i7),(afi,afq jg),(acK,ads jb)]
section
variable (ii:ad) (iu:af) (iV:aa) (i7:bU) (jg:cD) (jb:cm) (k0:Q0)
def E2:Q1:=(iG cf lD EW (jU iH k0))
def EV (n:Nat) (ii:ad) (iu:af) (iV:aa) (i7:bU) (jg:cD) (jb:cm) (k:ae) (h:Heap):ab:=k true h
theorem afT:lo jR (E2 (kS ii iu iV i7 jg jb) k0)=EV n ii iu iV i7 jg jb (kap iH k0):=by delta E2 EV; kernel_rfl
def vD (J1:Q1):Q1:=(iG cf lD Vg (kJ mK J1))
def vJ (n:Nat) (ii:ad) (iu:af) (iV:aa) (i7:bU) (jg:cD) (jb:cm) (k:ae) (j1:cB) (v1:AV) (v58:Int) (v59:Int) (h:Heap):ab:=og .i64 v59 1 fun a=>j1 v1 v58 a h
theorem UD (J1:Q1):lo mK (vD (kS ii iu iV i7 jg jb) J1)=vJ n ii iu iV i7 jg jb (kap iH k0) (lo mK J1):=by delta vD vJ; kernel_rfl
def E3 (J1:Q1):Q1:=(cJ p82 (iG cf lD kg (jU iH k0)) (kJ mK (vD cf J1)))
def zT (n:Nat) (ii:ad) (iu:af) (iV:aa) (i7:bU) (jg:cD) (jb:cm) (k:ae) (j1:cB) (v1:AV) (v58:Int) (v59:Int) (v82:Bool) (h:Heap):ab:=ifB v82 (k false h) (vJ n ii iu iV i7 jg jb k j1 v1 v58 v59 h)
theorem af2 (J1:Q1):lo LM (E3 (kS ii iu iV i7 jg jb) k0 J1)=zT n ii iu iV i7 jg jb (kap iH k0) (lo mK J1):=by obtain ⟨J2,u2⟩:=exi (vD (kS ii iu iV i7 jg jb) J1); delta E3 zT; rw [← UD,u2]; kernel_rfl
def LG (J1:Q1):Q1:=(iG cf lD EL (cJ p60 (iG cf lD UQ (iG cf lD U2 (cJ p65 (kJ mK (vD cf J1)) (iG cf lD U0 (iG cf lD UX (kJ LM (E3 cf k0 J1))))))) (kJ jR (E2 cf k0))))
def zW (n:Nat) (ii:ad) (iu:af) (iV:aa) (i7:bU) (jg:cD) (jb:cm) (k:ae) (j1:cB) (v1:AV) (v58:Int) (v59:Int) (h:Heap):ab:=ifB (ltF v59 v58) (me h v1 17 true fun a=>iV a v59 h fun b c=>ifB (lH (eqF b 0)) (vJ n ii iu iV i7 jg jb k j1 v1 v58 v59 c) (fld 6 c v1 6 true fun d e=>me c v1 17 true fun f=>jb f v59 (c.shut true) fun g i=>jg e g (i.back c.ro) fun l m o=>ifB (lH (eqF m 0)) (zT n ii iu iV i7 jg jb k j1 v1 v58 v59 true o) (faK 12 v1 fun p=>ldI .u64 o p fun q=>zT n ii iu iV i7 jg jb k j1 v1 v58 v59 (ltF q l) o))) (EV n ii iu iV i7 jg jb k h)
def LP:Nat→Q1:=lpS (LG cf k0)
def vC (n:Nat) (ii:ad) (iu:af) (iV:aa) (i7:bU) (jg:cD) (jb:cm) (k:ae):Nat→cB:=lpF mK (zW n ii iu iV i7 jg jb k)
theorem af8 (k:ae) (m:Nat):vC n ii iu iV i7 jg jb k (m+1)=zW n ii iu iV i7 jg jb k (vC n ii iu iV i7 jg jb k m):=rfl
theorem af3 (m:Nat):lo mK (LP (kS ii iu iV i7 jg jb) k0 m)=vC n ii iu iV i7 jg jb (kap iH k0) m:=ti (fun J1=>(by obtain ⟨J0,u0⟩:=exi (E2 (kS ii iu iV i7 jg jb) k0); obtain ⟨J2,u2⟩:=exi (vD (kS ii iu iV i7 jg jb) J1); obtain ⟨J3,u3⟩:=exi (E3 (kS ii iu iV i7 jg jb) k0 J1); delta LG zW; rw [← afT,u0, ← UD,u2, ← af2,u3]; kernel_rfl:lo mK (LG (kS ii iu iV i7 jg jb) k0 J1)=zW n ii iu iV i7 jg jb (kap iH k0) (lo mK J1))) m
def E6:Q1:=(cJ p55 (iG cf lD kg (jU iH k0)) (iG cf lD Uv (kJ mK (LP cf k0 n))))
def zK (n:Nat) (ii:ad) (iu:af) (iV:aa) (i7:bU) (jg:cD) (jb:cm) (k:ae) (v1:AV) (v55:Bool) (h:Heap):ab:=ifB v55 (k false h) (fld 16 h v1 1 false fun a b=>lz b fun c=>vC n ii iu iV i7 jg jb k n v1 c 0 h)
theorem afF:lo L0 (E6 n (kS ii iu iV i7 jg jb) k0)=zK n ii iu iV i7 jg jb (kap iH k0):=by obtain ⟨J1,u1⟩:=exi (LP (kS ii iu iV i7 jg jb) k0 n); delta E6 zK; rw [← af3,u1]; kernel_rfl
def EX:Q1:=(cJ p34 (iG cf lD EW (jU iH k0)) (iG cf lD SR (iG cf lD Sq (kJ L0 (E6 n cf k0)))))
def zP (n:Nat) (ii:ad) (iu:af) (iV:aa) (i7:bU) (jg:cD) (jb:cm) (k:ae) (v1:AV) (v34:Bool) (h:Heap):ab:=ifB v34 (k true h) (fld 6 h v1 6 true fun a b=>nR .i64 3 h v1 fun c d=>nR .i64 4 h v1 fun e f=>L2 .i64 d f fun g=>nR .i64 5 h v1 fun i l=>i7 b g l h fun m o p=>ifB (lH (eqF o 0)) (zK n ii iu iV i7 jg jb k v1 true p) (faK 13 v1 fun q=>ldI .u64 p q fun r=>zK n ii iu iV i7 jg jb k v1 (ltF r m) p))
theorem afH:lo L6 (EX n (kS ii iu iV i7 jg jb) k0)=zP n ii iu iV i7 jg jb (kap iH k0):=by obtain ⟨J4,u4⟩:=exi (E6 n (kS ii iu iV i7 jg jb) k0); delta EX zP; rw [← afF,u4]; kernel_rfl
def E5:Q1:=(cJ p25 (iG cf lD kg (jU iH k0)) (iG cf lD R5 (kJ L6 (EX n cf k0))))
def zm (n:Nat) (ii:ad) (iu:af) (iV:aa) (i7:bU) (jg:cD) (jb:cm) (k:ae) (v1:AV) (v25:Bool) (h:Heap):ab:=ifB v25 (k false h) (me h v1 17 true fun a=>ii a h fun b c=>ifB (lH b) (zP n ii iu iV i7 jg jb k v1 true c) (faK 6 v1 fun d=>me c d 6 true fun e=>iu e c fun f g=>zP n ii iu iV i7 jg jb k v1 (lH (eqF f 0)) g))
theorem af4:lo LW (E5 n (kS ii iu iV i7 jg jb) k0)=zm n ii iu iV i7 jg jb (kap iH k0):=by obtain ⟨J5,u5⟩:=exi (EX n (kS ii iu iV i7 jg jb) k0); delta E5 zm; rw [← afH,u5]; kernel_rfl
def Fd:Q1:=(iG cf lD RO (kJ LW (E5 n cf k0)))
def z7 (n:Nat) (ii:ad) (iu:af) (iV:aa) (i7:bU) (jg:cD) (jb:cm) (k:ae) (v1:AV) (v20:Bool) (h:Heap):ab:=ifB v20 (zm n ii iu iV i7 jg jb k v1 true h) (faK 14 v1 fun a=>ldI .u64 h a fun b=>zm n ii iu iV i7 jg jb k v1 (lH (ltF b 1099511627776)) h)
theorem af1:lo LB (Fd n (kS ii iu iV i7 jg jb) k0)=z7 n ii iu iV i7 jg jb (kap iH k0):=by obtain ⟨J8,u8⟩:=exi (E5 n (kS ii iu iV i7 jg jb) k0); delta Fd z7; rw [← af4,u8]; kernel_rfl
def E7:Q1:=(iG cf lD RM (kJ LB (Fd n cf k0)))
def zp (n:Nat) (ii:ad) (iu:af) (iV:aa) (i7:bU) (jg:cD) (jb:cm) (k:ae) (v1:AV) (v15:Bool) (h:Heap):ab:=ifB v15 (z7 n ii iu iV i7 jg jb k v1 true h) (faK 13 v1 fun a=>ldI .u64 h a fun b=>z7 n ii iu iV i7 jg jb k v1 (ltF 4194304 b) h)
theorem afU:lo LK (E7 n (kS ii iu iV i7 jg jb) k0)=zp n ii iu iV i7 jg jb (kap iH k0):=by obtain ⟨J7,u7⟩:=exi (Fd n (kS ii iu iV i7 jg jb) k0); delta E7 zp; rw [← af1,u7]; kernel_rfl
def aaf:Q1:=(iG cf lD qA (iG cf lD SB (kJ LK (E7 n cf k0))))
def Kc (n:Nat) (ii:ad) (iu:af) (iV:aa) (i7:bU) (jg:cD) (jb:cm) (k:ae) (a0:AV) (h:Heap):ab:=A5 h a0 fun a b=>nR .u64 12 b (.ptr a 0) fun c d=>ifB (ltF d 1) (zp n ii iu iV i7 jg jb k (.ptr a 0) true b) (faK 12 (.ptr a 0) fun e=>ldI .u64 b e fun f=>zp n ii iu iV i7 jg jb k (.ptr a 0) (ltF 4194304 f) b)
def Ro (n:Nat) (ii:ad) (iu:af) (iV:aa) (i7:bU) (jg:cD) (jb:cm) (a0:AV) (h:Heap) (k:ae):ab:=Kc n ii iu iV i7 jg jb k a0 h
theorem aiQ:DZ cf lD n ZI iH k0=aaf n cf k0:=by funext s; kernel_rfl
theorem aiG:lo iJ (DZ (kS ii iu iV i7 jg jb) lD n ZI iH k0)=cmp iJ (Ro n ii iu iV i7 jg jb) (kap iH k0):=(congrArg (lo iJ) (aiQ n (kS ii iu iV i7 jg jb) k0)).trans (show _=Kc n ii iu iV i7 jg jb (kap iH k0) by obtain ⟨J6,u6⟩:=exi (E7 n (kS ii iu iV i7 jg jb) k0); delta aaf Kc; rw [← afU,u6]; kernel_rfl)
end
def dL (n:Nat):ad:=Ro n (ce n) (cp n) (dp n) (dM n) (d0 n) (dX n)
abbrev cM:=Int→AV→Heap→(Bool→Heap→ab)→ab
abbrev RQ (g:cM):Wr:=wrT Cn uC g
def Qj (il:aj):aO:=mH [(Ac,Ab il)]
section
variable (il:aj) (k0:Q0)
def S7:Q1:=(iG cf CS OG (iG cf CS Ob (jU uC k0)))
def Cv (n:Nat) (il:aj) (k:ae) (a0:Int) (a1:AV) (h:Heap):ab:=fld 16 h a1 1 false fun a b=>lz b fun c=>TH .i64 c 1 fun d=>il a0 0 d h fun e f=>k (lH e) f
def JC (n:Nat) (il:aj) (a0:Int) (a1:AV) (h:Heap) (k:ae):ab:=Cv n il k a0 a1 h
theorem adS:DZ cf CS n R6 uC k0=S7 cf k0:=by funext s; kernel_rfl
theorem aes:lo Cn (DZ (Qj il) CS n R6 uC k0)=cmp Cn (JC n il) (kap uC k0):=(congrArg (lo Cn) (adS n (Qj il) k0)).trans (show _=Cv n il (kap uC k0) by delta S7 Cv; kernel_rfl)
end
def cZ (n:Nat):cM:=JC n (cj n)
abbrev yD (g:aD):Wr:=wrT jJ gZ g
def kQ (jN:cM):aO:=mH [(CV,RQ jN)]
abbrev cI:Type:=AV→AV→Int→Int→Heap→ab
section
variable (jN:cM) (k0:Q0)
def ot:Q1:=(iG cf kE nf (jU gZ k0))
def oq (n:Nat) (jN:cM) (k:ai) (h:Heap):ab:=k (-1) h
theorem HQ:lo jR (ot (kQ jN) k0)=oq n jN (kap gZ k0):=by delta ot oq; kernel_rfl
def rf (J1:Q1):Q1:=(iG cf kE ng (cJ p9 (iG cf kE na (iG cf kE wR (cJ p16 (iG cf kE nb (jU gZ k0)) (iG cf kE m7 (kJ lI J1))))) (kJ jR (ot cf k0))))
def ni (n:Nat) (jN:cM) (k:ai) (j1:cI) (v0:AV) (v1:AV) (v7:Int) (v8:Int) (h:Heap):ab:=ifB (ltF v8 v7) (EE .i64 1 h v0 v8 fun a b=>kQ jN v1 [(.int .i64 b)] h fun c d=>Vc c fun e=>ifB e (k v8 d) (og .i64 v8 1 fun f=>j1 v0 v1 v7 f d)) (oq n jN k h)
def re:Nat→Q1:=lpS (rf cf k0)
def nj (n:Nat) (jN:cM) (k:ai):Nat→cI:=lpF lI (ni n jN k)
theorem HO (k:ai) (m:Nat):nj n jN k (m+1)=ni n jN k (nj n jN k m):=rfl
theorem HN (m:Nat):lo lI (re (kQ jN) k0 m)=nj n jN (kap gZ k0) m:=ti (fun J1=>(by obtain ⟨J0,u0⟩:=exi (ot (kQ jN) k0); delta rf ni; rw [← HQ,u0]; kernel_rfl:lo lI (rf (kQ jN) k0 J1)=ni n jN (kap gZ k0) (lo lI J1))) m
def yt:Q1:=(iG cf kE jm (iG cf kE nc (kJ lI (re cf k0 n))))
def pr (n:Nat) (jN:cM) (k:ai) (a0:AV) (a1:AV) (h:Heap):ab:=lz a0 fun a=>nj n jN k n a0 a1 a 0 h
def sT (n:Nat) (jN:cM) (a0:AV) (a1:AV) (h:Heap) (k:ai):ab:=pr n jN k a0 a1 h
theorem Lv:DZ cf kE n yv gZ k0=yt n cf k0:=by funext s; kernel_rfl
theorem Kv:lo jJ (DZ (kQ jN) kE n yv gZ k0)=cmp jJ (sT n jN) (kap gZ k0):=(congrArg (lo jJ) (Lv n (kQ jN) k0)).trans (show _=pr n jN (kap gZ k0) by obtain ⟨J1,u1⟩:=exi (re (kQ jN) k0 n); delta yt pr; rw [← HN,u1]; kernel_rfl)
end
def cR (n:Nat):aD:=sT n (cZ n)
abbrev am:=AV→AV→Heap→(Bool→Heap→ab)→ab
abbrev we (g:am):Wr:=wrT jJ iQ g
def vt (kF:aD):aO:=mH [(yE,yD kF)]
section
variable (kF:aD) (k0:Q0)
def wv:Q1:=(iG cf oh jF (iG cf oh uE (jU iQ k0)))
def oj (n:Nat) (kF:aD) (k:ae) (a0:AV) (a1:AV) (h:Heap):ab:=kF a0 a1 h fun a b=>k (lH (ltF a 0)) b
def qS (n:Nat) (kF:aD) (a0:AV) (a1:AV) (h:Heap) (k:ae):ab:=oj n kF k a0 a1 h
theorem He:DZ cf oh n wn iQ k0=wv cf k0:=by funext s; kernel_rfl
theorem G6:lo jJ (DZ (vt kF) oh n wn iQ k0)=cmp jJ (qS n kF) (kap iQ k0):=(congrArg (lo jJ) (He n (vt kF) k0)).trans (show _=oj n kF (kap iQ k0) by delta wv oj; kernel_rfl)
end
def cG (n:Nat):am:=qS n (cR n)
abbrev Zs (g:ad):Wr:=wrT iJ iH g
def F3 (il:aj) (jB:am):aO:=mH [(Ac,Ab il),(wg,we jB)]
section
variable (il:aj) (jB:am) (k0:Q0)
def Fa:Q1:=(iG cf Ec UU (jU iH k0))
def zS (n:Nat) (il:aj) (jB:am) (k:ae) (v13:Bool) (h:Heap):ab:=k v13 h
theorem af7:lo L7 (Fa (F3 il jB) k0)=zS n il jB (kap iH k0):=by delta Fa zS; kernel_rfl
def Z4:Q1:=(iG cf Ec qA (iG cf Ec Ux (kJ L7 (Fa cf k0))))
def JW (n:Nat) (il:aj) (jB:am) (k:ae) (a0:AV) (h:Heap):ab:=A5 h a0 fun a b=>fld 15 b (.ptr a 0) 1 false fun c d=>lz d fun e=>il e 1 64 b fun f g=>ifB f (faK 15 (.ptr a 0) fun i=>me g i 1 false fun l=>jB l (.func 139 [] [(.ptr a 0)]) g fun m o=>zS n il jB k (lH m) o) (zS n il jB k false g)
def Rz (n:Nat) (il:aj) (jB:am) (a0:AV) (h:Heap) (k:ae):ab:=JW n il jB k a0 h
theorem aiW:DZ cf Ec n Zd iH k0=Z4 cf k0:=by funext s; kernel_rfl
theorem aiY:lo iJ (DZ (F3 il jB) Ec n Zd iH k0)=cmp iJ (Rz n il jB) (kap iH k0):=(congrArg (lo iJ) (aiW n (F3 il jB) k0)).trans (show _=JW n il jB (kap iH k0) by obtain ⟨J0,u0⟩:=exi (Fa (F3 il jB) k0); delta Z4 JW; rw [← af7,u0]; kernel_rfl)
end
def dK (n:Nat):ad:=Rz n (cj n) (cG n)
abbrev ah:=AV→Heap→(AV→Heap→ab)→ab
abbrev ac5 (g:ah):Wr:=wrT iJ jf g
def rX (jK:cV) (ii:ad) (iu:af) (km:ad) (ki:ad) (iV:aa):aO:=mH [(E4,Um jK),(Gy,HJ ii),(HF,Hz iu),(ZV,aad km),(Zx,Zs ki),(XH,We iV)]
abbrev cC:Type:=AV→AV→AV→Int→Int→Heap→ab
section
variable (jK:cV) (ii:ad) (iu:af) (km:ad) (ki:ad) (iV:aa) (k0:Q0)
def Gf:Q1:=(iG cf nq XM (jU jf k0))
def F6 (n:Nat) (jK:cV) (ii:ad) (iu:af) (km:ad) (ki:ad) (iV:aa) (k:aC) (v3:AV) (h:Heap):ab:=me h v3 1 false fun a=>k a h
theorem agB:lo nT (Gf (rX jK ii iu km ki iV) k0)=F6 n jK ii iu km ki iV (kap jf k0):=by delta Gf F6; kernel_rfl
def OA (J1:Q1):Q1:=(iG cf nq WF (cJ p31 (iG cf nq WJ (iG cf nq Xz (iG cf nq X1 (iG cf nq XI (kJ uM J1))))) (kJ nT (Gf cf k0))))
def BV (n:Nat) (jK:cV) (ii:ad) (iu:af) (km:ad) (ki:ad) (iV:aa) (k:aC) (j1:cC) (v1:AV) (v3:AV) (v4:AV) (v29:Int) (v30:Int) (h:Heap):ab:=ifB (ltF v30 v29) (me h v1 17 true fun a=>iV a v30 h fun b c=>og .i64 4 v30 fun d=>rX jK ii iu km ki iV v4 [(.bool (eqF b 0)),(.int .i64 b),(.int .i64 d)] c fun e f=>og .i64 v30 1 fun g=>j1 v1 v3 v4 v29 g f) (F6 n jK ii iu km ki iV k v3 h)
def Pa:Nat→Q1:=lpS (OA cf k0)
def BP (n:Nat) (jK:cV) (ii:ad) (iu:af) (km:ad) (ki:ad) (iV:aa) (k:aC):Nat→cC:=lpF uM (BV n jK ii iu km ki iV k)
theorem aip (k:aC) (m:Nat):BP n jK ii iu km ki iV k (m+1)=BV n jK ii iu km ki iV k (BP n jK ii iu km ki iV k m):=rfl
theorem aia (m:Nat):lo uM (Pa (rX jK ii iu km ki iV) k0 m)=BP n jK ii iu km ki iV (kap jf k0) m:=ti (fun J1=>(by obtain ⟨J0,u0⟩:=exi (Gf (rX jK ii iu km ki iV) k0); delta OA BV; rw [← agB,u0]; kernel_rfl:lo uM (OA (rX jK ii iu km ki iV) k0 J1)=BV n jK ii iu km ki iV (kap jf k0) (lo uM J1))) m
def abl:Q1:=(iG cf nq U4 (iG cf nq UN (iG cf nq U3 (iG cf nq Uy (iG cf nq W7 (iG cf nq Ww (iG cf nq XF (iG cf nq WK (kJ uM (Pa cf k0 n))))))))))
def N5 (n:Nat) (jK:cV) (ii:ad) (iu:af) (km:ad) (ki:ad) (iV:aa) (k:aC) (a0:AV) (h:Heap):ab:=A5 h a0 fun a b=>zy b (.cells [.nilslice] true 0) fun c d=>me d (.ptr a 0) 17 true fun e=>ii e d fun f g=>jK f 114 0 (.ptr c 0) g fun i=>fld 6 i (.ptr a 0) 6 true fun l m=>iu m i fun o p=>jK (eqF o 0) 100 1 (.ptr c 0) p fun q=>me q (.ptr a 0) 17 true fun r=>km r q fun s t=>jK s 113 2 (.ptr c 0) t fun u=>me u (.ptr a 0) 17 true fun w=>ki w u fun x y=>jK x 112 3 (.ptr c 0) y fun z=>fld 16 z (.ptr a 0) 1 false fun A B=>lz B fun C=>NJ false [(.int .i64 C),(.int .i64 8)] fun E=>Pr .i64 E fun F=>BP n jK ii iu km ki iV k n (.ptr a 0) (.ptr c 0) (.func 114 [] [(.ptr c 0)]) F 0 z
def TF (n:Nat) (jK:cV) (ii:ad) (iu:af) (km:ad) (ki:ad) (iV:aa) (a0:AV) (h:Heap) (k:aC):ab:=N5 n jK ii iu km ki iV k a0 h
theorem alG:DZ cf nq n ab7 jf k0=abl n cf k0:=by funext s; kernel_rfl
theorem ak6:lo iJ (DZ (rX jK ii iu km ki iV) nq n ab7 jf k0)=cmp iJ (TF n jK ii iu km ki iV) (kap jf k0):=(congrArg (lo iJ) (alG n (rX jK ii iu km ki iV) k0)).trans (show _=N5 n jK ii iu km ki iV (kap jf k0) by obtain ⟨J1,u1⟩:=exi (Pa (rX jK ii iu km ki iV) k0 n); delta abl N5; rw [← aia,u1]; kernel_rfl)
end
def eI (n:Nat):ah:=TF n (dg n) (ce n) (cp n) (dL n) (dK n) (dp n)
abbrev ahk (g:ad):Wr:=wrT iJ iH g
def afv (sg:ah):aO:=mH [(abW,ac5 sg)]
section
variable (sg:ah) (k0:Q0)
def ahF:Q1:=(iG cf TS qA (iG cf TS acX (jU iH k0)))
def Uf (n:Nat) (sg:ah) (k:ae) (a0:AV) (h:Heap):ab:=A5 h a0 fun a b=>me b (.ptr a 0) 17 true fun c=>sg c b fun d e=>lz d fun f=>k (eqF f 0) e
def aaz (n:Nat) (sg:ah) (a0:AV) (h:Heap) (k:ae):ab:=Uf n sg k a0 h
theorem aok:DZ cf TS n ahd iH k0=ahF cf k0:=by funext s; kernel_rfl
theorem anZ:lo iJ (DZ (afv sg) TS n ahd iH k0)=cmp iJ (aaz n sg) (kap iH k0):=(congrArg (lo iJ) (aok n (afv sg) k0)).trans (show _=Uf n sg (kap iH k0) by delta ahF Uf; kernel_rfl)
end
def fg (n:Nat):ad:=aaz n (eI n)
abbrev acQ (g:aa):Wr:=wrT iI gZ g
def JR (pg:ad):aO:=mH [(ah4,ahk pg)]
section
variable (pg:ad) (k0:Q0)
def Gb:Q1:=(iG cf uk V3 (cJ p9 (iG cf uk V7 (jU gZ k0)) (iG cf uk jm (jU gZ k0))))
def Bh (n:Nat) (pg:ad) (k:ai) (v18:Bool) (h:Heap):ab:=ifB v18 (k 270 h) (k 0 h)
theorem agE:lo OF (Gb (JR pg) k0)=Bh n pg (kap gZ k0):=by delta Gb Bh; kernel_rfl
def ac7:Q1:=(iG cf uk sI (iG cf uk Xp (cJ p5 (iG cf uk WG (jU gZ k0)) (iG cf uk Xd (kJ OF (Gb cf k0))))))
def Nt (n:Nat) (pg:ad) (k:ai) (a0:AV) (a1:Int) (h:Heap):ab:=A5 h a0 fun a b=>me b (.ptr a 0) 17 true fun c=>pg c b fun d e=>ifB (lH d) (k 5 e) (ifB (ltF a1 0) (Bh n pg k true e) (fld 16 e (.ptr a 0) 1 false fun f g=>lz g fun i=>Bh n pg k (lH (ltF a1 i)) e))
def T5 (n:Nat) (pg:ad) (a0:AV) (a1:Int) (h:Heap) (k:ai):ab:=Nt n pg k a0 a1 h
theorem akO:DZ cf uk n abm gZ k0=ac7 cf k0:=by funext s; kernel_rfl
theorem alf:lo iI (DZ (JR pg) uk n abm gZ k0)=cmp iI (T5 n pg) (kap gZ k0):=(congrArg (lo iI) (akO n (JR pg) k0)).trans (show _=Nt n pg (kap gZ k0) by obtain ⟨J0,u0⟩:=exi (Gb (JR pg) k0); delta ac7 Nt; rw [← agE,u0]; kernel_rfl)
end
def eK (n:Nat):aa:=T5 n (fg n)
abbrev bD:=AV→Int→Heap→(Int→Int→Heap→ab)→ab
abbrev abZ (g:bD):Wr:=wrT iI jr g
def aae (rY:aa) (iX:aa):aO:=mH [(acj,acQ rY),(Tx,TB iX)]
section
variable (rY:aa) (iX:aa) (k0:Q0)
def abq:Q1:=(iG cf za Xf (iG cf za Wc (iG cf za XC (cJ p11 (iG cf za WX (jU jr k0)) (iG cf za VR (jU jr k0))))))
def Nw (n:Nat) (rY:aa) (iX:aa) (k:az) (a0:AV) (a1:Int) (h:Heap):ab:=A5 h a0 fun a b=>me b (.ptr a 0) 17 true fun c=>rY c a1 b fun d e=>ifB (lH (eqF d 0)) (k 0 d e) (me e (.ptr a 0) 17 true fun f=>iX f a1 e fun g i=>k g 0 i)
def Ua (n:Nat) (rY:aa) (iX:aa) (a0:AV) (a1:Int) (h:Heap) (k:az):ab:=Nw n rY iX k a0 a1 h
theorem aks:DZ cf za n acb jr k0=abq cf k0:=by funext s; kernel_rfl
theorem alo:lo iI (DZ (aae rY iX) za n acb jr k0)=cmp iI (Ua n rY iX) (kap jr k0):=(congrArg (lo iI) (aks n (aae rY iX) k0)).trans (show _=Nw n rY iX (kap jr k0) by delta abq Nw; kernel_rfl)
end
def eO (n:Nat):bD:=Ua n (eK n) (dD n)
abbrev Dd (g:ah):Wr:=wrT iJ jf g
def Be:aO:=mH []
section
variable (k0:Q0)
def Df:Q1:=(iG cf nM jI (iG cf nM A1 (cJ p4 (iG cf nM jI (jU jf k0)) (iG cf nM AU (jU jf k0)))))
def ri (n:Nat) (k:aC) (a0:AV) (h:Heap):ab:=Tt (.nil .sl) a0 .nilslice fun a=>ifB (Vx false a) (k .nilslice h) (nS h 0 [] [] fun b c=>px c 1 b a0 fun d e=>k d e)
def vA (n:Nat) (a0:AV) (h:Heap) (k:aC):ab:=ri n k a0 h
theorem Px:DZ cf nM n CZ jf k0=Df cf k0:=by funext s; kernel_rfl
theorem Pq:lo iJ (DZ Be nM n CZ jf k0)=cmp iJ (vA n) (kap jf k0):=(congrArg (lo iJ) (Px n Be k0)).trans (show _=ri n (kap jf k0) by delta Df ri; kernel_rfl)
end
def cP (n:Nat):ah:=vA n
abbrev vF (g:aj):Wr:=wrT lK jE g
def CA:aO:=mH []
section
variable (k0:Q0)
def AX:Q1:=(iG cf mV vH (jU jE k0))
def vQ (n:Nat) (k:ae) (v14:Bool) (h:Heap):ab:=k v14 h
theorem acL:lo nr (AX CA k0)=vQ n (kap jE k0):=by delta AX vQ; kernel_rfl
def UZ:Q1:=(iG cf mV mn (iG cf mV vG (kJ nr (AX cf k0))))
def Fi (n:Nat) (k:ae) (a0:Int) (a1:Int) (a2:Int) (h:Heap):ab:=ifB (lH (ltF a0 a1)) (vQ n k (lH (ltF a2 a0)) h) (vQ n k false h)
def LA (n:Nat) (a0:Int) (a1:Int) (a2:Int) (h:Heap) (k:ae):ab:=Fi n k a0 a1 a2 h
theorem af9:DZ cf mV n US jE k0=UZ cf k0:=by funext s; kernel_rfl
theorem afR:lo lK (DZ CA mV n US jE k0)=cmp lK (LA n) (kap jE k0):=(congrArg (lo lK) (af9 n CA k0)).trans (show _=Fi n (kap jE k0) by obtain ⟨J0,u0⟩:=exi (AX CA k0); delta UZ Fi; rw [← acL,u0]; kernel_rfl)
end
def ca (n:Nat):aj:=LA n
abbrev aF:=Int→Heap→(Bool→Heap→ab)→ab
abbrev G0 (g:aF):Wr:=wrT ly iH g
def aag (iK:aj):aO:=mH [(vI,vF iK)]
section
variable (iK:aj) (k0:Q0)
def ab2:Q1:=(iG cf NZ kg (iG cf NZ Ws (jU iH k0)))
def N0 (n:Nat) (iK:aj) (k:ae) (a0:Int) (h:Heap):ab:=iK a0 1 16 h fun a b=>k a b
def TR (n:Nat) (iK:aj) (a0:Int) (h:Heap) (k:ae):ab:=N0 n iK k a0 h
theorem als:DZ cf NZ n acS iH k0=ab2 cf k0:=by funext s; kernel_rfl
theorem akx:lo ly (DZ (aag iK) NZ n acS iH k0)=cmp ly (TR n iK) (kap iH k0):=(congrArg (lo ly) (als n (aag iK) k0)).trans (show _=N0 n iK (kap iH k0) by delta ab2 N0; kernel_rfl)
end
def da (n:Nat):aF:=TR n (ca n)
abbrev bN:=Int→Int→Int→Heap→(Int→Int→Heap→ab)→ab
abbrev Wb (g:bN):Wr:=wrT lK lO g
def vK (iK:aj) (iZ:aF):aO:=mH [(vI,vF iK),(G7,G0 iZ)]
section
variable (iK:aj) (iZ:aF) (k0:Q0)
def CW:Q1:=(cJ p22 (iG cf uX CC (jU lO k0)) (iG cf uX RD (jU lO k0)))
def ym (n:Nat) (iK:aj) (iZ:aF) (k:az) (v0:Int) (v1:Int) (v2:Int) (v22:Bool) (h:Heap):ab:=ifB v22 (k 0 2 h) (TH .i64 v0 v2 fun a=>og .i64 a v1 fun b=>TH .i64 b 1 fun c=>VN .i64 c v1 fun d=>k d 0 h)
theorem aeg:lo Jx (CW (vK iK iZ) k0)=ym n iK iZ (kap lO k0):=by delta CW ym; kernel_rfl
def CT:Q1:=(iG cf uX Sm (kJ Jx (CW cf k0)))
def xO (n:Nat) (iK:aj) (iZ:aF) (k:az) (v0:Int) (v1:Int) (v2:Int) (v15:Bool) (h:Heap):ab:=ifB v15 (ym n iK iZ k v0 v1 v2 true h) (TH .i64 v1 1 fun a=>iK v2 0 a h fun b c=>ym n iK iZ k v0 v1 v2 (lH b) c)
theorem aeO:lo Jl (CT (vK iK iZ) k0)=xO n iK iZ (kap lO k0):=by obtain ⟨J1,u1⟩:=exi (CW (vK iK iZ) k0); delta CT xO; rw [← aeg,u1]; kernel_rfl
def Xs:Q1:=(iG cf uX B3 (iG cf uX Sa (kJ Jl (CT cf k0))))
def HA (n:Nat) (iK:aj) (iZ:aF) (k:az) (a0:Int) (a1:Int) (a2:Int) (h:Heap):ab:=iK a0 1 4096 h fun a b=>ifB (lH a) (xO n iK iZ k a0 a1 a2 true b) (iZ a1 b fun c d=>xO n iK iZ k a0 a1 a2 (lH c) d)
def Pk (n:Nat) (iK:aj) (iZ:aF) (a0:Int) (a1:Int) (a2:Int) (h:Heap) (k:az):ab:=HA n iK iZ k a0 a1 a2 h
theorem ag1:DZ cf uX n Wf lO k0=Xs cf k0:=by funext s; kernel_rfl
theorem ahM:lo lK (DZ (vK iK iZ) uX n Wf lO k0)=cmp lK (Pk n iK iZ) (kap lO k0):=(congrArg (lo lK) (ag1 n (vK iK iZ) k0)).trans (show _=HA n iK iZ (kap lO k0) by obtain ⟨J0,u0⟩:=exi (CT (vK iK iZ) k0); delta Xs HA; rw [← aeO,u0]; kernel_rfl)
end
def dP (n:Nat):bN:=Pk n (ca n) (da n)
abbrev dE:=Int→Heap→(AV→Int→Heap→ab)→ab
abbrev bt:=AV→Int→Heap→ab
abbrev aft (g:dE):Wr:=wrT ly mf g
def oa:aO:=mH []
abbrev dv:Type:=Int→AV→Int→Int→Heap→ab
section
variable (k0:Q0)
def JN:Q1:=(iG cf qx ZO (jU mf k0))
def JV (n:Nat) (k:bt) (v4:AV) (h:Heap):ab:=k v4 0 h
theorem ai8:lo QV (JN oa k0)=JV n (kap mf k0):=by delta JN JV; kernel_rfl
def JI (J1:Q1):Q1:=(iG cf qx aaa (iG cf qx aao (kJ lJ J1)))
def Kb (n:Nat) (k:bt) (j1:dv) (v0:Int) (v4:AV) (v5:Int) (v6:Int) (h:Heap):ab:=nfa 2 v4 fun a=>FY 1 7 a v6 fun b=>me h b 1 false fun c=>nS h 1 [(.int .i64 0)] [(0,1,(.int .i64 v5))] fun d e=>px e 1 c d fun f g=>nfa 2 v4 fun i=>FY 1 7 i v6 fun l=>nu g l 1 f fun m=>aeC .i64 1 v6 fun o=>og .i64 v5 o fun p=>j1 v0 v4 p v6 m
theorem aiI (J1:Q1):lo lJ (JI oa J1)=Kb n (kap mf k0) (lo lJ J1):=by delta JI Kb; kernel_rfl
def QR (J1:Q1) (J3:Q1):Q1:=(iG cf qx ZD (cJ p29 (iG cf qx ZU (kJ lJ J3)) (kJ lJ (JI cf J1))))
def ED (n:Nat) (k:bt) (j1:dv) (j3:dv) (v0:Int) (v4:AV) (v5:Int) (v6:Int) (h:Heap):ab:=aeC .i64 1 v6 fun a=>og .i64 v5 a fun b=>ifB (ltF v0 b) (TH .i64 v6 1 fun c=>j3 v0 v4 v5 c h) (Kb n k j1 v0 v4 v5 v6 h)
def Rt (J1:Q1):Nat→Q1:=lpS (QR cf J1)
def EG (n:Nat) (k:bt) (j1:dv):Nat→dv:=lpF lJ (ED n k j1)
theorem aiZ (k:bt) (j1:dv) (m:Nat):EG n k j1 (m+1)=ED n k j1 (EG n k j1 m):=rfl
theorem aiF (J1:Q1) (m:Nat):lo lJ (Rt oa J1 m)=EG n (kap mf k0) (lo lJ J1) m:=ti (fun J3=>(by obtain ⟨J2,u2⟩:=exi (JI oa J1); delta QR ED; rw [← aiI,u2]; kernel_rfl:lo lJ (QR oa J1 J3)=ED n (kap mf k0) (lo lJ J1) (lo lJ J3))) m
def Q3 (J1:Q1):Q1:=(iG cf qx ZA (cJ p19 (kJ lJ (Rt cf J1 n)) (kJ QV (JN cf k0))))
def En (n:Nat) (k:bt) (j1:dv) (v0:Int) (v4:AV) (v5:Int) (v6:Int) (h:Heap):ab:=ifB (ltF v5 v0) (EG n k j1 n v0 v4 v5 v6 h) (JV n k v4 h)
def Rg:Nat→Q1:=lpS (Q3 n cf k0)
def Ag (n:Nat) (k:bt):Nat→dv:=lpF lJ (En n k)
theorem ai7 (k:bt) (m:Nat):Ag n k (m+1)=En n k (Ag n k m):=rfl
theorem ai0 (m:Nat):lo lJ (Rg n oa k0 m)=Ag n (kap mf k0) m:=ti (fun J1=>(by obtain ⟨J0,u0⟩:=exi (JN oa k0); obtain ⟨J3,u3⟩:=exi (Rt oa J1 n); delta Q3 En; rw [← ai8,u0, ← aiF,u3]; kernel_rfl:lo lJ (Q3 n oa k0 J1)=En n (kap mf k0) (lo lJ J1))) m
def JH:Q1:=(cJ p12 (iG cf qx Z9 (jU mf k0)) (iG cf qx Zt (iG cf qx Ze (kJ lJ (Rg n cf k0 n)))))
def EA (n:Nat) (k:bt) (v0:Int) (v12:Bool) (h:Heap):ab:=ifB v12 (k .nilptr 2 h) (zy h (.mp []) fun a b=>tw [(.bool false),(.int .i64 0),.nilslice,.nilslice,.nilslice,.nilslice,.nilslice,.nilslice,.nilslice,.nilmap] [(0,1,(.bool true)),(1,1,(.int .i64 v0)),(9,1,(.map a))] fun c=>A5 b c fun d e=>Ag n k n v0 (.ptr d 0) 0 6 e)
theorem aiV:lo QX (JH n oa k0)=EA n (kap mf k0):=by obtain ⟨J1,u1⟩:=exi (Rg n oa k0 n); delta JH EA; rw [← ai0,u1]; kernel_rfl
def ae0:Q1:=(iG cf qx VO (iG cf qx ZP (kJ QX (JH n cf k0))))
def P4 (n:Nat) (k:bt) (a0:Int) (h:Heap):ab:=ifB (ltF a0 0) (EA n k a0 true h) (EA n k a0 (ltF 4096 a0) h)
def Xa (n:Nat) (a0:Int) (h:Heap) (k:bt):ab:=P4 n k a0 h
theorem am4:DZ cf qx n aeZ mf k0=ae0 n cf k0:=by funext s; kernel_rfl
theorem amB:lo ly (DZ oa qx n aeZ mf k0)=cmp ly (Xa n) (kap mf k0):=(congrArg (lo ly) (am4 n oa k0)).trans (show _=P4 n (kap mf k0) by obtain ⟨J4,u4⟩:=exi (JH n oa k0); delta ae0 P4; rw [← aiV,u4]; kernel_rfl)
end
def eC (n:Nat):dE:=Xa n
abbrev aH:=AV→Int→Heap→(AV→Int→Heap→ab)→ab
abbrev abg (g:aH):Wr:=wrT iI mI g
def Br (kR:bD) (je:ah) (j0:bN) (lr:dE):aO:=mH [(abj,abZ kR),(Dk,Dd je),(XJ,Wb j0),(ae4,aft lr)]
section
variable (kR:bD) (je:ah) (j0:bN) (lr:dE) (k0:Q0)
def Nx:Q1:=(iG cf mX adg (jU mI k0))
def NC (n:Nat) (kR:bD) (je:ah) (j0:bN) (lr:dE) (k:bt) (v9:AV) (h:Heap):ab:=k v9 0 h
theorem akD:lo T6 (Nx (Br kR je j0 lr) k0)=NC n kR je j0 lr (kap mI k0):=by delta Nx NC; kernel_rfl
def Tp (J1:Q1):Q1:=(iG cf mX EL (cJ p60 (iG cf mX adk (iG cf mX ac4 (iG cf mX abH (cJ p73 (iG cf mX adn (jU mI k0)) (iG cf mX acD (iG cf mX acP (cJ p81 (iG cf mX ab3 (jU mI k0)) (iG cf mX adh (iG cf mX acY (kJ yV J1)))))))))) (kJ T6 (Nx cf k0))))
def Gm (n:Nat) (kR:bD) (je:ah) (j0:bN) (lr:dE) (k:bt) (j1:cC) (v2:AV) (v9:AV) (v57:AV) (v58:Int) (v59:Int) (h:Heap):ab:=ifB (ltF v59 v58) (EE .i64 1 h v57 v59 fun a b=>nR .i64 0 h v2 fun c d=>nR .i64 1 h v2 fun e f=>j0 d f b h fun g i l=>ifB (lH (eqF i 0)) (k .nilptr i l) (lr g l fun m o p=>ifB (lH (eqF o 0)) (k .nilptr o p) (CB 11 p v9 1 false fun q r=>nS p 1 [.nilptr] [(0,1,m)] fun s t=>px t 1 r s fun u w=>nfst 11 w v9 1 u fun x y=>og .i64 v59 1 fun z=>j1 v2 v9 v57 v58 z y))) (NC n kR je j0 lr k v9 h)
def Ts:Nat→Q1:=lpS (Tp cf k0)
def GM (n:Nat) (kR:bD) (je:ah) (j0:bN) (lr:dE) (k:bt):Nat→cC:=lpF yV (Gm n kR je j0 lr k)
theorem akP (k:bt) (m:Nat):GM n kR je j0 lr k (m+1)=Gm n kR je j0 lr k (GM n kR je j0 lr k m):=rfl
theorem alq (m:Nat):lo yV (Ts (Br kR je j0 lr) k0 m)=GM n kR je j0 lr (kap mI k0) m:=ti (fun J1=>(by obtain ⟨J0,u0⟩:=exi (Nx (Br kR je j0 lr) k0); delta Tp Gm; rw [← akD,u0]; kernel_rfl:lo yV (Tp (Br kR je j0 lr) k0 J1)=Gm n kR je j0 lr (kap mI k0) (lo yV J1))) m
def ah2:Q1:=(iG cf mX ZT (iG cf mX Zu (iG cf mX ZJ (cJ p22 (iG cf mX ZR (jU mI k0)) (iG cf mX Z1 (iG cf mX ZX (iG cf mX Zi (iG cf mX ZB (kJ yV (Ts cf k0 n))))))))))
def TM (n:Nat) (kR:bD) (je:ah) (j0:bN) (lr:dE) (k:bt) (a0:AV) (a1:Int) (h:Heap):ab:=A5 h a0 fun a b=>me b (.ptr a 0) 17 true fun c=>kR c a1 b fun d e f=>ifB (lH (eqF e 0)) (k .nilptr e f) (fld 16 f (.ptr a 0) 1 false fun g i=>eld 8 f i a1 8 true fun l m=>zy f (.cells [.nilslice,(.int .i64 0),(.int .i64 0),(.int .i64 0),(.int .i64 0),(.int .i64 0),(.int .i64 0),(.int .i64 0)] true 0) fun o p=>nu p (.ptr o 0) 8 m fun q=>nR .i64 1 q (.ptr a 0) fun r s=>fld 0 q (.ptr o 0) 1 false fun t u=>je u (q.shut true) fun w x=>nR .i64 1 (x.back q.ro) (.ptr o 0) fun y z=>zy (x.back q.ro) (.mp []) fun A B=>tw [(.int .i64 0),.nilslice,(.int .i64 0),(.int .i64 0),(.int .i64 0),(.int .i64 0),(.int .i64 0),(.int .i64 0),(.int .i64 0),(.int .i64 0),(.int .i64 0),.nilslice,.nilmap,(.int .i64 0),(.int .i64 0),(.int .i64 0),(.int .i64 0),(.int .i64 0),(.int .i64 0),(.int .i64 0)] [(0,1,(.int .i64 s)),(1,1,w),(2,1,(.int .i64 z)),(10,1,(.int .i64 d)),(12,1,(.map A))] fun C=>A5 B C fun E F=>nR .i64 2 F (.ptr o 0) fun G I=>nR .i64 3 F (.ptr o 0) fun K L=>nR .i64 4 F (.ptr o 0) fun M N=>nR .i64 5 F (.ptr o 0) fun O P=>nR .i64 6 F (.ptr o 0) fun Q R=>tw [(.int .i64 0),(.int .i64 0),(.int .i64 0),(.int .i64 0),(.int .i64 0),(.int .i64 0),(.int .i64 0)] [(2,1,(.int .i64 I)),(3,1,(.int .i64 L)),(4,1,(.int .i64 N)),(5,1,(.int .i64 P)),(6,1,(.int .i64 R))] fun S=>nfst 3 F (.ptr E 0) 7 S fun T U=>CB 1 U (.ptr E 0) 1 false fun V X=>lz X fun Y=>GM n kR je j0 lr k n (.ptr a 0) (.ptr E 0) X Y 0 U)
def aaQ (n:Nat) (kR:bD) (je:ah) (j0:bN) (lr:dE) (a0:AV) (a1:Int) (h:Heap) (k:bt):ab:=TM n kR je j0 lr k a0 a1 h
theorem ant:DZ cf mX n ahJ mI k0=ah2 n cf k0:=by funext s; kernel_rfl
theorem aop:lo iI (DZ (Br kR je j0 lr) mX n ahJ mI k0)=cmp iI (aaQ n kR je j0 lr) (kap mI k0):=(congrArg (lo iI) (ant n (Br kR je j0 lr) k0)).trans (show _=TM n kR je j0 lr (kap mI k0) by obtain ⟨J1,u1⟩:=exi (Ts (Br kR je j0 lr) k0 n); delta ah2 TM; rw [← alq,u1]; kernel_rfl)
end
def cE (n:Nat):aH:=aaQ n (eO n) (cP n) (dP n) (eC n)
abbrev oI (g:ad):Wr:=wrT iJ iH g
def w7:aO:=mH []
section
variable (k0:Q0)
def wx:Q1:=(iG cf uR qw (jU iH k0))
def sC (n:Nat) (k:ae) (v11:Bool) (h:Heap):ab:=k v11 h
theorem WD:lo mR (wx w7 k0)=sC n (kap iH k0):=by delta wx sC; kernel_rfl
def Oq:Q1:=(iG cf uR kg (iG cf uR Lu (kJ mR (wx cf k0))))
def y0 (n:Nat) (k:ae) (a0:AV) (h:Heap):ab:=Tt (.nil .ptr) a0 .nilptr fun a=>ifB (Vx true a) (CB 12 h a0 1 false fun b c=>Tt (.nil .mp) c .nilmap fun d=>sC n k (Vx true d) h) (sC n k false h)
def FD (n:Nat) (a0:AV) (h:Heap) (k:ae):ab:=y0 n k a0 h
theorem aaK:DZ cf uR n O3 iH k0=Oq cf k0:=by funext s; kernel_rfl
theorem abf:lo iJ (DZ w7 uR n O3 iH k0)=cmp iJ (FD n) (kap iH k0):=(congrArg (lo iJ) (aaK n w7 k0)).trans (show _=y0 n (kap iH k0) by obtain ⟨J0,u0⟩:=exi (wx w7 k0); delta Oq y0; rw [← WD,u0]; kernel_rfl)
end
def bu (n:Nat):ad:=FD n
abbrev xf (g:ad):Wr:=wrT iJ iH g
def vN:aO:=mH []
section
variable (k0:Q0)
def vj:Q1:=(iG cf tE qw (jU iH k0))
def rA (n:Nat) (k:ae) (v11:Bool) (h:Heap):ab:=k v11 h
theorem Vs:lo mR (vj vN k0)=rA n (kap iH k0):=by delta vj rA; kernel_rfl
def Ml:Q1:=(iG cf tE kg (iG cf tE Ii (kJ mR (vj cf k0))))
def xi (n:Nat) (k:ae) (a0:AV) (h:Heap):ab:=Tt (.nil .ptr) a0 .nilptr fun a=>ifB (Vx false a) (rA n k true h) (nfldB 0 h a0 fun b c=>rA n k (lH c) h)
def DQ (n:Nat) (a0:AV) (h:Heap) (k:ae):ab:=xi n k a0 h
theorem Y9:DZ cf tE n Mg iH k0=Ml cf k0:=by funext s; kernel_rfl
theorem YY:lo iJ (DZ vN tE n Mg iH k0)=cmp iJ (DQ n) (kap iH k0):=(congrArg (lo iJ) (Y9 n vN k0)).trans (show _=xi n (kap iH k0) by obtain ⟨J0,u0⟩:=exi (vj vN k0); delta Ml xi; rw [← Vs,u0]; kernel_rfl)
end
def bV (n:Nat):ad:=DQ n
abbrev aw:=AV→Int→Int→Heap→(AV→Heap→ab)→ab
abbrev uJ (g:aw):Wr:=wrT kx mw g
def AY:aO:=mH []
section
variable (k0:Q0)
def A8:Q1:=(iG cf lh zN (iG cf lh zQ (iG cf lh z6 (cJ p16 (iG cf lh zn (jU mw k0)) (iG cf lh zl (iG cf lh zR (iG cf lh zE (iG cf lh zZ (jU mw k0)))))))))
def qV (n:Nat) (k:aC) (a0:AV) (a1:Int) (a2:Int) (h:Heap):ab:=lz a0 fun a=>slK (.sl 1) a0 (some (.int .i64 a1)) (some (.int .i64 a2)) (some (.int .i64 a)) fun b=>ifB (eqF a1 a2) (k a0 h) (lz a0 fun c=>slK (.sl 1) a0 none (some (.int .i64 a1)) none fun d=>slK (.sl 1) a0 (some (.int .i64 a2)) none none fun e=>px h 1 d e fun f g=>lz f fun i=>slK (.sl 1) f (some (.int .i64 i)) (some (.int .i64 c)) none fun l=>akt g [(.int .i64 0)] l fun m=>k f m)
def uY (n:Nat) (a0:AV) (a1:Int) (a2:Int) (h:Heap) (k:aC):ab:=qV n k a0 a1 a2 h
theorem OU:DZ cf lh n Bf mw k0=A8 cf k0:=by funext s; kernel_rfl
theorem Ol:lo kx (DZ AY lh n Bf mw k0)=cmp kx (uY n) (kap mw k0):=(congrArg (lo kx) (OU n AY k0)).trans (show _=qV n (kap mw k0) by delta A8 qV; kernel_rfl)
end
def bC (n:Nat):aw:=uY n
abbrev RG (g:aF):Wr:=wrT ly iH g
def QO:aO:=mH []
section
variable (k0:Q0)
def Th:Q1:=(iG cf qu kg (iG cf qu zi (jU iH k0)))
def Cp (n:Nat) (k:ae) (a0:Int) (h:Heap):ab:=k (lH (eqF a0 a0)) h
def JE (n:Nat) (a0:Int) (h:Heap) (k:ae):ab:=Cp n k a0 h
theorem ad2:DZ cf qu n Si iH k0=Th cf k0:=by funext s; kernel_rfl
theorem aec:lo ly (DZ QO qu n Si iH k0)=cmp ly (JE n) (kap iH k0):=(congrArg (lo ly) (ad2 n QO k0)).trans (show _=Cp n (kap iH k0) by delta Th Cp; kernel_rfl)
end
def ed (n:Nat):aF:=JE n
abbrev UG (g:bK):Wr:=wrT lw iQ g
def uA (jZ:aF):aO:=mH [(Sn,RG jZ)]
section
variable (jZ:aF) (k0:Q0)
def AR:Q1:=(iG cf vE Qq (jU iQ k0))
def vW (n:Nat) (jZ:aF) (k:ae) (v16:Bool) (h:Heap):ab:=k v16 h
theorem abE:lo GC (AR (uA jZ) k0)=vW n jZ (kap iQ k0):=by delta AR vW; kernel_rfl
def AD:Q1:=(iG cf vE Qn (kJ GC (AR cf k0)))
def vR (n:Nat) (jZ:aF) (k:ae) (v0:Int) (v1:Int) (v11:Bool) (h:Heap):ab:=ifB v11 (vW n jZ k true h) (vW n jZ k (ltF v0 v1) h)
theorem abC:lo tg (AD (uA jZ) k0)=vR n jZ (kap iQ k0):=by obtain ⟨J1,u1⟩:=exi (AR (uA jZ) k0); delta AD vR; rw [← abE,u1]; kernel_rfl
def U9:Q1:=(iG cf vE jF (iG cf vE Qy (kJ tg (AD cf k0))))
def ER (n:Nat) (jZ:aF) (k:ae) (a0:Int) (a1:Int) (h:Heap):ab:=jZ a0 h fun a b=>ifB a (jZ a1 b fun c d=>vR n jZ k a0 a1 (lH c) d) (vR n jZ k a0 a1 false b)
def LS (n:Nat) (jZ:aF) (a0:Int) (a1:Int) (h:Heap) (k:ae):ab:=ER n jZ k a0 a1 h
theorem af5:DZ cf vE n UJ iQ k0=U9 cf k0:=by funext s; kernel_rfl
theorem afD:lo lw (DZ (uA jZ) vE n UJ iQ k0)=cmp lw (LS n jZ) (kap iQ k0):=(congrArg (lo lw) (af5 n (uA jZ) k0)).trans (show _=ER n jZ (kap iQ k0) by obtain ⟨J0,u0⟩:=exi (AD (uA jZ) k0); delta U9 ER; rw [← abC,u0]; kernel_rfl)
end
def dA (n:Nat):bK:=LS n (ed n)
abbrev Mi (g:aF):Wr:=wrT ly iH g
def Ko:aO:=mH []
section
variable (k0:Q0)
def MW:Q1:=(iG cf qu kg (iG cf qu zi (jU iH k0)))
def wT (n:Nat) (k:ae) (a0:Int) (h:Heap):ab:=k (lH (eqF a0 a0)) h
def DE (n:Nat) (a0:Int) (h:Heap) (k:ae):ab:=wT n k a0 h
theorem YK:DZ cf qu n MT iH k0=MW cf k0:=by funext s; kernel_rfl
theorem YI:lo ly (DZ Ko qu n MT iH k0)=cmp ly (DE n) (kap iH k0):=(congrArg (lo ly) (YK n Ko k0)).trans (show _=wT n (kap iH k0) by delta MW wT; kernel_rfl)
end
def de (n:Nat):aF:=DE n
abbrev aE:=AV→Int→Heap→(Int→Bool→Heap→ab)→ab
abbrev bL:=Int→Bool→Heap→ab
abbrev qP (g:aE):Wr:=wrT iI kc g
def ku (jG:bK) (jh:aF):aO:=mH [(Us,UG jG),(MC,Mi jh)]
abbrev dy:Type:=AV→Int→Int→Int→Int→Heap→ab
section
variable (jG:bK) (jh:aF) (k0:Q0)
def nN:Q1:=(iG cf jQ uN (jU kc k0))
def lj (n:Nat) (jG:bK) (jh:aF) (k:bL) (v31:Int) (v53:Bool) (h:Heap):ab:=k v31 v53 h
theorem Fn:lo qq (nN (ku jG jh) k0)=lj n jG jh (kap kc k0):=by delta nN lj; kernel_rfl
def nO:Q1:=(iG cf jQ uI (kJ qq (nN cf k0)))
def nP (n:Nat) (jG:bK) (jh:aF) (k:bL) (v0:AV) (v1:Int) (v6:Int) (v7:Int) (h:Heap):ab:=ifB (ltF v7 v6) (EE .i64 1 h v0 v7 fun a b=>ifB (eqF b v1) (lj n jG jh k v7 true h) (EE .i64 1 h v0 v7 fun c d=>jh d h fun e f=>ifB e (jh v1 f fun g i=>lj n jG jh k v7 g i) (lj n jG jh k v7 false f))) (lj n jG jh k v7 false h)
theorem Fs:lo jV (nO (ku jG jh) k0)=nP n jG jh (kap kc k0):=by obtain ⟨J0,u0⟩:=exi (nN (ku jG jh) k0); delta nO nP; rw [← Fn,u0]; kernel_rfl
def qk (J2:Q1):Q1:=(iG cf jQ uP (cJ p15 (iG cf jQ uG (iG cf jQ uV (cJ p27 (iG cf jQ uK (kJ kK J2)) (iG cf jQ uL (kJ kK J2))))) (kJ jV (nO cf k0))))
def mq (n:Nat) (jG:bK) (jh:aF) (k:bL) (j2:dy) (v0:AV) (v1:Int) (v6:Int) (v7:Int) (v8:Int) (h:Heap):ab:=ifB (ltF v7 v8) (og .i64 v7 v8 fun a=>xv .u64 a fun b=>shrK .u64 b 1 fun c=>xv .i64 c fun d=>EE .i64 1 h v0 d fun e f=>jG f v1 h fun g i=>ifB g (og .i64 d 1 fun l=>j2 v0 v1 v6 l v8 i) (j2 v0 v1 v6 v7 d i)) (nP n jG jh k v0 v1 v6 v7 h)
def qp:Nat→Q1:=lpS (qk cf k0)
def mr (n:Nat) (jG:bK) (jh:aF) (k:bL):Nat→dy:=lpF kK (mq n jG jh k)
theorem Fv (k:bL) (m:Nat):mr n jG jh k (m+1)=mq n jG jh k (mr n jG jh k m):=rfl
theorem Fx (m:Nat):lo kK (qp (ku jG jh) k0 m)=mr n jG jh (kap kc k0) m:=ti (fun J2=>(by obtain ⟨J1,u1⟩:=exi (nO (ku jG jh) k0); delta qk mq; rw [← Fs,u1]; kernel_rfl:lo kK (qk (ku jG jh) k0 J2)=mq n jG jh (kap kc k0) (lo kK J2))) m
def ws:Q1:=(iG cf jQ uW (iG cf jQ uF (iG cf jQ uS (kJ kK (qp cf k0 n)))))
def oe (n:Nat) (jG:bK) (jh:aF) (k:bL) (a0:AV) (a1:Int) (h:Heap):ab:=lz a0 fun a=>mr n jG jh k n a0 a1 a 0 a h
def qR (n:Nat) (jG:bK) (jh:aF) (a0:AV) (a1:Int) (h:Heap) (k:bL):ab:=oe n jG jh k a0 a1 h
theorem G5:DZ cf jQ n wk kc k0=ws n cf k0:=by funext s; kernel_rfl
theorem Hn:lo iI (DZ (ku jG jh) jQ n wk kc k0)=cmp iI (qR n jG jh) (kap kc k0):=(congrArg (lo iI) (G5 n (ku jG jh) k0)).trans (show _=oe n jG jh (kap kc k0) by obtain ⟨J2,u2⟩:=exi (qp (ku jG jh) k0 n); delta ws oe; rw [← Fx,u2]; kernel_rfl)
end
def bB (n:Nat):aE:=qR n (dA n) (de n)
abbrev aP:=AV→Int→Int→Heap→(Heap→ab)→ab
abbrev Fy (g:aP):Wr:=wrT kx mM g
def MH (ir:aE) (lg:Wr):aO:=mH [(qW,qP ir),(Bi,lg)]
section
variable (ir:aE) (lg:Wr) (k0:Q0)
def Oe:Q1:=(iG cf yM Kr (iG cf yM Lr (jU mM k0)))
def yS (n:Nat) (ir:aE) (lg:Wr) (k:eA) (a0:AV) (a1:Int) (a2:Int) (h:Heap):ab:=nfa 2 a0 fun a=>FY 1 7 a a2 fun b=>me h b 1 false fun c=>ir c a1 h fun d e f=>nfa 2 a0 fun g=>FY 1 7 g a2 fun i=>me f i 1 false fun l=>nS f 1 [(.int .i64 0)] [(0,1,(.int .i64 a1))] fun m o=>lg [l,(.int .i64 d),m] o fun p q=>nfa 2 a0 fun r=>FY 1 7 r a2 fun s=>nu q s 1 p fun t=>k t
def FF (n:Nat) (ir:aE) (lg:Wr) (a0:AV) (a1:Int) (a2:Int) (h:Heap) (k:eA):ab:=yS n ir lg k a0 a1 a2 h
theorem aaB:DZ cf yM n OX mM k0=Oe cf k0:=by funext s; kernel_rfl
theorem aax:lo kx (DZ (MH ir lg) yM n OX mM k0)=cmp kx (FF n ir lg) (kap mM k0):=(congrArg (lo kx) (aaB n (MH ir lg) k0)).trans (show _=yS n ir lg (kap mM k0) by delta Oe yS; kernel_rfl)
end
def bR (n:Nat):aP:=FF n (bB n) (qY dw)
abbrev Nf (g:bD):Wr:=wrT iI jr g
def kz (ic:ad) (gY:aw) (iv:aP):aO:=mH [(wU,xf ic),(uU,uJ gY),(Fw,Fy iv)]
section
variable (ic:ad) (gY:aw) (iv:aP) (k0:Q0)
def vf:Q1:=(iG cf jT H3 (iG cf jT Ih (jU jr k0)))
def vq (n:Nat) (ic:ad) (gY:aw) (iv:aP) (k:az) (v0:AV) (v1:Int) (v7:Int) (h:Heap):ab:=CB 9 h v0 1 false fun a b=>PV h (.cell .int) b (.int .i64 v7) (.int .i64 v1) fun c=>k v7 0 c
theorem VE:lo Ak (vf (kz ic gY iv) k0)=vq n ic gY iv (kap jr k0):=by delta vf vq; kernel_rfl
def Az (J1:Q1):Q1:=(iG cf jT It (cJ p57 (iG cf jT Ix (iG cf jT H6 (kJ jV J1))) (kJ Ak (vf cf k0))))
def rK (n:Nat) (ic:ad) (gY:aw) (iv:aP) (k:az) (j1:bP) (v0:AV) (v1:Int) (v6:Int) (v7:Int) (h:Heap):ab:=ifB (ltF v1 v6) (TH .i64 v6 1 fun a=>aeC .i64 1 a fun b=>og .i64 v7 b fun c=>iv v0 c a h fun d=>j1 v0 v1 a v7 d) (vq n ic gY iv k v0 v1 v7 h)
def AA:Nat→Q1:=lpS (Az cf k0)
def rB (n:Nat) (ic:ad) (gY:aw) (iv:aP) (k:az):Nat→bP:=lpF jV (rK n ic gY iv k)
theorem VA (k:az) (m:Nat):rB n ic gY iv k (m+1)=rK n ic gY iv k (rB n ic gY iv k m):=rfl
theorem Vp (m:Nat):lo jV (AA (kz ic gY iv) k0 m)=rB n ic gY iv (kap jr k0) m:=ti (fun J1=>(by obtain ⟨J0,u0⟩:=exi (vf (kz ic gY iv) k0); delta Az rK; rw [← VE,u0]; kernel_rfl:lo jV (Az (kz ic gY iv) k0 J1)=rK n ic gY iv (kap jr k0) (lo jV J1))) m
def vr:Q1:=(iG cf jT HU (cJ p34 (iG cf jT HT (jU jr k0)) (iG cf jT HV (iG cf jT HZ (kJ jV (AA cf k0 n))))))
def vh (n:Nat) (ic:ad) (gY:aw) (iv:aP) (k:az) (v0:AV) (v1:Int) (v6:Int) (h:Heap):ab:=ifB (ltF 6 v6) (k 0 90 h) (nfa 2 v0 fun a=>FY 1 7 a v6 fun b=>me h b 1 false fun c=>EE .i64 1 h c 0 fun d e=>nfa 2 v0 fun f=>FY 1 7 f v6 fun g=>me h g 1 false fun i=>gY i 0 1 h fun l m=>nfa 2 v0 fun o=>FY 1 7 o v6 fun p=>nu m p 1 l fun q=>rB n ic gY iv k n v0 v1 v6 e q)
theorem VD:lo lN (vr n (kz ic gY iv) k0)=vh n ic gY iv (kap jr k0):=by obtain ⟨J1,u1⟩:=exi (AA (kz ic gY iv) k0 n); delta vr vh; rw [← Vp,u1]; kernel_rfl
def vn (J3:Q1):Q1:=(cJ p30 (iG cf jT Iu (kJ lN J3)) (kJ lN (vr n cf k0)))
def rJ (n:Nat) (ic:ad) (gY:aw) (iv:aP) (k:az) (j3:cB) (v0:AV) (v1:Int) (v6:Int) (v30:Bool) (h:Heap):ab:=ifB v30 (og .i64 v6 1 fun a=>j3 v0 v1 a h) (vh n ic gY iv k v0 v1 v6 h)
theorem VG (J3:Q1):lo An (vn n (kz ic gY iv) k0 J3)=rJ n ic gY iv (kap jr k0) (lo lN J3):=by obtain ⟨J2,u2⟩:=exi (vr n (kz ic gY iv) k0); delta vn rJ; rw [← VD,u2]; kernel_rfl
def Ax (J3:Q1):Q1:=(iG cf jT GD (kJ An (vn n cf k0 J3)))
def rC (n:Nat) (ic:ad) (gY:aw) (iv:aP) (k:az) (j3:cB) (v0:AV) (v1:Int) (v6:Int) (h:Heap):ab:=ifB (lH (ltF 6 v6)) (nfa 2 v0 fun a=>FY 1 7 a v6 fun b=>me h b 1 false fun c=>lz c fun d=>rJ n ic gY iv k j3 v0 v1 v6 (eqF d 0) h) (rJ n ic gY iv k j3 v0 v1 v6 false h)
def Am:Nat→Q1:=lpS (Ax n cf k0)
def rq (n:Nat) (ic:ad) (gY:aw) (iv:aP) (k:az):Nat→cB:=lpF lN (rC n ic gY iv k)
theorem Vz (k:az) (m:Nat):rq n ic gY iv k (m+1)=rC n ic gY iv k (rq n ic gY iv k m):=rfl
theorem Vy (m:Nat):lo lN (Am n (kz ic gY iv) k0 m)=rq n ic gY iv (kap jr k0) m:=ti (fun J3=>(by obtain ⟨J4,u4⟩:=exi (vn n (kz ic gY iv) k0 J3); delta Ax rC; rw [← VG,u4]; kernel_rfl:lo lN (Ax n (kz ic gY iv) k0 J3)=rC n ic gY iv (kap jr k0) (lo lN J3))) m
def vp:Q1:=(iG cf jT GU (cJ p11 (iG cf jT mN (jU jr k0)) (iG cf jT GG (kJ lN (Am n cf k0 n)))))
def rH (n:Nat) (ic:ad) (gY:aw) (iv:aP) (k:az) (v0:AV) (v1:Int) (v17:Bool) (h:Heap):ab:=ifB v17 (k 0 2 h) (rq n ic gY iv k n v0 v1 v1 h)
theorem VJ:lo Ar (vp n (kz ic gY iv) k0)=rH n ic gY iv (kap jr k0):=by obtain ⟨J3,u3⟩:=exi (Am n (kz ic gY iv) k0 n); delta vp rH; rw [← Vy,u3]; kernel_rfl
def Nr:Q1:=(iG cf jT mO (iG cf jT G9 (cJ p8 (iG cf jT ua (jU jr k0)) (iG cf jT G2 (kJ Ar (vp n cf k0))))))
def w5 (n:Nat) (ic:ad) (gY:aw) (iv:aP) (k:az) (a0:AV) (a1:Int) (h:Heap):ab:=ic a0 h fun a b=>ifB a (k 0 1 b) (ifB (ltF a1 0) (rH n ic gY iv k a0 a1 true b) (rH n ic gY iv k a0 a1 (ltF 6 a1) b))
def DF (n:Nat) (ic:ad) (gY:aw) (iv:aP) (a0:AV) (a1:Int) (h:Heap) (k:az):ab:=w5 n ic gY iv k a0 a1 h
theorem Y5:DZ cf jT n Nc jr k0=Nr n cf k0:=by funext s; kernel_rfl
theorem Y6:lo iI (DZ (kz ic gY iv) jT n Nc jr k0)=cmp iI (DF n ic gY iv) (kap jr k0):=(congrArg (lo iI) (Y5 n (kz ic gY iv) k0)).trans (show _=w5 n ic gY iv (kap jr k0) by obtain ⟨J5,u5⟩:=exi (vp n (kz ic gY iv) k0); delta Nr w5; rw [← VJ,u5]; kernel_rfl)
end
def dc (n:Nat):bD:=DF n (bV n) (bC n) (bR n)
abbrev V6 (g:bN):Wr:=wrT lK lO g
def vL (iK:aj) (iZ:aF):aO:=mH [(vI,vF iK),(G7,G0 iZ)]
section
variable (iK:aj) (iZ:aF) (k0:Q0)
def Cf:Q1:=(cJ p26 (iG cf uD CC (jU lO k0)) (iG cf uD R3 (jU lO k0)))
def xy (n:Nat) (iK:aj) (iZ:aF) (k:az) (v0:Int) (v1:Int) (v2:Int) (v26:Bool) (h:Heap):ab:=ifB v26 (k 0 2 h) (L2 .i64 v1 v2 fun a=>og .i64 a v0 fun b=>k b 0 h)
theorem aeH:lo IT (Cf (vL iK iZ) k0)=xy n iK iZ (kap lO k0):=by delta Cf xy; kernel_rfl
def Cz:Q1:=(iG cf uD S0 (kJ IT (Cf cf k0)))
def xP (n:Nat) (iK:aj) (iZ:aF) (k:az) (v0:Int) (v1:Int) (v2:Int) (v17:Bool) (h:Heap):ab:=ifB v17 (xy n iK iZ k v0 v1 v2 true h) (TH .i64 4095 v0 fun a=>VN .i64 a v2 fun b=>iK v1 0 b h fun c d=>xy n iK iZ k v0 v1 v2 (lH c) d)
theorem aen:lo IW (Cz (vL iK iZ) k0)=xP n iK iZ (kap lO k0):=by obtain ⟨J1,u1⟩:=exi (Cf (vL iK iZ) k0); delta Cz xP; rw [← aeH,u1]; kernel_rfl
def WL:Q1:=(iG cf uD B3 (iG cf uD Tc (kJ IW (Cz cf k0))))
def Ge (n:Nat) (iK:aj) (iZ:aF) (k:az) (a0:Int) (a1:Int) (a2:Int) (h:Heap):ab:=iZ a2 h fun a b=>ifB (lH a) (xP n iK iZ k a0 a1 a2 true b) (TH .i64 a2 1 fun c=>iK a0 0 c b fun d e=>xP n iK iZ k a0 a1 a2 (lH d) e)
def O1 (n:Nat) (iK:aj) (iZ:aF) (a0:Int) (a1:Int) (a2:Int) (h:Heap) (k:az):ab:=Ge n iK iZ k a0 a1 a2 h
theorem ahL:DZ cf uD n Wk lO k0=WL cf k0:=by funext s; kernel_rfl
theorem ag2:lo lK (DZ (vL iK iZ) uD n Wk lO k0)=cmp lK (O1 n iK iZ) (kap lO k0):=(congrArg (lo lK) (ahL n (vL iK iZ) k0)).trans (show _=Ge n iK iZ (kap lO k0) by obtain ⟨J0,u0⟩:=exi (Cz (vL iK iZ) k0); delta WL Ge; rw [← aen,u0]; kernel_rfl)
end
def dQ (n:Nat):bN:=O1 n (ca n) (da n)
abbrev bE:=AV→Int→Int→Int→Heap→(AV→Int→Heap→ab)→ab
abbrev Fq (g:bE):Wr:=wrT yY mo g
def pd (jD:bD) (j8:bN):aO:=mH [(M3,Nf jD),(XX,V6 j8)]
abbrev eR:Type:=AV→Int→Int→Int→AV→Int→Int→Heap→ab
section
variable (jD:bD) (j8:bN) (k0:Q0)
def wu:Q1:=(iG cf kD Kn (jU mo k0))
def vM (n:Nat) (jD:bD) (j8:bN) (k:bt) (v12:AV) (h:Heap):ab:=k v12 0 h
theorem WI:lo A7 (wu (pd jD j8) k0)=vM n jD j8 (kap mo k0):=by delta wu vM; kernel_rfl
def BW (J1:Q1):Q1:=(iG cf kD KT (cJ p33 (iG cf kD KN (iG cf kD KM (iG cf kD K8 (cJ p54 (iG cf kD KX (jU mo k0)) (iG cf kD Li (iG cf kD Lk (iG cf kD Kf (iG cf kD Lm (kJ oE J1))))))))) (kJ A7 (wu cf k0))))
def sF (n:Nat) (jD:bD) (j8:bN) (k:bt) (j1:eR) (v0:AV) (v1:Int) (v3:Int) (v10:Int) (v12:AV) (v31:Int) (v32:Int) (h:Heap):ab:=ifB (ltF v32 v31) (CB 1 h v0 1 false fun a b=>EE .i64 1 h b v1 fun c d=>og .i64 v10 v32 fun e=>Og .i64 0 h v0 fun f g=>j8 d e g h fun i l m=>ifB (lH (eqF l 0)) (k .nilslice l m) (CB 12 m v0 1 false fun o p=>PV m (.cell .int) p (.int .i64 i) (.int .u8 v3) fun q=>nfa 13 v0 fun r=>FY 1 7 r v3 fun s=>ldI .i64 q s fun t=>og .i64 t 1 fun u=>nfa 13 v0 fun w=>FY 1 7 w v3 fun x=>nu q x 1 (.int .i64 u) fun y=>nS y 1 [(.int .i64 0)] [(0,1,(.int .i64 i))] fun z A=>px A 1 v12 z fun B C=>og .i64 v32 1 fun E=>j1 v0 v1 v3 v10 B v31 E C)) (vM n jD j8 k v12 h)
def BC:Nat→Q1:=lpS (BW cf k0)
def sE (n:Nat) (jD:bD) (j8:bN) (k:bt):Nat→eR:=lpF oE (sF n jD j8 k)
theorem Xu (k:bt) (m:Nat):sE n jD j8 k (m+1)=sF n jD j8 k (sE n jD j8 k m):=rfl
theorem XT (m:Nat):lo oE (BC (pd jD j8) k0 m)=sE n jD j8 (kap mo k0) m:=ti (fun J1=>(by obtain ⟨J0,u0⟩:=exi (wu (pd jD j8) k0); delta BW sF; rw [← WI,u0]; kernel_rfl:lo oE (BW (pd jD j8) k0 J1)=sF n jD j8 (kap mo k0) (lo oE J1))) m
def OS:Q1:=(iG cf kD HW (iG cf kD IM (iG cf kD ID (cJ p29 (iG cf kD H8 (jU mo k0)) (iG cf kD Iz (iG cf kD HY (kJ oE (BC cf k0 n))))))))
def zb (n:Nat) (jD:bD) (j8:bN) (k:bt) (a0:AV) (a1:Int) (a2:Int) (a3:Int) (h:Heap):ab:=CB 11 h a0 1 false fun a b=>eld 1 h b a1 1 false fun c d=>jD d a2 h fun e f g=>ifB (lH (eqF f 0)) (k .nilslice 4 g) (aeC .i64 1 a2 fun i=>sE n jD j8 k n a0 a1 a3 e .nilslice i 0 g)
def FB (n:Nat) (jD:bD) (j8:bN) (a0:AV) (a1:Int) (a2:Int) (a3:Int) (h:Heap) (k:bt):ab:=zb n jD j8 k a0 a1 a2 a3 h
theorem aaC:DZ cf kD n O2 mo k0=OS n cf k0:=by funext s; kernel_rfl
theorem aau:lo yY (DZ (pd jD j8) kD n O2 mo k0)=cmp yY (FB n jD j8) (kap mo k0):=(congrArg (lo yY) (aaC n (pd jD j8) k0)).trans (show _=zb n jD j8 (kap mo k0) by obtain ⟨J1,u1⟩:=exi (BC (pd jD j8) k0 n); delta OS zb; rw [← XT,u1]; kernel_rfl)
end
def cX (n:Nat):bE:=FB n (dc n) (dQ n)
abbrev aG:=AV→Heap→(AV→Int→Heap→ab)→ab
abbrev Fz (g:aG):Wr:=wrT iJ mf g
def Me (g0:ad) (iY:bE):aO:=mH [(oG,oI g0),(Fm,Fq iY)]
section
variable (g0:ad) (iY:bE) (k0:Q0)
def Oh:Q1:=(iG cf oz KZ (iG cf oz vS (cJ p6 (iG cf oz KA (jU mf k0)) (iG cf oz Kl (cJ p12 (iG cf oz Kq (jU mf k0)) (iG cf oz KY (jU mf k0)))))))
def yR (n:Nat) (g0:ad) (iY:bE) (k:bt) (a0:AV) (h:Heap):ab:=g0 a0 h fun a b=>ifB (lH a) (k .nilslice 1 b) (nfa 13 a0 fun c=>FY 1 7 c 1 fun d=>ldI .i64 b d fun e=>ifB (ltF 0 e) (k .nilslice 91 b) (Og .i64 2 b a0 fun f g=>iY a0 0 g 1 b fun i l m=>k i l m))
def FA (n:Nat) (g0:ad) (iY:bE) (a0:AV) (h:Heap) (k:bt):ab:=yR n g0 iY k a0 h
theorem aas:DZ cf oz n Pd mf k0=Oh cf k0:=by funext s; kernel_rfl
theorem aaT:lo iJ (DZ (Me g0 iY) oz n Pd mf k0)=cmp iJ (FA n g0 iY) (kap mf k0):=(congrArg (lo iJ) (aas n (Me g0 iY) k0)).trans (show _=yR n g0 iY (kap mf k0) by delta Oh yR; kernel_rfl)
end
def ba (n:Nat):aG:=FA n (bu n) (cX n)
abbrev ak:=Int→Int→Heap→(Int→Heap→ab)→ab
abbrev xp (g:ak):Wr:=wrT lw gZ g
def sr:aO:=mH []
section
variable (k0:Q0)
def oX:Q1:=(iG cf nv C9 (jU gZ k0))
def nL (n:Nat) (k:ai) (v0:Int) (h:Heap):ab:=k v0 h
theorem Pu:lo ly (oX sr k0)=nL n (kap gZ k0):=by delta oX nL; kernel_rfl
def FU:Q1:=(iG cf nv jm (iG cf nv Ds (iG cf nv Dx (cJ p9 (iG cf nv C8 (kJ ly (oX cf k0))) (kJ ly (oX cf k0))))))
def qr (n:Nat) (k:ai) (a0:Int) (a1:Int) (h:Heap):ab:=afN .i64 a0 a1 fun a=>ifB (ltF a 0) (og .i64 a a1 fun b=>nL n k b h) (nL n k a h)
def th (n:Nat) (a0:Int) (a1:Int) (h:Heap) (k:ai):ab:=qr n k a0 a1 h
theorem RI:DZ cf nv n FI gZ k0=FU cf k0:=by funext s; kernel_rfl
theorem RF:lo lw (DZ sr nv n FI gZ k0)=cmp lw (th n) (kap gZ k0):=(congrArg (lo lw) (RI n sr k0)).trans (show _=qr n (kap gZ k0) by obtain ⟨J0,u0⟩:=exi (oX sr k0); delta FU qr; rw [← Pu,u0]; kernel_rfl)
end
def aM (n:Nat):ak:=th n
abbrev FJ (g:am):Wr:=wrT jJ iQ g
def mW:aO:=mH []
abbrev ef:Type:=AV→AV→Int→Heap→ab
section
variable (k0:Q0)
def rm:Q1:=(iG cf lu Fc (jU iQ k0))
def rj (n:Nat) (k:ae) (h:Heap):ab:=k true h
theorem Pz:lo jR (rm mW k0)=rj n (kap iQ k0):=by delta rm rj; kernel_rfl
def vB (J1:Q1):Q1:=(iG cf lu Di (cJ p14 (iG cf lu Dr (cJ p25 (iG cf lu jF (jU iQ k0)) (iG cf lu Dl (kJ mG J1)))) (kJ jR (rm cf k0))))
def oW (n:Nat) (k:ae) (j1:ef) (v0:AV) (v1:AV) (v5:Int) (h:Heap):ab:=lz v0 fun a=>ifB (ltF v5 a) (EE .i64 1 h v0 v5 fun b c=>EE .i64 1 h v1 v5 fun d e=>ifB (lH (eqF c e)) (k false h) (og .i64 v5 1 fun f=>j1 v0 v1 f h)) (rj n k h)
def vx:Nat→Q1:=lpS (vB cf k0)
def oV (n:Nat) (k:ae):Nat→ef:=lpF mG (oW n k)
theorem Py (k:ae) (m:Nat):oV n k (m+1)=oW n k (oV n k m):=rfl
theorem Ps (m:Nat):lo mG (vx mW k0 m)=oV n (kap iQ k0) m:=ti (fun J1=>(by obtain ⟨J0,u0⟩:=exi (rm mW k0); delta vB oW; rw [← Pz,u0]; kernel_rfl:lo mG (vB mW k0 J1)=oW n (kap iQ k0) (lo mG J1))) m
def FP:Q1:=(iG cf lu jF (iG cf lu C6 (cJ p10 (iG cf lu jF (jU iQ k0)) (iG cf lu C4 (kJ mG (vx cf k0 n))))))
def tp (n:Nat) (k:ae) (a0:AV) (a1:AV) (h:Heap):ab:=lz a0 fun a=>lz a1 fun b=>ifB (lH (eqF a b)) (k false h) (oV n k n a0 a1 0 h)
def yf (n:Nat) (a0:AV) (a1:AV) (h:Heap) (k:ae):ab:=tp n k a0 a1 h
theorem Td:DZ cf lu n FN iQ k0=FP n cf k0:=by funext s; kernel_rfl
theorem Sz:lo jJ (DZ mW lu n FN iQ k0)=cmp jJ (yf n) (kap iQ k0):=(congrArg (lo jJ) (Td n mW k0)).trans (show _=tp n (kap iQ k0) by obtain ⟨J1,u1⟩:=exi (vx mW k0 n); delta FP tp; rw [← Ps,u1]; kernel_rfl)
end
def aU (n:Nat):am:=yf n
abbrev D3 (g:af):Wr:=wrT iJ j9 g
def oB (ic:ad):aO:=mH [(wU,xf ic)]
abbrev eP:Type:=Int→AV→Int→Heap→ab
section
variable (ic:ad) (k0:Q0)
def vi:Q1:=(iG cf lX IQ (jU j9 k0))
def vc (n:Nat) (ic:ad) (k:ai) (v3:Int) (h:Heap):ab:=k v3 h
theorem Vq:lo Aj (vi (oB ic) k0)=vc n ic (kap j9 k0):=by delta vi vc; kernel_rfl
def Al (J1:Q1):Q1:=(iG cf lX IL (cJ p13 (iG cf lX II (iG cf lX IE (iG cf lX H4 (kJ n0 J1)))) (kJ Aj (vi cf k0))))
def ry (n:Nat) (ic:ad) (k:ai) (j1:eP) (v3:Int) (v11:AV) (v12:Int) (h:Heap):ab:=ifB (ltF v12 7) (acM 1 7 false v11 v12 fun a=>lz a fun b=>aeC .i64 b v12 fun c=>og .i64 v3 c fun d=>og .i64 v12 1 fun e=>j1 d v11 e h) (vc n ic k v3 h)
def Ap:Nat→Q1:=lpS (Al cf k0)
def rI (n:Nat) (ic:ad) (k:ai):Nat→eP:=lpF n0 (ry n ic k)
theorem Vv (k:ai) (m:Nat):rI n ic k (m+1)=ry n ic k (rI n ic k m):=rfl
theorem VK (m:Nat):lo n0 (Ap (oB ic) k0 m)=rI n ic (kap j9 k0) m:=ti (fun J1=>(by obtain ⟨J0,u0⟩:=exi (vi (oB ic) k0); delta Al ry; rw [← Vq,u0]; kernel_rfl:lo n0 (Al (oB ic) k0 J1)=ry n ic (kap j9 k0) (lo n0 J1))) m
def Nm:Q1:=(iG cf lX yl (iG cf lX H2 (cJ p7 (iG cf lX yl (jU j9 k0)) (iG cf lX H7 (iG cf lX H9 (kJ n0 (Ap cf k0 n)))))))
def xd (n:Nat) (ic:ad) (k:ai) (a0:AV) (h:Heap):ab:=ic a0 h fun a b=>ifB a (k 0 b) (CB 2 b a0 7 true fun c d=>rI n ic k n 0 d 0 b)
def DJ (n:Nat) (ic:ad) (a0:AV) (h:Heap) (k:ai):ab:=xd n ic k a0 h
theorem YR:DZ cf lX n MB j9 k0=Nm n cf k0:=by funext s; kernel_rfl
theorem Zb:lo iJ (DZ (oB ic) lX n MB j9 k0)=cmp iJ (DJ n ic) (kap j9 k0):=(congrArg (lo iJ) (YR n (oB ic) k0)).trans (show _=xd n ic (kap j9 k0) by obtain ⟨J1,u1⟩:=exi (Ap (oB ic) k0 n); delta Nm xd; rw [← VK,u1]; kernel_rfl)
end
def bT (n:Nat):af:=DJ n (bV n)
abbrev Ql (g:ah):Wr:=wrT iJ jf g
def qn (g0:ad) (iL:af):aO:=mH [(oG,oI g0),(DB,D3 iL)]
section
variable (g0:ad) (iL:af) (k0:Q0)
def xn:Q1:=(iG cf mm My (jU jf k0))
def xc (n:Nat) (g0:ad) (iL:af) (k:aC) (v3:AV) (h:Heap):ab:=k v3 h
theorem YD:lo nT (xn (qn g0 iL) k0)=xc n g0 iL (kap jf k0):=by delta xn xc; kernel_rfl
def DN (J1:Q1):Q1:=(iG cf mm Mw (cJ p15 (iG cf mm MG (iG cf mm ME (iG cf mm Mk (kJ pk J1)))) (kJ nT (xn cf k0))))
def tQ (n:Nat) (g0:ad) (iL:af) (k:aC) (j1:cI) (v3:AV) (v12:AV) (v13:Int) (v14:Int) (h:Heap):ab:=ifB (ltF v14 v13) (eld 1 h v12 v14 1 false fun a b=>iL b h fun c d=>nS d 1 [(.int .i64 0)] [(0,1,(.int .i64 c))] fun e f=>px f 1 v3 e fun g i=>og .i64 v14 1 fun l=>j1 g v12 v13 l i) (xc n g0 iL k v3 h)
def DH:Nat→Q1:=lpS (DN cf k0)
def tK (n:Nat) (g0:ad) (iL:af) (k:aC):Nat→cI:=lpF pk (tQ n g0 iL k)
theorem Y2 (k:aC) (m:Nat):tK n g0 iL k (m+1)=tQ n g0 iL k (tK n g0 iL k m):=rfl
theorem YS (m:Nat):lo pk (DH (qn g0 iL) k0 m)=tK n g0 iL (kap jf k0) m:=ti (fun J1=>(by obtain ⟨J0,u0⟩:=exi (xn (qn g0 iL) k0); delta DN tQ; rw [← YD,u0]; kernel_rfl:lo pk (DN (qn g0 iL) k0 J1)=tQ n g0 iL (kap jf k0) (lo pk J1))) m
def PN:Q1:=(iG cf mm jI (iG cf mm xa (cJ p8 (iG cf mm jI (jU jf k0)) (iG cf mm rb (iG cf mm Mz (kJ pk (DH cf k0 n)))))))
def AI (n:Nat) (g0:ad) (iL:af) (k:aC) (a0:AV) (h:Heap):ab:=g0 a0 h fun a b=>ifB (lH a) (k .nilslice b) (CB 11 b a0 1 false fun c d=>lz d fun e=>tK n g0 iL k n .nilslice d e 0 b)
def Hx (n:Nat) (g0:ad) (iL:af) (a0:AV) (h:Heap) (k:aC):ab:=AI n g0 iL k a0 h
theorem abB:DZ cf mm n Qg jf k0=PN n cf k0:=by funext s; kernel_rfl
theorem adr:lo iJ (DZ (qn g0 iL) mm n Qg jf k0)=cmp iJ (Hx n g0 iL) (kap jf k0):=(congrArg (lo iJ) (abB n (qn g0 iL) k0)).trans (show _=AI n g0 iL (kap jf k0) by obtain ⟨J1,u1⟩:=exi (DH (qn g0 iL) k0 n); delta PN AI; rw [← YS,u1]; kernel_rfl)
end
def bH (n:Nat):ah:=Hx n (bu n) (bT n)
abbrev O4 (g:ad):Wr:=wrT iJ iH g
def xe (g0:ad):aO:=mH [(oG,oI g0)]
section
variable (g0:ad) (k0:Q0)
def wo:Q1:=(iG cf uO KI (jU iH k0))
def sM (n:Nat) (g0:ad) (k:ae) (v17:Bool) (h:Heap):ab:=k v17 h
theorem WC:lo Bd (wo (xe g0) k0)=sM n g0 (kap iH k0):=by delta wo sM; kernel_rfl
def OZ:Q1:=(iG cf uO kg (iG cf uO Ke (kJ Bd (wo cf k0))))
def yQ (n:Nat) (g0:ad) (k:ae) (a0:AV) (h:Heap):ab:=g0 a0 h fun a b=>ifB a (CB 12 b a0 1 false fun c d=>aih b d fun e=>nfa 13 a0 fun f=>FY 1 7 f 1 fun g=>ldI .i64 b g fun i=>sM n g0 k (eqF e i) b) (sM n g0 k false b)
def Fp (n:Nat) (g0:ad) (a0:AV) (h:Heap) (k:ae):ab:=yQ n g0 k a0 h
theorem aa1:DZ cf uO n Of iH k0=OZ cf k0:=by funext s; kernel_rfl
theorem aaZ:lo iJ (DZ (xe g0) uO n Of iH k0)=cmp iJ (Fp n g0) (kap iH k0):=(congrArg (lo iJ) (aa1 n (xe g0) k0)).trans (show _=yQ n g0 (kap iH k0) by obtain ⟨J0,u0⟩:=exi (wo (xe g0) k0); delta OZ yQ; rw [← WC,u0]; kernel_rfl)
end
def bz (n:Nat):ad:=Fp n (bu n)
abbrev MR (g:ah):Wr:=wrT iJ pe g
def Lt (g0:ad):aO:=mH [(oG,oI g0)]
section
variable (g0:ad) (k0:Q0)
def ML:Q1:=(iG cf nX IP (iG cf nX vS (cJ p6 (iG cf nX Ip (jU pe k0)) (iG cf nX HS (iG cf nX Iw (iG cf nX Is (jU pe k0)))))))
def w6 (n:Nat) (g0:ad) (k:aC) (a0:AV) (h:Heap):ab:=zy h (.cells [(.int .i64 0),(.int .i64 0),(.int .i64 0),(.int .i64 0),(.int .i64 0),(.int .i64 0),(.int .i64 0)] true 0) fun a b=>g0 a0 b fun c d=>ifB (lH c) (tw [(.int .i64 0),(.int .i64 0),(.int .i64 0),(.int .i64 0),(.int .i64 0),(.int .i64 0),(.int .i64 0)] [] fun e=>nu d (.ptr a 0) 7 e fun f=>me f (.ptr a 0) 7 true fun g=>k g f) (CB 13 d a0 7 true fun i l=>zy d (.cells [(.int .i64 0),(.int .i64 0),(.int .i64 0),(.int .i64 0),(.int .i64 0),(.int .i64 0),(.int .i64 0)] true 0) fun m o=>nu o (.ptr m 0) 7 l fun p=>Og .i64 10 p a0 fun q r=>CB 12 p a0 1 false fun s t=>aih p t fun u=>TH .i64 r u fun w=>FY 1 7 (.ptr m 0) 0 fun x=>nu p x 1 (.int .i64 w) fun y=>me y (.ptr m 0) 7 true fun z=>nu y (.ptr a 0) 7 z fun A=>me A (.ptr a 0) 7 true fun B=>k B A)
def DY (n:Nat) (g0:ad) (a0:AV) (h:Heap) (k:aC):ab:=w6 n g0 k a0 h
theorem YM:DZ cf nX n MA pe k0=ML cf k0:=by funext s; kernel_rfl
theorem YX:lo iJ (DZ (Lt g0) nX n MA pe k0)=cmp iJ (DY n g0) (kap pe k0):=(congrArg (lo iJ) (YM n (Lt g0) k0)).trans (show _=w6 n g0 (kap pe k0) by delta ML w6; kernel_rfl)
end
def dt (n:Nat):ah:=DY n (bu n)
abbrev aaW (g:aH):Wr:=wrT tt mI g
def FX (jM:ah):aO:=mH [(MK,MR jM)]
section
variable (jM:ah) (k0:Q0)
def CH:Q1:=(iG cf qm ac1 (jU mI k0))
def wm (n:Nat) (jM:ah) (k:bt) (v6:AV) (h:Heap):ab:=k v6 0 h
theorem aky:lo Hf (CH (FX jM) k0)=wm n jM (kap mI k0):=by delta CH wm; kernel_rfl
def NR:Q1:=(cJ p14 (iG cf qm Zv (jU mI k0)) (iG cf qm adu (iG cf qm abs (iG cf qm abp (cJ p21 (iG cf qm acN (kJ Hf (CH cf k0))) (iG cf qm ac9 (cJ p26 (iG cf qm abA (kJ Hf (CH cf k0))) (iG cf qm abo (cJ p31 (iG cf qm adc (kJ Hf (CH cf k0))) (iG cf qm adl (jU mI k0)))))))))))
def Cd (n:Nat) (jM:ah) (k:bt) (v0:AV) (v1:Int) (v14:Bool) (h:Heap):ab:=ifB v14 (k .nilptr 1 h) (zy h (.mp []) fun a b=>tw [.nilptr,(.int .u8 0),(.int .i64 0),.nilmap] [(0,1,v0),(1,1,(.int .u8 v1)),(3,1,(.map a))] fun c=>A5 b c fun d e=>ifB (eqF v1 4) (nfst 2 e (.ptr d 0) 1 (.int .i64 64) fun f g=>wm n jM k (.ptr d 0) g) (ifB (eqF v1 5) (nfst 2 e (.ptr d 0) 1 (.int .i64 32) fun i l=>wm n jM k (.ptr d 0) l) (ifB (eqF v1 6) (nfst 2 e (.ptr d 0) 1 (.int .i64 16) fun m o=>wm n jM k (.ptr d 0) o) (k .nilptr 2 e))))
theorem akB:lo TZ (NR (FX jM) k0)=Cd n jM (kap mI k0):=by obtain ⟨J0,u0⟩:=exi (CH (FX jM) k0); delta NR Cd; rw [← aky,u0]; kernel_rfl
def agw:Q1:=(iG cf qm Zr (iG cf qm ZL (kJ TZ (NR cf k0))))
def Tu (n:Nat) (jM:ah) (k:bt) (a0:AV) (a1:Int) (h:Heap):ab:=Tt (.nil .ptr) a0 .nilptr fun a=>ifB (Vx false a) (Cd n jM k a0 a1 true h) (jM a0 h fun b c=>tw [(.int .i64 0),(.int .i64 0),(.int .i64 0),(.int .i64 0),(.int .i64 0),(.int .i64 0),(.int .i64 0)] [] fun d=>Tt (.plain [.int,.int,.int,.int,.int,.int,.int]) b d fun e=>Cd n jM k a0 a1 (Vx false e) c)
def abd (n:Nat) (jM:ah) (a0:AV) (a1:Int) (h:Heap) (k:bt):ab:=Tu n jM k a0 a1 h
theorem anf:DZ cf qm n aic mI k0=agw cf k0:=by funext s; kernel_rfl
theorem an7:lo tt (DZ (FX jM) qm n aic mI k0)=cmp tt (abd n jM) (kap mI k0):=(congrArg (lo tt) (anf n (FX jM) k0)).trans (show _=Tu n jM (kap mI k0) by obtain ⟨J1,u1⟩:=exi (NR (FX jM) k0); delta agw Tu; rw [← akB,u1]; kernel_rfl)
end
def cF (n:Nat):aH:=abd n (dt n)
abbrev abX:=Int→Int→Heap→ab
abbrev Qe (g:bD):Wr:=wrT tt jr g
def my (g0:ad) (iY:bE) (iL:af):aO:=mH [(oG,oI g0),(Fm,Fq iY),(DB,D3 iL)]
abbrev en:Type:=AV→Int→Int→AV→Int→Int→Heap→ab
section
variable (g0:ad) (iY:bE) (iL:af) (k0:Q0)
def xh:Q1:=(iG cf kd Mq (iG cf kd M6 (cJ p67 (iG cf kd M9 (jU jr k0)) (iG cf kd Md (jU jr k0)))))
def tP (n:Nat) (g0:ad) (iY:bE) (iL:af) (k:az) (v0:AV) (v1:Int) (v6:Int) (h:Heap):ab:=iY v0 v6 0 v1 h fun a b c=>ifB (lH (eqF b 0)) (k 0 b c) (EE .i64 1 c a 0 fun d e=>k e 0 c)
theorem YW:lo D4 (xh (my g0 iY iL) k0)=tP n g0 iY iL (kap jr k0):=by delta xh tP; kernel_rfl
def tV (J1:Q1):Q1:=(iG cf kd Nl (kJ lW J1))
def tX (n:Nat) (g0:ad) (iY:bE) (iL:af) (k:az) (j1:en) (v0:AV) (v1:Int) (v6:Int) (v39:AV) (v40:Int) (v41:Int) (h:Heap):ab:=og .i64 v41 1 fun a=>j1 v0 v1 v6 v39 v40 a h
theorem Y1 (J1:Q1):lo lW (tV (my g0 iY iL) J1)=tX n g0 iY iL (kap jr k0) (lo lW J1):=by delta tV tX; kernel_rfl
def DK (J1:Q1):Q1:=(iG cf kd Mh (cJ p42 (iG cf kd Mv (iG cf kd M7 (cJ p56 (iG cf kd Mx (kJ lW (tV cf J1))) (kJ lW (tV cf J1))))) (kJ D4 (xh cf k0))))
def tJ (n:Nat) (g0:ad) (iY:bE) (iL:af) (k:az) (j1:en) (v0:AV) (v1:Int) (v6:Int) (v39:AV) (v40:Int) (v41:Int) (h:Heap):ab:=ifB (ltF v41 v40) (eld 1 h v39 v41 1 false fun a b=>iL b (h.shut true) fun c d=>CB 11 (d.back h.ro) v0 1 false fun e f=>eld 1 (d.back h.ro) f v6 1 false fun g i=>iL i (d.back h.ro) fun l m=>ifB (ltF l c) (tX n g0 iY iL k j1 v0 v1 v41 v39 v40 v41 m) (tX n g0 iY iL k j1 v0 v1 v6 v39 v40 v41 m)) (tP n g0 iY iL k v0 v1 v6 h)
def DD:Nat→Q1:=lpS (DK cf k0)
def tG (n:Nat) (g0:ad) (iY:bE) (iL:af) (k:az):Nat→en:=lpF lW (tJ n g0 iY iL k)
theorem YE (k:az) (m:Nat):tG n g0 iY iL k (m+1)=tJ n g0 iY iL k (tG n g0 iY iL k m):=rfl
theorem YN (m:Nat):lo lW (DD (my g0 iY iL) k0 m)=tG n g0 iY iL (kap jr k0) m:=ti (fun J1=>(by obtain ⟨J0,u0⟩:=exi (xh (my g0 iY iL) k0); obtain ⟨J2,u2⟩:=exi (tV (my g0 iY iL) J1); delta DK tJ; rw [← YW,u0, ← Y1,u2]; kernel_rfl:lo lW (DK (my g0 iY iL) k0 J1)=tJ n g0 iY iL (kap jr k0) (lo lW J1))) m
def wV:Q1:=(iG cf kd KV (cJ p15 (iG cf kd mN (jU jr k0)) (iG cf kd Lw (cJ p22 (iG cf kd KC (jU jr k0)) (iG cf kd qz (iG cf kd MU (kJ lW (DD cf k0 n))))))))
def tH (n:Nat) (g0:ad) (iY:bE) (iL:af) (k:az) (v0:AV) (v1:Int) (v21:Bool) (h:Heap):ab:=ifB v21 (k 0 2 h) (nfa 13 v0 fun a=>FY 1 7 a v1 fun b=>ldI .i64 h b fun c=>nfa 3 v0 fun d=>FY 1 7 d v1 fun e=>ldI .i64 h e fun f=>ifB (lH (ltF c f)) (k 0 4 h) (CB 11 h v0 1 false fun g i=>lz i fun l=>tG n g0 iY iL k n v0 v1 0 i l 0 h))
theorem YQ:lo DL (wV n (my g0 iY iL) k0)=tH n g0 iY iL (kap jr k0):=by obtain ⟨J1,u1⟩:=exi (DD (my g0 iY iL) k0 n); delta wV tH; rw [← YN,u1]; kernel_rfl
def P1:Q1:=(iG cf kd mO (iG cf kd Ku (cJ p11 (iG cf kd ua (jU jr k0)) (iG cf kd Lp (kJ DL (wV n cf k0))))))
def AZ (n:Nat) (g0:ad) (iY:bE) (iL:af) (k:az) (a0:AV) (a1:Int) (h:Heap):ab:=g0 a0 h fun a b=>ifB (lH a) (k 0 1 b) (ifB (ltF a1 2) (tH n g0 iY iL k a0 a1 true b) (tH n g0 iY iL k a0 a1 (ltF 6 a1) b))
def Hi (n:Nat) (g0:ad) (iY:bE) (iL:af) (a0:AV) (a1:Int) (h:Heap) (k:az):ab:=AZ n g0 iY iL k a0 a1 h
theorem abF:DZ cf kd n PJ jr k0=P1 n cf k0:=by funext s; kernel_rfl
theorem act:lo tt (DZ (my g0 iY iL) kd n PJ jr k0)=cmp tt (Hi n g0 iY iL) (kap jr k0):=(congrArg (lo tt) (abF n (my g0 iY iL) k0)).trans (show _=AZ n g0 iY iL (kap jr k0) by obtain ⟨J3,u3⟩:=exi (wV n (my g0 iY iL) k0); delta P1 AZ; rw [← YQ,u3]; kernel_rfl)
end
def dG (n:Nat):bD:=Hi n (bu n) (cX n) (bT n)
abbrev y5 (g:ad):Wr:=wrT iJ iH g
def wW:aO:=mH []
section
variable (k0:Q0)
def wb:Q1:=(iG cf uH qw (jU iH k0))
def sQ (n:Nat) (k:ae) (v11:Bool) (h:Heap):ab:=k v11 h
theorem XG:lo mR (wb wW k0)=sQ n (kap iH k0):=by delta wb sQ; kernel_rfl
def OE:Q1:=(iG cf uH kg (iG cf uH KO (kJ mR (wb cf k0))))
def zg (n:Nat) (k:ae) (a0:AV) (h:Heap):ab:=Tt (.nil .ptr) a0 .nilptr fun a=>ifB (Vx true a) (Og .i64 2 h a0 fun b c=>sQ n k (ltF 0 c) h) (sQ n k false h)
def FG (n:Nat) (a0:AV) (h:Heap) (k:ae):ab:=zg n k a0 h
theorem aaR:DZ cf uH n Oc iH k0=OE cf k0:=by funext s; kernel_rfl
theorem aaw:lo iJ (DZ wW uH n Oc iH k0)=cmp iJ (FG n) (kap iH k0):=(congrArg (lo iJ) (aaR n wW k0)).trans (show _=zg n (kap iH k0) by obtain ⟨J0,u0⟩:=exi (wb wW k0); delta OE zg; rw [← XG,u0]; kernel_rfl)
end
def cx (n:Nat):ad:=FG n
abbrev bl:=AV→Bool→Heap→(Int→Heap→ab)→ab
abbrev qH (g:bl):Wr:=wrT lQ gZ g
def mc:aO:=mH []
abbrev dU:Type:=AV→Bool→Int→Int→Heap→ab
section
variable (k0:Q0)
def pA:Q1:=(iG cf kW nf (jU gZ k0))
def pz (n:Nat) (k:ai) (h:Heap):ab:=k (-1) h
theorem KP:lo jR (pA mc k0)=pz n (kap gZ k0):=by delta pA pz; kernel_rfl
def td (J1:Q1):Q1:=(iG cf kW ng (cJ p9 (iG cf kW na (iG cf kW yu (cJ p16 (iG cf kW nb (jU gZ k0)) (iG cf kW m7 (kJ mb J1))))) (kJ jR (pA cf k0))))
def nH (n:Nat) (k:ai) (j1:dU) (v0:AV) (v1:Bool) (v7:Int) (v8:Int) (h:Heap):ab:=ifB (ltF v8 v7) (eldB 1 h v0 v8 fun a b=>ifB (Vx false (eqBB v1 b)) (k v8 h) (og .i64 v8 1 fun c=>j1 v0 v1 v7 c h)) (pz n k h)
def sR:Nat→Q1:=lpS (td cf k0)
def nI (n:Nat) (k:ai):Nat→dU:=lpF mb (nH n k)
theorem Ki (k:ai) (m:Nat):nI n k (m+1)=nH n k (nI n k m):=rfl
theorem K4 (m:Nat):lo mb (sR mc k0 m)=nI n (kap gZ k0) m:=ti (fun J1=>(by obtain ⟨J0,u0⟩:=exi (pA mc k0); delta td nH; rw [← KP,u0]; kernel_rfl:lo mb (td mc k0 J1)=nH n (kap gZ k0) (lo mb J1))) m
def A0:Q1:=(iG cf kW jm (iG cf kW nc (kJ mb (sR cf k0 n))))
def qI (n:Nat) (k:ai) (a0:AV) (a1:Bool) (h:Heap):ab:=lz a0 fun a=>nI n k n a0 a1 a 0 h
def uo (n:Nat) (a0:AV) (a1:Bool) (h:Heap) (k:ai):ab:=qI n k a0 a1 h
theorem NO:DZ cf kW n AL gZ k0=A0 n cf k0:=by funext s; kernel_rfl
theorem AG:lo lQ (DZ mc kW n AL gZ k0)=cmp lQ (uo n) (kap gZ k0):=(congrArg (lo lQ) (NO n mc k0)).trans (show _=qI n (kap gZ k0) by obtain ⟨J1,u1⟩:=exi (sR mc k0 n); delta A0 qI; rw [← K4,u1]; kernel_rfl)
end
def bw (n:Nat):bl:=uo n
abbrev aaj (g:aF):Wr:=wrT ly iH g
def Hq:aO:=mH []
section
variable (k0:Q0)
def E1:Q1:=(iG cf Ew Vl (jU iH k0))
def zq (n:Nat) (k:ae) (v8:Bool) (h:Heap):ab:=k v8 h
theorem afE:lo LF (E1 Hq k0)=zq n (kap iH k0):=by delta E1 zq; kernel_rfl
def Zn:Q1:=(iG cf Ew kg (iG cf Ew UR (kJ LF (E1 cf k0))))
def Ka (n:Nat) (k:ae) (a0:Int) (h:Heap):ab:=ifB (lH (ltF a0 0)) (zq n k (ltF a0 256) h) (zq n k false h)
def Rl (n:Nat) (a0:Int) (h:Heap) (k:ae):ab:=Ka n k a0 h
theorem ajc:DZ cf Ew n Z3 iH k0=Zn cf k0:=by funext s; kernel_rfl
theorem aiL:lo ly (DZ Hq Ew n Z3 iH k0)=cmp ly (Rl n) (kap iH k0):=(congrArg (lo ly) (ajc n Hq k0)).trans (show _=Ka n (kap iH k0) by obtain ⟨J0,u0⟩:=exi (E1 Hq k0); delta Zn Ka; rw [← afE,u0]; kernel_rfl)
end
def eu (n:Nat):aF:=Rl n
abbrev aY:=Int→Int→Heap→(Int→Int→Heap→ab)→ab
abbrev TG (g:aY):Wr:=wrT lw mT g
def Af (lp:aF):aO:=mH [(Zp,aaj lp)]
section
variable (lp:aF) (k0:Q0)
def GP:Q1:=(cJ p16 (iG cf y7 Xx (jU mT k0)) (iG cf y7 WB (jU mT k0)))
def Bk (n:Nat) (lp:aF) (k:az) (v0:Int) (v1:Int) (v16:Bool) (h:Heap):ab:=ifB v16 (k 0 2 h) (xv .u64 v0 fun a=>aeC .u64 a 8 fun b=>xv .u64 v1 fun c=>aa3 .or .u64 b c fun d=>k d 0 h)
theorem agP:lo Pb (GP (Af lp) k0)=Bk n lp (kap mT k0):=by delta GP Bk; kernel_rfl
def Gc:Q1:=(iG cf y7 Wt (kJ Pb (GP cf k0)))
def Bq (n:Nat) (lp:aF) (k:az) (v0:Int) (v1:Int) (v11:Bool) (h:Heap):ab:=ifB v11 (Bk n lp k v0 v1 true h) (lp v1 h fun a b=>Bk n lp k v0 v1 (lH a) b)
theorem ahj:lo tg (Gc (Af lp) k0)=Bq n lp (kap mT k0):=by obtain ⟨J1,u1⟩:=exi (GP (Af lp) k0); delta Gc Bq; rw [← agP,u1]; kernel_rfl
def adj:Q1:=(iG cf y7 XW (iG cf y7 XS (kJ tg (Gc cf k0))))
def Nu (n:Nat) (lp:aF) (k:az) (a0:Int) (a1:Int) (h:Heap):ab:=ifB (ltF a0 0) (Bq n lp k a0 a1 true h) (Bq n lp k a0 a1 (lH (ltF a0 4096)) h)
def TE (n:Nat) (lp:aF) (a0:Int) (a1:Int) (h:Heap) (k:az):ab:=Nu n lp k a0 a1 h
theorem akS:DZ cf y7 n aci mT k0=adj cf k0:=by funext s; kernel_rfl
theorem akU:lo lw (DZ (Af lp) y7 n aci mT k0)=cmp lw (TE n lp) (kap mT k0):=(congrArg (lo lw) (akS n (Af lp) k0)).trans (show _=Nu n lp (kap mT k0) by obtain ⟨J0,u0⟩:=exi (Gc (Af lp) k0); delta adj Nu; rw [← ahj,u0]; kernel_rfl)
end
def cW (n:Nat):aY:=TE n (eu n)
abbrev aI:=AV→Heap→(Int→Int→Heap→ab)→ab
abbrev GQ (g:aI):Wr:=wrT iJ oc g
def yP (ll:bD) (iw:ad) (jS:Wr) (jc:bl) (ja:aY):aO:=mH [(QB,Qe ll),(yO,y5 iw),(Ep,jS),(qD,qH jc),(TA,TG ja)]
section
variable (ll:bD) (iw:ad) (jS:Wr) (jc:bl) (ja:aY) (k0:Q0)
def tM:Q1:=(iG cf lE Nq (iG cf lE MM (iG cf lE MS (jU oc k0))))
def q7 (n:Nat) (ll:bD) (iw:ad) (jS:Wr) (jc:bl) (ja:aY) (k:az) (v0:AV) (v4:Int) (h:Heap):ab:=CB 3 h v0 1 false fun a b=>xk h (.cell .int) .nilslice b (.int .i64 v4) fun c b28=>jc c false h fun d e=>CB 3 e v0 1 false fun f g=>xk e (.cell .int) .nilslice g (.int .i64 v4) fun i b34=>est 1 e i d 1 (.bool true) fun l m=>Og .i64 2 m v0 fun o p=>L2 .i64 d p fun q=>ja v4 q m fun r s t=>k r s t
theorem Y8:lo w8 (tM (yP ll iw jS jc ja) k0)=q7 n ll iw jS jc ja (kap oc k0):=by delta tM q7; kernel_rfl
def QF:Q1:=(iG cf lE K9 (iG cf lE K5 (cJ p11 (iG cf lE Kd (jU oc k0)) (iG cf lE Nb (iG cf lE MP (cJ p21 (iG cf lE MF (iG cf lE MY (cJ p35 (iG cf lE M5 (jU oc k0)) (iG cf lE Mm (iG cf lE Ms (kJ w8 (tM cf k0))))))) (kJ w8 (tM cf k0))))))))
def AS (n:Nat) (ll:bD) (iw:ad) (jS:Wr) (jc:bl) (ja:aY) (k:az) (a0:AV) (h:Heap):ab:=iw a0 h fun a b=>ifB (lH a) (k 0 1 b) (CB 3 b a0 1 false fun c d=>jS [d,(.func 47 [] [])] b fun e f=>extK 0 e fun g=>Pr .i64 g fun i=>extK 1 e fun l=>Vc l fun m=>ifB (lH m) (CB 0 f a0 1 false fun o p=>Og .u8 1 f a0 fun q r=>ll p r f fun s t u=>ifB (lH (eqF t 0)) (k 0 t u) (CB 3 u a0 1 false fun w x=>Og .i64 2 u a0 fun y z=>VN .i64 256 z fun A=>mkK u [(.bool false)] A A fun B C=>PV C (.cell .int) x (.int .i64 s) B fun E=>q7 n ll iw jS jc ja k a0 s E)) (q7 n ll iw jS jc ja k a0 i f))
def Gg (n:Nat) (ll:bD) (iw:ad) (jS:Wr) (jc:bl) (ja:aY) (a0:AV) (h:Heap) (k:az):ab:=AS n ll iw jS jc ja k a0 h
theorem abu:DZ cf lE n PW oc k0=QF cf k0:=by funext s; kernel_rfl
theorem acJ:lo iJ (DZ (yP ll iw jS jc ja) lE n PW oc k0)=cmp iJ (Gg n ll iw jS jc ja) (kap oc k0):=(congrArg (lo iJ) (abu n (yP ll iw jS jc ja) k0)).trans (show _=AS n ll iw jS jc ja (kap oc k0) by obtain ⟨J0,u0⟩:=exi (tM (yP ll iw jS jc ja) k0); delta QF AS; rw [← Y8,u0]; kernel_rfl)
end
def bq (n:Nat):aI:=Gg n (dG n) (cx n) (qY cU) (bw n) (cW n)
abbrev afg (g:aY):Wr:=wrT lw jr g
def Nv (iK:aj) (iZ:aF):aO:=mH [(vI,vF iK),(G7,G0 iZ)]
section
variable (iK:aj) (iZ:aF) (k0:Q0)
def JT:Q1:=(cJ p13 (iG cf rc mN (jU jr k0)) (iG cf rc aac (jU jr k0)))
def Ez (n:Nat) (iK:aj) (iZ:aF) (k:az) (v0:Int) (v1:Int) (v13:Bool) (h:Heap):ab:=ifB v13 (k 0 2 h) (afN .i64 v0 v1 fun a=>k a 0 h)
theorem ai4:lo Ah (JT (Nv iK iZ) k0)=Ez n iK iZ (kap jr k0):=by delta JT Ez; kernel_rfl
def afm:Q1:=(iG cf rc mO (iG cf rc JO (kJ Ah (JT cf k0))))
def PX (n:Nat) (iK:aj) (iZ:aF) (k:az) (a0:Int) (a1:Int) (h:Heap):ab:=iK a0 0 4095 h fun a b=>ifB (lH a) (Ez n iK iZ k a0 a1 true b) (iZ a1 b fun c d=>Ez n iK iZ k a0 a1 (lH c) d)
def V4 (n:Nat) (iK:aj) (iZ:aF) (a0:Int) (a1:Int) (h:Heap) (k:az):ab:=PX n iK iZ k a0 a1 h
theorem ami:DZ cf rc n afe jr k0=afm cf k0:=by funext s; kernel_rfl
theorem amd:lo lw (DZ (Nv iK iZ) rc n afe jr k0)=cmp lw (V4 n iK iZ) (kap jr k0):=(congrArg (lo lw) (ami n (Nv iK iZ) k0)).trans (show _=PX n iK iZ (kap jr k0) by obtain ⟨J0,u0⟩:=exi (JT (Nv iK iZ) k0); delta afm PX; rw [← ai4,u0]; kernel_rfl)
end
def eQ (n:Nat):aY:=V4 n (ca n) (da n)
abbrev W6 (g:aY):Wr:=wrT lw jr g
def Fg (iK:aj) (iZ:aF):aO:=mH [(vI,vF iK),(G7,G0 iZ)]
section
variable (iK:aj) (iZ:aF) (k0:Q0)
def Cr:Q1:=(cJ p13 (iG cf rc mN (jU jr k0)) (iG cf rc SL (jU jr k0)))
def yq (n:Nat) (iK:aj) (iZ:aF) (k:az) (v0:Int) (v1:Int) (v13:Bool) (h:Heap):ab:=ifB v13 (k 0 2 h) (VN .i64 v0 v1 fun a=>k a 0 h)
theorem aeP:lo Ah (Cr (Fg iK iZ) k0)=yq n iK iZ (kap jr k0):=by delta Cr yq; kernel_rfl
def XD:Q1:=(iG cf rc mO (iG cf rc JO (kJ Ah (Cr cf k0))))
def GL (n:Nat) (iK:aj) (iZ:aF) (k:az) (a0:Int) (a1:Int) (h:Heap):ab:=iK a0 0 4095 h fun a b=>ifB (lH a) (yq n iK iZ k a0 a1 true b) (iZ a1 b fun c d=>yq n iK iZ k a0 a1 (lH c) d)
def OT (n:Nat) (iK:aj) (iZ:aF) (a0:Int) (a1:Int) (h:Heap) (k:az):ab:=GL n iK iZ k a0 a1 h
theorem agG:DZ cf rc n Xj jr k0=XD cf k0:=by funext s; kernel_rfl
theorem ahA:lo lw (DZ (Fg iK iZ) rc n Xj jr k0)=cmp lw (OT n iK iZ) (kap jr k0):=(congrArg (lo lw) (agG n (Fg iK iZ) k0)).trans (show _=GL n iK iZ (kap jr k0) by obtain ⟨J0,u0⟩:=exi (Cr (Fg iK iZ) k0); delta XD GL; rw [← aeP,u0]; kernel_rfl)
end
def d8 (n:Nat):aY:=OT n (ca n) (da n)
abbrev cQ:=AV→Int→Int→Heap→(Int→Heap→ab)→ab
abbrev MZ (g:cQ):Wr:=wrT kx kX g
def lq (ic:ad) (ir:aE) (gY:aw) (iv:aP):aO:=mH [(wU,xf ic),(qW,qP ir),(uU,uJ gY),(Fw,Fy iv)]
section
variable (ic:ad) (ir:aE) (gY:aw) (iv:aP) (k0:Q0)
def rz:Q1:=(iG cf jP Iv (iG cf jP qz (jU kX k0)))
def rE (n:Nat) (ic:ad) (ir:aE) (gY:aw) (iv:aP) (k:ai) (v0:AV) (v1:Int) (v2:Int) (h:Heap):ab:=iv v0 v1 v2 h fun a=>k 0 a
theorem Vm:lo kx (rz (lq ic ir gY iv) k0)=rE n ic ir gY iv (kap kX k0):=by delta rz rE; kernel_rfl
def Ao (J1:Q1):Q1:=(iG cf jP IH (cJ p48 (iG cf jP HX (iG cf jP Ir (iG cf jP H5 (cJ p65 (kJ kx (rz cf k0)) (iG cf jP Ij (iG cf jP Ig (iG cf jP IB (kJ kx J1)))))))) (kJ kx (rz cf k0))))
def rt (n:Nat) (ic:ad) (ir:aE) (gY:aw) (iv:aP) (k:ai) (j1:cB) (v0:AV) (v1:Int) (v2:Int) (h:Heap):ab:=ifB (ltF v2 6) (aeC .i64 1 v2 fun a=>aa3 .xor .i64 v1 a fun b=>nfa 2 v0 fun c=>FY 1 7 c v2 fun d=>me h d 1 false fun e=>ir e b h fun f g i=>ifB (lH g) (rE n ic ir gY iv k v0 v1 v2 i) (nfa 2 v0 fun l=>FY 1 7 l v2 fun m=>me i m 1 false fun o=>og .i64 f 1 fun p=>gY o f p i fun q r=>nfa 2 v0 fun s=>FY 1 7 s v2 fun t=>nu r t 1 q fun u=>NJ false [(.int .i64 v1),(.int .i64 b)] fun w=>Pr .i64 w fun x=>og .i64 v2 1 fun y=>j1 v0 x y u)) (rE n ic ir gY iv k v0 v1 v2 h)
def As:Nat→Q1:=lpS (Ao cf k0)
def rD (n:Nat) (ic:ad) (ir:aE) (gY:aw) (iv:aP) (k:ai):Nat→cB:=lpF kx (rt n ic ir gY iv k)
theorem Vn (k:ai) (m:Nat):rD n ic ir gY iv k (m+1)=rt n ic ir gY iv k (rD n ic ir gY iv k m):=rfl
theorem Vo (m:Nat):lo kx (As (lq ic ir gY iv) k0 m)=rD n ic ir gY iv (kap kX k0) m:=ti (fun J1=>(by obtain ⟨J0,u0⟩:=exi (rz (lq ic ir gY iv) k0); delta Ao rt; rw [← Vm,u0]; kernel_rfl:lo kx (Ao (lq ic ir gY iv) k0 J1)=rt n ic ir gY iv (kap kX k0) (lo kx J1))) m
def vk:Q1:=(cJ p41 (iG cf jP Ga (jU kX k0)) (iG cf jP IC (kJ kx (As cf k0 n))))
def rG (n:Nat) (ic:ad) (ir:aE) (gY:aw) (iv:aP) (k:ai) (v0:AV) (v1:Int) (v2:Int) (v41:Bool) (h:Heap):ab:=ifB v41 (k 91 h) (CB 9 h v0 1 false fun a b=>PE h (.cell .int) b (.int .i64 v1) fun c=>rD n ic ir gY iv k n v0 v1 v2 c)
theorem VH:lo Aw (vk n (lq ic ir gY iv) k0)=rG n ic ir gY iv (kap kX k0):=by obtain ⟨J1,u1⟩:=exi (As (lq ic ir gY iv) k0 n); delta vk rG; rw [← Vo,u1]; kernel_rfl
def vd:Q1:=(iG cf jP Gq (cJ p15 (iG cf jP Ht (jU kX k0)) (iG cf jP Hl (iG cf jP Gp (kJ Aw (vk n cf k0))))))
def rv (n:Nat) (ic:ad) (ir:aE) (gY:aw) (iv:aP) (k:ai) (v0:AV) (v1:Int) (v2:Int) (v25:Bool) (h:Heap):ab:=ifB v25 (k 2 h) (CB 9 h v0 1 false fun a b=>xk h (.cell .int) (.int .i64 0) b (.int .i64 v1) fun c b5=>Pr .i64 c fun d=>ifB (lH b5) (rG n ic ir gY iv k v0 v1 v2 true h) (rG n ic ir gY iv k v0 v1 v2 (lH (eqF d v2)) h))
theorem Vu:lo Au (vd n (lq ic ir gY iv) k0)=rv n ic ir gY iv (kap kX k0):=by obtain ⟨J2,u2⟩:=exi (vk n (lq ic ir gY iv) k0); delta vd rv; rw [← VH,u2]; kernel_rfl
def vg:Q1:=(iG cf jP GH (kJ Au (vd n cf k0)))
def rx (n:Nat) (ic:ad) (ir:aE) (gY:aw) (iv:aP) (k:ai) (v0:AV) (v1:Int) (v2:Int) (v21:Bool) (h:Heap):ab:=ifB v21 (rv n ic ir gY iv k v0 v1 v2 true h) (rv n ic ir gY iv k v0 v1 v2 (ltF v1 0) h)
theorem VB:lo Av (vg n (lq ic ir gY iv) k0)=rx n ic ir gY iv (kap kX k0):=by obtain ⟨J4,u4⟩:=exi (vd n (lq ic ir gY iv) k0); delta vg rx; rw [← Vu,u4]; kernel_rfl
def Mf:Q1:=(iG cf jP qz (iG cf jP GB (cJ p12 (iG cf jP F8 (jU kX k0)) (iG cf jP Gw (kJ Av (vg n cf k0))))))
def wY (n:Nat) (ic:ad) (ir:aE) (gY:aw) (iv:aP) (k:ai) (a0:AV) (a1:Int) (a2:Int) (h:Heap):ab:=ic a0 h fun a b=>ifB a (k 1 b) (ifB (ltF a2 0) (rx n ic ir gY iv k a0 a1 a2 true b) (rx n ic ir gY iv k a0 a1 a2 (ltF 6 a2) b))
def DU (n:Nat) (ic:ad) (ir:aE) (gY:aw) (iv:aP) (a0:AV) (a1:Int) (a2:Int) (h:Heap) (k:ai):ab:=wY n ic ir gY iv k a0 a1 a2 h
theorem YF:DZ cf jP n Ng kX k0=Mf n cf k0:=by funext s; kernel_rfl
theorem Y4:lo kx (DZ (lq ic ir gY iv) jP n Ng kX k0)=cmp kx (DU n ic ir gY iv) (kap kX k0):=(congrArg (lo kx) (YF n (lq ic ir gY iv) k0)).trans (show _=wY n ic ir gY iv (kap kX k0) by obtain ⟨J3,u3⟩:=exi (vg n (lq ic ir gY iv) k0); delta Mf wY; rw [← VB,u3]; kernel_rfl)
end
def dr (n:Nat):cQ:=DU n (bV n) (bB n) (bC n) (bR n)
abbrev Qp (g:aa):Wr:=wrT iI gZ g
def y4 (g0:ad) (nY:aY) (mg:aY) (jd:aa) (kH:cQ):aO:=mH [(oG,oI g0),(aeX,afg nY),(WH,W6 mg),(vw,vv jd),(Mo,MZ kH)]
section
variable (g0:ad) (nY:aY) (mg:aY) (jd:aa) (kH:cQ) (k0:Q0)
def xm:Q1:=(cJ p28 (iG cf kq qB (jU gZ k0)) (iG cf kq KF (iG cf kq Kh (cJ p39 (iG cf kq Nk (jU gZ k0)) (iG cf kq Nh (iG cf kq M1 (cJ p51 (iG cf kq M4 (jU gZ k0)) (iG cf kq Nj (iG cf kq MJ (cJ p68 (iG cf kq Ma (jU gZ k0)) (iG cf kq MD (iG cf kq Mn (iG cf kq jm (jU gZ k0))))))))))))))
def tT (n:Nat) (g0:ad) (nY:aY) (mg:aY) (jd:aa) (kH:cQ) (k:ai) (v0:AV) (v1:Int) (v5:Int) (v28:Bool) (h:Heap):ab:=ifB v28 (k 91 h) (Og .i64 0 h v0 fun a b=>nY v1 b h fun c d e=>ifB (lH (eqF d 0)) (k d e) (Og .i64 0 e v0 fun f g=>mg v1 g e fun i l m=>ifB (lH (eqF l 0)) (k l m) (CB 11 m v0 1 false fun o p=>CB 1 m v0 1 false fun q r=>jd r c (m.shut true) fun s t=>eld 1 (t.back m.ro) p s 1 false fun u w=>kH w i 0 (t.back m.ro) fun x y=>ifB (lH (eqF x 0)) (k x y) (CB 12 y v0 1 false fun z A=>PE y (.cell .int) A (.int .i64 v1) fun B=>nfa 13 v0 fun C=>FY 1 7 C v5 fun E=>ldI .i64 B E fun F=>TH .i64 F 1 fun G=>nfa 13 v0 fun I=>FY 1 7 I v5 fun K=>nu B K 1 (.int .i64 G) fun L=>k 0 L))))
theorem YG:lo DR (xm (y4 g0 nY mg jd kH) k0)=tT n g0 nY mg jd kH (kap gZ k0):=by delta xm tT; kernel_rfl
def Qu:Q1:=(iG cf kq jm (iG cf kq KS (cJ p13 (iG cf kq vU (jU gZ k0)) (iG cf kq Lg (iG cf kq Ky (kJ DR (xm cf k0)))))))
def AW (n:Nat) (g0:ad) (nY:aY) (mg:aY) (jd:aa) (kH:cQ) (k:ai) (a0:AV) (a1:Int) (h:Heap):ab:=g0 a0 h fun a b=>ifB (lH a) (k 1 b) (CB 12 b a0 1 false fun c d=>xk b (.cell .int) (.int .u8 0) d (.int .i64 a1) fun e b5=>Pr .u8 e fun f=>ifB (lH b5) (tT n g0 nY mg jd kH k a0 a1 f true b) (tT n g0 nY mg jd kH k a0 a1 f (eqF f 1) b))
def Gu (n:Nat) (g0:ad) (nY:aY) (mg:aY) (jd:aa) (kH:cQ) (a0:AV) (a1:Int) (h:Heap) (k:ai):ab:=AW n g0 nY mg jd kH k a0 a1 h
theorem abN:DZ cf kq n QE gZ k0=Qu cf k0:=by funext s; kernel_rfl
theorem acO:lo iI (DZ (y4 g0 nY mg jd kH) kq n QE gZ k0)=cmp iI (Gu n g0 nY mg jd kH) (kap gZ k0):=(congrArg (lo iI) (abN n (y4 g0 nY mg jd kH) k0)).trans (show _=AW n g0 nY mg jd kH (kap gZ k0) by obtain ⟨J0,u0⟩:=exi (xm (y4 g0 nY mg jd kH) k0); delta Qu AW; rw [← YG,u0]; kernel_rfl)
end
def db (n:Nat):aa:=Gu n (bu n) (eQ n) (d8 n) (bW n) (dr n)
abbrev aS:=AV→Bool→Heap→(Bool→Heap→ab)→ab
abbrev oO (g:aS):Wr:=wrT lQ iQ g
def wS (jc:bl):aO:=mH [(qD,qH jc)]
section
variable (jc:bl) (k0:Q0)
def yi:Q1:=(iG cf oQ jF (iG cf oQ vV (jU iQ k0)))
def oL (n:Nat) (jc:bl) (k:ae) (a0:AV) (a1:Bool) (h:Heap):ab:=jc a0 a1 h fun a b=>k (lH (ltF a 0)) b
def rN (n:Nat) (jc:bl) (a0:AV) (a1:Bool) (h:Heap) (k:ae):ab:=oL n jc k a0 a1 h
theorem IV:DZ cf oQ n yc iQ k0=yi cf k0:=by funext s; kernel_rfl
theorem xZ:lo lQ (DZ (wS jc) oQ n yc iQ k0)=cmp lQ (rN n jc) (kap iQ k0):=(congrArg (lo lQ) (IV n (wS jc) k0)).trans (show _=oL n jc (kap iQ k0) by delta yi oL; kernel_rfl)
end
def bI (n:Nat):aS:=rN n (bw n)
abbrev dC:=Int→Heap→(Int→Int→Int→Heap→ab)→ab
abbrev acZ:=Int→Int→Int→Heap→ab
abbrev adp (g:dC):Wr:=wrT NA zj g
def Zo:aO:=mH []
section
variable (k0:Q0)
def abQ:Q1:=(iG cf CF XV (iG cf CF VL (cJ p7 (iG cf CF Wu (jU zj k0)) (iG cf CF Wz (jU zj k0)))))
def NF (n:Nat) (k:acZ) (a0:Int) (h:Heap):ab:=shrK .u64 a0 20 fun a=>ifB (lH (eqF a 0)) (k 0 0 10 h) (shrK .u64 a0 8 fun b=>xv .i64 b fun c=>aa3 .and .u64 a0 255 fun d=>xv .i64 d fun e=>k c e 0 h)
def Uh (n:Nat) (a0:Int) (h:Heap) (k:acZ):ab:=NF n k a0 h
theorem alx:DZ cf CF n abI zj k0=abQ cf k0:=by funext s; kernel_rfl
theorem ala:lo NA (DZ Zo CF n abI zj k0)=cmp NA (Uh n) (kap zj k0):=(congrArg (lo NA) (alx n Zo k0)).trans (show _=NF n (kap zj k0) by delta abQ NF; kernel_rfl)
end
def ec (n:Nat):dC:=Uh n
abbrev Gr (g:aa):Wr:=wrT AF gZ g
def rM (jX:aa) (iw:ad) (iT:aS) (lM:dC):aO:=mH [(QK,Qp jX),(yO,y5 iw),(oR,oO iT),(ade,adp lM)]
section
variable (jX:aa) (iw:ad) (iT:aS) (lM:dC) (k0:Q0)
def w9:Q1:=(cJ p52 (iG cf kZ qB (jU gZ k0)) (iG cf kZ M8 (iG cf kZ Mr (cJ p62 (iG cf kZ jm (jU gZ k0)) (iG cf kZ MN (iG cf kZ Nn (jU gZ k0)))))))
def q8 (n:Nat) (jX:aa) (iw:ad) (iT:aS) (lM:dC) (k:ai) (v0:AV) (v5:Int) (v6:Int) (v8:AV) (v52:Bool) (h:Heap):ab:=ifB v52 (k 91 h) (Og .i64 2 h v0 fun a b=>VN .i64 v6 b fun c=>est 1 h v8 c 1 (.bool false) fun d e=>iT v8 true e fun f g=>ifB f (k 0 g) (CB 3 g v0 1 false fun i l=>PE g (.cell .int) l (.int .i64 v5) fun m=>CB 0 m v0 1 false fun o p=>jX p v5 m fun q r=>k q r))
theorem Y7:lo DI (w9 (rM jX iw iT lM) k0)=q8 n jX iw iT lM (kap gZ k0):=by delta w9 q8; kernel_rfl
def xg:Q1:=(iG cf kZ Mb (kJ DI (w9 cf k0)))
def ra (n:Nat) (jX:aa) (iw:ad) (iT:aS) (lM:dC) (k:ai) (v0:AV) (v5:Int) (v6:Int) (v8:AV) (v40:Bool) (h:Heap):ab:=ifB v40 (q8 n jX iw iT lM k v0 v5 v6 v8 true h) (Og .i64 2 h v0 fun a b=>VN .i64 v6 b fun c=>eldB 1 h v8 c fun d e=>q8 n jX iw iT lM k v0 v5 v6 v8 (lH e) h)
theorem YC:lo DM (xg (rM jX iw iT lM) k0)=ra n jX iw iT lM (kap gZ k0):=by obtain ⟨J1,u1⟩:=exi (w9 (rM jX iw iT lM) k0); delta xg ra; rw [← Y7,u1]; kernel_rfl
def Qf:Q1:=(iG cf kZ jm (iG cf kZ wa (cJ p12 (iG cf kZ vU (jU gZ k0)) (iG cf kZ Ll (iG cf kZ KE (cJ p20 (iG cf kZ qB (jU gZ k0)) (iG cf kZ MQ (iG cf kZ Mj (kJ DM (xg cf k0))))))))))
def wl (n:Nat) (jX:aa) (iw:ad) (iT:aS) (lM:dC) (k:ai) (a0:AV) (a1:Int) (h:Heap):ab:=iw a0 h fun a b=>ifB (lH a) (k 1 b) (lM a1 b fun c d e f=>ifB (lH (eqF e 0)) (k 91 f) (CB 3 f a0 1 false fun g i=>xk f (.cell .int) .nilslice i (.int .i64 c) fun l b9=>ifB (lH b9) (ra n jX iw iT lM k a0 c d l true f) (Og .i64 2 f a0 fun m o=>afN .i64 d o fun p=>ra n jX iw iT lM k a0 c d l (lH (eqF p 0)) f)))
def AM (n:Nat) (jX:aa) (iw:ad) (iT:aS) (lM:dC) (a0:AV) (a1:Int) (h:Heap) (k:ai):ab:=wl n jX iw iT lM k a0 a1 h
theorem abt:DZ cf kZ n Qh gZ k0=Qf cf k0:=by funext s; kernel_rfl
theorem acr:lo AF (DZ (rM jX iw iT lM) kZ n Qh gZ k0)=cmp AF (AM n jX iw iT lM) (kap gZ k0):=(congrArg (lo AF) (abt n (rM jX iw iT lM) k0)).trans (show _=wl n jX iw iT lM (kap gZ k0) by obtain ⟨J0,u0⟩:=exi (xg (rM jX iw iT lM) k0); delta Qf wl; rw [← YC,u0]; kernel_rfl)
end
def aZ (n:Nat):aa:=AM n (db n) (cx n) (bI n) (ec n)
abbrev bJ:=Heap→(AV→Heap→ab)→ab
abbrev IG (g:bJ):Wr:=wrT jR pH g
def Hu:aO:=mH []
section
variable (k0:Q0)
def IA:Q1:=(iG cf kN FQ (iG cf kN FR (iG cf kN FM (iG cf kN FV (jU pH k0)))))
def Ay (n:Nat) (k:aC) (h:Heap):ab:=zy h (.cells [(.int .i64 0),(.int .i64 0),(.int .i64 0),(.int .i64 0),(.int .i64 0),(.int .i64 0),(.int .u64 0),(.int .u64 0),(.int .u64 0),(.int .u64 0),(.int .u64 0),(.int .u64 0),(.int .u64 0),(.int .u64 0),(.int .u64 0),.nilslice,.nilslice] true 0) fun a b=>nS b 2 [(.int .i64 0),(.int .i64 0)] [(0,1,(.int .i64 0)),(1,1,(.int .i64 1))] fun c d=>tw [.nilslice,(.int .i64 0),(.int .i64 0),(.int .i64 0),(.int .i64 0),(.int .i64 0),(.int .i64 0),(.int .i64 0)] [(0,1,c),(1,1,(.int .i64 1)),(2,1,(.int .i64 4)),(3,1,(.int .i64 8)),(4,1,(.int .i64 1)),(5,1,(.int .i64 1)),(6,1,(.int .i64 1)),(7,1,(.int .i64 3))] fun e=>zy d (.cells [.nilslice,(.int .i64 0),(.int .i64 0),(.int .i64 0),(.int .i64 0),(.int .i64 0),(.int .i64 0),(.int .i64 0)] true 0) fun f g=>nu g (.ptr f 0) 8 e fun i=>nS i 1 [(.int .i64 0)] [(0,1,(.int .i64 2))] fun l m=>tw [.nilslice,(.int .i64 0),(.int .i64 0),(.int .i64 0),(.int .i64 0),(.int .i64 0),(.int .i64 0),(.int .i64 0)] [(0,1,l),(2,1,(.int .i64 2)),(3,1,(.int .i64 6)),(4,1,(.int .i64 1)),(5,1,(.int .i64 1)),(6,1,(.int .i64 1)),(7,1,(.int .i64 3))] fun o=>zy m (.cells [.nilslice,(.int .i64 0),(.int .i64 0),(.int .i64 0),(.int .i64 0),(.int .i64 0),(.int .i64 0),(.int .i64 0)] true 0) fun p q=>nu q (.ptr p 0) 8 o fun r=>
 tw [(.int .u64 0),(.int .u64 0),(.int .u64 0),(.int .u64 0),(.int .u64 0),(.int .u64 0)] [(0,1,(.int .u64 1)),(1,1,(.int .u64 4)),(2,1,(.int .u64 10)),(3,1,(.int .u64 5)),(4,1,(.int .u64 1)),(5,1,(.int .u64 20))] fun s=>nS r 2 [(.int .i64 0),(.int .i64 0)] [(0,1,(.int .i64 0)),(1,1,(.int .i64 1))] fun t u=>me u (.ptr f 0) 8 true fun w=>me u (.ptr p 0) 8 true fun x=>nS u 2 [.nilslice,(.int .i64 0),(.int .i64 0),(.int .i64 0),(.int .i64 0),(.int .i64 0),(.int .i64 0),(.int .i64 0),.nilslice,(.int .i64 0),(.int .i64 0),(.int .i64 0),(.int .i64 0),(.int .i64 0),(.int .i64 0),(.int .i64 0)] [(0,8,w),(8,8,x)] fun y z=>tw [(.int .i64 0),(.int .i64 0),(.int .i64 0),(.int .i64 0),(.int .i64 0),(.int .i64 0),(.int .u64 0),(.int .u64 0),(.int .u64 0),(.int .u64 0),(.int .u64 0),(.int .u64 0),(.int .u64 0),(.int .u64 0),(.int .u64 0),.nilslice,.nilslice] [(0,1,(.int .i64 64)),(1,1,(.int .i64 4)),(2,1,(.int .i64 2)),(3,1,(.int .i64 4)),(4,1,(.int .i64 2)),(5,1,(.int .i64 4)),(6,6,s),(12,1,(.int .u64 4000)),(13,1,(.int .u64 20)),(15,1,t),(16,1,y)] fun A=>nu z (.ptr a 0) 17 A fun B=>me B (.ptr a 0) 17 true fun C=>k C B
def Iy (n:Nat) (h:Heap) (k:aC):ab:=Ay n k h
theorem Vt:DZ cf kN n H0 pH k0=IA cf k0:=by funext s; kernel_rfl
theorem Vr:lo jR (DZ Hu kN n H0 pH k0)=cmp jR (Iy n) (kap pH k0):=(congrArg (lo jR) (Vt n Hu k0)).trans (show _=Ay n (kap pH k0) by delta IA Ay; kernel_rfl)
end
def dZ (n:Nat):bJ:=Iy n
abbrev eG:=Heap→(Bool→Heap→ab)→ab
abbrev Gz (g:eG):Wr:=wrT jR kh g
def kp (iO:aH) (hO:aG) (iM:aH) (ie:aI) (ig:aa) (iW:bJ):aO:=mH [(aaI,abg iO),(Fr,Fz hO),(aa5,aaW iM),(HK,GQ ie),(GJ,Gr ig),(IJ,IG iW)]
section
variable (iO:aH) (hO:aG) (iM:aH) (ie:aI) (ig:aa) (iW:bJ) (k0:Q0)
def si:Q1:=(iG cf jH EF (jU kh k0))
def r9 (n:Nat) (iO:aH) (hO:aG) (iM:aH) (ie:aI) (ig:aa) (iW:bJ) (k:ae) (v71:Bool) (h:Heap):ab:=k v71 h
theorem Q7:lo wA (si (kp iO hO iM ie ig iW) k0)=r9 n iO hO iM ie ig iW (kap kh k0):=by delta si r9; kernel_rfl
def sB:Q1:=(iG cf jH Ev (kJ wA (si cf k0)))
def sx (n:Nat) (iO:aH) (hO:aG) (iM:aH) (ie:aI) (ig:aa) (iW:bJ) (k:ae) (v10:Int) (v67:Bool) (h:Heap):ab:=ifB v67 (r9 n iO hO iM ie ig iW k (eqF v10 256) h) (r9 n iO hO iM ie ig iW k false h)
theorem Rq:lo wI (sB (kp iO hO iM ie ig iW) k0)=sx n iO hO iM ie ig iW (kap kh k0):=by obtain ⟨J5,u5⟩:=exi (si (kp iO hO iM ie ig iW) k0); delta sB sx; rw [← Q7,u5]; kernel_rfl
def sw:Q1:=(iG cf jH D6 (kJ wI (sB cf k0)))
def su (n:Nat) (iO:aH) (hO:aG) (iM:aH) (ie:aI) (ig:aa) (iW:bJ) (k:ae) (v7:Int) (v10:Int) (v63:Bool) (h:Heap):ab:=ifB v63 (sx n iO hO iM ie ig iW k v10 (eqF v7 320) h) (sx n iO hO iM ie ig iW k v10 false h)
theorem Ry:lo wB (sw (kp iO hO iM ie ig iW) k0)=su n iO hO iM ie ig iW (kap kh k0):=by obtain ⟨J4,u4⟩:=exi (sB (kp iO hO iM ie ig iW) k0); delta sw su; rw [← Rq,u4]; kernel_rfl
def sa:Q1:=(iG cf jH EC (kJ wB (sw cf k0)))
def sc (n:Nat) (iO:aH) (hO:aG) (iM:aH) (ie:aI) (ig:aa) (iW:bJ) (k:ae) (v5:Int) (v7:Int) (v10:Int) (v59:Bool) (h:Heap):ab:=ifB v59 (su n iO hO iM ie ig iW k v7 v10 (eqF v5 256) h) (su n iO hO iM ie ig iW k v7 v10 false h)
theorem Rd:lo wJ (sa (kp iO hO iM ie ig iW) k0)=sc n iO hO iM ie ig iW (kap kh k0):=by obtain ⟨J3,u3⟩:=exi (sw (kp iO hO iM ie ig iW) k0); delta sa sc; rw [← Ry,u3]; kernel_rfl
def rZ:Q1:=(iG cf jH Em (kJ wJ (sa cf k0)))
def sA (n:Nat) (iO:aH) (hO:aG) (iM:aH) (ie:aI) (ig:aa) (iW:bJ) (k:ae) (v5:Int) (v7:Int) (v10:Int) (v11:Int) (v55:Bool) (h:Heap):ab:=ifB v55 (sc n iO hO iM ie ig iW k v5 v7 v10 (eqF v11 0) h) (sc n iO hO iM ie ig iW k v5 v7 v10 false h)
theorem Q9:lo wO (rZ (kp iO hO iM ie ig iW) k0)=sA n iO hO iM ie ig iW (kap kh k0):=by obtain ⟨J2,u2⟩:=exi (sa (kp iO hO iM ie ig iW) k0); delta rZ sA; rw [← Rd,u2]; kernel_rfl
def sd:Q1:=(iG cf jH El (kJ wO (rZ cf k0)))
def r8 (n:Nat) (iO:aH) (hO:aG) (iM:aH) (ie:aI) (ig:aa) (iW:bJ) (k:ae) (v5:Int) (v7:Int) (v9:Int) (v10:Int) (v11:Int) (v51:Bool) (h:Heap):ab:=ifB v51 (sA n iO hO iM ie ig iW k v5 v7 v10 v11 (eqF v9 0) h) (sA n iO hO iM ie ig iW k v5 v7 v10 v11 false h)
theorem Rf:lo wP (sd (kp iO hO iM ie ig iW) k0)=r8 n iO hO iM ie ig iW (kap kh k0):=by obtain ⟨J1,u1⟩:=exi (rZ (kp iO hO iM ie ig iW) k0); delta sd r8; rw [← Q9,u1]; kernel_rfl
def HL:Q1:=(iG cf jH nK (iG cf jH Dh (iG cf jH Du (cJ p18 (iG cf jH nK (jU kh k0)) (iG cf jH Dq (iG cf jH Dv (iG cf jH Db (cJ p27 (iG cf jH nK (jU kh k0)) (iG cf jH Dw (iG cf jH EJ (iG cf jH Eh (iG cf jH Ea (iG cf jH Ee (kJ wP (sd cf k0)))))))))))))))
def zh (n:Nat) (iO:aH) (hO:aG) (iM:aH) (ie:aI) (ig:aa) (iW:bJ) (k:ae) (h:Heap):ab:=iW h fun a b=>iO a 0 b fun c d e=>ifB (lH (eqF d 0)) (k false e) (hO c e fun f g i=>iM c 4 i fun l m o=>ifB (lH (eqF m 0)) (k false o) (ie l o fun p q r=>ie l r fun s t u=>ig l p u fun w x=>ie l x fun y z A=>ifB (eqF q 0) (r8 n iO hO iM ie ig iW k p s w y z (eqF t 0) A) (r8 n iO hO iM ie ig iW k p s w y z false A)))
def F1 (n:Nat) (iO:aH) (hO:aG) (iM:aH) (ie:aI) (ig:aa) (iW:bJ) (h:Heap) (k:ae):ab:=zh n iO hO iM ie ig iW k h
theorem T8:DZ cf jH n yZ kh k0=HL cf k0:=by funext s; kernel_rfl
theorem TV:lo jR (DZ (kp iO hO iM ie ig iW) jH n yZ kh k0)=cmp jR (F1 n iO hO iM ie ig iW) (kap kh k0):=(congrArg (lo jR) (T8 n (kp iO hO iM ie ig iW) k0)).trans (show _=zh n iO hO iM ie ig iW (kap kh k0) by obtain ⟨J0,u0⟩:=exi (sd (kp iO hO iM ie ig iW) k0); delta HL zh; rw [← Rf,u0]; kernel_rfl)
end
def du (n:Nat):eG:=F1 n (cE n) (ba n) (cF n) (bq n) (aZ n) (dZ n)
abbrev KL (g:ak):Wr:=wrT ww qt g
def IK (ib:ak):aO:=mH [(xX,xp ib)]
section
variable (ib:ak) (k0:Q0)
def KB:Q1:=(iG cf vZ GY (iG cf vZ Hs (jU qt k0)))
def vT (n:Nat) (ib:ak) (k:ai) (a0:Int) (a1:Int) (h:Heap):ab:=ib a1 2 h fun a b=>xv .u8 a fun c=>og .u8 a0 c fun d=>afN .u8 d 3 fun e=>og .u8 4 e fun f=>k f b
def Bg (n:Nat) (ib:ak) (a0:Int) (a1:Int) (h:Heap) (k:ai):ab:=vT n ib k a0 a1 h
theorem XY:DZ cf vZ n Kj qt k0=KB cf k0:=by funext s; kernel_rfl
theorem X6:lo ww (DZ (IK ib) vZ n Kj qt k0)=cmp ww (Bg n ib) (kap qt k0):=(congrArg (lo ww) (XY n (IK ib) k0)).trans (show _=vT n ib (kap qt k0) by delta KB vT; kernel_rfl)
end
def bj (n:Nat):ak:=Bg n (aM n)
abbrev G3 (g:aa):Wr:=wrT tt gZ g
def FT:aO:=mH []
section
variable (k0:Q0)
def GF:Q1:=(iG cf um sI (iG cf um Er (jU gZ k0)))
def ui (n:Nat) (k:ai) (a0:AV) (a1:Int) (h:Heap):ab:=A5 h a0 fun a b=>nR .i64 4 b (.ptr a 0) fun c d=>nR .i64 5 b (.ptr a 0) fun e f=>nR .i64 6 b (.ptr a 0) fun g i=>nS b 3 [(.int .i64 0),(.int .i64 0),(.int .i64 0)] [(0,1,(.int .i64 d)),(1,1,(.int .i64 f)),(2,1,(.int .i64 i))] fun l m=>TH .u8 a1 4 fun o=>EE .i64 1 m l o fun p q=>k q m
def y6 (n:Nat) (a0:AV) (a1:Int) (h:Heap) (k:ai):ab:=ui n k a0 a1 h
theorem TP:DZ cf um n Gs gZ k0=GF cf k0:=by funext s; kernel_rfl
theorem T3:lo tt (DZ FT um n Gs gZ k0)=cmp tt (y6 n) (kap gZ k0):=(congrArg (lo tt) (TP n FT k0)).trans (show _=ui n (kap gZ k0) by delta GF ui; kernel_rfl)
end
def aW (n:Nat):aa:=y6 n
abbrev aq:=Int→Heap→(Int→Heap→ab)→ab
abbrev y9 (g:aq):Wr:=wrT ud jW g
def FL:aO:=mH []
section
variable (k0:Q0)
def GS:Q1:=(iG cf uf oA (iG cf uf EH (jU jW k0)))
def ub (n:Nat) (k:ai) (a0:Int) (h:Heap):ab:=nS h 3 [(.int .u64 0),(.int .u64 0),(.int .u64 0)] [(0,1,(.int .u64 64)),(1,1,(.int .u64 32)),(2,1,(.int .u64 16))] fun a b=>TH .u8 a0 4 fun c=>EE .u64 1 b a c fun d e=>k e b
def yU (n:Nat) (a0:Int) (h:Heap) (k:ai):ab:=ub n k a0 h
theorem Tm:DZ cf uf n F5 jW k0=GS cf k0:=by funext s; kernel_rfl
theorem Tl:lo ud (DZ FL uf n F5 jW k0)=cmp ud (yU n) (kap jW k0):=(congrArg (lo ud) (Tm n FL k0)).trans (show _=ub n (kap jW k0) by delta GS ub; kernel_rfl)
end
def aL (n:Nat):aq:=yU n
abbrev sY (g:ah):Wr:=wrT iJ jf g
def rT:aO:=mH []
section
variable (k0:Q0)
def sD:Q1:=(iG cf kN mz (iG cf kN rF (jU jf k0)))
def mS (n:Nat) (k:aC) (a0:AV) (h:Heap):ab:=A5 h a0 fun a b=>k (.func 83 [] [(.ptr a 0)]) b
def ov (n:Nat) (a0:AV) (h:Heap) (k:aC):ab:=mS n k a0 h
theorem Bl:DZ cf kN n sV jf k0=sD cf k0:=by funext s; kernel_rfl
theorem Ba:lo iJ (DZ rT kN n sV jf k0)=cmp iJ (ov n) (kap jf k0):=(congrArg (lo iJ) (Bl n rT k0)).trans (show _=mS n (kap jf k0) by delta sD mS; kernel_rfl)
end
def cg (n:Nat):ah:=ov n
abbrev fk:=AV→Heap→ab
abbrev PD (g:ah):Wr:=wrT iJ jf g
def kY (iz:Wr) (iw:ad) (ja:aY) (ij:ah):aO:=mH [(Bw,iz),(yO,y5 iw),(TA,TG ja),(ta,sY ij)]
abbrev dN:Type:=AV→AV→Int→AV→Int→Int→AV→Int→Int→Heap→ab
abbrev YP:Type:=AV→AV→AV→Int→Int→Heap→ab
section
variable (iz:Wr) (iw:ad) (ja:aY) (ij:ah) (k0:Q0)
def xl:Q1:=(iG cf kO No (jU jf k0))
def wZ (n:Nat) (iz:Wr) (iw:ad) (ja:aY) (ij:ah) (k:aC) (v3:AV) (h:Heap):ab:=k v3 h
theorem YZ:lo nT (xl (kY iz iw ja ij) k0)=wZ n iz iw ja ij (kap jf k0):=by delta xl wZ; kernel_rfl
def wX (J1:Q1):Q1:=(iG cf kO MV (kJ lF J1))
def tL (n:Nat) (iz:Wr) (iw:ad) (ja:aY) (ij:ah) (k:aC) (j1:cC) (v0:AV) (v3:AV) (v18:AV) (v19:Int) (v20:Int) (h:Heap):ab:=og .i64 v20 1 fun a=>j1 v0 v3 v18 v19 a h
theorem YH (J1:Q1):lo lF (wX (kY iz iw ja ij) J1)=tL n iz iw ja ij (kap jf k0) (lo lF J1):=by delta wX tL; kernel_rfl
def tU (J3:Q1):Q1:=(iG cf kO Nd (kJ lG J3))
def tY (n:Nat) (iz:Wr) (iw:ad) (ja:aY) (ij:ah) (k:aC) (j3:dN) (v0:AV) (v3:AV) (v5:Int) (v18:AV) (v19:Int) (v20:Int) (v29:AV) (v30:Int) (v31:Int) (h:Heap):ab:=og .i64 v31 1 fun a=>j3 v0 v3 v5 v18 v19 v20 v29 v30 a h
theorem YB (J3:Q1):lo lG (tU (kY iz iw ja ij) J3)=tY n iz iw ja ij (kap jf k0) (lo lG J3):=by delta tU tY; kernel_rfl
def xj (J3:Q1):Q1:=(cJ p51 (iG cf kO L9 (kJ lG (tU cf J3))) (kJ lG (tU cf J3)))
def tS (n:Nat) (iz:Wr) (iw:ad) (ja:aY) (ij:ah) (k:aC) (j3:dN) (v0:AV) (v3:AV) (v5:Int) (v8:Int) (v18:AV) (v19:Int) (v20:Int) (v29:AV) (v30:Int) (v31:Int) (v51:Bool) (h:Heap):ab:=ifB v51 (nS h 1 [(.int .u64 0)] [(0,1,(.int .u64 v8))] fun a b=>px b 1 v3 a fun c d=>tY n iz iw ja ij k j3 v0 c v5 v18 v19 v20 v29 v30 v31 d) (tY n iz iw ja ij k j3 v0 v3 v5 v18 v19 v20 v29 v30 v31 h)
theorem Y0 (J3:Q1):lo DP (xj (kY iz iw ja ij) J3)=tS n iz iw ja ij (kap jf k0) (lo lG J3):=by obtain ⟨J4,u4⟩:=exi (tU (kY iz iw ja ij) J3); delta xj tS; rw [← YB,u4]; kernel_rfl
def Dz (J1:Q1) (J3:Q1):Q1:=(iG cf kO Na (cJ p32 (iG cf kO Mu (iG cf kO M0 (iG cf kO M2 (kJ DP (xj cf J3))))) (kJ lF (wX cf J1))))
def tI (n:Nat) (iz:Wr) (iw:ad) (ja:aY) (ij:ah) (k:aC) (j1:cC) (j3:dN) (v0:AV) (v3:AV) (v5:Int) (v18:AV) (v19:Int) (v20:Int) (v29:AV) (v30:Int) (v31:Int) (h:Heap):ab:=ifB (ltF v31 v30) (eldB 1 h v29 v31 fun a b=>Og .i64 2 h v0 fun c d=>L2 .i64 v31 d fun e=>ja v5 e h fun f g i=>ifB b (tS n iz iw ja ij k j3 v0 v3 v5 f v18 v19 v20 v29 v30 v31 (eqF g 0) i) (tS n iz iw ja ij k j3 v0 v3 v5 f v18 v19 v20 v29 v30 v31 false i)) (tL n iz iw ja ij k j1 v0 v3 v18 v19 v20 h)
def DW (J1:Q1):Nat→Q1:=lpS (Dz cf J1)
def tF (n:Nat) (iz:Wr) (iw:ad) (ja:aY) (ij:ah) (k:aC) (j1:cC):Nat→dN:=lpF lG (tI n iz iw ja ij k j1)
theorem YT (k:aC) (j1:cC) (m:Nat):tF n iz iw ja ij k j1 (m+1)=tI n iz iw ja ij k j1 (tF n iz iw ja ij k j1 m):=rfl
theorem YA (J1:Q1) (m:Nat):lo lG (DW (kY iz iw ja ij) J1 m)=tF n iz iw ja ij (kap jf k0) (lo lF J1) m:=ti (fun J3=>(by obtain ⟨J2,u2⟩:=exi (wX (kY iz iw ja ij) J1); obtain ⟨J5,u5⟩:=exi (xj (kY iz iw ja ij) J3); delta Dz tI; rw [← YH,u2, ← Y0,u5]; kernel_rfl:lo lG (Dz (kY iz iw ja ij) J1 J3)=tI n iz iw ja ij (kap jf k0) (lo lF J1) (lo lG J3))) m
def DS (J1:Q1):Q1:=(iG cf kO Lq (cJ p21 (iG cf kO Np (iG cf kO Mt (kJ lG (DW cf J1 n)))) (kJ nT (xl cf k0))))
def tD (n:Nat) (iz:Wr) (iw:ad) (ja:aY) (ij:ah) (k:aC) (j1:cC) (v0:AV) (v3:AV) (v18:AV) (v19:Int) (v20:Int) (h:Heap):ab:=ifB (ltF v20 v19) (EE .i64 1 h v18 v20 fun a b=>CB 3 h v0 1 false fun c d=>xk h (.cell .int) .nilslice d (.int .i64 b) fun e b14=>lz e fun f=>tF n iz iw ja ij k j1 n v0 v3 b v18 v19 v20 e f 0 h) (wZ n iz iw ja ij k v3 h)
def D5:Nat→Q1:=lpS (DS n cf k0)
def tN (n:Nat) (iz:Wr) (iw:ad) (ja:aY) (ij:ah) (k:aC):Nat→cC:=lpF lF (tD n iz iw ja ij k)
theorem YV (k:aC) (m:Nat):tN n iz iw ja ij k (m+1)=tD n iz iw ja ij k (tN n iz iw ja ij k m):=rfl
theorem Y3 (m:Nat):lo lF (D5 n (kY iz iw ja ij) k0 m)=tN n iz iw ja ij (kap jf k0) m:=ti (fun J1=>(by obtain ⟨J0,u0⟩:=exi (xl (kY iz iw ja ij) k0); obtain ⟨J3,u3⟩:=exi (DW (kY iz iw ja ij) J1 n); delta DS tD; rw [← YZ,u0, ← YA,u3]; kernel_rfl:lo lF (DS n (kY iz iw ja ij) k0 J1)=tD n iz iw ja ij (kap jf k0) (lo lF J1))) m
def PB:Q1:=(iG cf kO jI (iG cf kO wa (cJ p12 (iG cf kO jI (jU jf k0)) (iG cf kO rb (iG cf kO K3 (kJ lF (D5 n cf k0 n)))))))
def AK (n:Nat) (iz:Wr) (iw:ad) (ja:aY) (ij:ah) (k:aC) (a0:AV) (h:Heap):ab:=iw a0 h fun a b=>ifB (lH a) (k .nilslice b) (CB 3 b a0 1 false fun c d=>ij d b fun e f=>iz [e] f fun g i=>lz g fun l=>tN n iz iw ja ij k n a0 .nilslice g l 0 i)
def Gi (n:Nat) (iz:Wr) (iw:ad) (ja:aY) (ij:ah) (a0:AV) (h:Heap) (k:aC):ab:=AK n iz iw ja ij k a0 h
theorem abk:DZ cf kO n P2 jf k0=PB n cf k0:=by funext s; kernel_rfl
theorem acE:lo iJ (DZ (kY iz iw ja ij) kO n P2 jf k0)=cmp iJ (Gi n iz iw ja ij) (kap jf k0):=(congrArg (lo iJ) (abk n (kY iz iw ja ij) k0)).trans (show _=AK n iz iw ja ij (kap jf k0) by obtain ⟨J1,u1⟩:=exi (D5 n (kY iz iw ja ij) k0 n); delta PB AK; rw [← Y3,u1]; kernel_rfl)
end
def bG (n:Nat):ah:=Gi n (qY bh) (cx n) (cW n) (cg n)
abbrev tz (g:ah):Wr:=wrT iJ jf g
def tr:aO:=mH []
section
variable (k0:Q0)
def tW:Q1:=(iG cf kN mz (iG cf kN sP (jU jf k0)))
def nl (n:Nat) (k:aC) (a0:AV) (h:Heap):ab:=A5 h a0 fun a b=>k (.func 89 [] [(.ptr a 0)]) b
def pj (n:Nat) (a0:AV) (h:Heap) (k:aC):ab:=nl n k a0 h
theorem DX:DZ cf kN n tR jf k0=tW cf k0:=by funext s; kernel_rfl
theorem DV:lo iJ (DZ tr kN n tR jf k0)=cmp iJ (pj n) (kap jf k0):=(congrArg (lo iJ) (DX n tr k0)).trans (show _=nl n (kap jf k0) by delta tW nl; kernel_rfl)
end
def cn (n:Nat):ah:=pj n
abbrev Ot (g:ah):Wr:=wrT iJ jf g
def ph (g0:ad) (iz:Wr) (iU:ah):aO:=mH [(oG,oI g0),(Bw,iz),(tx,tz iU)]
section
variable (g0:ad) (iz:Wr) (iU:ah) (k0:Q0)
def wh:Q1:=(iG cf md KH (jU jf k0))
def vP (n:Nat) (g0:ad) (iz:Wr) (iU:ah) (k:aC) (v3:AV) (h:Heap):ab:=k v3 h
theorem Wq:lo nT (wh (ph g0 iz iU) k0)=vP n g0 iz iU (kap jf k0):=by delta wh vP; kernel_rfl
def Bc (J1:Q1):Q1:=(iG cf md EK (cJ p17 (iG cf md EP (iG cf md Lb (iG cf md Kk (kJ oJ J1)))) (kJ nT (wh cf k0))))
def sS (n:Nat) (g0:ad) (iz:Wr) (iU:ah) (k:aC) (j1:cC) (v0:AV) (v3:AV) (v14:AV) (v15:Int) (v16:Int) (h:Heap):ab:=ifB (ltF v16 v15) (EE .i64 1 h v14 v16 fun a b=>CB 12 h v0 1 false fun c d=>xk h (.cell .int) (.int .u8 0) d (.int .i64 b) fun e b14=>Pr .u8 e fun f=>tw [(.int .i64 0),(.int .u8 0)] [(0,1,(.int .i64 b)),(1,1,(.int .u8 f))] fun g=>nS h 1 [(.int .i64 0),(.int .u8 0)] [(0,2,g)] fun i l=>px l 2 v3 i fun m o=>og .i64 v16 1 fun p=>j1 v0 m v14 v15 p o) (vP n g0 iz iU k v3 h)
def BX:Nat→Q1:=lpS (Bc cf k0)
def sX (n:Nat) (g0:ad) (iz:Wr) (iU:ah) (k:aC):Nat→cC:=lpF oJ (sS n g0 iz iU k)
theorem Xy (k:aC) (m:Nat):sX n g0 iz iU k (m+1)=sS n g0 iz iU k (sX n g0 iz iU k m):=rfl
theorem V2 (m:Nat):lo oJ (BX (ph g0 iz iU) k0 m)=sX n g0 iz iU (kap jf k0) m:=ti (fun J1=>(by obtain ⟨J0,u0⟩:=exi (wh (ph g0 iz iU) k0); delta Bc sS; rw [← Wq,u0]; kernel_rfl:lo oJ (Bc (ph g0 iz iU) k0 J1)=sS n g0 iz iU (kap jf k0) (lo oJ J1))) m
def Oy:Q1:=(iG cf md jI (iG cf md xa (cJ p8 (iG cf md jI (jU jf k0)) (iG cf md rb (iG cf md Kx (kJ oJ (BX cf k0 n)))))))
def yW (n:Nat) (g0:ad) (iz:Wr) (iU:ah) (k:aC) (a0:AV) (h:Heap):ab:=g0 a0 h fun a b=>ifB (lH a) (k .nilslice b) (CB 12 b a0 1 false fun c d=>iU d b fun e f=>iz [e] f fun g i=>lz g fun l=>sX n g0 iz iU k n a0 .nilslice g l 0 i)
def Fl (n:Nat) (g0:ad) (iz:Wr) (iU:ah) (a0:AV) (h:Heap) (k:aC):ab:=yW n g0 iz iU k a0 h
theorem aa2:DZ cf md n Oo jf k0=Oy n cf k0:=by funext s; kernel_rfl
theorem aa0:lo iJ (DZ (ph g0 iz iU) md n Oo jf k0)=cmp iJ (Fl n g0 iz iU) (kap jf k0):=(congrArg (lo iJ) (aa2 n (ph g0 iz iU) k0)).trans (show _=yW n g0 iz iU (kap jf k0) by obtain ⟨J1,u1⟩:=exi (BX (ph g0 iz iU) k0 n); delta Oy yW; rw [← V2,u1]; kernel_rfl)
end
def cL (n:Nat):ah:=Fl n (bu n) (qY bh) (cn n)
abbrev aN:=AV→AV→Int→Heap→(Bool→Heap→ab)→ab
abbrev Gk (g:aN):Wr:=wrT uq jE g
def jy (iD:ah) (gX:aq):aO:=mH [(OD,Ot iD),(yX,y9 gX)]
abbrev dJ:Type:=Int→AV→AV→Int→Int→Heap→ab
abbrev dn:Type:=AV→AV→Int→Int→AV→Int→Heap→ab
section
variable (iD:ah) (gX:aq) (k0:Q0)
def sj:Q1:=(iG cf jl Ef (jU jE k0))
def so (n:Nat) (iD:ah) (gX:aq) (k:ae) (v11:Int) (v13:Int) (h:Heap):ab:=k (eqF v11 v13) h
theorem QQ:lo wF (sj (jy iD gX) k0)=so n iD gX (kap jE k0):=by delta sj so; kernel_rfl
def pU (J1:Q1):Q1:=(iG cf jl Eb (kJ kL J1))
def pR (n:Nat) (iD:ah) (gX:aq) (k:ae) (j1:bP) (v8:AV) (v11:Int) (v13:Int) (v14:Int) (h:Heap):ab:=og .i64 v14 1 fun a=>j1 v8 v11 v13 a h
theorem Q8 (J1:Q1):lo kL (pU (jy iD gX) J1)=pR n iD gX (kap jE k0) (lo kL J1):=by delta pU pR; kernel_rfl
def wL (J1:Q1):Q1:=(iG cf jl Ek (cJ p88 (iG cf jl Et (cJ p93 (iG cf jl EI (kJ kL (pU cf J1))) (kJ kL (pU cf J1)))) (kJ wF (sj cf k0))))
def pJ (n:Nat) (iD:ah) (gX:aq) (k:ae) (j1:bP) (v8:AV) (v11:Int) (v13:Int) (v14:Int) (h:Heap):ab:=ifB (ltF v14 4096) (FY 1 4096 v8 v14 fun a=>ldB h a fun b=>ifB b (og .i64 v13 1 fun c=>pR n iD gX k j1 v8 v11 c v14 h) (pR n iD gX k j1 v8 v11 v13 v14 h)) (so n iD gX k v11 v13 h)
def wD:Nat→Q1:=lpS (wL cf k0)
def pV (n:Nat) (iD:ah) (gX:aq) (k:ae):Nat→bP:=lpF kL (pJ n iD gX k)
theorem Rb (k:ae) (m:Nat):pV n iD gX k (m+1)=pJ n iD gX k (pV n iD gX k m):=rfl
theorem QZ (m:Nat):lo kL (wD (jy iD gX) k0 m)=pV n iD gX (kap jE k0) m:=ti (fun J1=>(by obtain ⟨J0,u0⟩:=exi (sj (jy iD gX) k0); obtain ⟨J2,u2⟩:=exi (pU (jy iD gX) J1); delta wL pJ; rw [← QQ,u0, ← Q8,u2]; kernel_rfl:lo kL (wL (jy iD gX) k0 J1)=pJ n iD gX (kap jE k0) (lo kL J1))) m
def sf:Q1:=(iG cf jl Fh (iG cf jl D9 (kJ kL (wD cf k0 n))))
def rU (n:Nat) (iD:ah) (gX:aq) (k:ae) (v8:AV) (v11:Int) (h:Heap):ab:=pV n iD gX k n v8 v11 0 0 h
theorem Rr:lo wQ (sf n (jy iD gX) k0)=rU n iD gX (kap jE k0):=by obtain ⟨J1,u1⟩:=exi (wD (jy iD gX) k0 n); delta sf rU; rw [← QZ,u1]; kernel_rfl
def pQ (J4:Q1):Q1:=(iG cf jl Es (kJ kM J4))
def pP (n:Nat) (iD:ah) (gX:aq) (k:ae) (j4:dJ) (v2:Int) (v8:AV) (v10:AV) (v11:Int) (v12:Int) (h:Heap):ab:=og .i64 v12 1 fun a=>j4 v2 v8 v10 v11 a h
theorem QT (J4:Q1):lo kM (pQ (jy iD gX) J4)=pP n iD gX (kap jE k0) (lo kM J4):=by delta pQ pP; kernel_rfl
def wN (J4:Q1):Q1:=(iG cf jl Da (cJ p67 (iG cf jl C1 (cJ p76 (iG cf jl C0 (iG cf jl Eu (cJ p86 (iG cf jl mn (jU jE k0)) (kJ kM (pQ cf J4))))) (kJ kM (pQ cf J4)))) (kJ wQ (sf n cf k0))))
def pK (n:Nat) (iD:ah) (gX:aq) (k:ae) (j4:dJ) (v2:Int) (v8:AV) (v10:AV) (v11:Int) (v12:Int) (h:Heap):ab:=lz v10 fun a=>ifB (ltF v12 a) (Rh 2 v10 v12 fun b=>nR .u8 1 h b fun c d=>ifB (eqF d v2) (og .i64 v11 1 fun e=>Rh 2 v10 v12 fun f=>nR .i64 0 h f fun g i=>FY 1 4096 v8 i fun l=>ldB h l fun m=>ifB (lH m) (k false h) (pP n iD gX k j4 v2 v8 v10 e v12 h)) (pP n iD gX k j4 v2 v8 v10 v11 v12 h)) (rU n iD gX k v8 v11 h)
def wz:Nat→Q1:=lpS (wN n cf k0)
def pO (n:Nat) (iD:ah) (gX:aq) (k:ae):Nat→dJ:=lpF kM (pK n iD gX k)
theorem QU (k:ae) (m:Nat):pO n iD gX k (m+1)=pK n iD gX k (pO n iD gX k m):=rfl
theorem Q6 (m:Nat):lo kM (wz n (jy iD gX) k0 m)=pO n iD gX (kap jE k0) m:=ti (fun J4=>(by obtain ⟨J3,u3⟩:=exi (sf n (jy iD gX) k0); obtain ⟨J5,u5⟩:=exi (pQ (jy iD gX) J4); delta wN pK; rw [← Rr,u3, ← QT,u5]; kernel_rfl:lo kM (wN n (jy iD gX) k0 J4)=pK n iD gX (kap jE k0) (lo kM J4))) m
def rV:Q1:=(iG cf jl Dc (iG cf jl C3 (iG cf jl rp (kJ kM (wz n cf k0 n)))))
def sh (n:Nat) (iD:ah) (gX:aq) (k:ae) (v0:AV) (v2:Int) (v8:AV) (h:Heap):ab:=iD v0 h fun a b=>pO n iD gX k n v2 v8 a 0 0 b
theorem Rc:lo wG (rV n (jy iD gX) k0)=sh n iD gX (kap jE k0):=by obtain ⟨J4,u4⟩:=exi (wz n (jy iD gX) k0 n); delta rV sh; rw [← Q6,u4]; kernel_rfl
def rW (J7:Q1):Q1:=(cJ p55 (iG cf jl mn (jU jE k0)) (iG cf jl C2 (iG cf jl Dm (kJ lY J7))))
def pM (n:Nat) (iD:ah) (gX:aq) (k:ae) (j7:dn) (v0:AV) (v1:AV) (v2:Int) (v7:Int) (v8:AV) (v9:Int) (v55:Bool) (h:Heap):ab:=ifB v55 (k false h) (EE .u64 1 h v1 v9 fun a b=>VN .u64 b 256 fun c=>FY 1 4096 v8 c fun d=>nu h d 1 (.bool true) fun e=>og .i64 v9 1 fun f=>j7 v0 v1 v2 v7 v8 f e)
theorem Q2 (J7:Q1):lo wM (rW (jy iD gX) k0 J7)=pM n iD gX (kap jE k0) (lo lY J7):=by delta rW pM; kernel_rfl
def se (J7:Q1):Q1:=(iG cf jl Dt (kJ wM (rW cf k0 J7)))
def nV (n:Nat) (iD:ah) (gX:aq) (k:ae) (j7:dn) (v0:AV) (v1:AV) (v2:Int) (v7:Int) (v8:AV) (v9:Int) (v47:Bool) (h:Heap):ab:=ifB v47 (pM n iD gX k j7 v0 v1 v2 v7 v8 v9 true h) (EE .u64 1 h v1 v9 fun a b=>VN .u64 b 256 fun c=>pM n iD gX k j7 v0 v1 v2 v7 v8 v9 (lH (ltF c 4096)) h)
theorem Rw (J7:Q1):lo wK (se (jy iD gX) k0 J7)=nV n iD gX (kap jE k0) (lo lY J7):=by obtain ⟨J9,u9⟩:=exi (rW (jy iD gX) k0 J7); delta se nV; rw [← Q2,u9]; kernel_rfl
def wE (J7:Q1):Q1:=(iG cf jl Dj (cJ p20 (iG cf jl C5 (kJ wK (se cf k0 J7))) (kJ wG (rV n cf k0))))
def pS (n:Nat) (iD:ah) (gX:aq) (k:ae) (j7:dn) (v0:AV) (v1:AV) (v2:Int) (v7:Int) (v8:AV) (v9:Int) (h:Heap):ab:=lz v1 fun a=>ifB (ltF v9 a) (EE .u64 1 h v1 v9 fun b c=>afN .u64 c v7 fun d=>ifB (lH (eqF d 0)) (nV n iD gX k j7 v0 v1 v2 v7 v8 v9 true h) (ifB (ltF 0 v9) (EE .u64 1 h v1 v9 fun e f=>TH .i64 v9 1 fun g=>EE .u64 1 h v1 g fun i l=>og .u64 l v7 fun m=>nV n iD gX k j7 v0 v1 v2 v7 v8 v9 (ltF f m) h) (nV n iD gX k j7 v0 v1 v2 v7 v8 v9 false h))) (sh n iD gX k v0 v2 v8 h)
def wC:Nat→Q1:=lpS (wE n cf k0)
def mZ (n:Nat) (iD:ah) (gX:aq) (k:ae):Nat→dn:=lpF lY (pS n iD gX k)
theorem Ru (k:ae) (m:Nat):mZ n iD gX k (m+1)=pS n iD gX k (mZ n iD gX k m):=rfl
theorem QY (m:Nat):lo lY (wC n (jy iD gX) k0 m)=mZ n iD gX (kap jE k0) m:=ti (fun J7=>(by obtain ⟨J6,u6⟩:=exi (rV n (jy iD gX) k0); obtain ⟨J8,u8⟩:=exi (se (jy iD gX) k0 J7); delta wE pS; rw [← Rc,u6, ← Rw,u8]; kernel_rfl:lo lY (wE n (jy iD gX) k0 J7)=pS n iD gX (kap jE k0) (lo lY J7))) m
def F9:Q1:=(iG cf jl mn (iG cf jl Dn (iG cf jl C7 (iG cf jl De (kJ lY (wC n cf k0 n))))))
def y3 (n:Nat) (iD:ah) (gX:aq) (k:ae) (a0:AV) (a1:AV) (a2:Int) (h:Heap):ab:=gX a2 h fun a b=>zy b (.cells (List.replicate 4096 (.bool false)) true 0) fun c d=>mZ n iD gX k n a0 a1 a2 a (.ptr c 0) 0 d
def HG (n:Nat) (iD:ah) (gX:aq) (a0:AV) (a1:AV) (a2:Int) (h:Heap) (k:ae):ab:=y3 n iD gX k a0 a1 a2 h
theorem TI:DZ cf jl n Hj jE k0=F9 n cf k0:=by funext s; kernel_rfl
theorem TC:lo uq (DZ (jy iD gX) jl n Hj jE k0)=cmp uq (HG n iD gX) (kap jE k0):=(congrArg (lo uq) (TI n (jy iD gX) k0)).trans (show _=y3 n iD gX (kap jE k0) by obtain ⟨J7,u7⟩:=exi (wC n (jy iD gX) k0 n); delta F9 y3; rw [← QY,u7]; kernel_rfl)
end
def aX (n:Nat):aN:=HG n (cL n) (aL n)
abbrev eW:=Bool→Heap→ab
abbrev AH (g:am):Wr:=wrT jJ iQ g
def i8 (iO:aH) (hO:aG) (ib:ak) (ik:am) (iA:ah) (iy:ad) (im:Wr) (iq:ak) (iM:aH) (ip:aa) (gX:aq) (ie:aI) (ig:aa) (iB:ah) (io:aN):aO:=mH [(aaI,abg iO),(Fr,Fz hO),(xX,xp ib),(FW,FJ ik),(QD,Ql iA),(OV,O4 iy),(tZ,im),(La,KL iq),(aa5,aaW iM),(HH,G3 ip),(yX,y9 gX),(HK,GQ ie),(GJ,Gr ig),(QM,PD iB),(Hm,Gk io)]
abbrev dV:Type:=AV→AV→AV→AV→Int→Heap→ab
abbrev bA:Type:=AV→AV→Int→AV→AV→Int→AV→Int→Heap→ab
section
variable (iO:aH) (hO:aG) (ib:ak) (ik:am) (iA:ah) (iy:ad) (im:Wr) (iq:ak) (iM:aH) (ip:aa) (gX:aq) (ie:aI) (ig:aa) (iB:ah) (io:aN) (k0:Q0)
def pB:Q1:=(iG cf iS yx (jU iQ k0))
def ny (n:Nat) (iO:aH) (hO:aG) (ib:ak) (ik:am) (iA:ah) (iy:ad) (im:Wr) (iq:ak) (iM:aH) (ip:aa) (gX:aq) (ie:aI) (ig:aa) (iB:ah) (io:aN) (k:ae) (v189:Bool) (h:Heap):ab:=k v189 h
theorem K1:lo sN (pB (i8 iO hO ib ik iA iy im iq iM ip gX ie ig iB io) k0)=ny n iO hO ib ik iA iy im iq iM ip gX ie ig iB io (kap iQ k0):=by delta pB ny; kernel_rfl
def pt:Q1:=(iG cf iS yK (kJ sN (pB cf k0)))
def nA (n:Nat) (iO:aH) (hO:aG) (ib:ak) (ik:am) (iA:ah) (iy:ad) (im:Wr) (iq:ak) (iM:aH) (ip:aa) (gX:aq) (ie:aI) (ig:aa) (iB:ah) (io:aN) (k:ae) (v8:AV) (v183:Bool) (h:Heap):ab:=ifB v183 (iB v8 h fun a b=>lz a fun c=>ny n iO hO ib ik iA iy im iq iM ip gX ie ig iB io k (eqF c 0) b) (ny n iO hO ib ik iA iy im iq iM ip gX ie ig iB io k false h)
theorem KU:lo s9 (pt (i8 iO hO ib ik iA iy im iq iM ip gX ie ig iB io) k0)=nA n iO hO ib ik iA iy im iq iM ip gX ie ig iB io (kap iQ k0):=by obtain ⟨J1,u1⟩:=exi (pB (i8 iO hO ib ik iA iy im iq iM ip gX ie ig iB io) k0); delta pt nA; rw [← K1,u1]; kernel_rfl
def pC:Q1:=(iG cf iS yG (kJ s9 (pt cf k0)))
def nD (n:Nat) (iO:aH) (hO:aG) (ib:ak) (ik:am) (iA:ah) (iy:ad) (im:Wr) (iq:ak) (iM:aH) (ip:aa) (gX:aq) (ie:aI) (ig:aa) (iB:ah) (io:aN) (k:ae) (v5:AV) (v8:AV) (v9:AV) (h:Heap):ab:=iy v5 h fun a b=>ifB a (iA v5 b fun c d=>ik c v9 d fun e f=>nA n iO hO ib ik iA iy im iq iM ip gX ie ig iB io k v8 e f) (nA n iO hO ib ik iA iy im iq iM ip gX ie ig iB io k v8 false b)
theorem Ly:lo sU (pC (i8 iO hO ib ik iA iy im iq iM ip gX ie ig iB io) k0)=nD n iO hO ib ik iA iy im iq iM ip gX ie ig iB io (kap iQ k0):=by obtain ⟨J0,u0⟩:=exi (pt (i8 iO hO ib ik iA iy im iq iM ip gX ie ig iB io) k0); delta pC nD; rw [← KU,u0]; kernel_rfl
def sG (J3:Q1):Q1:=(iG cf iS yJ (cJ p166 (iG cf iS yH (cJ p175 (iG cf iS jF (jU iQ k0)) (iG cf iS yw (kJ l8 J3)))) (kJ sU (pC cf k0))))
def nG (n:Nat) (iO:aH) (hO:aG) (ib:ak) (ik:am) (iA:ah) (iy:ad) (im:Wr) (iq:ak) (iM:aH) (ip:aa) (gX:aq) (ie:aI) (ig:aa) (iB:ah) (io:aN) (k:ae) (j3:dV) (v5:AV) (v8:AV) (v9:AV) (v11:AV) (v17:Int) (h:Heap):ab:=lz v11 fun a=>ifB (ltF v17 a) (EE .u64 1 h v11 v17 fun b c=>ig v8 c h fun d e=>ifB (lH (eqF d 0)) (k false e) (og .i64 v17 1 fun f=>j3 v5 v8 v9 v11 f e)) (nD n iO hO ib ik iA iy im iq iM ip gX ie ig iB io k v5 v8 v9 h)
def sO:Nat→Q1:=lpS (sG cf k0)
def nC (n:Nat) (iO:aH) (hO:aG) (ib:ak) (ik:am) (iA:ah) (iy:ad) (im:Wr) (iq:ak) (iM:aH) (ip:aa) (gX:aq) (ie:aI) (ig:aa) (iB:ah) (io:aN) (k:ae):Nat→dV:=lpF l8 (nG n iO hO ib ik iA iy im iq iM ip gX ie ig iB io k)
theorem Km (k:ae) (m:Nat):nC n iO hO ib ik iA iy im iq iM ip gX ie ig iB io k (m+1)=nG n iO hO ib ik iA iy im iq iM ip gX ie ig iB io k (nC n iO hO ib ik iA iy im iq iM ip gX ie ig iB io k m):=rfl
theorem K0 (m:Nat):lo l8 (sO (i8 iO hO ib ik iA iy im iq iM ip gX ie ig iB io) k0 m)=nC n iO hO ib ik iA iy im iq iM ip gX ie ig iB io (kap iQ k0) m:=ti (fun J3=>(by obtain ⟨J2,u2⟩:=exi (pC (i8 iO hO ib ik iA iy im iq iM ip gX ie ig iB io) k0); delta sG nG; rw [← Ly,u2]; kernel_rfl:lo l8 (sG (i8 iO hO ib ik iA iy im iq iM ip gX ie ig iB io) k0 J3)=nG n iO hO ib ik iA iy im iq iM ip gX ie ig iB io (kap iQ k0) (lo l8 J3))) m
def pE:Q1:=(iG cf iS yA (kJ l8 (sO cf k0 n)))
def py (n:Nat) (iO:aH) (hO:aG) (ib:ak) (ik:am) (iA:ah) (iy:ad) (im:Wr) (iq:ak) (iM:aH) (ip:aa) (gX:aq) (ie:aI) (ig:aa) (iB:ah) (io:aN) (k:ae) (v5:AV) (v8:AV) (v9:AV) (v11:AV) (h:Heap):ab:=nC n iO hO ib ik iA iy im iq iM ip gX ie ig iB io k n v5 v8 v9 v11 0 h
theorem Kz:lo sH (pE n (i8 iO hO ib ik iA iy im iq iM ip gX ie ig iB io) k0)=py n iO hO ib ik iA iy im iq iM ip gX ie ig iB io (kap iQ k0):=by obtain ⟨J3,u3⟩:=exi (sO (i8 iO hO ib ik iA iy im iq iM ip gX ie ig iB io) k0 n); delta pE py; rw [← K0,u3]; kernel_rfl
def pG (J5:Q1):Q1:=(cJ p162 (iG cf iS jF (jU iQ k0)) (iG cf iS yC (kJ jA J5)))
def nF (n:Nat) (iO:aH) (hO:aG) (ib:ak) (ik:am) (iA:ah) (iy:ad) (im:Wr) (iq:ak) (iM:aH) (ip:aa) (gX:aq) (ie:aI) (ig:aa) (iB:ah) (io:aN) (k:ae) (j5:bA) (v1:AV) (v5:AV) (v7:Int) (v8:AV) (v9:AV) (v10:Int) (v11:AV) (v12:Int) (v162:Bool) (h:Heap):ab:=ifB v162 (k false h) (og .i64 v12 1 fun a=>j5 v1 v5 v7 v8 v9 v10 v11 a h)
theorem Ld (J5:Q1):lo tc (pG (i8 iO hO ib ik iA iy im iq iM ip gX ie ig iB io) k0 J5)=nF n iO hO ib ik iA iy im iq iM ip gX ie ig iB io (kap iQ k0) (lo jA J5):=by delta pG nF; kernel_rfl
def ma (J5:Q1):Q1:=(iG cf iS xT (iG cf iS xQ (kJ tc (pG cf k0 J5))))
def lA (n:Nat) (iO:aH) (hO:aG) (ib:ak) (ik:am) (iA:ah) (iy:ad) (im:Wr) (iq:ak) (iM:aH) (ip:aa) (gX:aq) (ie:aI) (ig:aa) (iB:ah) (io:aN) (k:ae) (j5:bA) (v1:AV) (v5:AV) (v7:Int) (v8:AV) (v9:AV) (v10:Int) (v11:AV) (v12:Int) (h:Heap):ab:=iB v8 h fun a b=>lz a fun c=>lz v11 fun d=>ifB (lH (eqF c d)) (nF n iO hO ib ik iA iy im iq iM ip gX ie ig iB io k j5 v1 v5 v7 v8 v9 v10 v11 v12 true b) (io v5 a v7 b fun e f=>nF n iO hO ib ik iA iy im iq iM ip gX ie ig iB io k j5 v1 v5 v7 v8 v9 v10 v11 v12 (lH e) f)
theorem yz (J5:Q1):lo jA (ma (i8 iO hO ib ik iA iy im iq iM ip gX ie ig iB io) k0 J5)=lA n iO hO ib ik iA iy im iq iM ip gX ie ig iB io (kap iQ k0) (lo jA J5):=by obtain ⟨J6,u6⟩:=exi (pG (i8 iO hO ib ik iA iy im iq iM ip gX ie ig iB io) k0 J5); delta ma lA; rw [← Ld,u6]; kernel_rfl
def pu (J5:Q1):Q1:=(cJ p106 (iG cf iS jF (jU iQ k0)) (iG cf iS xB (cJ p108 (iG cf iS xF (kJ jA (ma cf k0 J5))) (kJ jA (ma cf k0 J5)))))
def lZ (n:Nat) (iO:aH) (hO:aG) (ib:ak) (ik:am) (iA:ah) (iy:ad) (im:Wr) (iq:ak) (iM:aH) (ip:aa) (gX:aq) (ie:aI) (ig:aa) (iB:ah) (io:aN) (k:ae) (j5:bA) (v1:AV) (v5:AV) (v7:Int) (v8:AV) (v9:AV) (v10:Int) (v11:AV) (v12:Int) (v13:Int) (v14:Int) (v106:Bool) (h:Heap):ab:=ifB v106 (k false h) (ifB (eqF v14 0) (nS h 1 [(.int .u64 0)] [(0,1,(.int .u64 v13))] fun a b=>px b 1 v11 a fun c d=>lA n iO hO ib ik iA iy im iq iM ip gX ie ig iB io k j5 v1 v5 v7 v8 v9 v10 c v12 d) (lA n iO hO ib ik iA iy im iq iM ip gX ie ig iB io k j5 v1 v5 v7 v8 v9 v10 v11 v12 h))
theorem Ls (J5:Q1):lo sW (pu (i8 iO hO ib ik iA iy im iq iM ip gX ie ig iB io) k0 J5)=lZ n iO hO ib ik iA iy im iq iM ip gX ie ig iB io (kap iQ k0) (lo jA J5):=by obtain ⟨J7,u7⟩:=exi (ma (i8 iO hO ib ik iA iy im iq iM ip gX ie ig iB io) k0 J5); delta pu lZ; rw [← yz,u7]; kernel_rfl
def pq (J5:Q1):Q1:=(cJ p138 (iG cf iS jF (jU iQ k0)) (iG cf iS yk (kJ jA (ma cf k0 J5))))
def nE (n:Nat) (iO:aH) (hO:aG) (ib:ak) (ik:am) (iA:ah) (iy:ad) (im:Wr) (iq:ak) (iM:aH) (ip:aa) (gX:aq) (ie:aI) (ig:aa) (iB:ah) (io:aN) (k:ae) (j5:bA) (v1:AV) (v5:AV) (v7:Int) (v8:AV) (v9:AV) (v10:Int) (v11:AV) (v12:Int) (v15:Int) (v138:Bool) (h:Heap):ab:=ifB v138 (k false h) (nS h 0 [] [] fun a b=>slK (.sl 1) v11 none (some (.int .i64 v15)) none fun c=>px b 1 a c fun d e=>og .i64 v15 1 fun f=>slK (.sl 1) v11 (some (.int .i64 f)) none none fun g=>px e 1 d g fun i l=>lA n iO hO ib ik iA iy im iq iM ip gX ie ig iB io k j5 v1 v5 v7 v8 v9 v10 i v12 l)
theorem Lh (J5:Q1):lo s8 (pq (i8 iO hO ib ik iA iy im iq iM ip gX ie ig iB io) k0 J5)=nE n iO hO ib ik iA iy im iq iM ip gX ie ig iB io (kap iQ k0) (lo jA J5):=by obtain ⟨J7,u7⟩:=exi (ma (i8 iO hO ib ik iA iy im iq iM ip gX ie ig iB io) k0 J5); delta pq nE; rw [← yz,u7]; kernel_rfl
def oT (J5:Q1):Q1:=(cJ p82 (iG cf iS xU (iG cf iS x4 (kJ sW (pu cf k0 J5)))) (iG cf iS xG (iG cf iS xL (kJ s8 (pq cf k0 J5)))))
def ml (n:Nat) (iO:aH) (hO:aG) (ib:ak) (ik:am) (iA:ah) (iy:ad) (im:Wr) (iq:ak) (iM:aH) (ip:aa) (gX:aq) (ie:aI) (ig:aa) (iB:ah) (io:aN) (k:ae) (j5:bA) (v1:AV) (v5:AV) (v7:Int) (v8:AV) (v9:AV) (v10:Int) (v11:AV) (v12:Int) (v82:Bool) (h:Heap):ab:=ifB v82 (ie v8 h fun a b c=>lz v11 fun d=>ifB (Vx true (eqBB (eqF b 0) (ltF d v10))) (lZ n iO hO ib ik iA iy im iq iM ip gX ie ig iB io k j5 v1 v5 v7 v8 v9 v10 v11 v12 a b true c) (ifB (lH (eqF b 0)) (ifB (lH (eqF b 4)) (lZ n iO hO ib ik iA iy im iq iM ip gX ie ig iB io k j5 v1 v5 v7 v8 v9 v10 v11 v12 a b true c) (lZ n iO hO ib ik iA iy im iq iM ip gX ie ig iB io k j5 v1 v5 v7 v8 v9 v10 v11 v12 a b (lH (eqF a 0)) c)) (lZ n iO hO ib ik iA iy im iq iM ip gX ie ig iB io k j5 v1 v5 v7 v8 v9 v10 v11 v12 a b false c))) (Rh 3 v1 v12 fun e=>nR .u64 2 h e fun f g=>lz v11 fun i=>xv .u64 i fun l=>afN .u64 g l fun m=>xv .i64 m fun o=>EE .u64 1 h v11 o fun p q=>ig v8 q h fun r s=>ifB (lH (eqF r 0)) (nE n iO hO ib ik iA iy im iq iM ip gX ie ig iB io k j5 v1 v5 v7 v8 v9 v10 v11 v12 o true s) (EE .u64 1 s v11 o fun t u=>ig v8 u s fun w x=>nE n iO hO ib ik iA iy im iq iM ip gX ie ig iB io k j5 v1 v5 v7 v8 v9 v10 v11 v12 o (lH (eqF w 91)) x))
theorem Je (J5:Q1):lo rQ (oT (i8 iO hO ib ik iA iy im iq iM ip gX ie ig iB io) k0 J5)=ml n iO hO ib ik iA iy im iq iM ip gX ie ig iB io (kap iQ k0) (lo jA J5):=by obtain ⟨J8,u8⟩:=exi (pu (i8 iO hO ib ik iA iy im iq iM ip gX ie ig iB io) k0 J5); obtain ⟨J9,u9⟩:=exi (pq (i8 iO hO ib ik iA iy im iq iM ip gX ie ig iB io) k0 J5); delta oT ml; rw [← Ls,u8, ← Lh,u9]; kernel_rfl
def oM (J5:Q1):Q1:=(cJ p68 (iG cf iS xW (kJ rQ (oT cf k0 J5))) (kJ sH (pE n cf k0)))
def lT (n:Nat) (iO:aH) (hO:aG) (ib:ak) (ik:am) (iA:ah) (iy:ad) (im:Wr) (iq:ak) (iM:aH) (ip:aa) (gX:aq) (ie:aI) (ig:aa) (iB:ah) (io:aN) (k:ae) (j5:bA) (v1:AV) (v5:AV) (v7:Int) (v8:AV) (v9:AV) (v10:Int) (v11:AV) (v12:Int) (v68:Bool) (h:Heap):ab:=ifB v68 (Rh 3 v1 v12 fun a=>nR .i64 0 h a fun b c=>ib c 3 h fun d e=>ifB (ltF 0 d) (ml n iO hO ib ik iA iy im iq iM ip gX ie ig iB io k j5 v1 v5 v7 v8 v9 v10 v11 v12 true e) (lz v11 fun f=>ml n iO hO ib ik iA iy im iq iM ip gX ie ig iB io k j5 v1 v5 v7 v8 v9 v10 v11 v12 (eqF f 0) e)) (py n iO hO ib ik iA iy im iq iM ip gX ie ig iB io k v5 v8 v9 v11 h)
theorem JG (J5:Q1):lo rL (oM n (i8 iO hO ib ik iA iy im iq iM ip gX ie ig iB io) k0 J5)=lT n iO hO ib ik iA iy im iq iM ip gX ie ig iB io (kap iQ k0) (lo jA J5):=by obtain ⟨J4,u4⟩:=exi (pE n (i8 iO hO ib ik iA iy im iq iM ip gX ie ig iB io) k0); obtain ⟨J10,u10⟩:=exi (oT (i8 iO hO ib ik iA iy im iq iM ip gX ie ig iB io) k0 J5); delta oM lT; rw [← Kz,u4, ← Je,u10]; kernel_rfl
def sZ (J5:Q1):Q1:=(iG cf iS x8 (kJ rL (oM n cf k0 J5)))
def nJ (n:Nat) (iO:aH) (hO:aG) (ib:ak) (ik:am) (iA:ah) (iy:ad) (im:Wr) (iq:ak) (iM:aH) (ip:aa) (gX:aq) (ie:aI) (ig:aa) (iB:ah) (io:aN) (k:ae) (j5:bA) (v1:AV) (v5:AV) (v7:Int) (v8:AV) (v9:AV) (v10:Int) (v11:AV) (v12:Int) (h:Heap):ab:=lz v1 fun a=>ifB (ltF v12 a) (lT n iO hO ib ik iA iy im iq iM ip gX ie ig iB io k j5 v1 v5 v7 v8 v9 v10 v11 v12 (ltF v12 100) h) (lT n iO hO ib ik iA iy im iq iM ip gX ie ig iB io k j5 v1 v5 v7 v8 v9 v10 v11 v12 false h)
def te:Nat→Q1:=lpS (sZ n cf k0)
def la (n:Nat) (iO:aH) (hO:aG) (ib:ak) (ik:am) (iA:ah) (iy:ad) (im:Wr) (iq:ak) (iM:aH) (ip:aa) (gX:aq) (ie:aI) (ig:aa) (iB:ah) (io:aN) (k:ae):Nat→bA:=lpF jA (nJ n iO hO ib ik iA iy im iq iM ip gX ie ig iB io k)
theorem Lx (k:ae) (m:Nat):la n iO hO ib ik iA iy im iq iM ip gX ie ig iB io k (m+1)=nJ n iO hO ib ik iA iy im iq iM ip gX ie ig iB io k (la n iO hO ib ik iA iy im iq iM ip gX ie ig iB io k m):=rfl
theorem KW (m:Nat):lo jA (te n (i8 iO hO ib ik iA iy im iq iM ip gX ie ig iB io) k0 m)=la n iO hO ib ik iA iy im iq iM ip gX ie ig iB io (kap iQ k0) m:=ti (fun J5=>(by obtain ⟨J11,u11⟩:=exi (oM n (i8 iO hO ib ik iA iy im iq iM ip gX ie ig iB io) k0 J5); delta sZ nJ; rw [← JG,u11]; kernel_rfl:lo jA (sZ n (i8 iO hO ib ik iA iy im iq iM ip gX ie ig iB io) k0 J5)=nJ n iO hO ib ik iA iy im iq iM ip gX ie ig iB io (kap iQ k0) (lo jA J5))) m
def AQ:Q1:=(iG cf iS tl (iG cf iS xS (cJ p19 (iG cf iS jF (jU iQ k0)) (iG cf iS yn (iG cf iS yo (cJ p29 (iG cf iS yg (jU iQ k0)) (iG cf iS xq (iG cf iS xD (iG cf iS x5 (iG cf iS xA (cJ p44 (iG cf iS jF (jU iQ k0)) (iG cf iS yj (iG cf iS xI (iG cf iS xr (iG cf iS rp (kJ jA (te n cf k0 n)))))))))))))))))
def qJ (n:Nat) (iO:aH) (hO:aG) (ib:ak) (ik:am) (iA:ah) (iy:ad) (im:Wr) (iq:ak) (iM:aH) (ip:aa) (gX:aq) (ie:aI) (ig:aa) (iB:ah) (io:aN) (k:ae) (a0:AV) (a1:AV) (h:Heap):ab:=A5 h a0 fun a b=>im [] b fun c d=>Vc c fun e=>ifB (lH e) (k false d) (fld 0 d (.ptr a 0) 17 true fun f g=>nR .i64 17 d (.ptr a 0) fun i l=>iO g l d fun m o p=>ifB (lH (eqF o 0)) (Tt (.nil .ptr) m .nilptr fun q=>k (Vx false q) p) (hO m p fun r s t=>nR .u8 18 t (.ptr a 0) fun u w=>iq w 0 t fun x y=>iM m x y fun z A B=>ifB (lH (eqF A 0)) (k false B) (iA m B fun C E=>faK 0 (.ptr a 0) fun F=>fld 16 E F 1 false fun G I=>nR .i64 17 E (.ptr a 0) fun K L=>eld 8 E I L 8 true fun M N=>ip N x E fun O P=>gX x P fun Q R=>VN .u64 256 Q fun S=>xv .i64 S fun T=>L2 .i64 O T fun U=>la n iO hO ib ik iA iy im iq iM ip gX ie ig iB io k n a1 m x z C U .nilslice 0 R)))
def uc (n:Nat) (iO:aH) (hO:aG) (ib:ak) (ik:am) (iA:ah) (iy:ad) (im:Wr) (iq:ak) (iM:aH) (ip:aa) (gX:aq) (ie:aI) (ig:aa) (iB:ah) (io:aN) (a0:AV) (a1:AV) (h:Heap) (k:ae):ab:=qJ n iO hO ib ik iA iy im iq iM ip gX ie ig iB io k a0 a1 h
theorem NN:DZ cf iS n uj iQ k0=AQ n cf k0:=by funext s; kernel_rfl
theorem Ny:lo jJ (DZ (i8 iO hO ib ik iA iy im iq iM ip gX ie ig iB io) iS n uj iQ k0)=cmp jJ (uc n iO hO ib ik iA iy im iq iM ip gX ie ig iB io) (kap iQ k0):=(congrArg (lo jJ) (NN n (i8 iO hO ib ik iA iy im iq iM ip gX ie ig iB io) k0)).trans (show _=qJ n iO hO ib ik iA iy im iq iM ip gX ie ig iB io (kap iQ k0) by obtain ⟨J5,u5⟩:=exi (te n (i8 iO hO ib ik iA iy im iq iM ip gX ie ig iB io) k0 n); delta AQ qJ; rw [← KW,u5]; kernel_rfl)
end
def c8 (n:Nat):am:=uc n (cE n) (ba n) (aM n) (aU n) (bH n) (bz n) (qY be) (bj n) (cF n) (aW n) (aL n) (bq n) (aZ n) (bG n) (aX n)
abbrev Lo (g:ad):Wr:=wrT iJ iH g
def HR (iT:aS):aO:=mH [(oR,oO iT)]
section
variable (iT:aS) (k0:Q0)
def Ks:Q1:=(iG cf vO kg (iG cf vO GI (jU iH k0)))
def vX (n:Nat) (iT:aS) (k:ae) (a0:AV) (h:Heap):ab:=iT a0 false h fun a b=>k a b
def A6 (n:Nat) (iT:aS) (a0:AV) (h:Heap) (k:ae):ab:=vX n iT k a0 h
theorem Xh:DZ cf vO n KJ iH k0=Ks cf k0:=by funext s; kernel_rfl
theorem Wi:lo iJ (DZ (HR iT) vO n KJ iH k0)=cmp iJ (A6 n iT) (kap iH k0):=(congrArg (lo iJ) (Xh n (HR iT) k0)).trans (show _=vX n iT (kap iH k0) by delta Ks vX; kernel_rfl)
end
def dB (n:Nat):ad:=A6 n (bI n)
end
end Go.Proofs.YtlgbmkemfinogaaGreat.Sh
