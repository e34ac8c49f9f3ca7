/- The program's functions in continuation style: printed by a program, held against their code by the kernel. -/
import Derived.Test.YtnlbfbiogfilfaaGreatPaQCode
import Derived.Test.YtnlbfbiogfilfaaGreatAiXRunPaQPrims
import Derived.KernelRfl
set_option linter.all false
namespace Go.Proofs.YtnlbfbiogfilfaaGreat.Sh
open Go.Ai
set_option maxRecDepth 100000
noncomputable section
/-! cofferdam/plan.Check$1 -/
abbrev gZ:=Bool→Int→Int→AV→Heap→(Heap→CRes)→CRes
abbrev vM:=Heap→CRes
def vK (g:gZ):Wr:=fun l h k=>aBool l fun a0 l=>nH .i64 l fun a1 l=>nH .i64 l fun a2 l=>kL l fun a3 l=>lw l (g a0 a1 a2 a3 h fun h=>k (.tuple []) h)
def YS:dD:=ez []
abbrev Zm (k0:Q0) (k:vM):Prop:=∀ h,k0 (.tuple []) h=k h
section
variable (n:Nat) (k0:Q0) (k:vM)
def aeb (n:Nat) (k0:Q0):Q1:=(bE (YS) zC Xr (fun s=>dH (.t p8) s (bE (YS) zC Xc (cG vS k0)) (cG vS k0)))
def RL (n:Nat) (k:vM) (a0:Bool) (a1:Int) (a2:Int) (a3:AV) (h:Heap):CRes:=
 ifB (fS a0)
 (f8 h a3 1 false fun x0=>
 yL [(.int .i64 0),(.int .i64 0)] [(0,1,(.int .i64 a1)),(1,1,(.int .i64 a2))] fun x1=>
 pG h 1 [(.int .i64 0),(.int .i64 0)] [(0,2,x1)] fun x2 h3=>
 mQ h3 2 x0 x2 fun x4 h5=>
 lS h5 a3 1 x4 fun h6=>
 k h6)
 (k h)
theorem aqU (n:Nat) (k0:Q0) (k:vM) (hk:Zm k0 k) (a0:Bool) (a1:Int) (a2:Int) (a3:AV) (h:Heap):(aeb n k0) ⟨cH [(p0,(.bool a0)),(p1,(.int .i64 a1)),(p2,(.int .i64 a2)),(p3,a3)],h⟩=(RL n k) a0 a1 a2 a3 h:=by
  obtain rfl:=fx1 hk
  kernel_rfl
def aqH:Q1:=aeb n k0
def Q3 (n:Nat) (a0:Bool) (a1:Int) (a2:Int) (a3:AV) (h:Heap) (k:vM):CRes:=RL n k a0 a1 a2 a3 h
theorem aqO (n:Nat) (k0:Q0) (s:St):D (ez []) zC n RY (cG vS k0) (fun _ _=>.err) (cG vS k0) s=aqH n k0 s:=by kernel_rfl
theorem aq9 (n:Nat) (a0:Bool) (a1:Int) (a2:Int) (a3:AV) (h:Heap) (k0:Q0):W Q5 vS [] zC n RY [(.bool a0),(.int .i64 a1),(.int .i64 a2),a3] h k0=Q3 n a0 a1 a2 a3 h (fun h=>k0 (.tuple []) h):=by
  let k:vM:=fun h=>k0 (.tuple []) h
  have hk:Zm k0 k:=fun _=>rfl
  have hb:∀ F:Tr AV→CRes,fJ Q5 [(.bool a0),(.int .i64 a1),(.int .i64 a2),a3] .leaf F=F (cH [(p0,(.bool a0)),(p1,(.int .i64 a1)),(p2,(.int .i64 a2)),(p3,a3)]):=fun F=>by kernel_rfl
  exact (lD hb).trans ((aqO n k0 _).trans (aqU n k0 k hk a0 a1 a2 a3 h))
end
def mI (n:Nat):gZ:=Q3 n
/-! cofferdam/plan.within -/
abbrev bS:=Int→Int→Int→Heap→(Bool→Heap→CRes)→CRes
abbrev wF:=Bool→Heap→CRes
def fb (g:bS):Wr:=fun l h k=>nH .i64 l fun a0 l=>nH .i64 l fun a1 l=>nH .i64 l fun a2 l=>lw l (g a0 a1 a2 h fun u0 h=>k (.bool u0) h)
def UM:dD:=ez []
abbrev Kn (k0:Q0) (k:wF):Prop:=∀ u0 h,k0 (.bool u0) h=k u0 h
abbrev Hk:Type:=Bool→Heap→CRes
abbrev R3 (J:Q1) (j:Hk):Prop:=∀ v14 h,J ⟨cH [(p14,(.bool v14))],h⟩=j v14 h
section
variable (n:Nat) (k0:Q0) (k:wF)
def adp (n:Nat) (k0:Q0):Q1:=(bE (UM) Bb ad9 (cG Gp k0))
def Rw (n:Nat) (k:wF) (v14:Bool) (h:Heap):CRes:=
 k v14 h
theorem aqE (hk:Kn k0 k):R3 (adp n k0) (Rw n k):=by
  obtain rfl:=fx2 hk
  intro v14 h
  kernel_rfl
def adO:Q1:=adp n k0
def R5:Hk:=Rw n k
theorem aqu (hk:Kn k0 k):R3 (adO n k0) (R5 n k):=aqE n k0 k hk
def akY (n:Nat) (k0:Q0) (J0:Q1):Q1:=(bE (UM) Bb adf (bE (UM) Bb acM (fun s=>cI adk s J0)))
def Yl (n:Nat) (k:wF) (j0:Hk) (a0:Int) (a1:Int) (a2:Int) (h:Heap):CRes:=
 ifB (fS (ltF a0 a1))
 (j0 (fS (ltF a2 a0)) h)
 (j0 false h)
theorem auo (n:Nat) (k0:Q0) (k:wF) (hk:Kn k0 k) {J0:Q1} {j0:Hk} (h0:R3 J0 j0) (a0:Int) (a1:Int) (a2:Int) (h:Heap):(akY n k0 J0) ⟨cH [(p0,(.int .i64 a0)),(p1,(.int .i64 a1)),(p2,(.int .i64 a2))],h⟩=(Yl n k j0) a0 a1 a2 h:=by
  obtain rfl:=fx2 hk
  obtain rfl:=fx2 h0
  kernel_rfl
def auY:Q1:=akY n k0 (adO n k0)
def XP (n:Nat) (a0:Int) (a1:Int) (a2:Int) (h:Heap) (k:wF):CRes:=Yl n k (R5 n k) a0 a1 a2 h
theorem aut (n:Nat) (k0:Q0) (s:St):D (ez []) Bb n Yr (cG Gp k0) (fun _ _=>.err) (cG Gp k0) s=auY n k0 s:=by kernel_rfl
theorem auA (n:Nat) (a0:Int) (a1:Int) (a2:Int) (h:Heap) (k0:Q0):W XF Gp [] Bb n Yr [(.int .i64 a0),(.int .i64 a1),(.int .i64 a2)] h k0=XP n a0 a1 a2 h (fun u0 h=>k0 (.bool u0) h):=by
  let k:wF:=fun u0 h=>k0 (.bool u0) h
  have hk:Kn k0 k:=fun _ _=>rfl
  have hb:∀ F:Tr AV→CRes,fJ XF [(.int .i64 a0),(.int .i64 a1),(.int .i64 a2)] .leaf F=F (cH [(p0,(.int .i64 a0)),(p1,(.int .i64 a1)),(p2,(.int .i64 a2))]):=fun F=>by kernel_rfl
  exact (lD hb).trans ((aut n k0 _).trans (auo n k0 k hk (aqu n k0 k hk) a0 a1 a2 h))
end
def fN (n:Nat):bS:=XP n
/-! cofferdam/plan.power -/
abbrev fq:=Int→Int→Heap→(Bool→Heap→CRes)→CRes
abbrev zt:=Bool→Heap→CRes
def Eb (g:fq):Wr:=fun l h k=>nH .i64 l fun a0 l=>nH .i64 l fun a1 l=>lw l (g a0 a1 h fun u0 h=>k (.bool u0) h)
def Yk (aC:bS):dD:=ez [(fx,fb aC)]
abbrev OU (k0:Q0) (k:zt):Prop:=∀ u0 h,k0 (.bool u0) h=k u0 h
abbrev Lj:Type:=Bool→Heap→CRes
abbrev Vo (J:Q1) (j:Lj):Prop:=∀ v14 h,J ⟨cH [(p14,(.bool v14))],h⟩=j v14 h
section
variable (n:Nat) (aC:bS) (k0:Q0) (k:zt)
def agy (n:Nat) (aC:bS) (k0:Q0):Q1:=(bE (Yk aC) Em ah9 (cG JZ k0))
def Vk (n:Nat) (aC:bS) (k:zt) (v14:Bool) (h:Heap):CRes:=
 k v14 h
theorem asa (hk:OU k0 k):Vo (agy n aC k0) (Vk n aC k):=by
  obtain rfl:=fx2 hk
  intro v14 h
  kernel_rfl
def ahZ:Q1:=agy n aC k0
def UH:Lj:=Vk n aC k
theorem atR (hk:OU k0 k):Vo (ahZ n aC k0) (UH n aC k):=asa n aC k0 k hk
def anG (n:Nat) (aC:bS) (k0:Q0) (J0:Q1):Q1:=(bE (Yk aC) Em afs (bE (Yk aC) Em aio (fun s=>cI agZ s J0)))
def acu (n:Nat) (aC:bS) (k:zt) (j0:Lj) (a0:Int) (a1:Int) (h:Heap):CRes:=
 aC a0 1 a1 h fun x0 h1=>
 ifB x0
 (YK .i64 a0 1 fun x2=>
 aol .and .i64 a0 x2 fun x3=>
 j0 (eqF x3 0) h1)
 (j0 false h1)
theorem aw9 (n:Nat) (aC:bS) (k0:Q0) (k:zt) (hk:OU k0 k) {J0:Q1} {j0:Lj} (h0:Vo J0 j0) (a0:Int) (a1:Int) (h:Heap):(anG n aC k0 J0) ⟨cH [(p0,(.int .i64 a0)),(p1,(.int .i64 a1))],h⟩=(acu n aC k j0) a0 a1 h:=by
  obtain rfl:=fx2 hk
  obtain rfl:=fx2 h0
  kernel_rfl
def av9:Q1:=anG n aC k0 (ahZ n aC k0)
def aci (n:Nat) (aC:bS) (a0:Int) (a1:Int) (h:Heap) (k:zt):CRes:=acu n aC k (UH n aC k) a0 a1 h
theorem awB (n:Nat) (aC:bS) (k0:Q0) (s:St):D (ez [(fx,fb aC)]) Em n acp (cG JZ k0) (fun _ _=>.err) (cG JZ k0) s=av9 n aC k0 s:=by kernel_rfl
theorem avQ (n:Nat) (aC:bS) (a0:Int) (a1:Int) (h:Heap) (k0:Q0):W ab6 JZ [(fx,fb aC)] Em n acp [(.int .i64 a0),(.int .i64 a1)] h k0=aci n aC a0 a1 h (fun u0 h=>k0 (.bool u0) h):=by
  let k:zt:=fun u0 h=>k0 (.bool u0) h
  have hk:OU k0 k:=fun _ _=>rfl
  have hb:∀ F:Tr AV→CRes,fJ ab6 [(.int .i64 a0),(.int .i64 a1)] .leaf F=F (cH [(p0,(.int .i64 a0)),(p1,(.int .i64 a1))]):=fun F=>by kernel_rfl
  exact (lD hb).trans ((awB n aC k0 _).trans (aw9 n aC k0 k hk (atR n aC k0 k hk) a0 a1 h))
end
def EB (n:Nat):fq:=aci n (fN n)
/-! cofferdam/plan.machine -/
abbrev b8:=AV→Heap→(Bool→Heap→CRes)→CRes
abbrev jm:=Bool→Heap→CRes
def iT (g:b8):Wr:=fun l h k=>kL l fun a0 l=>lw l (g a0 h fun u0 h=>k (.bool u0) h)
def mM (bD:fq) (aC:bS):dD:=ez [(KQ,Eb bD),(fx,fb aC)]
abbrev gf (k0:Q0) (k:jm):Prop:=∀ u0 h,k0 (.bool u0) h=k u0 h
abbrev Ee:Type:=Bool→Heap→CRes
abbrev NH (J:Q1) (j:Ee):Prop:=∀ v44 h,J ⟨cH [(p44,(.bool v44))],h⟩=j v44 h
abbrev Ek:Type:=AV→Bool→Heap→CRes
abbrev NA (J:Q1) (j:Ek):Prop:=∀ v1 v38 h,J ⟨cH [(p1,v1),(p38,(.bool v38))],h⟩=j v1 v38 h
abbrev Ei:Type:=AV→Bool→Heap→CRes
abbrev Oh (J:Q1) (j:Ei):Prop:=∀ v1 v33 h,J ⟨cH [(p1,v1),(p33,(.bool v33))],h⟩=j v1 v33 h
abbrev EM:Type:=AV→Bool→Heap→CRes
abbrev NC (J:Q1) (j:EM):Prop:=∀ v1 v28 h,J ⟨cH [(p1,v1),(p28,(.bool v28))],h⟩=j v1 v28 h
abbrev Eu:Type:=AV→Bool→Heap→CRes
abbrev OL (J:Q1) (j:Eu):Prop:=∀ v1 v23 h,J ⟨cH [(p1,v1),(p23,(.bool v23))],h⟩=j v1 v23 h
abbrev EK:Type:=AV→Bool→Heap→CRes
abbrev NN (J:Q1) (j:EK):Prop:=∀ v1 v18 h,J ⟨cH [(p1,v1),(p18,(.bool v18))],h⟩=j v1 v18 h
abbrev D9:Type:=AV→Bool→Heap→CRes
abbrev Ne (J:Q1) (j:D9):Prop:=∀ v1 v10 h,J ⟨cH [(p1,v1),(p10,(.bool v10))],h⟩=j v1 v10 h
section
variable (n:Nat) (bD:fq) (aC:bS) (k0:Q0) (k:jm)
def Zw (n:Nat) (bD:fq) (aC:bS) (k0:Q0):Q1:=(bE (mM bD aC) km aaK (cG DG k0))
def N7 (n:Nat) (bD:fq) (aC:bS) (k:jm) (v44:Bool) (h:Heap):CRes:=
 k v44 h
theorem apq (hk:gf k0 k):NH (Zw n bD aC k0) (N7 n bD aC k):=by
  obtain rfl:=fx2 hk
  intro v44 h
  kernel_rfl
def abh:Q1:=Zw n bD aC k0
def Oa:Ee:=N7 n bD aC k
theorem anV (hk:gf k0 k):NH (abh n bD aC k0) (Oa n bD aC k):=apq n bD aC k0 k hk
def aaB (n:Nat) (bD:fq) (aC:bS) (k0:Q0) (J6:Q1):Q1:=(bE (mM bD aC) km Zg (fun s=>cI Za s J6))
def Nq (n:Nat) (bD:fq) (aC:bS) (k:jm) (j6:Ee) (v1:AV) (v38:Bool) (h:Heap):CRes:=
 ifB v38
 (faK 16 v1 fun x31=>
 f8 h x31 1 false fun x32=>
 fH x32 fun x33=>
 aC x33 1 8 h fun x34 h35=>
 j6 x34 h35)
 (j6 false h)
theorem api (hk:gf k0 k) {J6:Q1} {j6:Ee} (h6:NH J6 j6):NA (aaB n bD aC k0 J6) (Nq n bD aC k j6):=by
  obtain rfl:=fx2 hk
  obtain rfl:=fx2 h6
  intro v1 v38 h
  kernel_rfl
def aar:Q1:=aaB n bD aC k0 (abh n bD aC k0)
def Ot:Ek:=Nq n bD aC k (Oa n bD aC k)
theorem apk (hk:gf k0 k):NA (aar n bD aC k0) (Ot n bD aC k):=api n bD aC k0 k hk (anV n bD aC k0 k hk)
def ZL (n:Nat) (bD:fq) (aC:bS) (k0:Q0) (J5:Q1):Q1:=(bE (mM bD aC) km YV (fun s=>cI YA s J5))
def Nf (n:Nat) (bD:fq) (aC:bS) (k:jm) (j5:Ek) (v1:AV) (v33:Bool) (h:Heap):CRes:=
 ifB v33
 (faK 5 v1 fun x27=>
 ldI .i64 h x27 fun x28=>
 aC x28 1 64 h fun x29 h30=>
 j5 v1 x29 h30)
 (j5 v1 false h)
theorem anQ (hk:gf k0 k) {J5:Q1} {j5:Ek} (h5:NA J5 j5):Oh (ZL n bD aC k0 J5) (Nf n bD aC k j5):=by
  obtain rfl:=fx2 hk
  obtain rfl:=fx3 h5
  intro v1 v33 h
  kernel_rfl
def aaw:Q1:=ZL n bD aC k0 (aar n bD aC k0)
def M6:Ei:=Nf n bD aC k (Ot n bD aC k)
theorem anX (hk:gf k0 k):Oh (aaw n bD aC k0) (M6 n bD aC k):=anQ n bD aC k0 k hk (apk n bD aC k0 k hk)
def YJ (n:Nat) (bD:fq) (aC:bS) (k0:Q0) (J4:Q1):Q1:=(bE (mM bD aC) km ZP (fun s=>cI YT s J4))
def M7 (n:Nat) (bD:fq) (aC:bS) (k:jm) (j4:Ei) (v1:AV) (v28:Bool) (h:Heap):CRes:=
 ifB v28
 (faK 4 v1 fun x23=>
 ldI .i64 h x23 fun x24=>
 aC x24 1 16 h fun x25 h26=>
 j4 v1 x25 h26)
 (j4 v1 false h)
theorem anS (hk:gf k0 k) {J4:Q1} {j4:Ei} (h4:Oh J4 j4):NC (YJ n bD aC k0 J4) (M7 n bD aC k j4):=by
  obtain rfl:=fx2 hk
  obtain rfl:=fx3 h4
  intro v1 v28 h
  kernel_rfl
def YF:Q1:=YJ n bD aC k0 (aaw n bD aC k0)
def Oy:EM:=M7 n bD aC k (M6 n bD aC k)
theorem aoD (hk:gf k0 k):NC (YF n bD aC k0) (Oy n bD aC k):=anS n bD aC k0 k hk (anX n bD aC k0 k hk)
def Yz (n:Nat) (bD:fq) (aC:bS) (k0:Q0) (J3:Q1):Q1:=(bE (mM bD aC) km Zc (fun s=>cI Zr s J3))
def NY (n:Nat) (bD:fq) (aC:bS) (k:jm) (j3:EM) (v1:AV) (v23:Bool) (h:Heap):CRes:=
 ifB v23
 (faK 2 v1 fun x19=>
 ldI .i64 h x19 fun x20=>
 aC x20 1 16 h fun x21 h22=>
 j3 v1 x21 h22)
 (j3 v1 false h)
theorem an2 (hk:gf k0 k) {J3:Q1} {j3:EM} (h3:NC J3 j3):OL (Yz n bD aC k0 J3) (NY n bD aC k j3):=by
  obtain rfl:=fx2 hk
  obtain rfl:=fx3 h3
  intro v1 v23 h
  kernel_rfl
def YB:Q1:=Yz n bD aC k0 (YF n bD aC k0)
def OE:Eu:=NY n bD aC k (Oy n bD aC k)
theorem ao1 (hk:gf k0 k):OL (YB n bD aC k0) (OE n bD aC k):=an2 n bD aC k0 k hk (aoD n bD aC k0 k hk)
def ZE (n:Nat) (bD:fq) (aC:bS) (k0:Q0) (J2:Q1):Q1:=(bE (mM bD aC) km aa7 (fun s=>cI YN s J2))
def Od (n:Nat) (bD:fq) (aC:bS) (k:jm) (j2:Eu) (v1:AV) (v18:Bool) (h:Heap):CRes:=
 ifB v18
 (faK 3 v1 fun x15=>
 ldI .i64 h x15 fun x16=>
 bD x16 4096 h fun x17 h18=>
 j2 v1 x17 h18)
 (j2 v1 false h)
theorem apE (hk:gf k0 k) {J2:Q1} {j2:Eu} (h2:OL J2 j2):NN (ZE n bD aC k0 J2) (Od n bD aC k j2):=by
  obtain rfl:=fx2 hk
  obtain rfl:=fx3 h2
  intro v1 v18 h
  kernel_rfl
def YU:Q1:=ZE n bD aC k0 (YB n bD aC k0)
def Oj:EK:=Od n bD aC k (OE n bD aC k)
theorem anI (hk:gf k0 k):NN (YU n bD aC k0) (Oj n bD aC k):=apE n bD aC k0 k hk (ao1 n bD aC k0 k hk)
def aat (n:Nat) (bD:fq) (aC:bS) (k0:Q0) (J1:Q1):Q1:=(bE (mM bD aC) km aag (fun s=>cI Z8 s J1))
def NT (n:Nat) (bD:fq) (aC:bS) (k:jm) (j1:EK) (v1:AV) (v10:Bool) (h:Heap):CRes:=
 ifB v10
 (faK 0 v1 fun x10=>
 ldI .i64 h x10 fun x11=>
 iY .i64 1 h v1 fun x12 x13=>
 asT .i64 x11 x13 fun x14=>
 j1 v1 (eqF x14 0) h)
 (j1 v1 false h)
theorem aoP (hk:gf k0 k) {J1:Q1} {j1:EK} (h1:NN J1 j1):Ne (aat n bD aC k0 J1) (NT n bD aC k j1):=by
  obtain rfl:=fx2 hk
  obtain rfl:=fx3 h1
  intro v1 v10 h
  kernel_rfl
def aaz:Q1:=aat n bD aC k0 (YU n bD aC k0)
def Oz:D9:=NT n bD aC k (Oj n bD aC k)
theorem aoh (hk:gf k0 k):Ne (aaz n bD aC k0) (Oz n bD aC k):=aoP n bD aC k0 k hk (anI n bD aC k0 k hk)
def ahI (n:Nat) (bD:fq) (aC:bS) (k0:Q0) (J0:Q1):Q1:=(bE (mM bD aC) km Zo (bE (mM bD aC) km ZI (fun s=>cI aai s J0)))
def VH (n:Nat) (bD:fq) (aC:bS) (k:jm) (j0:D9) (a0:AV) (h:Heap):CRes:=
 Dh h a0 fun x0 h1=>
 iY .i64 1 h1 (.ptr x0 0) fun x2 x3=>
 bD x3 16 h1 fun x4 h5=>
 ifB x4
 (faK 0 (.ptr x0 0) fun x6=>
 ldI .i64 h5 x6 fun x7=>
 aC x7 1 4096 h5 fun x8 h9=>
 j0 (.ptr x0 0) x8 h9)
 (j0 (.ptr x0 0) false h5)
theorem asd (n:Nat) (bD:fq) (aC:bS) (k0:Q0) (k:jm) (hk:gf k0 k) {J0:Q1} {j0:D9} (h0:Ne J0 j0) (a0:AV) (h:Heap):(ahI n bD aC k0 J0) ⟨cH [(p0,a0)],h⟩=(VH n bD aC k j0) a0 h:=by
  obtain rfl:=fx2 hk
  obtain rfl:=fx3 h0
  kernel_rfl
def arR:Q1:=ahI n bD aC k0 (aaz n bD aC k0)
def Vy (n:Nat) (bD:fq) (aC:bS) (a0:AV) (h:Heap) (k:jm):CRes:=VH n bD aC k (Oz n bD aC k) a0 h
theorem arH (n:Nat) (bD:fq) (aC:bS) (k0:Q0) (s:St):D (ez [(KQ,Eb bD),(fx,fb aC)]) km n U2 (cG DG k0) (fun _ _=>.err) (cG DG k0) s=arR n bD aC k0 s:=by kernel_rfl
theorem atz (n:Nat) (bD:fq) (aC:bS) (a0:AV) (h:Heap) (k0:Q0):W Vx DG [(KQ,Eb bD),(fx,fb aC)] km n U2 [a0] h k0=Vy n bD aC a0 h (fun u0 h=>k0 (.bool u0) h):=by
  let k:jm:=fun u0 h=>k0 (.bool u0) h
  have hk:gf k0 k:=fun _ _=>rfl
  have hb:∀ F:Tr AV→CRes,fJ Vx [a0] .leaf F=F (cH [(p0,a0)]):=fun F=>by kernel_rfl
  exact (lD hb).trans ((arH n bD aC k0 _).trans (asd n bD aC k0 k hk (aoh n bD aC k0 k hk) a0 h))
end
def gm (n:Nat):b8:=Vy n (EB n) (fN n)
/-! cofferdam/cost.Check -/
abbrev ck:=AV→Heap→(Int→Heap→CRes)→CRes
abbrev mO:=Int→Heap→CRes
def ig (g:ck):Wr:=fun l h k=>kL l fun a0 l=>lw l (g a0 h fun u0 h=>k (.int .i64 u0) h)
def ir:dD:=ez []
abbrev jG (k0:Q0) (k:mO):Prop:=∀ u0 h,k0 (.int .i64 u0) h=k u0 h
abbrev KF:Type:=Heap→CRes
abbrev UJ (J:Q1) (j:KF):Prop:=∀ h,J ⟨cH [],h⟩=j h
abbrev Kd:Type:=AV→Int→Int→Bool→Heap→CRes
abbrev VP (J:Q1) (j:Kd):Prop:=∀ v35 v36 v37 v46 h,J ⟨cH [(p35,v35),(p36,(.int .i64 v36)),(p37,(.int .i64 v37)),(p46,(.bool v46))],h⟩=j v35 v36 v37 v46 h
abbrev om:Type:=AV→Int→Int→Heap→CRes
abbrev D5 (J:Q1) (j:om):Prop:=∀ v35 v36 v37 h,J ⟨cH [(p35,v35),(p36,(.int .i64 v36)),(p37,(.int .i64 v37))],h⟩=j v35 v36 v37 h
abbrev KK:Type:=AV→Heap→CRes
abbrev Vb (J:Q1) (j:KK):Prop:=∀ v1 h,J ⟨cH [(p1,v1)],h⟩=j v1 h
abbrev Kv:Type:=AV→Int→AV→Int→Int→Bool→Heap→CRes
abbrev VK (J:Q1) (j:Kv):Prop:=∀ v1 v5 v14 v15 v16 v26 h,J ⟨cH [(p1,v1),(p5,(.int .u64 v5)),(p14,v14),(p15,(.int .i64 v15)),(p16,(.int .i64 v16)),(p26,(.bool v26))],h⟩=j v1 v5 v14 v15 v16 v26 h
abbrev oN:Type:=AV→Int→AV→Int→Int→Heap→CRes
abbrev DK (J:Q1) (j:oN):Prop:=∀ v1 v3 v14 v15 v16 h,J ⟨cH [(p1,v1),(p3,(.int .u64 v3)),(p14,v14),(p15,(.int .i64 v15)),(p16,(.int .i64 v16))],h⟩=j v1 v3 v14 v15 v16 h
section
variable (n:Nat) (k0:Q0) (k:mO)
def af8 (n:Nat) (k0:Q0):Q1:=(bE (ir) gN afA (cG zf k0))
def Us (n:Nat) (k:mO) (h:Heap):CRes:=
 k 0 h
theorem asm (hk:jG k0 k):UJ (af8 n k0) (Us n k):=by
  obtain rfl:=fx2 hk
  intro h
  kernel_rfl
def ahW:Q1:=af8 n k0
def Kq:KF:=Us n k
theorem asN (hk:jG k0 k):UJ (ahW n k0) (Kq n k):=asm n k0 k hk
def ahx (n:Nat) (k0:Q0) (J1:Q1):Q1:=(fun s=>dH (.t p46) s (bE (ir) gN ahl (cG zf k0)) (bE (ir) gN ahU (fun s=>cI UE s J1)))
def VF (n:Nat) (k:mO) (j1:om) (v35:AV) (v36:Int) (v37:Int) (v46:Bool) (h:Heap):CRes:=
 ifB v46
 (k 100 h)
 (lp .i64 v37 1 fun x25=>
 j1 v35 v36 x25 h)
theorem asQ (hk:jG k0 k) {J1:Q1} {j1:om} (h1:D5 J1 j1):VP (ahx n k0 J1) (VF n k j1):=by
  obtain rfl:=fx2 hk
  obtain rfl:=fx4 h1
  intro v35 v36 v37 v46 h
  kernel_rfl
def afP (J1:Q1):Q1:=ahx n k0 J1
def K7 (j1:om):Kd:=VF n k j1
theorem asF (hk:jG k0 k) {J1:Q1} {j1:om} (h1:D5 J1 j1):VP (afP n k0 J1) (K7 n k j1):=asQ n k0 k hk h1
def aia (n:Nat) (k0:Q0) (J0:Q1) (J2:Q1):Q1:=(bE (ir) gN afu (fun s=>dH (.t p38) s (bE (ir) gN ag1 (bE (ir) gN agN (fun s=>cI ahO s J2))) (fun s=>cI agq s J0)))
def Kh (n:Nat) (k:mO) (j0:KF) (j2:Kd) (v35:AV) (v36:Int) (v37:Int) (h:Heap):CRes:=
 ifB (ltF v37 v36)
 (Lw .u64 1 h v35 v37 fun x22 x23=>
 ifB (ltF x23 1)
 (j2 v35 v36 v37 true h)
 (j2 v35 v36 v37 (ltF 65536 x23) h))
 (j0 h)
theorem atC (hk:jG k0 k) {J0:Q1} {j0:KF} (h0:UJ J0 j0) {J2:Q1} {j2:Kd} (h2:VP J2 j2):D5 (aia n k0 J0 J2) (Kh n k j0 j2):=by
  obtain rfl:=fx2 hk
  obtain rfl:=fx1 h0
  obtain rfl:=fx5 h2
  intro v35 v36 v37 h
  kernel_rfl
def afw (m:Nat):Q1:=Nat.rec (motive:=fun _=>Q1) (fun _=>.err) (fun _ ih=>aia n k0 (ahW n k0) (afP n k0 ih)) m
def JX (m:Nat):om:=Nat.rec (motive:=fun _=>om) (fun _ _ _ _=>.err) (fun _ ih=>Kh n k (Kq n k) (K7 n k ih)) m
theorem atO (hk:jG k0 k) (m:Nat):D5 (afw n k0 m) (JX n k m):=by
  induction m with
  | zero=>intro v35 v36 v37 h; rfl
  | succ m ih=>exact atC n k0 k hk (asN n k0 k hk) (asF n k0 k hk ih)
def agM (n:Nat) (k0:Q0) (J1:Q1):Q1:=(bE (ir) gN ahN (fun s=>cI UE s J1))
def Vt (n:Nat) (k:mO) (j1:om) (v1:AV) (h:Heap):CRes:=
 iY .u64 3 h v1 fun x11 x12=>
 iY .u64 4 h v1 fun x13 x14=>
 iY .u64 5 h v1 fun x15 x16=>
 pG h 3 [(.int .u64 0),(.int .u64 0),(.int .u64 0)] [(0,1,(.int .u64 x12)),(1,1,(.int .u64 x14)),(2,1,(.int .u64 x16))] fun x17 h18=>
 fH x17 fun x19=>
 j1 x17 x19 0 h18
theorem atK (hk:jG k0 k) {J1:Q1} {j1:om} (h1:D5 J1 j1):Vb (agM n k0 J1) (Vt n k j1):=by
  obtain rfl:=fx2 hk
  obtain rfl:=fx4 h1
  intro v1 h
  kernel_rfl
def ahR:Q1:=agM n k0 (afw n k0 n)
def DJ:KK:=Vt n k (JX n k n)
theorem atN (hk:jG k0 k):Vb (ahR n k0) (DJ n k):=atK n k0 k hk (atO n k0 k hk n)
def aic (n:Nat) (k0:Q0) (J4:Q1):Q1:=(fun s=>dH (.t p26) s (bE (ir) gN afR (cG zf k0)) (bE (ir) gN ahu (bE (ir) gN agf (fun s=>cI Vf s J4))))
def Uc (n:Nat) (k:mO) (j4:oN) (v1:AV) (v5:Int) (v14:AV) (v15:Int) (v16:Int) (v26:Bool) (h:Heap):CRes:=
 ifB v26
 (k 100 h)
 (lp .i64 v16 1 fun x24=>
 j4 v1 v5 v14 v15 x24 h)
theorem ast (hk:jG k0 k) {J4:Q1} {j4:oN} (h4:DK J4 j4):VK (aic n k0 J4) (Uc n k j4):=by
  obtain rfl:=fx2 hk
  obtain rfl:=fx6 h4
  intro v1 v5 v14 v15 v16 v26 h
  kernel_rfl
def agv (J4:Q1):Q1:=aic n k0 J4
def KA (j4:oN):Kv:=Uc n k j4
theorem arZ (hk:jG k0 k) {J4:Q1} {j4:oN} (h4:DK J4 j4):VK (agv n k0 J4) (KA n k j4):=ast n k0 k hk h4
def ahY (n:Nat) (k0:Q0) (J3:Q1) (J5:Q1):Q1:=(bE (ir) gN aef (fun s=>dH (.t p17) s (bE (ir) gN acY (bE (ir) gN adg (fun s=>cI afz s J5))) (fun s=>cI ahH s J3)))
def Ln (n:Nat) (k:mO) (j3:KK) (j5:Kv) (v1:AV) (v3:Int) (v14:AV) (v15:Int) (v16:Int) (h:Heap):CRes:=
 ifB (ltF v16 v15)
 (Lw .u64 1 h v14 v16 fun x20 x21=>
 ifB (ltF x21 v3)
 (j5 v1 x21 v14 v15 v16 true h)
 (j5 v1 x21 v14 v15 v16 (ltF 65536 x21) h))
 (j3 v1 h)
theorem ar1 (hk:jG k0 k) {J3:Q1} {j3:KK} (h3:Vb J3 j3) {J5:Q1} {j5:Kv} (h5:VK J5 j5):DK (ahY n k0 J3 J5) (Ln n k j3 j5):=by
  obtain rfl:=fx2 hk
  obtain rfl:=fx2 h3
  obtain rfl:=fx7 h5
  intro v1 v3 v14 v15 v16 h
  kernel_rfl
def ag2 (m:Nat):Q1:=Nat.rec (motive:=fun _=>Q1) (fun _=>.err) (fun _ ih=>ahY n k0 (ahR n k0) (agv n k0 ih)) m
def KI (m:Nat):oN:=Nat.rec (motive:=fun _=>oN) (fun _ _ _ _ _ _=>.err) (fun _ ih=>Ln n k (DJ n k) (KA n k ih)) m
theorem asU (hk:jG k0 k) (m:Nat):DK (ag2 n k0 m) (KI n k m):=by
  induction m with
  | zero=>intro v1 v3 v14 v15 v16 h; rfl
  | succ m ih=>exact ar1 n k0 k hk (atN n k0 k hk) (arZ n k0 k hk ih)
def ann (n:Nat) (k0:Q0) (J4:Q1):Q1:=(bE (ir) gN ade (bE (ir) gN aeJ (bE (ir) gN adW (fun s=>cI Vf s J4))))
def ab0 (n:Nat) (k:mO) (j4:oN) (a0:AV) (h:Heap):CRes:=
 Dh h a0 fun x0 h1=>
 iY .u64 0 h1 (.ptr x0 0) fun x2 x3=>
 iY .u64 1 h1 (.ptr x0 0) fun x4 x5=>
 iY .u64 2 h1 (.ptr x0 0) fun x6 x7=>
 pG h1 3 [(.int .u64 0),(.int .u64 0),(.int .u64 0)] [(0,1,(.int .u64 x3)),(1,1,(.int .u64 x5)),(2,1,(.int .u64 x7))] fun x8 h9=>
 fH x8 fun x10=>
 j4 (.ptr x0 0) 1 x8 x10 0 h9
theorem awF (n:Nat) (k0:Q0) (k:mO) (hk:jG k0 k) {J4:Q1} {j4:oN} (h4:DK J4 j4) (a0:AV) (h:Heap):(ann n k0 J4) ⟨cH [(p0,a0)],h⟩=(ab0 n k j4) a0 h:=by
  obtain rfl:=fx2 hk
  obtain rfl:=fx6 h4
  kernel_rfl
def awe:Q1:=ann n k0 (ag2 n k0 n)
def abS (n:Nat) (a0:AV) (h:Heap) (k:mO):CRes:=ab0 n k (KI n k n) a0 h
theorem awd (n:Nat) (k0:Q0) (s:St):D (ez []) gN n acm (cG zf k0) (fun _ _=>.err) (cG zf k0) s=awe n k0 s:=by kernel_rfl
theorem awp (n:Nat) (a0:AV) (h:Heap) (k0:Q0):W acb zf [] gN n acm [a0] h k0=abS n a0 h (fun u0 h=>k0 (.int .i64 u0) h):=by
  let k:mO:=fun u0 h=>k0 (.int .i64 u0) h
  have hk:jG k0 k:=fun _ _=>rfl
  have hb:∀ F:Tr AV→CRes,fJ acb [a0] .leaf F=F (cH [(p0,a0)]):=fun F=>by kernel_rfl
  exact (lD hb).trans ((awd n k0 _).trans (awF n k0 k hk (asU n k0 k hk n) a0 h))
end
def gy (n:Nat):ck:=abS n
abbrev cX:=AV→Int→Heap→(Int→Heap→CRes)→CRes
abbrev gF:=Int→Heap→CRes
def fd (g:cX):Wr:=fun l h k=>kL l fun a0 l=>nH .i64 l fun a1 l=>lw l (g a0 a1 h fun u0 h=>k (.int .i64 u0) h)
def gl:dD:=ez []
abbrev jk (k0:Q0) (k:gF):Prop:=∀ u0 h,k0 (.int .i64 u0) h=k u0 h
abbrev nS:Type:=Heap→CRes
abbrev sP (J:Q1) (j:nS):Prop:=∀ h,J ⟨cH [],h⟩=j h
abbrev gM:Type:=AV→Int→Int→Int→Heap→CRes
abbrev nV (J:Q1) (j:gM):Prop:=∀ v0 v1 v7 v8 h,J ⟨cH [(p0,v0),(p1,(.int .i64 v1)),(p7,(.int .i64 v7)),(p8,(.int .i64 v8))],h⟩=j v0 v1 v7 v8 h
section
variable (n:Nat) (k0:Q0) (k:gF)
def Ci (n:Nat) (k0:Q0):Q1:=(bE (gl) eP Cg (cG jK k0))
def sE (n:Nat) (k:gF) (h:Heap):CRes:=
 k (-1) h
theorem TM (hk:jk k0 k):sP (Ci n k0) (sE n k):=by
  obtain rfl:=fx2 hk
  intro h
  kernel_rfl
def CV:Q1:=Ci n k0
def nR:nS:=sE n k
theorem TA (hk:jk k0 k):sP (CV n k0) (nR n k):=TM n k0 k hk
def CH (n:Nat) (k0:Q0) (J0:Q1) (J1:Q1):Q1:=(bE (gl) eP B5 (fun s=>dH (.t p9) s (bE (gl) eP Cz (bE (gl) eP CY (fun s=>dH (.t p16) s (bE (gl) eP CR (cG jK k0)) (bE (gl) eP Cc (fun s=>cI sX s J1))))) (fun s=>cI CN s J0)))
def nI (n:Nat) (k:gF) (j0:nS) (j1:gM) (v0:AV) (v1:Int) (v7:Int) (v8:Int) (h:Heap):CRes:=
 ifB (ltF v8 v7)
 (Lw .i64 1 h v0 v8 fun x1 x2=>
 ifB (eqF v1 x2)
 (k v8 h)
 (lp .i64 v8 1 fun x3=>
 j1 v0 v1 v7 x3 h))
 (j0 h)
theorem TV (hk:jk k0 k) {J0:Q1} {j0:nS} (h0:sP J0 j0) {J1:Q1} {j1:gM} (h1:nV J1 j1):nV (CH n k0 J0 J1) (nI n k j0 j1):=by
  obtain rfl:=fx2 hk
  obtain rfl:=fx1 h0
  obtain rfl:=fx5 h1
  intro v0 v1 v7 v8 h
  kernel_rfl
def CA (m:Nat):Q1:=Nat.rec (motive:=fun _=>Q1) (fun _=>.err) (fun _ ih=>CH n k0 (CV n k0) ih) m
def nW (m:Nat):gM:=Nat.rec (motive:=fun _=>gM) (fun _ _ _ _ _=>.err) (fun _ ih=>nI n k (nR n k) ih) m
theorem TD (hk:jk k0 k) (m:Nat):nV (CA n k0 m) (nW n k m):=by
  induction m with
  | zero=>intro v0 v1 v7 v8 h; rfl
  | succ m ih=>exact TV n k0 k hk (TA n k0 k hk) ih
def EU (n:Nat) (k0:Q0) (J1:Q1):Q1:=(bE (gl) eP Ca (bE (gl) eP C0 (fun s=>cI sX s J1)))
def vu (n:Nat) (k:gF) (j1:gM) (a0:AV) (a1:Int) (h:Heap):CRes:=
 fH a0 fun x0=>
 j1 a0 a1 x0 0 h
theorem VV (n:Nat) (k0:Q0) (k:gF) (hk:jk k0 k) {J1:Q1} {j1:gM} (h1:nV J1 j1) (a0:AV) (a1:Int) (h:Heap):(EU n k0 J1) ⟨cH [(p0,a0),(p1,(.int .i64 a1))],h⟩=(vu n k j1) a0 a1 h:=by
  obtain rfl:=fx2 hk
  obtain rfl:=fx5 h1
  kernel_rfl
def V9:Q1:=EU n k0 (CA n k0 n)
def vg (n:Nat) (a0:AV) (a1:Int) (h:Heap) (k:gF):CRes:=vu n k (nW n k n) a0 a1 h
theorem V3 (n:Nat) (k0:Q0) (s:St):D (ez []) eP n vt (cG jK k0) (fun _ _=>.err) (cG jK k0) s=V9 n k0 s:=by kernel_rfl
theorem V2 (n:Nat) (a0:AV) (a1:Int) (h:Heap) (k0:Q0):W vE jK [] eP n vt [a0,(.int .i64 a1)] h k0=vg n a0 a1 h (fun u0 h=>k0 (.int .i64 u0) h):=by
  let k:gF:=fun u0 h=>k0 (.int .i64 u0) h
  have hk:jk k0 k:=fun _ _=>rfl
  have hb:∀ F:Tr AV→CRes,fJ vE [a0,(.int .i64 a1)] .leaf F=F (cH [(p0,a0),(p1,(.int .i64 a1))]):=fun F=>by kernel_rfl
  exact (lD hb).trans ((V3 n k0 _).trans (VV n k0 k hk (TD n k0 k hk n) a0 a1 h))
end
def fP (n:Nat):cX:=vg n
abbrev cE:=AV→Int→Heap→(Bool→Heap→CRes)→CRes
abbrev iG:=Bool→Heap→CRes
def iD (g:cE):Wr:=fun l h k=>kL l fun a0 l=>nH .i64 l fun a1 l=>lw l (g a0 a1 h fun u0 h=>k (.bool u0) h)
def yU (aY:cX):dD:=ez [(fQ,fd aY)]
abbrev yV (k0:Q0) (k:iG):Prop:=∀ u0 h,k0 (.bool u0) h=k u0 h
section
variable (n:Nat) (aY:cX) (k0:Q0) (k:iG)
def AM (n:Nat) (aY:cX) (k0:Q0):Q1:=(bE (yU aY) ku xY (bE (yU aY) ku yF (cG kp k0)))
def rE (n:Nat) (aY:cX) (k:iG) (a0:AV) (a1:Int) (h:Heap):CRes:=
 aY a0 a1 h fun x0 h1=>
 k (fS (ltF x0 0)) h1
theorem R2 (n:Nat) (aY:cX) (k0:Q0) (k:iG) (hk:yV k0 k) (a0:AV) (a1:Int) (h:Heap):(AM n aY k0) ⟨cH [(p0,a0),(p1,(.int .i64 a1))],h⟩=(rE n aY k) a0 a1 h:=by
  obtain rfl:=fx2 hk
  kernel_rfl
def R1:Q1:=AM n aY k0
def rX (n:Nat) (aY:cX) (a0:AV) (a1:Int) (h:Heap) (k:iG):CRes:=rE n aY k a0 a1 h
theorem QB (n:Nat) (aY:cX) (k0:Q0) (s:St):D (ez [(fQ,fd aY)]) ku n rJ (cG kp k0) (fun _ _=>.err) (cG kp k0) s=R1 n aY k0 s:=by kernel_rfl
theorem Ru (n:Nat) (aY:cX) (a0:AV) (a1:Int) (h:Heap) (k0:Q0):W rB kp [(fQ,fd aY)] ku n rJ [a0,(.int .i64 a1)] h k0=rX n aY a0 a1 h (fun u0 h=>k0 (.bool u0) h):=by
  let k:iG:=fun u0 h=>k0 (.bool u0) h
  have hk:yV k0 k:=fun _ _=>rfl
  have hb:∀ F:Tr AV→CRes,fJ rB [a0,(.int .i64 a1)] .leaf F=F (cH [(p0,a0),(p1,(.int .i64 a1))]):=fun F=>by kernel_rfl
  exact (lD hb).trans ((QB n aY k0 _).trans (R2 n aY k0 k hk a0 a1 h))
end
def cV (n:Nat):cE:=rX n (fP n)
/-! cofferdam/plan.colours -/
abbrev mE:=AV→Int→Heap→(Bool→Heap→CRes)→CRes
abbrev iM:=Bool→Heap→CRes
def xP (g:mE):Wr:=fun l h k=>kL l fun a0 l=>nH .i64 l fun a1 l=>lw l (g a0 a1 h fun u0 h=>k (.bool u0) h)
def ge (aJ:cE):dD:=ez [(kw,iD aJ)]
abbrev g0 (k0:Q0) (k:iM):Prop:=∀ u0 h,k0 (.bool u0) h=k u0 h
abbrev EH:Type:=AV→Heap→CRes
abbrev NR (J:Q1) (j:EH):Prop:=∀ v5 h,J ⟨cH [(p5,v5)],h⟩=j v5 h
abbrev EC:Type:=Int→AV→AV→AV→Int→Int→Heap→CRes
abbrev Ny (J:Q1) (j:EC):Prop:=∀ v1 v2 v5 v16 v17 v18 h,J ⟨cH [(p1,(.int .i64 v1)),(p2,v2),(p5,v5),(p16,v16),(p17,(.int .i64 v17)),(p18,(.int .i64 v18))],h⟩=j v1 v2 v5 v16 v17 v18 h
abbrev pT:Type:=Int→AV→AV→Int→AV→Int→Int→AV→Int→Int→Heap→CRes
abbrev Ep (J:Q1) (j:pT):Prop:=∀ v1 v2 v5 v7 v16 v17 v18 v47 v48 v49 h,J ⟨cH [(p1,(.int .i64 v1)),(p2,v2),(p5,v5),(p7,(.int .i64 v7)),(p16,v16),(p17,(.int .i64 v17)),(p18,(.int .i64 v18)),(p47,v47),(p48,(.int .i64 v48)),(p49,(.int .i64 v49))],h⟩=j v1 v2 v5 v7 v16 v17 v18 v47 v48 v49 h
abbrev EN:Type:=Int→AV→AV→Int→AV→Int→Int→Bool→Heap→CRes
abbrev OJ (J:Q1) (j:EN):Prop:=∀ v1 v2 v5 v7 v16 v17 v18 v43 h,J ⟨cH [(p1,(.int .i64 v1)),(p2,v2),(p5,v5),(p7,(.int .i64 v7)),(p16,v16),(p17,(.int .i64 v17)),(p18,(.int .i64 v18)),(p43,(.bool v43))],h⟩=j v1 v2 v5 v7 v16 v17 v18 v43 h
abbrev Eh:Type:=Int→AV→AV→Int→Int→AV→Int→Int→Bool→Heap→CRes
abbrev ND (J:Q1) (j:Eh):Prop:=∀ v1 v2 v5 v6 v7 v16 v17 v18 v30 h,J ⟨cH [(p1,(.int .i64 v1)),(p2,v2),(p5,v5),(p6,(.int .i64 v6)),(p7,(.int .i64 v7)),(p16,v16),(p17,(.int .i64 v17)),(p18,(.int .i64 v18)),(p30,(.bool v30))],h⟩=j v1 v2 v5 v6 v7 v16 v17 v18 v30 h
abbrev fZ:Type:=Int→AV→AV→AV→Int→Int→Heap→CRes
abbrev nD (J:Q1) (j:fZ):Prop:=∀ v1 v2 v5 v16 v17 v18 h,J ⟨cH [(p1,(.int .i64 v1)),(p2,v2),(p5,v5),(p16,v16),(p17,(.int .i64 v17)),(p18,(.int .i64 v18))],h⟩=j v1 v2 v5 v16 v17 v18 h
section
variable (n:Nat) (aJ:cE) (k0:Q0) (k:iM)
def Z4 (n:Nat) (aJ:cE) (k0:Q0):Q1:=(bE (ge aJ) fy ZO (cG un k0))
def NK (n:Nat) (aJ:cE) (k:iM) (v5:AV) (h:Heap):CRes:=
 fH v5 fun x8=>
 k (ltF 0 x8) h
theorem aod (hk:g0 k0 k):NR (Z4 n aJ k0) (NK n aJ k):=by
  obtain rfl:=fx2 hk
  intro v5 h
  kernel_rfl
def Y7:Q1:=Z4 n aJ k0
def EG:EH:=NK n aJ k
theorem aot (hk:g0 k0 k):NR (Y7 n aJ k0) (EG n aJ k):=aod n aJ k0 k hk
def ZV (n:Nat) (aJ:cE) (k0:Q0) (J1:Q1):Q1:=(bE (ge aJ) fy Z9 (fun s=>cI NO s J1))
def Nt (n:Nat) (aJ:cE) (k:iM) (j1:fZ) (v1:Int) (v2:AV) (v5:AV) (v16:AV) (v17:Int) (v18:Int) (h:Heap):CRes:=
 lp .i64 v18 1 fun x20=>
 j1 v1 v2 v5 v16 v17 x20 h
theorem apt (hk:g0 k0 k) {J1:Q1} {j1:fZ} (h1:nD J1 j1):Ny (ZV n aJ k0 J1) (Nt n aJ k j1):=by
  obtain rfl:=fx2 hk
  obtain rfl:=fx7 h1
  intro v1 v2 v5 v16 v17 v18 h
  kernel_rfl
def Zh (J1:Q1):Q1:=ZV n aJ k0 J1
def EL (j1:fZ):EC:=Nt n aJ k j1
theorem aow (hk:g0 k0 k) {J1:Q1} {j1:fZ} (h1:nD J1 j1):Ny (Zh n aJ k0 J1) (EL n aJ k j1):=apt n aJ k0 k hk h1
def Ze (n:Nat) (aJ:cE) (k0:Q0) (J2:Q1) (J3:Q1):Q1:=(bE (ge aJ) fy aa8 (fun s=>dH (.t p50) s (bE (ge aJ) fy Yw (bE (ge aJ) fy abi (fun s=>dH (.t p56) s (bE (ge aJ) fy ZC (cG un k0)) (bE (ge aJ) fy abf (fun s=>cI M9 s J3))))) (fun s=>cI aav s J2)))
def EO (n:Nat) (aJ:cE) (k:iM) (j2:EC) (j3:pT) (v1:Int) (v2:AV) (v5:AV) (v7:Int) (v16:AV) (v17:Int) (v18:Int) (v47:AV) (v48:Int) (v49:Int) (h:Heap):CRes:=
 ifB (ltF v49 v48)
 (eld 8 h v47 v49 8 true fun x21 x22=>
 Bv h (.cells [.nilslice,(.int .i64 0),(.int .i64 0),(.int .i64 0),(.int .i64 0),(.int .i64 0),(.int .i64 0),(.int .i64 0)] true 0) fun x23 h24=>
 lS h24 (.ptr x23 0) 8 x22 fun h25=>
 fld 0 h25 (.ptr x23 0) 1 false fun x26 x27=>
 aJ x27 v7 h25 fun x28 h29=>
 ifB x28
 (k false h29)
 (lp .i64 v49 1 fun x30=>
 j3 v1 v2 v5 v7 v16 v17 v18 v47 v48 x30 h29))
 (j2 v1 v2 v5 v16 v17 v18 h)
theorem anW (hk:g0 k0 k) {J2:Q1} {j2:EC} (h2:Ny J2 j2) {J3:Q1} {j3:pT} (h3:Ep J3 j3):Ep (Ze n aJ k0 J2 J3) (EO n aJ k j2 j3):=by
  obtain rfl:=fx2 hk
  obtain rfl:=fx7 h2
  obtain rfl:=fx11 h3
  intro v1 v2 v5 v7 v16 v17 v18 v47 v48 v49 h
  kernel_rfl
def ZN (J1:Q1) (m:Nat):Q1:=Nat.rec (motive:=fun _=>Q1) (fun _=>.err) (fun _ ih=>Ze n aJ k0 (Zh n aJ k0 J1) ih) m
def yI (j1:fZ) (m:Nat):pT:=Nat.rec (motive:=fun _=>pT) (fun _ _ _ _ _ _ _ _ _ _ _=>.err) (fun _ ih=>EO n aJ k (EL n aJ k j1) ih) m
theorem aou (hk:g0 k0 k) {J1:Q1} {j1:fZ} (h1:nD J1 j1) (m:Nat):Ep (ZN n aJ k0 J1 m) (yI n aJ k j1 m):=by
  induction m with
  | zero=>intro v1 v2 v5 v7 v16 v17 v18 v47 v48 v49 h; rfl
  | succ m ih=>exact anW n aJ k0 k hk (aow n aJ k0 k hk h1) ih
def ZS (n:Nat) (aJ:cE) (k0:Q0) (J3:Q1):Q1:=(fun s=>dH (.t p43) s (bE (ge aJ) fy Zk (cG un k0)) (bE (ge aJ) fy aaU (fun s=>cI M9 s J3)))
def Ni (n:Nat) (aJ:cE) (k:iM) (j3:pT) (v1:Int) (v2:AV) (v5:AV) (v7:Int) (v16:AV) (v17:Int) (v18:Int) (v43:Bool) (h:Heap):CRes:=
 ifB v43
 (k false h)
 (fld 16 h v2 1 false fun x16 x17=>
 slK (.sl 8) x17 none (some (.int .i64 v1)) none fun x18=>
 fH x18 fun x19=>
 j3 v1 v2 v5 v7 v16 v17 v18 x18 x19 0 h)
theorem ao4 (hk:g0 k0 k) {J3:Q1} {j3:pT} (h3:Ep J3 j3):OJ (ZS n aJ k0 J3) (Ni n aJ k j3):=by
  obtain rfl:=fx2 hk
  obtain rfl:=fx11 h3
  intro v1 v2 v5 v7 v16 v17 v18 v43 h
  kernel_rfl
def Zt (J1:Q1):Q1:=ZS n aJ k0 (ZN n aJ k0 J1 n)
def NP (j1:fZ):EN:=Ni n aJ k (yI n aJ k j1 n)
theorem an4 (hk:g0 k0 k) {J1:Q1} {j1:fZ} (h1:nD J1 j1):OJ (Zt n aJ k0 J1) (NP n aJ k j1):=ao4 n aJ k0 k hk (aou n aJ k0 k hk h1 n)
def YY (n:Nat) (aJ:cE) (k0:Q0) (J5:Q1):Q1:=(bE (ge aJ) fy WF (fun s=>cI Zn s J5))
def N4 (n:Nat) (aJ:cE) (k:iM) (j5:EN) (v1:Int) (v2:AV) (v5:AV) (v6:Int) (v7:Int) (v16:AV) (v17:Int) (v18:Int) (v30:Bool) (h:Heap):CRes:=
 ifB v30
 (j5 v1 v2 v5 v7 v16 v17 v18 true h)
 (ifB (ltF 0 v6)
 (YK .i64 v6 1 fun x13=>
 Lw .i64 1 h v5 x13 fun x14 x15=>
 j5 v1 v2 v5 v7 v16 v17 v18 (fS (ltF x15 v7)) h)
 (j5 v1 v2 v5 v7 v16 v17 v18 false h))
theorem aoT (hk:g0 k0 k) {J5:Q1} {j5:EN} (h5:OJ J5 j5):ND (YY n aJ k0 J5) (N4 n aJ k j5):=by
  obtain rfl:=fx2 hk
  obtain rfl:=fx9 h5
  intro v1 v2 v5 v6 v7 v16 v17 v18 v30 h
  kernel_rfl
def aaV (J1:Q1):Q1:=YY n aJ k0 (Zt n aJ k0 J1)
def Ez (j1:fZ):Eh:=N4 n aJ k (NP n aJ k j1)
theorem anT (hk:g0 k0 k) {J1:Q1} {j1:fZ} (h1:nD J1 j1):ND (aaV n aJ k0 J1) (Ez n aJ k j1):=aoT n aJ k0 k hk (an4 n aJ k0 k hk h1)
def Yy (n:Nat) (aJ:cE) (k0:Q0) (J0:Q1) (J4:Q1):Q1:=(bE (ge aJ) fy Xi (fun s=>dH (.t p19) s (bE (ge aJ) fy Wu (bE (ge aJ) fy YO (fun s=>cI Y9 s J4))) (fun s=>cI aau s J0)))
def ER (n:Nat) (aJ:cE) (k:iM) (j0:EH) (j4:Eh) (v1:Int) (v2:AV) (v5:AV) (v16:AV) (v17:Int) (v18:Int) (h:Heap):CRes:=
 ifB (ltF v18 v17)
 (Lw .i64 1 h v16 v18 fun x9 x10=>
 ifB (ltF x10 0)
 (j4 v1 v2 v5 v18 x10 v16 v17 v18 true h)
 (iY .i64 1 h v2 fun x11 x12=>
 j4 v1 v2 v5 v18 x10 v16 v17 v18 (fS (ltF x10 x12)) h))
 (j0 v5 h)
theorem apn (hk:g0 k0 k) {J0:Q1} {j0:EH} (h0:NR J0 j0) {J4:Q1} {j4:Eh} (h4:ND J4 j4):nD (Yy n aJ k0 J0 J4) (ER n aJ k j0 j4):=by
  obtain rfl:=fx2 hk
  obtain rfl:=fx2 h0
  obtain rfl:=fx10 h4
  intro v1 v2 v5 v16 v17 v18 h
  kernel_rfl
def aaR (m:Nat):Q1:=Nat.rec (motive:=fun _=>Q1) (fun _=>.err) (fun _ ih=>Yy n aJ k0 (Y7 n aJ k0) (aaV n aJ k0 ih)) m
def tr (m:Nat):fZ:=Nat.rec (motive:=fun _=>fZ) (fun _ _ _ _ _ _ _=>.err) (fun _ ih=>ER n aJ k (EG n aJ k) (Ez n aJ k ih)) m
theorem apj (hk:g0 k0 k) (m:Nat):nD (aaR n aJ k0 m) (tr n aJ k m):=by
  induction m with
  | zero=>intro v1 v2 v5 v16 v17 v18 h; rfl
  | succ m ih=>exact apn n aJ k0 k hk (aot n aJ k0 k hk) (anT n aJ k0 k hk ih)
def af6 (n:Nat) (aJ:cE) (k0:Q0) (J1:Q1):Q1:=(bE (ge aJ) fy Wm (bE (ge aJ) fy Wo (bE (ge aJ) fy WD (fun s=>cI NO s J1))))
def Un (n:Nat) (aJ:cE) (k:iM) (j1:fZ) (a0:AV) (a1:Int) (h:Heap):CRes:=
 Dh h a0 fun x0 h1=>
 fld 16 h1 (.ptr x0 0) 1 false fun x2 x3=>
 LC 8 x3 a1 fun x4=>
 fld 0 h1 x4 1 false fun x5 x6=>
 fH x6 fun x7=>
 j1 a1 (.ptr x0 0) x6 x6 x7 0 h1
theorem atM (n:Nat) (aJ:cE) (k0:Q0) (k:iM) (hk:g0 k0 k) {J1:Q1} {j1:fZ} (h1:nD J1 j1) (a0:AV) (a1:Int) (h:Heap):(af6 n aJ k0 J1) ⟨cH [(p0,a0),(p1,(.int .i64 a1))],h⟩=(Un n aJ k j1) a0 a1 h:=by
  obtain rfl:=fx2 hk
  obtain rfl:=fx7 h1
  kernel_rfl
def arY:Q1:=af6 n aJ k0 (aaR n aJ k0 n)
def U1 (n:Nat) (aJ:cE) (a0:AV) (a1:Int) (h:Heap) (k:iM):CRes:=Un n aJ k (tr n aJ k n) a0 a1 h
theorem arC (n:Nat) (aJ:cE) (k0:Q0) (s:St):D (ez [(kw,iD aJ)]) fy n Va (cG un k0) (fun _ _=>.err) (cG un k0) s=arY n aJ k0 s:=by kernel_rfl
theorem as4 (n:Nat) (aJ:cE) (a0:AV) (a1:Int) (h:Heap) (k0:Q0):W UU un [(kw,iD aJ)] fy n Va [a0,(.int .i64 a1)] h k0=U1 n aJ a0 a1 h (fun u0 h=>k0 (.bool u0) h):=by
  let k:iM:=fun u0 h=>k0 (.bool u0) h
  have hk:g0 k0 k:=fun _ _=>rfl
  have hb:∀ F:Tr AV→CRes,fJ UU [a0,(.int .i64 a1)] .leaf F=F (cH [(p0,a0),(p1,(.int .i64 a1))]):=fun F=>by kernel_rfl
  exact (lD hb).trans ((arC n aJ k0 _).trans (atM n aJ k0 k hk (apj n aJ k0 k hk n) a0 a1 h))
end
def yc (n:Nat):mE:=U1 n (cV n)
/-! cofferdam/plan.each -/
abbrev dL:=AV→Heap→(Int→Heap→CRes)→CRes
abbrev ID:=Int→Heap→CRes
def ta (g:dL):Wr:=fun l h k=>kL l fun a0 l=>lw l (g a0 h fun u0 h=>k (.int .i64 u0) h)
def al7:dD:=ez []
abbrev amv (k0:Q0) (k:ID):Prop:=∀ u0 h,k0 (.int .i64 u0) h=k u0 h
section
variable (n:Nat) (k0:Q0) (k:ID)
def apS (n:Nat) (k0:Q0):Q1:=(bE (al7) Pl akt (bE (al7) Pl ajF (cG Pk k0)))
def ahs (n:Nat) (k:ID) (a0:AV) (h:Heap):CRes:=
 Dh h a0 fun x0 h1=>
 iY .i64 0 h1 (.ptr x0 0) fun x2 x3=>
 iY .i64 1 h1 (.ptr x0 0) fun x4 x5=>
 quoK .i64 x3 x5 fun x6=>
 k x6 h1
theorem ax0 (n:Nat) (k0:Q0) (k:ID) (hk:amv k0 k) (a0:AV) (h:Heap):(apS n k0) ⟨cH [(p0,a0)],h⟩=(ahs n k) a0 h:=by
  obtain rfl:=fx2 hk
  kernel_rfl
def ayq:Q1:=apS n k0
def agj (n:Nat) (a0:AV) (h:Heap) (k:ID):CRes:=ahs n k a0 h
theorem axP (n:Nat) (k0:Q0) (s:St):D (ez []) Pl n af2 (cG Pk k0) (fun _ _=>.err) (cG Pk k0) s=ayq n k0 s:=by kernel_rfl
theorem axA (n:Nat) (a0:AV) (h:Heap) (k0:Q0):W afF Pk [] Pl n af2 [a0] h k0=agj n a0 h (fun u0 h=>k0 (.int .i64 u0) h):=by
  let k:ID:=fun u0 h=>k0 (.int .i64 u0) h
  have hk:amv k0 k:=fun _ _=>rfl
  have hb:∀ F:Tr AV→CRes,fJ afF [a0] .leaf F=F (cH [(p0,a0)]):=fun F=>by kernel_rfl
  exact (lD hb).trans ((axP n k0 _).trans (ax0 n k0 k hk a0 h))
end
def tg (n:Nat):dL:=agj n
/-! cofferdam/plan.total -/
abbrev dw:=AV→Int→Heap→(Int→Heap→CRes)→CRes
abbrev EJ:=Int→Heap→CRes
def qr (g:dw):Wr:=fun l h k=>kL l fun a0 l=>nH .i64 l fun a1 l=>lw l (g a0 a1 h fun u0 h=>k (.int .i64 u0) h)
def ajG (aZ:dL):dD:=ez [(we,ta aZ)]
abbrev akJ (k0:Q0) (k:EJ):Prop:=∀ u0 h,k0 (.int .i64 u0) h=k u0 h
section
variable (n:Nat) (aZ:dL) (k0:Q0) (k:EJ)
def amY (n:Nat) (aZ:dL) (k0:Q0):Q1:=(bE (ajG aZ) K3 afK (bE (ajG aZ) K3 ahV (cG Kf k0)))
def abz (n:Nat) (aZ:dL) (k:EJ) (a0:AV) (a1:Int) (h:Heap):CRes:=
 Dh h a0 fun x0 h1=>
 fld 16 h1 (.ptr x0 0) 1 false fun x2 x3=>
 LC 8 x3 a1 fun x4=>
 fld 0 h1 x4 1 false fun x5 x6=>
 fH x6 fun x7=>
 f8 h1 (.ptr x0 0) 17 true fun x8=>
 aZ x8 (h1.shut true) fun x9 h10=>
 Ve .i64 x7 x9 fun x11=>
 k x11 (h10.back h1.ro)
theorem awc (n:Nat) (aZ:dL) (k0:Q0) (k:EJ) (hk:akJ k0 k) (a0:AV) (a1:Int) (h:Heap):(amY n aZ k0) ⟨cH [(p0,a0),(p1,(.int .i64 a1))],h⟩=(abz n aZ k) a0 a1 h:=by
  obtain rfl:=fx2 hk
  kernel_rfl
def awb:Q1:=amY n aZ k0
def acn (n:Nat) (aZ:dL) (a0:AV) (a1:Int) (h:Heap) (k:EJ):CRes:=abz n aZ k a0 a1 h
theorem awT (n:Nat) (aZ:dL) (k0:Q0) (s:St):D (ez [(we,ta aZ)]) K3 n abU (cG Kf k0) (fun _ _=>.err) (cG Kf k0) s=awb n aZ k0 s:=by kernel_rfl
theorem awi (n:Nat) (aZ:dL) (a0:AV) (a1:Int) (h:Heap) (k0:Q0):W abM Kf [(we,ta aZ)] K3 n abU [a0,(.int .i64 a1)] h k0=acn n aZ a0 a1 h (fun u0 h=>k0 (.int .i64 u0) h):=by
  let k:EJ:=fun u0 h=>k0 (.int .i64 u0) h
  have hk:akJ k0 k:=fun _ _=>rfl
  have hb:∀ F:Tr AV→CRes,fJ abM [a0,(.int .i64 a1)] .leaf F=F (cH [(p0,a0),(p1,(.int .i64 a1))]):=fun F=>by kernel_rfl
  exact (lD hb).trans ((awT n aZ k0 _).trans (awc n aZ k0 k hk a0 a1 h))
end
def qx (n:Nat):dw:=acn n (tg n)
/-! cofferdam/plan.quotas -/
abbrev ob:=AV→Int→Heap→(Bool→Heap→CRes)→CRes
abbrev iw:=Bool→Heap→CRes
def Bg (g:ob):Wr:=fun l h k=>kL l fun a0 l=>nH .i64 l fun a1 l=>lw l (g a0 a1 h fun u0 h=>k (.bool u0) h)
def ep (aS:dw) (az:b8) (aZ:dL) (aC:bS):dD:=ez [(sx,qr aS),(ji,iT az),(we,ta aZ),(fx,fb aC)]
abbrev fh (k0:Q0) (k:iw):Prop:=∀ u0 h,k0 (.bool u0) h=k u0 h
abbrev Ht:Type:=Bool→Heap→CRes
abbrev QN (J:Q1) (j:Ht):Prop:=∀ v104 h,J ⟨cH [(p104,(.bool v104))],h⟩=j v104 h
abbrev Hx:Type:=Int→AV→AV→Bool→Heap→CRes
abbrev Q9 (J:Q1) (j:Hx):Prop:=∀ v1 v2 v5 v72 h,J ⟨cH [(p1,(.int .i64 v1)),(p2,v2),(p5,v5),(p72,(.bool v72))],h⟩=j v1 v2 v5 v72 h
abbrev Hu:Type:=Int→AV→AV→Int→Heap→CRes
abbrev RD (J:Q1) (j:Hu):Prop:=∀ v1 v2 v5 v8 h,J ⟨cH [(p1,(.int .i64 v1)),(p2,v2),(p5,v5),(p8,(.int .i64 v8))],h⟩=j v1 v2 v5 v8 h
abbrev HA:Type:=Int→AV→AV→Int→AV→Int→Int→Heap→CRes
abbrev RJ (J:Q1) (j:HA):Prop:=∀ v1 v2 v5 v8 v51 v52 v53 h,J ⟨cH [(p1,(.int .i64 v1)),(p2,v2),(p5,v5),(p8,(.int .i64 v8)),(p51,v51),(p52,(.int .i64 v52)),(p53,(.int .i64 v53))],h⟩=j v1 v2 v5 v8 v51 v52 v53 h
abbrev mW:Type:=Int→AV→AV→Int→AV→Int→Int→Heap→CRes
abbrev AZ (J:Q1) (j:mW):Prop:=∀ v1 v2 v5 v8 v51 v52 v53 h,J ⟨cH [(p1,(.int .i64 v1)),(p2,v2),(p5,v5),(p8,(.int .i64 v8)),(p51,v51),(p52,(.int .i64 v52)),(p53,(.int .i64 v53))],h⟩=j v1 v2 v5 v8 v51 v52 v53 h
abbrev Hq:Type:=Int→AV→AV→Heap→CRes
abbrev Rt (J:Q1) (j:Hq):Prop:=∀ v1 v2 v5 h,J ⟨cH [(p1,(.int .i64 v1)),(p2,v2),(p5,v5)],h⟩=j v1 v2 v5 h
abbrev rP:Type:=Int→AV→AV→AV→Int→Heap→CRes
abbrev Hr (J:Q1) (j:rP):Prop:=∀ v1 v2 v5 v39 v40 h,J ⟨cH [(p1,(.int .i64 v1)),(p2,v2),(p5,v5),(p39,v39),(p40,(.int .i64 v40))],h⟩=j v1 v2 v5 v39 v40 h
abbrev Hp:Type:=Int→AV→AV→Bool→Heap→CRes
abbrev QA (J:Q1) (j:Hp):Prop:=∀ v1 v2 v5 v32 h,J ⟨cH [(p1,(.int .i64 v1)),(p2,v2),(p5,v5),(p32,(.bool v32))],h⟩=j v1 v2 v5 v32 h
abbrev G7:Type:=Int→AV→AV→Bool→Heap→CRes
abbrev RA (J:Q1) (j:G7):Prop:=∀ v1 v2 v5 v26 h,J ⟨cH [(p1,(.int .i64 v1)),(p2,v2),(p5,v5),(p26,(.bool v26))],h⟩=j v1 v2 v5 v26 h
section
variable (n:Nat) (aS:dw) (az:b8) (aZ:dL) (aC:bS) (k0:Q0) (k:iw)
def adT (n:Nat) (aS:dw) (az:b8) (aZ:dL) (aC:bS) (k0:Q0):Q1:=(bE (ep aS az aZ aC) ed ac1 (cG qb k0))
def Rg (n:Nat) (aS:dw) (az:b8) (aZ:dL) (aC:bS) (k:iw) (v104:Bool) (h:Heap):CRes:=
 k v104 h
theorem aq0 (hk:fh k0 k):QN (adT n aS az aZ aC k0) (Rg n aS az aZ aC k):=by
  obtain rfl:=fx2 hk
  intro v104 h
  kernel_rfl
def adz:Q1:=adT n aS az aZ aC k0
def RZ:Ht:=Rg n aS az aZ aC k
theorem aqt (hk:fh k0 k):QN (adz n aS az aZ aC k0) (RZ n aS az aZ aC k):=aq0 n aS az aZ aC k0 k hk
def aec (n:Nat) (aS:dw) (az:b8) (aZ:dL) (aC:bS) (k0:Q0) (J0:Q1):Q1:=(fun s=>dH (.t p72) s (bE (ep aS az aZ aC) ed ac6 (cG qb k0)) (bE (ep aS az aZ aC) ed ac4 (fun s=>dH (.t p75) s (bE (ep aS az aZ aC) ed acR (cG qb k0)) (bE (ep aS az aZ aC) ed aeh (bE (ep aS az aZ aC) ed aeE (fun s=>cI ad8 s J0))))))
def Rr (n:Nat) (aS:dw) (az:b8) (aZ:dL) (aC:bS) (k:iw) (j0:Ht) (v1:Int) (v2:AV) (v5:AV) (v72:Bool) (h:Heap):CRes:=
 ifB v72
 (k false h)
 (f8 h v2 17 true fun x54=>
 az x54 h fun x55 h56=>
 ifB (fS x55)
 (k true h56)
 (iY .i64 1 h56 v5 fun x57 x58=>
 al0 .i64 1 x58 fun x59=>
 f8 h56 v2 17 true fun x60=>
 aZ x60 h56 fun x61 h62=>
 ifB (fS (ltF x61 x59))
 (iY .i64 2 h62 v5 fun x63 x64=>
 lp .i64 x59 x64 fun x65=>
 iY .i64 3 h62 v5 fun x66 x67=>
 lp .i64 x65 x67 fun x68=>
 iY .i64 4 h62 v5 fun x69 x70=>
 lp .i64 x68 x70 fun x71=>
 iY .i64 5 h62 v5 fun x72 x73=>
 lp .i64 x71 x73 fun x74=>
 iY .i64 6 h62 v5 fun x75 x76=>
 lp .i64 x74 x76 fun x77=>
 f8 h62 v2 17 true fun x78=>
 aS x78 v1 (h62.shut true) fun x79 h80=>
 j0 (fS (ltF x79 x77)) (h80.back h62.ro))
 (j0 false h62)))
theorem aqQ (hk:fh k0 k) {J0:Q1} {j0:Ht} (h0:QN J0 j0):Q9 (aec n aS az aZ aC k0 J0) (Rr n aS az aZ aC k j0):=by
  obtain rfl:=fx2 hk
  obtain rfl:=fx2 h0
  intro v1 v2 v5 v72 h
  kernel_rfl
def aem:Q1:=aec n aS az aZ aC k0 (adz n aS az aZ aC k0)
def RG:Hx:=Rr n aS az aZ aC k (RZ n aS az aZ aC k)
theorem aqm (hk:fh k0 k):Q9 (aem n aS az aZ aC k0) (RG n aS az aZ aC k):=aqQ n aS az aZ aC k0 k hk (aqt n aS az aZ aC k0 k hk)
def adQ (n:Nat) (aS:dw) (az:b8) (aZ:dL) (aC:bS) (k0:Q0) (J1:Q1):Q1:=(bE (ep aS az aZ aC) ed ado (fun s=>cI adn s J1))
def RB (n:Nat) (aS:dw) (az:b8) (aZ:dL) (aC:bS) (k:iw) (j1:Hx) (v1:Int) (v2:AV) (v5:AV) (v8:Int) (h:Heap):CRes:=
 iY .i64 7 h v5 fun x38 x39=>
 aC x39 1 1024 h fun x40 h41=>
 ifB (fS x40)
 (j1 v1 v2 v5 true h41)
 (j1 v1 v2 v5 (ltF 1024 v8) h41)
theorem aqX (hk:fh k0 k) {J1:Q1} {j1:Hx} (h1:Q9 J1 j1):RD (adQ n aS az aZ aC k0 J1) (RB n aS az aZ aC k j1):=by
  obtain rfl:=fx2 hk
  obtain rfl:=fx5 h1
  intro v1 v2 v5 v8 h
  kernel_rfl
def adK:Q1:=adQ n aS az aZ aC k0 (aem n aS az aZ aC k0)
def AB:Hu:=RB n aS az aZ aC k (RG n aS az aZ aC k)
theorem aq2 (hk:fh k0 k):RD (adK n aS az aZ aC k0) (AB n aS az aZ aC k):=aqX n aS az aZ aC k0 k hk (aqm n aS az aZ aC k0 k hk)
def acL (n:Nat) (aS:dw) (az:b8) (aZ:dL) (aC:bS) (k0:Q0) (J3:Q1):Q1:=(bE (ep aS az aZ aC) ed adl (fun s=>cI R0 s J3))
def RP (n:Nat) (aS:dw) (az:b8) (aZ:dL) (aC:bS) (k:iw) (j3:mW) (v1:Int) (v2:AV) (v5:AV) (v8:Int) (v51:AV) (v52:Int) (v53:Int) (h:Heap):CRes:=
 lp .i64 v53 1 fun x81=>
 j3 v1 v2 v5 v8 v51 v52 x81 h
theorem aqY (hk:fh k0 k) {J3:Q1} {j3:mW} (h3:AZ J3 j3):RJ (acL n aS az aZ aC k0 J3) (RP n aS az aZ aC k j3):=by
  obtain rfl:=fx2 hk
  obtain rfl:=fx8 h3
  intro v1 v2 v5 v8 v51 v52 v53 h
  kernel_rfl
def acJ (J3:Q1):Q1:=acL n aS az aZ aC k0 J3
def G8 (j3:mW):HA:=RP n aS az aZ aC k j3
theorem aqq (hk:fh k0 k) {J3:Q1} {j3:mW} (h3:AZ J3 j3):RJ (acJ n aS az aZ aC k0 J3) (G8 n aS az aZ aC k j3):=aqY n aS az aZ aC k0 k hk h3
def aei (n:Nat) (aS:dw) (az:b8) (aZ:dL) (aC:bS) (k0:Q0) (J2:Q1) (J4:Q1):Q1:=(bE (ep aS az aZ aC) ed YG (fun s=>dH (.t p54) s (bE (ep aS az aZ aC) ed aa4 (bE (ep aS az aZ aC) ed adY (fun s=>dH (.t p59) s (bE (ep aS az aZ aC) ed adV (fun s=>cI Rz s J4)) (fun s=>cI Rz s J4)))) (fun s=>cI ad0 s J2)))
def Hn (n:Nat) (aS:dw) (az:b8) (aZ:dL) (aC:bS) (k:iw) (j2:Hu) (j4:HA) (v1:Int) (v2:AV) (v5:AV) (v8:Int) (v51:AV) (v52:Int) (v53:Int) (h:Heap):CRes:=
 ifB (ltF v53 v52)
 (eld 8 h v51 v53 8 true fun x42 x43=>
 Bv h (.cells [.nilslice,(.int .i64 0),(.int .i64 0),(.int .i64 0),(.int .i64 0),(.int .i64 0),(.int .i64 0),(.int .i64 0)] true 0) fun x44 h45=>
 lS h45 (.ptr x44 0) 8 x43 fun h46=>
 iY .i64 7 h46 (.ptr x44 0) fun x47 x48=>
 aC x48 1 1024 h46 fun x49 h50=>
 ifB x49
 (iY .i64 7 h50 (.ptr x44 0) fun x51 x52=>
 lp .i64 v8 x52 fun x53=>
 j4 v1 v2 v5 x53 v51 v52 v53 h50)
 (j4 v1 v2 v5 v8 v51 v52 v53 h50))
 (j2 v1 v2 v5 v8 h)
theorem ari (hk:fh k0 k) {J2:Q1} {j2:Hu} (h2:RD J2 j2) {J4:Q1} {j4:HA} (h4:RJ J4 j4):AZ (aei n aS az aZ aC k0 J2 J4) (Hn n aS az aZ aC k j2 j4):=by
  obtain rfl:=fx2 hk
  obtain rfl:=fx5 h2
  obtain rfl:=fx8 h4
  intro v1 v2 v5 v8 v51 v52 v53 h
  kernel_rfl
def acE (m:Nat):Q1:=Nat.rec (motive:=fun _=>Q1) (fun _=>.err) (fun _ ih=>aei n aS az aZ aC k0 (adK n aS az aZ aC k0) (acJ n aS az aZ aC k0 ih)) m
def Ap (m:Nat):mW:=Nat.rec (motive:=fun _=>mW) (fun _ _ _ _ _ _ _ _=>.err) (fun _ ih=>Hn n aS az aZ aC k (AB n aS az aZ aC k) (G8 n aS az aZ aC k ih)) m
theorem aqA (m:Nat):Ap n aS az aZ aC k (m+1)=Hn n aS az aZ aC k (AB n aS az aZ aC k) (G8 n aS az aZ aC k (Ap n aS az aZ aC k m)):=rfl
theorem aqv (hk:fh k0 k) (m:Nat):AZ (acE n aS az aZ aC k0 m) (Ap n aS az aZ aC k m):=by
  induction m with
  | zero=>intro v1 v2 v5 v8 v51 v52 v53 h; rfl
  | succ m ih=>exact ari n aS az aZ aC k0 k hk (aq2 n aS az aZ aC k0 k hk) (aqq n aS az aZ aC k0 k hk ih)
def acN (n:Nat) (aS:dw) (az:b8) (aZ:dL) (aC:bS) (k0:Q0) (J3:Q1):Q1:=(bE (ep aS az aZ aC) ed aaa (bE (ep aS az aZ aC) ed Zd (fun s=>cI R0 s J3)))
def Rm (n:Nat) (aS:dw) (az:b8) (aZ:dL) (aC:bS) (k:iw) (j3:mW) (v1:Int) (v2:AV) (v5:AV) (h:Heap):CRes:=
 fld 16 h v2 1 false fun x28 x29=>
 lp .i64 v1 1 fun x30=>
 slK (.sl 8) x29 none (some (.int .i64 x30)) none fun x31=>
 fH x31 fun x32=>
 j3 v1 v2 v5 0 x31 x32 0 h
theorem arg (hk:fh k0 k) {J3:Q1} {j3:mW} (h3:AZ J3 j3):Rt (acN n aS az aZ aC k0 J3) (Rm n aS az aZ aC k j3):=by
  obtain rfl:=fx2 hk
  obtain rfl:=fx8 h3
  intro v1 v2 v5 h
  kernel_rfl
def adr:Q1:=acN n aS az aZ aC k0 (acE n aS az aZ aC k0 n)
def Hl:Hq:=Rm n aS az aZ aC k (Ap n aS az aZ aC k n)
theorem aq6 (hk:fh k0 k):Rt (adr n aS az aZ aC k0) (Hl n aS az aZ aC k):=arg n aS az aZ aC k0 k hk (aqv n aS az aZ aC k0 k hk n)
def adB (n:Nat) (aS:dw) (az:b8) (aZ:dL) (aC:bS) (k0:Q0) (J5:Q1) (J6:Q1):Q1:=(bE (ep aS az aZ aC) ed abn (fun s=>dH (.t p41) s (bE (ep aS az aZ aC) ed aaZ (bE (ep aS az aZ aC) ed Z5 (fun s=>dH (.t p45) s (bE (ep aS az aZ aC) ed Y2 (cG qb k0)) (bE (ep aS az aZ aC) ed aaT (fun s=>cI RT s J6))))) (fun s=>cI aeF s J5)))
def Hs (n:Nat) (aS:dw) (az:b8) (aZ:dL) (aC:bS) (k:iw) (j5:Hq) (j6:rP) (v1:Int) (v2:AV) (v5:AV) (v39:AV) (v40:Int) (h:Heap):CRes:=
 ifB (ltF v40 3)
 (aes 1 3 false v39 v40 fun x33=>
 Wa .i64 x33 fun x34=>
 aC x34 1 4096 h fun x35 h36=>
 ifB (fS x35)
 (k false h36)
 (lp .i64 v40 1 fun x37=>
 j6 v1 v2 v5 v39 x37 h36))
 (j5 v1 v2 v5 h)
theorem aq4 (hk:fh k0 k) {J5:Q1} {j5:Hq} (h5:Rt J5 j5) {J6:Q1} {j6:rP} (h6:Hr J6 j6):Hr (adB n aS az aZ aC k0 J5 J6) (Hs n aS az aZ aC k j5 j6):=by
  obtain rfl:=fx2 hk
  obtain rfl:=fx4 h5
  obtain rfl:=fx6 h6
  intro v1 v2 v5 v39 v40 h
  kernel_rfl
def ad5 (m:Nat):Q1:=Nat.rec (motive:=fun _=>Q1) (fun _=>.err) (fun _ ih=>adB n aS az aZ aC k0 (adr n aS az aZ aC k0) ih) m
def Hh (m:Nat):rP:=Nat.rec (motive:=fun _=>rP) (fun _ _ _ _ _ _=>.err) (fun _ ih=>Hs n aS az aZ aC k (Hl n aS az aZ aC k) ih) m
theorem aqx (m:Nat):Hh n aS az aZ aC k (m+1)=Hs n aS az aZ aC k (Hl n aS az aZ aC k) (Hh n aS az aZ aC k m):=rfl
theorem aqJ (hk:fh k0 k) (m:Nat):Hr (ad5 n aS az aZ aC k0 m) (Hh n aS az aZ aC k m):=by
  induction m with
  | zero=>intro v1 v2 v5 v39 v40 h; rfl
  | succ m ih=>exact aq4 n aS az aZ aC k0 k hk (aq6 n aS az aZ aC k0 k hk) ih
def adZ (n:Nat) (aS:dw) (az:b8) (aZ:dL) (aC:bS) (k0:Q0) (J6:Q1):Q1:=(fun s=>dH (.t p32) s (bE (ep aS az aZ aC) ed aah (cG qb k0)) (bE (ep aS az aZ aC) ed aas (fun s=>cI RT s J6)))
def QO (n:Nat) (aS:dw) (az:b8) (aZ:dL) (aC:bS) (k:iw) (j6:rP) (v1:Int) (v2:AV) (v5:AV) (v32:Bool) (h:Heap):CRes:=
 ifB v32
 (k false h)
 (iY .i64 4 h v5 fun x21 x22=>
 iY .i64 5 h v5 fun x23 x24=>
 iY .i64 6 h v5 fun x25 x26=>
 yL [(.int .i64 0),(.int .i64 0),(.int .i64 0)] [(0,1,(.int .i64 x22)),(1,1,(.int .i64 x24)),(2,1,(.int .i64 x26))] fun x27=>
 j6 v1 v2 v5 x27 0 h)
theorem aqT (hk:fh k0 k) {J6:Q1} {j6:rP} (h6:Hr J6 j6):QA (adZ n aS az aZ aC k0 J6) (QO n aS az aZ aC k j6):=by
  obtain rfl:=fx2 hk
  obtain rfl:=fx6 h6
  intro v1 v2 v5 v32 h
  kernel_rfl
def ad1:Q1:=adZ n aS az aZ aC k0 (ad5 n aS az aZ aC k0 n)
def RH:Hp:=QO n aS az aZ aC k (Hh n aS az aZ aC k n)
theorem ara (hk:fh k0 k):QA (ad1 n aS az aZ aC k0) (RH n aS az aZ aC k):=aqT n aS az aZ aC k0 k hk (aqJ n aS az aZ aC k0 k hk n)
def adc (n:Nat) (aS:dw) (az:b8) (aZ:dL) (aC:bS) (k0:Q0) (J8:Q1):Q1:=(bE (ep aS az aZ aC) ed Yx (fun s=>cI adX s J8))
def RM (n:Nat) (aS:dw) (az:b8) (aZ:dL) (aC:bS) (k:iw) (j8:Hp) (v1:Int) (v2:AV) (v5:AV) (v26:Bool) (h:Heap):CRes:=
 ifB v26
 (j8 v1 v2 v5 true h)
 (faK 3 v5 fun x17=>
 ldI .i64 h x17 fun x18=>
 aC x18 4 4096 h fun x19 h20=>
 j8 v1 v2 v5 (fS x19) h20)
theorem aqL (hk:fh k0 k) {J8:Q1} {j8:Hp} (h8:QA J8 j8):RA (adc n aS az aZ aC k0 J8) (RM n aS az aZ aC k j8):=by
  obtain rfl:=fx2 hk
  obtain rfl:=fx5 h8
  intro v1 v2 v5 v26 h
  kernel_rfl
def aer:Q1:=adc n aS az aZ aC k0 (ad1 n aS az aZ aC k0)
def QJ:G7:=RM n aS az aZ aC k (RH n aS az aZ aC k)
theorem aqk (hk:fh k0 k):RA (aer n aS az aZ aC k0) (QJ n aS az aZ aC k):=aqL n aS az aZ aC k0 k hk (ara n aS az aZ aC k0 k hk)
def ajZ (n:Nat) (aS:dw) (az:b8) (aZ:dL) (aC:bS) (k0:Q0) (J7:Q1):Q1:=(bE (ep aS az aZ aC) ed Z7 (bE (ep aS az aZ aC) ed Z0 (bE (ep aS az aZ aC) ed YX (fun s=>cI ad4 s J7))))
def XH (n:Nat) (aS:dw) (az:b8) (aZ:dL) (aC:bS) (k:iw) (j7:G7) (a0:AV) (a1:Int) (h:Heap):CRes:=
 Dh h a0 fun x0 h1=>
 fld 16 h1 (.ptr x0 0) 1 false fun x2 x3=>
 eld 8 h1 x3 a1 8 true fun x4 x5=>
 Bv h1 (.cells [.nilslice,(.int .i64 0),(.int .i64 0),(.int .i64 0),(.int .i64 0),(.int .i64 0),(.int .i64 0),(.int .i64 0)] true 0) fun x6 h7=>
 lS h7 (.ptr x6 0) 8 x5 fun h8=>
 iY .i64 1 h8 (.ptr x6 0) fun x9 x10=>
 aC x10 0 3 h8 fun x11 h12=>
 ifB (fS x11)
 (j7 a1 (.ptr x0 0) (.ptr x6 0) true h12)
 (faK 2 (.ptr x6 0) fun x13=>
 ldI .i64 h12 x13 fun x14=>
 aC x14 2 4096 h12 fun x15 h16=>
 j7 a1 (.ptr x0 0) (.ptr x6 0) (fS x15) h16)
theorem auC (n:Nat) (aS:dw) (az:b8) (aZ:dL) (aC:bS) (k0:Q0) (k:iw) (hk:fh k0 k) {J7:Q1} {j7:G7} (h7:RA J7 j7) (a0:AV) (a1:Int) (h:Heap):(ajZ n aS az aZ aC k0 J7) ⟨cH [(p0,a0),(p1,(.int .i64 a1))],h⟩=(XH n aS az aZ aC k j7) a0 a1 h:=by
  obtain rfl:=fx2 hk
  obtain rfl:=fx5 h7
  kernel_rfl
def aum:Q1:=ajZ n aS az aZ aC k0 (aer n aS az aZ aC k0)
def Ya (n:Nat) (aS:dw) (az:b8) (aZ:dL) (aC:bS) (a0:AV) (a1:Int) (h:Heap) (k:iw):CRes:=XH n aS az aZ aC k (QJ n aS az aZ aC k) a0 a1 h
theorem auf (n:Nat) (aS:dw) (az:b8) (aZ:dL) (aC:bS) (k0:Q0) (s:St):D (ez [(sx,qr aS),(ji,iT az),(we,ta aZ),(fx,fb aC)]) ed n XL (cG qb k0) (fun _ _=>.err) (cG qb k0) s=aum n aS az aZ aC k0 s:=by kernel_rfl
theorem auP (n:Nat) (aS:dw) (az:b8) (aZ:dL) (aC:bS) (a0:AV) (a1:Int) (h:Heap) (k0:Q0):W Ye qb [(sx,qr aS),(ji,iT az),(we,ta aZ),(fx,fb aC)] ed n XL [a0,(.int .i64 a1)] h k0=Ya n aS az aZ aC a0 a1 h (fun u0 h=>k0 (.bool u0) h):=by
  let k:iw:=fun u0 h=>k0 (.bool u0) h
  have hk:fh k0 k:=fun _ _=>rfl
  have hb:∀ F:Tr AV→CRes,fJ Ye [a0,(.int .i64 a1)] .leaf F=F (cH [(p0,a0),(p1,(.int .i64 a1))]):=fun F=>by kernel_rfl
  exact (lD hb).trans ((auf n aS az aZ aC k0 _).trans (auC n aS az aZ aC k0 k hk (aqk n aS az aZ aC k0 k hk) a0 a1 h))
end
def Bf (n:Nat):ob:=Ya n (qx n) (gm n) (tg n) (fN n)
/-! cofferdam/plan.part -/
abbrev dy:=AV→Int→Heap→(Int→Heap→CRes)→CRes
abbrev Jb:=Int→Heap→CRes
def tf (g:dy):Wr:=fun l h k=>kL l fun a0 l=>nH .i64 l fun a1 l=>lw l (g a0 a1 h fun u0 h=>k (.int .i64 u0) h)
def EA (en:mE) (eM:ob):dD:=ez [(DS,xP en),(Gk,Bg eM)]
abbrev anc (k0:Q0) (k:Jb):Prop:=∀ u0 h,k0 (.int .i64 u0) h=k u0 h
section
variable (n:Nat) (en:mE) (eM:ob) (k0:Q0) (k:Jb)
def apP (n:Nat) (en:mE) (eM:ob) (k0:Q0):Q1:=(bE (EA en eM) wv akT (bE (EA en eM) wv ake (fun s=>dH (.t p5) s (bE (EA en eM) wv aky (cG DI k0)) (bE (EA en eM) wv akw (fun s=>dH (.t p10) s (bE (EA en eM) wv akM (cG DI k0)) (bE (EA en eM) wv aj2 (cG DI k0)))))))
def afJ (n:Nat) (en:mE) (eM:ob) (k:Jb) (a0:AV) (a1:Int) (h:Heap):CRes:=
 Dh h a0 fun x0 h1=>
 f8 h1 (.ptr x0 0) 17 true fun x2=>
 en x2 a1 h1 fun x3 h4=>
 ifB (fS x3)
 (k 110 h4)
 (f8 h4 (.ptr x0 0) 17 true fun x5=>
 eM x5 a1 h4 fun x6 h7=>
 ifB (fS x6)
 (k 111 h7)
 (k 0 h7))
theorem ax3 (n:Nat) (en:mE) (eM:ob) (k0:Q0) (k:Jb) (hk:anc k0 k) (a0:AV) (a1:Int) (h:Heap):(apP n en eM k0) ⟨cH [(p0,a0),(p1,(.int .i64 a1))],h⟩=(afJ n en eM k) a0 a1 h:=by
  obtain rfl:=fx2 hk
  kernel_rfl
def axi:Q1:=apP n en eM k0
def agA (n:Nat) (en:mE) (eM:ob) (a0:AV) (a1:Int) (h:Heap) (k:Jb):CRes:=afJ n en eM k a0 a1 h
theorem ayj (n:Nat) (en:mE) (eM:ob) (k0:Q0) (s:St):D (ez [(DS,xP en),(Gk,Bg eM)]) wv n afr (cG DI k0) (fun _ _=>.err) (cG DI k0) s=axi n en eM k0 s:=by kernel_rfl
theorem axQ (n:Nat) (en:mE) (eM:ob) (a0:AV) (a1:Int) (h:Heap) (k0:Q0):W ago DI [(DS,xP en),(Gk,Bg eM)] wv n afr [a0,(.int .i64 a1)] h k0=agA n en eM a0 a1 h (fun u0 h=>k0 (.int .i64 u0) h):=by
  let k:Jb:=fun u0 h=>k0 (.int .i64 u0) h
  have hk:anc k0 k:=fun _ _=>rfl
  have hb:∀ F:Tr AV→CRes,fJ ago [a0,(.int .i64 a1)] .leaf F=F (cH [(p0,a0),(p1,(.int .i64 a1))]):=fun F=>by kernel_rfl
  exact (lD hb).trans ((ayj n en eM k0 _).trans (ax3 n en eM k0 k hk a0 a1 h))
end
def ns (n:Nat):dy:=agA n (yc n) (Bf n)
/-! cofferdam/cost.within -/
abbrev dz:=Int→Int→Int→Heap→(Bool→Heap→CRes)→CRes
abbrev wH:=Bool→Heap→CRes
def oa (g:dz):Wr:=fun l h k=>nH .i64 l fun a0 l=>nH .i64 l fun a1 l=>nH .i64 l fun a2 l=>lw l (g a0 a1 a2 h fun u0 h=>k (.bool u0) h)
def UW:dD:=ez []
abbrev KW (k0:Q0) (k:wH):Prop:=∀ u0 h,k0 (.bool u0) h=k u0 h
abbrev G9:Type:=Bool→Heap→CRes
abbrev R8 (J:Q1) (j:G9):Prop:=∀ v14 h,J ⟨cH [(p14,(.bool v14))],h⟩=j v14 h
section
variable (n:Nat) (k0:Q0) (k:wH)
def adS (n:Nat) (k0:Q0):Q1:=(bE (UW) Bc aeq (cG Gu k0))
def QX (n:Nat) (k:wH) (v14:Bool) (h:Heap):CRes:=
 k v14 h
theorem aqP (hk:KW k0 k):R8 (adS n k0) (QX n k):=by
  obtain rfl:=fx2 hk
  intro v14 h
  kernel_rfl
def adF:Q1:=adS n k0
def Q4:G9:=QX n k
theorem arj (hk:KW k0 k):R8 (adF n k0) (Q4 n k):=aqP n k0 k hk
def aku (n:Nat) (k0:Q0) (J0:Q1):Q1:=(bE (UW) Bc aeD (bE (UW) Bc aex (fun s=>cI aeK s J0)))
def Yu (n:Nat) (k:wH) (j0:G9) (a0:Int) (a1:Int) (a2:Int) (h:Heap):CRes:=
 ifB (fS (ltF a0 a1))
 (j0 (fS (ltF a2 a0)) h)
 (j0 false h)
theorem aus (n:Nat) (k0:Q0) (k:wH) (hk:KW k0 k) {J0:Q1} {j0:G9} (h0:R8 J0 j0) (a0:Int) (a1:Int) (a2:Int) (h:Heap):(aku n k0 J0) ⟨cH [(p0,(.int .i64 a0)),(p1,(.int .i64 a1)),(p2,(.int .i64 a2))],h⟩=(Yu n k j0) a0 a1 a2 h:=by
  obtain rfl:=fx2 hk
  obtain rfl:=fx2 h0
  kernel_rfl
def aud:Q1:=aku n k0 (adF n k0)
def XT (n:Nat) (a0:Int) (a1:Int) (a2:Int) (h:Heap) (k:wH):CRes:=Yu n k (Q4 n k) a0 a1 a2 h
theorem auB (n:Nat) (k0:Q0) (s:St):D (ez []) Bc n Yj (cG Gu k0) (fun _ _=>.err) (cG Gu k0) s=aud n k0 s:=by kernel_rfl
theorem auv (n:Nat) (a0:Int) (a1:Int) (a2:Int) (h:Heap) (k0:Q0):W XZ Gu [] Bc n Yj [(.int .i64 a0),(.int .i64 a1),(.int .i64 a2)] h k0=XT n a0 a1 a2 h (fun u0 h=>k0 (.bool u0) h):=by
  let k:wH:=fun u0 h=>k0 (.bool u0) h
  have hk:KW k0 k:=fun _ _=>rfl
  have hb:∀ F:Tr AV→CRes,fJ XZ [(.int .i64 a0),(.int .i64 a1),(.int .i64 a2)] .leaf F=F (cH [(p0,(.int .i64 a0)),(p1,(.int .i64 a1)),(p2,(.int .i64 a2))]):=fun F=>by kernel_rfl
  exact (lD hb).trans ((auB n k0 _).trans (aus n k0 k hk (arj n k0 k hk) a0 a1 a2 h))
end
def mF (n:Nat):dz:=XT n
/-! cofferdam/cost.Switch -/
abbrev ef:=AV→Int→Int→Heap→(Int→Int→Heap→CRes)→CRes
abbrev wU:=Int→Int→Heap→CRes
def Bq (g:ef):Wr:=fun l h k=>kL l fun a0 l=>nH .i64 l fun a1 l=>nH .i64 l fun a2 l=>lw l (g a0 a1 a2 h fun u0 u1 h=>k (.tuple [(.int .u64 u0),(.int .i64 u1)]) h)
def ud (aF:ck) (aW:dz):dD:=ez [(iK,ig aF),(qp,oa aW)]
abbrev JL (k0:Q0) (k:wU):Prop:=∀ u0 u1 h,k0 (.tuple [(.int .u64 u0),(.int .i64 u1)]) h=k u0 u1 h
abbrev Hw:Type:=Int→Int→AV→Bool→Heap→CRes
abbrev Rb (J:Q1) (j:Hw):Prop:=∀ v1 v2 v3 v21 h,J ⟨cH [(p1,(.int .i64 v1)),(p2,(.int .i64 v2)),(p3,v3),(p21,(.bool v21))],h⟩=j v1 v2 v3 v21 h
section
variable (n:Nat) (aF:ck) (aW:dz) (k0:Q0) (k:wU)
def aeG (n:Nat) (aF:ck) (aW:dz) (k0:Q0):Q1:=(fun s=>dH (.t p21) s (bE (ud aF aW) oc adJ (cG wT k0)) (bE (ud aF aW) oc aeC (cG wT k0)))
def QU (n:Nat) (aF:ck) (aW:dz) (k:wU) (v1:Int) (v2:Int) (v3:AV) (v21:Bool) (h:Heap):CRes:=
 ifB v21
 (k 0 2 h)
 (lp .i64 v1 v2 fun x9=>
 Dn .u64 x9 fun x10=>
 iY .u64 4 h v3 fun x11 x12=>
 Ve .u64 x10 x12 fun x13=>
 k x13 0 h)
theorem ark (hk:JL k0 k):Rb (aeG n aF aW k0) (QU n aF aW k):=by
  obtain rfl:=fx3 hk
  intro v1 v2 v3 v21 h
  kernel_rfl
def ac5:Q1:=aeG n aF aW k0
def Ro:Hw:=QU n aF aW k
theorem arc (hk:JL k0 k):Rb (ac5 n aF aW k0) (Ro n aF aW k):=ark n aF aW k0 k hk
def aki (n:Nat) (aF:ck) (aW:dz) (k0:Q0) (J0:Q1):Q1:=(bE (ud aF aW) oc adI (bE (ud aF aW) oc ac0 (bE (ud aF aW) oc ads (fun s=>dH (.t p12) s (bE (ud aF aW) oc ac3 (cG wT k0)) (bE (ud aF aW) oc ada (fun s=>cI adj s J0))))))
def XR (n:Nat) (aF:ck) (aW:dz) (k:wU) (j0:Hw) (a0:AV) (a1:Int) (a2:Int) (h:Heap):CRes:=
 Dh h a0 fun x0 h1=>
 f8 h1 (.ptr x0 0) 6 true fun x2=>
 aF x2 h1 fun x3 h4=>
 ifB (fS (eqF x3 0))
 (k 0 x3 h4)
 (aW a1 0 65536 h4 fun x5 h6=>
 ifB (fS x5)
 (j0 a1 a2 (.ptr x0 0) true h6)
 (aW a2 0 64 h6 fun x7 h8=>
 j0 a1 a2 (.ptr x0 0) (fS x7) h8))
theorem aui (n:Nat) (aF:ck) (aW:dz) (k0:Q0) (k:wU) (hk:JL k0 k) {J0:Q1} {j0:Hw} (h0:Rb J0 j0) (a0:AV) (a1:Int) (a2:Int) (h:Heap):(aki n aF aW k0 J0) ⟨cH [(p0,a0),(p1,(.int .i64 a1)),(p2,(.int .i64 a2))],h⟩=(XR n aF aW k j0) a0 a1 a2 h:=by
  obtain rfl:=fx3 hk
  obtain rfl:=fx5 h0
  kernel_rfl
def auq:Q1:=aki n aF aW k0 (ac5 n aF aW k0)
def Yb (n:Nat) (aF:ck) (aW:dz) (a0:AV) (a1:Int) (a2:Int) (h:Heap) (k:wU):CRes:=XR n aF aW k (Ro n aF aW k) a0 a1 a2 h
theorem auk (n:Nat) (aF:ck) (aW:dz) (k0:Q0) (s:St):D (ez [(iK,ig aF),(qp,oa aW)]) oc n XB (cG wT k0) (fun _ _=>.err) (cG wT k0) s=auq n aF aW k0 s:=by kernel_rfl
theorem auW (n:Nat) (aF:ck) (aW:dz) (a0:AV) (a1:Int) (a2:Int) (h:Heap) (k0:Q0):W Yo wT [(iK,ig aF),(qp,oa aW)] oc n XB [a0,(.int .i64 a1),(.int .i64 a2)] h k0=Yb n aF aW a0 a1 a2 h (fun u0 u1 h=>k0 (.tuple [(.int .u64 u0),(.int .i64 u1)]) h):=by
  let k:wU:=fun u0 u1 h=>k0 (.tuple [(.int .u64 u0),(.int .i64 u1)]) h
  have hk:JL k0 k:=fun _ _ _=>rfl
  have hb:∀ F:Tr AV→CRes,fJ Yo [a0,(.int .i64 a1),(.int .i64 a2)] .leaf F=F (cH [(p0,a0),(p1,(.int .i64 a1)),(p2,(.int .i64 a2))]):=fun F=>by kernel_rfl
  exact (lD hb).trans ((auk n aF aW k0 _).trans (aui n aF aW k0 k hk (arc n aF aW k0 k hk) a0 a1 a2 h))
end
def te (n:Nat):ef:=Yb n (gy n) (mF n)
/-! cofferdam/cost.asked -/
abbrev lq:=AV→AV→Heap→(Int→Heap→CRes)→CRes
abbrev mH:=Int→Heap→CRes
def EQ (g:lq):Wr:=fun l h k=>kL l fun a0 l=>kL l fun a1 l=>lw l (g a0 a1 h fun u0 h=>k (.int .i64 u0) h)
def iy (aF:ck) (aW:dz):dD:=ez [(iK,ig aF),(qp,oa aW)]
abbrev jA (k0:Q0) (k:mH):Prop:=∀ u0 h,k0 (.int .i64 u0) h=k u0 h
abbrev KJ:Type:=Bool→Heap→CRes
abbrev VD (J:Q1) (j:KJ):Prop:=∀ v44 h,J ⟨cH [(p44,(.bool v44))],h⟩=j v44 h
abbrev Lb:Type:=AV→Bool→Heap→CRes
abbrev Uq (J:Q1) (j:Lb):Prop:=∀ v3 v38 h,J ⟨cH [(p3,v3),(p38,(.bool v38))],h⟩=j v3 v38 h
abbrev K1:Type:=AV→Bool→Heap→CRes
abbrev VC (J:Q1) (j:K1):Prop:=∀ v3 v32 h,J ⟨cH [(p3,v3),(p32,(.bool v32))],h⟩=j v3 v32 h
abbrev Jx:Type:=AV→Bool→Heap→CRes
abbrev UN (J:Q1) (j:Jx):Prop:=∀ v3 v6 h,J ⟨cH [(p3,v3),(p6,(.bool v6))],h⟩=j v3 v6 h
abbrev Kz:Type:=AV→Int→Bool→Heap→CRes
abbrev UP (J:Q1) (j:Kz):Prop:=∀ v3 v13 v23 h,J ⟨cH [(p3,v3),(p13,(.int .i64 v13)),(p23,(.bool v23))],h⟩=j v3 v13 v23 h
abbrev oE:Type:=AV→Bool→Int→Heap→CRes
abbrev Dt (J:Q1) (j:oE):Prop:=∀ v3 v6 v13 h,J ⟨cH [(p3,v3),(p6,(.bool v6)),(p13,(.int .i64 v13))],h⟩=j v3 v6 v13 h
section
variable (n:Nat) (aF:ck) (aW:dz) (k0:Q0) (k:mH)
def agp (n:Nat) (aF:ck) (aW:dz) (k0:Q0):Q1:=(fun s=>dH (.t p44) s (bE (iy aF aW) gP afI (cG zl k0)) (bE (iy aF aW) gP aik (cG zl k0)))
def Vl (n:Nat) (aF:ck) (aW:dz) (k:mH) (v44:Bool) (h:Heap):CRes:=
 ifB v44
 (k 2 h)
 (k 0 h)
theorem ask (hk:jA k0 k):VD (agp n aF aW k0) (Vl n aF aW k):=by
  obtain rfl:=fx2 hk
  intro v44 h
  kernel_rfl
def age:Q1:=agp n aF aW k0
def UK:KJ:=Vl n aF aW k
theorem atm (hk:jA k0 k):VD (age n aF aW k0) (UK n aF aW k):=ask n aF aW k0 k hk
def agt (n:Nat) (aF:ck) (aW:dz) (k0:Q0) (J2:Q1):Q1:=(bE (iy aF aW) gP agz (fun s=>cI agV s J2))
def T4 (n:Nat) (aF:ck) (aW:dz) (k:mH) (j2:KJ) (v3:AV) (v38:Bool) (h:Heap):CRes:=
 ifB v38
 (j2 true h)
 (faK 3 v3 fun x19=>
 ldI .i64 h x19 fun x20=>
 aW x20 1 4096 h fun x21 h22=>
 j2 (fS x21) h22)
theorem as1 (hk:jA k0 k) {J2:Q1} {j2:KJ} (h2:VD J2 j2):Uq (agt n aF aW k0 J2) (T4 n aF aW k j2):=by
  obtain rfl:=fx2 hk
  obtain rfl:=fx2 h2
  intro v3 v38 h
  kernel_rfl
def aih:Q1:=agt n aF aW k0 (age n aF aW k0)
def Vc:Lb:=T4 n aF aW k (UK n aF aW k)
theorem as7 (hk:jA k0 k):Uq (aih n aF aW k0) (Vc n aF aW k):=as1 n aF aW k0 k hk (atm n aF aW k0 k hk)
def aim (n:Nat) (aF:ck) (aW:dz) (k0:Q0) (J1:Q1):Q1:=(bE (iy aF aW) gP ahi (fun s=>cI agJ s J1))
def UO (n:Nat) (aF:ck) (aW:dz) (k:mH) (j1:Lb) (v3:AV) (v32:Bool) (h:Heap):CRes:=
 ifB v32
 (j1 v3 true h)
 (faK 2 v3 fun x14=>
 ldI .i64 h x14 fun x15=>
 aW x15 1 5120 h fun x16 h17=>
 j1 v3 (fS x16) h17)
theorem as6 (hk:jA k0 k) {J1:Q1} {j1:Lb} (h1:Uq J1 j1):VC (aim n aF aW k0 J1) (UO n aF aW k j1):=by
  obtain rfl:=fx2 hk
  obtain rfl:=fx3 h1
  intro v3 v32 h
  kernel_rfl
def af9:Q1:=aim n aF aW k0 (aih n aF aW k0)
def UZ:K1:=UO n aF aW k (Vc n aF aW k)
theorem asv (hk:jA k0 k):VC (af9 n aF aW k0) (UZ n aF aW k):=as6 n aF aW k0 k hk (as7 n aF aW k0 k hk)
def afB (n:Nat) (aF:ck) (aW:dz) (k0:Q0) (J0:Q1):Q1:=(bE (iy aF aW) gP ah6 (fun s=>cI ain s J0))
def Vv (n:Nat) (aF:ck) (aW:dz) (k:mH) (j0:K1) (v3:AV) (v6:Bool) (h:Heap):CRes:=
 ifB (fS v6)
 (j0 v3 true h)
 (faK 1 v3 fun x7=>
 ldI .i64 h x7 fun x8=>
 aW x8 2 4096 h fun x9 h10=>
 j0 v3 (fS x9) h10)
theorem asu (hk:jA k0 k) {J0:Q1} {j0:K1} (h0:VC J0 j0):UN (afB n aF aW k0 J0) (Vv n aF aW k j0):=by
  obtain rfl:=fx2 hk
  obtain rfl:=fx3 h0
  intro v3 v6 h
  kernel_rfl
def ahe:Q1:=afB n aF aW k0 (af9 n aF aW k0)
def DZ:Jx:=Vv n aF aW k (UZ n aF aW k)
theorem asW (hk:jA k0 k):UN (ahe n aF aW k0) (DZ n aF aW k):=asu n aF aW k0 k hk (asv n aF aW k0 k hk)
def ag7 (n:Nat) (aF:ck) (aW:dz) (k0:Q0) (J4:Q1):Q1:=(bE (iy aF aW) gP afT (bE (iy aF aW) gP ag6 (fun s=>cI T7 s J4)))
def T5 (n:Nat) (aF:ck) (aW:dz) (k:mH) (j4:oE) (v3:AV) (v13:Int) (v23:Bool) (h:Heap):CRes:=
 lp .i64 v13 1 fun x18=>
 j4 v3 v23 x18 h
theorem arI (hk:jA k0 k) {J4:Q1} {j4:oE} (h4:Dt J4 j4):UP (ag7 n aF aW k0 J4) (T5 n aF aW k j4):=by
  obtain rfl:=fx2 hk
  obtain rfl:=fx4 h4
  intro v3 v13 v23 h
  kernel_rfl
def ahw (J4:Q1):Q1:=ag7 n aF aW k0 J4
def Jy (j4:oE):Kz:=T5 n aF aW k j4
theorem arU (hk:jA k0 k) {J4:Q1} {j4:oE} (h4:Dt J4 j4):UP (ahw n aF aW k0 J4) (Jy n aF aW k j4):=arI n aF aW k0 k hk h4
def ahD (n:Nat) (aF:ck) (aW:dz) (k0:Q0) (J3:Q1) (J5:Q1):Q1:=(bE (iy aF aW) gP ah0 (fun s=>dH (.t p14) s (bE (iy aF aW) gP ahX (bE (iy aF aW) gP af3 (fun s=>cI agQ s J5))) (fun s=>cI ahd s J3)))
def KG (n:Nat) (aF:ck) (aW:dz) (k:mH) (j3:Jx) (j5:Kz) (v3:AV) (v6:Bool) (v13:Int) (h:Heap):CRes:=
 ifB (ltF v13 4)
 (ifB v6
 (j5 v3 v13 true h)
 (faK 0 v3 fun x11=>
 ldI .i64 h x11 fun x12=>
 al0 .i64 1 v13 fun x13=>
 j5 v3 v13 (eqF x12 x13) h))
 (j3 v3 v6 h)
theorem ar8 (hk:jA k0 k) {J3:Q1} {j3:Jx} (h3:UN J3 j3) {J5:Q1} {j5:Kz} (h5:UP J5 j5):Dt (ahD n aF aW k0 J3 J5) (KG n aF aW k j3 j5):=by
  obtain rfl:=fx2 hk
  obtain rfl:=fx3 h3
  obtain rfl:=fx4 h5
  intro v3 v6 v13 h
  kernel_rfl
def afC (m:Nat):Q1:=Nat.rec (motive:=fun _=>Q1) (fun _=>.err) (fun _ ih=>ahD n aF aW k0 (ahe n aF aW k0) (ahw n aF aW k0 ih)) m
def D3 (m:Nat):oE:=Nat.rec (motive:=fun _=>oE) (fun _ _ _ _=>.err) (fun _ ih=>KG n aF aW k (DZ n aF aW k) (Jy n aF aW k ih)) m
theorem asS (m:Nat):D3 n aF aW k (m+1)=KG n aF aW k (DZ n aF aW k) (Jy n aF aW k (D3 n aF aW k m)):=rfl
theorem as3 (hk:jA k0 k) (m:Nat):Dt (afC n aF aW k0 m) (D3 n aF aW k m):=by
  induction m with
  | zero=>intro v3 v6 v13 h; rfl
  | succ m ih=>exact ar8 n aF aW k0 k hk (asW n aF aW k0 k hk) (arU n aF aW k0 k hk ih)
def amf (n:Nat) (aF:ck) (aW:dz) (k0:Q0) (J4:Q1):Q1:=(bE (iy aF aW) gP adU (bE (iy aF aW) gP ad3 (bE (iy aF aW) gP aea (fun s=>dH (.t p11) s (bE (iy aF aW) gP adD (cG zl k0)) (bE (iy aF aW) gP adw (bE (iy aF aW) gP adv (fun s=>cI T7 s J4)))))))
def abv (n:Nat) (aF:ck) (aW:dz) (k:mH) (j4:oE) (a0:AV) (a1:AV) (h:Heap):CRes:=
 Dh h a0 fun x0 h1=>
 Dh h1 a1 fun x2 h3=>
 f8 h3 (.ptr x0 0) 6 true fun x4=>
 aF x4 h3 fun x5 h6=>
 ifB (fS (eqF x5 0))
 (k x5 h6)
 (j4 (.ptr x2 0) false 0 h6)
theorem awz (n:Nat) (aF:ck) (aW:dz) (k0:Q0) (k:mH) (hk:jA k0 k) {J4:Q1} {j4:oE} (h4:Dt J4 j4) (a0:AV) (a1:AV) (h:Heap):(amf n aF aW k0 J4) ⟨cH [(p0,a0),(p1,a1)],h⟩=(abv n aF aW k j4) a0 a1 h:=by
  obtain rfl:=fx2 hk
  obtain rfl:=fx4 h4
  kernel_rfl
def awA:Q1:=amf n aF aW k0 (afC n aF aW k0 n)
def acB (n:Nat) (aF:ck) (aW:dz) (a0:AV) (a1:AV) (h:Heap) (k:mH):CRes:=abv n aF aW k (D3 n aF aW k n) a0 a1 h
theorem awJ (n:Nat) (aF:ck) (aW:dz) (k0:Q0) (s:St):D (ez [(iK,ig aF),(qp,oa aW)]) gP n act (cG zl k0) (fun _ _=>.err) (cG zl k0) s=awA n aF aW k0 s:=by kernel_rfl
theorem awI (n:Nat) (aF:ck) (aW:dz) (a0:AV) (a1:AV) (h:Heap) (k0:Q0):W acr zl [(iK,ig aF),(qp,oa aW)] gP n act [a0,a1] h k0=acB n aF aW a0 a1 h (fun u0 h=>k0 (.int .i64 u0) h):=by
  let k:mH:=fun u0 h=>k0 (.int .i64 u0) h
  have hk:jA k0 k:=fun _ _=>rfl
  have hb:∀ F:Tr AV→CRes,fJ acr [a0,a1] .leaf F=F (cH [(p0,a0),(p1,a1)]):=fun F=>by kernel_rfl
  exact (lD hb).trans ((awJ n aF aW k0 _).trans (awz n aF aW k0 k hk (as3 n aF aW k0 k hk n) a0 a1 h))
end
def wm (n:Nat):lq:=acB n (gy n) (mF n)
/-! cofferdam/cost.bounds -/
abbrev jF:=AV→AV→Heap→(AV→Heap→CRes)→CRes
abbrev Bd:=AV→Heap→CRes
def Bh (g:jF):Wr:=fun l h k=>kL l fun a0 l=>kL l fun a1 l=>lw l (g a0 a1 h fun u0 h=>k u0 h)
def oq:dD:=ez []
abbrev afq (k0:Q0) (k:Bd):Prop:=∀ u0 h,k0 u0 h=k u0 h
section
variable (n:Nat) (k0:Q0) (k:Bd)
def akn (n:Nat) (k0:Q0):Q1:=(bE (oq) lU adE (bE (oq) lU ady (bE (oq) lU adx (bE (oq) lU adi (bE (oq) lU aet (bE (oq) lU aeI (bE (oq) lU ac8 (bE (oq) lU aep (bE (oq) lU acV (cG GG k0))))))))))
def Xw (n:Nat) (k:Bd) (a0:AV) (a1:AV) (h:Heap):CRes:=
 Dh h a0 fun x0 h1=>
 Dh h1 a1 fun x2 h3=>
 Bv h3 (.cells [.nilfunc,.nilfunc,.nilfunc,.nilfunc,.nilfunc,.nilfunc,.nilfunc,.nilfunc,.nilfunc,.nilfunc,.nilfunc] true 0) fun x4 h5=>
 iY .u64 2 h5 (.ptr x0 0) fun x6 x7=>
 Bv h5 (.cells [(.int .u64 0)] true 0) fun x8 h9=>
 lS h9 (.ptr x8 0) 1 (.int .u64 x7) fun h10=>
 iY .u64 4 h10 (.ptr x0 0) fun x11 x12=>
 ldI .u64 h10 (.ptr x8 0) fun x13=>
 Ve .u64 2 x13 fun x14=>
 lp .u64 x12 x14 fun x15=>
 Bv h10 (.cells [(.int .u64 0)] true 0) fun x16 h17=>
 lS h17 (.ptr x16 0) 1 (.int .u64 x15) fun h18=>
 iY .i64 2 h18 (.ptr x2 0) fun x19 x20=>
 Dn .u64 x20 fun x21=>
 ldI .u64 h18 (.ptr x16 0) fun x22=>
 Ve .u64 x21 x22 fun x23=>
 Bv h18 (.cells [(.int .u64 0)] true 0) fun x24 h25=>
 lS h25 (.ptr x24 0) 1 (.int .u64 x23) fun h26=>
 iY .i64 1 h26 (.ptr x2 0) fun x27 x28=>
 Dn .u64 x28 fun x29=>
 Ve .u64 2 x29 fun x30=>
 lp .u64 x30 1 fun x31=>
 iY .u64 4 h26 (.ptr x0 0) fun x32 x33=>
 Ve .u64 x31 x33 fun x34=>
 iY .u64 5 h26 (.ptr x0 0) fun x35 x36=>
 lp .u64 x34 x36 fun x37=>
 Bv h26 (.cells [(.int .u64 0)] true 0) fun x38 h39=>
 lS h39 (.ptr x38 0) 1 (.int .u64 x37) fun h40=>
 Bv h40 (.cells [.nilfunc] true 0) fun x41 h42=>
 lS h42 (.ptr x41 0) 1 (.func 119 [] [(.ptr x8 0)]) fun h43=>
 Bv h43 (.cells [.nilfunc] true 0) fun x44 h45=>
 lS h45 (.ptr x44 0) 1 (.func 120 [] [(.ptr x16 0)]) fun h46=>
 f8 h46 (.ptr x41 0) 1 false fun x47=>
 f8 h46 (.ptr x44 0) 1 false fun x48=>
 yL [.nilfunc,.nilfunc,.nilfunc,.nilfunc,.nilfunc,.nilfunc,.nilfunc,.nilfunc,.nilfunc,.nilfunc,.nilfunc] [(0,1,(.func 121 [] [])),(1,1,(.func 122 [] [(.ptr x8 0)])),(2,1,(.func 123 [] [(.ptr x24 0),(.ptr x8 0)])),(3,1,(.func 124 [] [(.ptr x8 0),(.ptr x2 0),(.ptr x24 0)])),(4,1,x47),(5,1,x48),(6,1,(.func 125 [] [(.ptr x0 0),(.ptr x8 0)])),(7,1,(.func 126 [] [(.ptr x41 0),(.ptr x44 0)])),(8,1,(.func 127 [] [(.ptr x8 0),(.ptr x0 0),(.ptr x38 0)])),(9,1,(.func 128 [] [(.ptr x8 0),(.ptr x0 0),(.ptr x38 0)])),(10,1,(.func 121 [] []))] fun x49=>
 lS h46 (.ptr x4 0) 11 x49 fun h50=>
 f8 h50 (.ptr x4 0) 11 true fun x51=>
 k x51 h50
theorem auE (n:Nat) (k0:Q0) (k:Bd) (hk:afq k0 k) (a0:AV) (a1:AV) (h:Heap):(akn n k0) ⟨cH [(p0,a0),(p1,a1)],h⟩=(Xw n k) a0 a1 h:=by
  obtain rfl:=fx2 hk
  kernel_rfl
def auu:Q1:=akn n k0
def XD (n:Nat) (a0:AV) (a1:AV) (h:Heap) (k:Bd):CRes:=Xw n k a0 a1 h
theorem at4 (n:Nat) (k0:Q0) (s:St):D (ez []) lU n Ym (cG GG k0) (fun _ _=>.err) (cG GG k0) s=auu n k0 s:=by kernel_rfl
theorem auD (n:Nat) (a0:AV) (a1:AV) (h:Heap) (k0:Q0):W Yc GG [] lU n Ym [a0,a1] h k0=XD n a0 a1 h (fun u0 h=>k0 u0 h):=by
  let k:Bd:=fun u0 h=>k0 u0 h
  have hk:afq k0 k:=fun _ _=>rfl
  have hb:∀ F:Tr AV→CRes,fJ Yc [a0,a1] .leaf F=F (cH [(p0,a0),(p1,a1)]):=fun F=>by kernel_rfl
  exact (lD hb).trans ((at4 n k0 _).trans (auE n k0 k hk a0 a1 h))
end
def tc (n:Nat):jF:=XD n
/-! cofferdam/cost.bounds$1 -/
abbrev dV:=AV→Heap→(Int→Heap→CRes)→CRes
abbrev tx:=Int→Heap→CRes
def kF (g:dV):Wr:=fun l h k=>kL l fun a0 l=>lw l (g a0 h fun u0 h=>k (.int .u64 u0) h)
def Wq:dD:=ez []
abbrev WE (k0:Q0) (k:tx):Prop:=∀ u0 h,k0 (.int .u64 u0) h=k u0 h
section
variable (n:Nat) (k0:Q0) (k:tx)
def aac (n:Nat) (k0:Q0):Q1:=(bE (Wq) yA Vn (bE (Wq) yA VL (cG ys k0)))
def N8 (n:Nat) (k:tx) (a0:AV) (h:Heap):CRes:=
 ldI .u64 h a0 fun x0=>
 Ve .u64 113 x0 fun x1=>
 k x1 h
theorem aoz (n:Nat) (k0:Q0) (k:tx) (hk:WE k0 k) (a0:AV) (h:Heap):(aac n k0) ⟨cH [(p0,a0)],h⟩=(N8 n k) a0 h:=by
  obtain rfl:=fx2 hk
  kernel_rfl
def apf:Q1:=aac n k0
def NE (n:Nat) (a0:AV) (h:Heap) (k:tx):CRes:=N8 n k a0 h
theorem aoK (n:Nat) (k0:Q0) (s:St):D (ez []) yA n Nn (cG ys k0) (fun _ _=>.err) (cG ys k0) s=apf n k0 s:=by kernel_rfl
theorem apD (n:Nat) (a0:AV) (h:Heap) (k0:Q0):W NI ys [] yA n Nn [a0] h k0=NE n a0 h (fun u0 h=>k0 (.int .u64 u0) h):=by
  let k:tx:=fun u0 h=>k0 (.int .u64 u0) h
  have hk:WE k0 k:=fun _ _=>rfl
  have hb:∀ F:Tr AV→CRes,fJ NI [a0] .leaf F=F (cH [(p0,a0)]):=fun F=>by kernel_rfl
  exact (lD hb).trans ((aoK n k0 _).trans (aoz n k0 k hk a0 h))
end
def gx (n:Nat):dV:=NE n
/-! cofferdam/cost.bounds$2 -/
abbrev dX:=AV→Heap→(Int→Heap→CRes)→CRes
abbrev tt:=Int→Heap→CRes
def kE (g:dX):Wr:=fun l h k=>kL l fun a0 l=>lw l (g a0 h fun u0 h=>k (.int .u64 u0) h)
def Xq:dD:=ez []
abbrev Xd (k0:Q0) (k:tt):Prop:=∀ u0 h,k0 (.int .u64 u0) h=k u0 h
section
variable (n:Nat) (k0:Q0) (k:tt)
def Zf (n:Nat) (k0:Q0):Q1:=(bE (Xq) xM Vh (bE (Xq) xM VE (cG yh k0)))
def Nz (n:Nat) (k:tt) (a0:AV) (h:Heap):CRes:=
 ldI .u64 h a0 fun x0=>
 Ve .u64 64 x0 fun x1=>
 k x1 h
theorem apA (n:Nat) (k0:Q0) (k:tt) (hk:Xd k0 k) (a0:AV) (h:Heap):(Zf n k0) ⟨cH [(p0,a0)],h⟩=(Nz n k) a0 h:=by
  obtain rfl:=fx2 hk
  kernel_rfl
def aoC:Q1:=Zf n k0
def OA (n:Nat) (a0:AV) (h:Heap) (k:tt):CRes:=Nz n k a0 h
theorem an0 (n:Nat) (k0:Q0) (s:St):D (ez []) xM n Nx (cG yh k0) (fun _ _=>.err) (cG yh k0) s=aoC n k0 s:=by kernel_rfl
theorem apB (n:Nat) (a0:AV) (h:Heap) (k0:Q0):W NW yh [] xM n Nx [a0] h k0=OA n a0 h (fun u0 h=>k0 (.int .u64 u0) h):=by
  let k:tt:=fun u0 h=>k0 (.int .u64 u0) h
  have hk:Xd k0 k:=fun _ _=>rfl
  have hb:∀ F:Tr AV→CRes,fJ NW [a0] .leaf F=F (cH [(p0,a0)]):=fun F=>by kernel_rfl
  exact (lD hb).trans ((an0 n k0 _).trans (apA n k0 k hk a0 h))
end
def gn (n:Nat):dX:=OA n
/-! cofferdam/cost.bounds$3 -/
abbrev dU:=Heap→(Int→Heap→CRes)→CRes
abbrev th:=Int→Heap→CRes
def kN (g:dU):Wr:=fun l h k=>lw l (g h fun u0 h=>k (.int .u64 u0) h)
def WW:dD:=ez []
abbrev W6 (k0:Q0) (k:th):Prop:=∀ u0 h,k0 (.int .u64 u0) h=k u0 h
section
variable (n:Nat) (k0:Q0) (k:th)
def Zp (n:Nat) (k0:Q0):Q1:=(bE (WW) xJ U9 (bE (WW) xJ Vp (cG xx k0)))
def abk (n:Nat) (k:th) (h:Heap):CRes:=
 k 0 h
theorem an9 (n:Nat) (k0:Q0) (k:th) (hk:W6 k0 k) (h:Heap):(Zp n k0) ⟨cH [],h⟩=(abk n k) h:=by
  obtain rfl:=fx2 hk
  kernel_rfl
def apC:Q1:=Zp n k0
def aa2 (n:Nat) (h:Heap) (k:th):CRes:=abk n k h
theorem an5 (n:Nat) (k0:Q0) (s:St):D (ez []) xJ n NG (cG xx k0) (fun _ _=>.err) (cG xx k0) s=apC n k0 s:=by kernel_rfl
theorem aoN (n:Nat) (h:Heap) (k0:Q0):W Nj xx [] xJ n NG [] h k0=aa2 n h (fun u0 h=>k0 (.int .u64 u0) h):=by
  let k:th:=fun u0 h=>k0 (.int .u64 u0) h
  have hk:W6 k0 k:=fun _ _=>rfl
  have hb:∀ F:Tr AV→CRes,fJ Nj [] .leaf F=F (cH []):=fun F=>by kernel_rfl
  exact (lD hb).trans ((an5 n k0 _).trans (an9 n k0 k hk h))
end
def js (n:Nat):dU:=aa2 n
/-! cofferdam/cost.bounds$4 -/
abbrev dW:=AV→Heap→(Int→Heap→CRes)→CRes
abbrev tv:=Int→Heap→CRes
def kP (g:dW):Wr:=fun l h k=>kL l fun a0 l=>lw l (g a0 h fun u0 h=>k (.int .u64 u0) h)
def WX:dD:=ez []
abbrev Ws (k0:Q0) (k:tv):Prop:=∀ u0 h,k0 (.int .u64 u0) h=k u0 h
section
variable (n:Nat) (k0:Q0) (k:tv)
def ZH (n:Nat) (k0:Q0):Q1:=(bE (WX) yK Ux (bE (WX) yK UL (cG ya k0)))
def NS (n:Nat) (k:tv) (a0:AV) (h:Heap):CRes:=
 ldI .u64 h a0 fun x0=>
 Ve .u64 17 x0 fun x1=>
 k x1 h
theorem anK (n:Nat) (k0:Q0) (k:tv) (hk:Ws k0 k) (a0:AV) (h:Heap):(ZH n k0) ⟨cH [(p0,a0)],h⟩=(NS n k) a0 h:=by
  obtain rfl:=fx2 hk
  kernel_rfl
def aob:Q1:=ZH n k0
def N5 (n:Nat) (a0:AV) (h:Heap) (k:tv):CRes:=NS n k a0 h
theorem anM (n:Nat) (k0:Q0) (s:St):D (ez []) yK n OK (cG ya k0) (fun _ _=>.err) (cG ya k0) s=aob n k0 s:=by kernel_rfl
theorem an6 (n:Nat) (a0:AV) (h:Heap) (k0:Q0):W OG ya [] yK n OK [a0] h k0=N5 n a0 h (fun u0 h=>k0 (.int .u64 u0) h):=by
  let k:tv:=fun u0 h=>k0 (.int .u64 u0) h
  have hk:Ws k0 k:=fun _ _=>rfl
  have hb:∀ F:Tr AV→CRes,fJ OG [a0] .leaf F=F (cH [(p0,a0)]):=fun F=>by kernel_rfl
  exact (lD hb).trans ((anM n k0 _).trans (anK n k0 k hk a0 h))
end
def gX (n:Nat):dW:=N5 n
/-! cofferdam/cost.bounds$5 -/
abbrev dT:=AV→AV→Heap→(Int→Heap→CRes)→CRes
abbrev tF:=Int→Heap→CRes
def kK (g:dT):Wr:=fun l h k=>kL l fun a0 l=>kL l fun a1 l=>lw l (g a0 a1 h fun u0 h=>k (.int .u64 u0) h)
def W5:dD:=ez []
abbrev WC (k0:Q0) (k:tF):Prop:=∀ u0 h,k0 (.int .u64 u0) h=k u0 h
section
variable (n:Nat) (k0:Q0) (k:tF)
def aa1 (n:Nat) (k0:Q0):Q1:=(bE (W5) xG VN (bE (W5) xG Uw (cG xB k0)))
def NF (n:Nat) (k:tF) (a0:AV) (a1:AV) (h:Heap):CRes:=
 ldI .u64 h a0 fun x0=>
 ldI .u64 h a1 fun x1=>
 lp .u64 x0 x1 fun x2=>
 k x2 h
theorem apy (n:Nat) (k0:Q0) (k:tF) (hk:WC k0 k) (a0:AV) (a1:AV) (h:Heap):(aa1 n k0) ⟨cH [(p0,a0),(p1,a1)],h⟩=(NF n k) a0 a1 h:=by
  obtain rfl:=fx2 hk
  kernel_rfl
def aoR:Q1:=aa1 n k0
def OM (n:Nat) (a0:AV) (a1:AV) (h:Heap) (k:tF):CRes:=NF n k a0 a1 h
theorem ao0 (n:Nat) (k0:Q0) (s:St):D (ez []) xG n OD (cG xB k0) (fun _ _=>.err) (cG xB k0) s=aoR n k0 s:=by kernel_rfl
theorem aoS (n:Nat) (a0:AV) (a1:AV) (h:Heap) (k0:Q0):W Ob xB [] xG n OD [a0,a1] h k0=OM n a0 a1 h (fun u0 h=>k0 (.int .u64 u0) h):=by
  let k:tF:=fun u0 h=>k0 (.int .u64 u0) h
  have hk:WC k0 k:=fun _ _=>rfl
  have hb:∀ F:Tr AV→CRes,fJ Ob [a0,a1] .leaf F=F (cH [(p0,a0),(p1,a1)]):=fun F=>by kernel_rfl
  exact (lD hb).trans ((ao0 n k0 _).trans (apy n k0 k hk a0 a1 h))
end
def gT (n:Nat):dT:=OM n
/-! cofferdam/cost.bounds$6 -/
abbrev dY:=AV→AV→AV→Heap→(Int→Heap→CRes)→CRes
abbrev tz:=Int→Heap→CRes
def kD (g:dY):Wr:=fun l h k=>kL l fun a0 l=>kL l fun a1 l=>kL l fun a2 l=>lw l (g a0 a1 a2 h fun u0 h=>k (.int .u64 u0) h)
def Xl:dD:=ez []
abbrev Xs (k0:Q0) (k:tz):Prop:=∀ u0 h,k0 (.int .u64 u0) h=k u0 h
section
variable (n:Nat) (k0:Q0) (k:tz)
def aaQ (n:Nat) (k0:Q0):Q1:=(bE (Xl) xO Vg (bE (Xl) xO Uy (cG xZ k0)))
def M8 (n:Nat) (k:tz) (a0:AV) (a1:AV) (a2:AV) (h:Heap):CRes:=
 ldI .u64 h a0 fun x0=>
 iY .i64 3 h a1 fun x1 x2=>
 Dn .u64 x2 fun x3=>
 Ve .u64 16 x3 fun x4=>
 ldI .u64 h a0 fun x5=>
 Ve .u64 x4 x5 fun x6=>
 lp .u64 x0 x6 fun x7=>
 ldI .u64 h a2 fun x8=>
 lp .u64 x7 x8 fun x9=>
 k x9 h
theorem aoj (n:Nat) (k0:Q0) (k:tz) (hk:Xs k0 k) (a0:AV) (a1:AV) (a2:AV) (h:Heap):(aaQ n k0) ⟨cH [(p0,a0),(p1,a1),(p2,a2)],h⟩=(M8 n k) a0 a1 a2 h:=by
  obtain rfl:=fx2 hk
  kernel_rfl
def aor:Q1:=aaQ n k0
def OF (n:Nat) (a0:AV) (a1:AV) (a2:AV) (h:Heap) (k:tz):CRes:=M8 n k a0 a1 a2 h
theorem apu (n:Nat) (k0:Q0) (s:St):D (ez []) xO n Ou (cG xZ k0) (fun _ _=>.err) (cG xZ k0) s=aor n k0 s:=by kernel_rfl
theorem anP (n:Nat) (a0:AV) (a1:AV) (a2:AV) (h:Heap) (k0:Q0):W Ox xZ [] xO n Ou [a0,a1,a2] h k0=OF n a0 a1 a2 h (fun u0 h=>k0 (.int .u64 u0) h):=by
  let k:tz:=fun u0 h=>k0 (.int .u64 u0) h
  have hk:Xs k0 k:=fun _ _=>rfl
  have hb:∀ F:Tr AV→CRes,fJ Ox [a0,a1,a2] .leaf F=F (cH [(p0,a0),(p1,a1),(p2,a2)]):=fun F=>by kernel_rfl
  exact (lD hb).trans ((apu n k0 _).trans (aoj n k0 k hk a0 a1 a2 h))
end
def gV (n:Nat):dY:=OF n
/-! cofferdam/cost.bounds$7 -/
abbrev dZ:=AV→AV→Heap→(Int→Heap→CRes)→CRes
abbrev tG:=Int→Heap→CRes
def kQ (g:dZ):Wr:=fun l h k=>kL l fun a0 l=>kL l fun a1 l=>lw l (g a0 a1 h fun u0 h=>k (.int .u64 u0) h)
def Wv:dD:=ez []
abbrev WM (k0:Q0) (k:tG):Prop:=∀ u0 h,k0 (.int .u64 u0) h=k u0 h
section
variable (n:Nat) (k0:Q0) (k:tG)
def aab (n:Nat) (k0:Q0):Q1:=(bE (Wv) yl UQ (bE (Wv) yl VO (cG yk k0)))
def NJ (n:Nat) (k:tG) (a0:AV) (a1:AV) (h:Heap):CRes:=
 iY .u64 4 h a0 fun x0 x1=>
 ldI .u64 h a1 fun x2=>
 lp .u64 x1 x2 fun x3=>
 Ve .u64 64 x3 fun x4=>
 ldI .u64 h a1 fun x5=>
 lp .u64 x4 x5 fun x6=>
 k x6 h
theorem anU (n:Nat) (k0:Q0) (k:tG) (hk:WM k0 k) (a0:AV) (a1:AV) (h:Heap):(aab n k0) ⟨cH [(p0,a0),(p1,a1)],h⟩=(NJ n k) a0 a1 h:=by
  obtain rfl:=fx2 hk
  kernel_rfl
def aoU:Q1:=aab n k0
def N6 (n:Nat) (a0:AV) (a1:AV) (h:Heap) (k:tG):CRes:=NJ n k a0 a1 h
theorem aoi (n:Nat) (k0:Q0) (s:St):D (ez []) yl n N3 (cG yk k0) (fun _ _=>.err) (cG yk k0) s=aoU n k0 s:=by kernel_rfl
theorem aps (n:Nat) (a0:AV) (a1:AV) (h:Heap) (k0:Q0):W Ok yk [] yl n N3 [a0,a1] h k0=N6 n a0 a1 h (fun u0 h=>k0 (.int .u64 u0) h):=by
  let k:tG:=fun u0 h=>k0 (.int .u64 u0) h
  have hk:WM k0 k:=fun _ _=>rfl
  have hb:∀ F:Tr AV→CRes,fJ Ok [a0,a1] .leaf F=F (cH [(p0,a0),(p1,a1)]):=fun F=>by kernel_rfl
  exact (lD hb).trans ((aoi n k0 _).trans (anU n k0 k hk a0 a1 h))
end
def gW (n:Nat):dZ:=N6 n
/-! cofferdam/cost.bounds$9 -/
abbrev dS:=AV→AV→AV→Heap→(Int→Heap→CRes)→CRes
abbrev ti:=Int→Heap→CRes
def kJ (g:dS):Wr:=fun l h k=>kL l fun a0 l=>kL l fun a1 l=>kL l fun a2 l=>lw l (g a0 a1 a2 h fun u0 h=>k (.int .u64 u0) h)
def W4:dD:=ez []
abbrev Xm (k0:Q0) (k:ti):Prop:=∀ u0 h,k0 (.int .u64 u0) h=k u0 h
section
variable (n:Nat) (k0:Q0) (k:ti)
def aaM (n:Nat) (k0:Q0):Q1:=(bE (W4) xF Vw (bE (W4) xF U8 (cG yS k0)))
def ON (n:Nat) (k:ti) (a0:AV) (a1:AV) (a2:AV) (h:Heap):CRes:=
 ldI .u64 h a0 fun x0=>
 Ve .u64 26 x0 fun x1=>
 iY .u64 3 h a1 fun x2 x3=>
 lp .u64 x1 x3 fun x4=>
 ldI .u64 h a2 fun x5=>
 lp .u64 x4 x5 fun x6=>
 iY .u64 5 h a1 fun x7 x8=>
 lp .u64 x6 x8 fun x9=>
 k x9 h
theorem aoV (n:Nat) (k0:Q0) (k:ti) (hk:Xm k0 k) (a0:AV) (a1:AV) (a2:AV) (h:Heap):(aaM n k0) ⟨cH [(p0,a0),(p1,a1),(p2,a2)],h⟩=(ON n k) a0 a1 a2 h:=by
  obtain rfl:=fx2 hk
  kernel_rfl
def apr:Q1:=aaM n k0
def Or (n:Nat) (a0:AV) (a1:AV) (a2:AV) (h:Heap) (k:ti):CRes:=ON n k a0 a1 a2 h
theorem aoE (n:Nat) (k0:Q0) (s:St):D (ez []) xF n Nd (cG yS k0) (fun _ _=>.err) (cG yS k0) s=apr n k0 s:=by kernel_rfl
theorem aoc (n:Nat) (a0:AV) (a1:AV) (a2:AV) (h:Heap) (k0:Q0):W NU yS [] xF n Nd [a0,a1,a2] h k0=Or n a0 a1 a2 h (fun u0 h=>k0 (.int .u64 u0) h):=by
  let k:ti:=fun u0 h=>k0 (.int .u64 u0) h
  have hk:Xm k0 k:=fun _ _=>rfl
  have hb:∀ F:Tr AV→CRes,fJ NU [a0,a1,a2] .leaf F=F (cH [(p0,a0),(p1,a1),(p2,a2)]):=fun F=>by kernel_rfl
  exact (lD hb).trans ((aoE n k0 _).trans (aoV n k0 k hk a0 a1 a2 h))
end
def gY (n:Nat):dS:=Or n
/-! cofferdam/cost.bounds$10 -/
abbrev dI:=AV→AV→AV→Heap→(Int→Heap→CRes)→CRes
abbrev qV:=Int→Heap→CRes
def jy (g:dI):Wr:=fun l h k=>kL l fun a0 l=>kL l fun a1 l=>kL l fun a2 l=>lw l (g a0 a1 a2 h fun u0 h=>k (.int .u64 u0) h)
def Um:dD:=ez []
abbrev Vr (k0:Q0) (k:qV):Prop:=∀ u0 h,k0 (.int .u64 u0) h=k u0 h
section
variable (n:Nat) (k0:Q0) (k:qV)
def WH (n:Nat) (k0:Q0):Q1:=(bE (Um) vV Sq (bE (Um) vV SW (cG wb k0)))
def Jr (n:Nat) (k:qV) (a0:AV) (a1:AV) (a2:AV) (h:Heap):CRes:=
 ldI .u64 h a0 fun x0=>
 Ve .u64 64 x0 fun x1=>
 iY .u64 3 h a1 fun x2 x3=>
 Ve .u64 2 x3 fun x4=>
 lp .u64 x1 x4 fun x5=>
 ldI .u64 h a2 fun x6=>
 Ve .u64 2 x6 fun x7=>
 lp .u64 x5 x7 fun x8=>
 iY .u64 5 h a1 fun x9 x10=>
 lp .u64 x8 x10 fun x11=>
 k x11 h
theorem al5 (n:Nat) (k0:Q0) (k:qV) (hk:Vr k0 k) (a0:AV) (a1:AV) (a2:AV) (h:Heap):(WH n k0) ⟨cH [(p0,a0),(p1,a1),(p2,a2)],h⟩=(Jr n k) a0 a1 a2 h:=by
  obtain rfl:=fx2 hk
  kernel_rfl
def amF:Q1:=WH n k0
def Lo (n:Nat) (a0:AV) (a1:AV) (a2:AV) (h:Heap) (k:qV):CRes:=Jr n k a0 a1 a2 h
theorem al4 (n:Nat) (k0:Q0) (s:St):D (ez []) vV n JT (cG wb k0) (fun _ _=>.err) (cG wb k0) s=amF n k0 s:=by kernel_rfl
theorem al2 (n:Nat) (a0:AV) (a1:AV) (a2:AV) (h:Heap) (k0:Q0):W Ke wb [] vV n JT [a0,a1,a2] h k0=Lo n a0 a1 a2 h (fun u0 h=>k0 (.int .u64 u0) h):=by
  let k:qV:=fun u0 h=>k0 (.int .u64 u0) h
  have hk:Vr k0 k:=fun _ _=>rfl
  have hb:∀ F:Tr AV→CRes,fJ Ke [a0,a1,a2] .leaf F=F (cH [(p0,a0),(p1,a1),(p2,a2)]):=fun F=>by kernel_rfl
  exact (lD hb).trans ((al4 n k0 _).trans (al5 n k0 k hk a0 a1 a2 h))
end
def gA (n:Nat):dI:=Lo n
/-! cofferdam/cost.bounds$8 -/
abbrev gp:=AV→AV→Heap→(Int→Heap→CRes)→CRes
abbrev tp:=Int→Heap→CRes
def tq (g:gp):Wr:=fun l h k=>kL l fun a0 l=>kL l fun a1 l=>lw l (g a0 a1 h fun u0 h=>k (.int .u64 u0) h)
def qZ (br:dV) (bC:dX) (bw:dU) (bB:dW) (bz:dT) (bt:dY) (bu:dZ) (bA:dS) (bh:dI):dD:=ez [(fX,kF br),(fV,kE bC),(jt,kN bw),(kO,kP bB),(kI,kK bz),(kG,kD bt),(kH,kQ bu),(kR,kJ bA),(jB,jy bh)]
abbrev Xk (k0:Q0) (k:tp):Prop:=∀ u0 h,k0 (.int .u64 u0) h=k u0 h
section
variable (n:Nat) (br:dV) (bC:dX) (bw:dU) (bB:dW) (bz:dT) (bt:dY) (bu:dZ) (bA:dS) (bh:dI) (k0:Q0) (k:tp)
def aa5 (n:Nat) (br:dV) (bC:dX) (bw:dU) (bB:dW) (bz:dT) (bt:dY) (bu:dZ) (bA:dS) (bh:dI) (k0:Q0):Q1:=(bE (qZ br bC bw bB bz bt bu bA bh) xK VQ (bE (qZ br bC bw bB bz bt bu bA bh) xK Vd (cG yb k0)))
def Nl (n:Nat) (br:dV) (bC:dX) (bw:dU) (bB:dW) (bz:dT) (bt:dY) (bu:dZ) (bA:dS) (bh:dI) (k:tp) (a0:AV) (a1:AV) (h:Heap):CRes:=
 f8 h a0 1 false fun x0=>
 qZ br bC bw bB bz bt bu bA bh x0 [] (h.shut true) fun x1 h2=>
 Wa .u64 x1 fun x3=>
 f8 (h2.back h.ro) a1 1 false fun x4=>
 qZ br bC bw bB bz bt bu bA bh x4 [] (h2.back h.ro) fun x5 h6=>
 Wa .u64 x5 fun x7=>
 O1 true [(.int .u64 x3),(.int .u64 x7)] fun x8=>
 Wa .u64 x8 fun x9=>
 k x9 h6
theorem apg (n:Nat) (br:dV) (bC:dX) (bw:dU) (bB:dW) (bz:dT) (bt:dY) (bu:dZ) (bA:dS) (bh:dI) (k0:Q0) (k:tp) (hk:Xk k0 k) (a0:AV) (a1:AV) (h:Heap):(aa5 n br bC bw bB bz bt bu bA bh k0) ⟨cH [(p0,a0),(p1,a1)],h⟩=(Nl n br bC bw bB bz bt bu bA bh k) a0 a1 h:=by
  obtain rfl:=fx2 hk
  kernel_rfl
def ao5:Q1:=aa5 n br bC bw bB bz bt bu bA bh k0
def Oq (n:Nat) (br:dV) (bC:dX) (bw:dU) (bB:dW) (bz:dT) (bt:dY) (bu:dZ) (bA:dS) (bh:dI) (a0:AV) (a1:AV) (h:Heap) (k:tp):CRes:=Nl n br bC bw bB bz bt bu bA bh k a0 a1 h
theorem apx (n:Nat) (br:dV) (bC:dX) (bw:dU) (bB:dW) (bz:dT) (bt:dY) (bu:dZ) (bA:dS) (bh:dI) (k0:Q0) (s:St):D (ez [(fX,kF br),(fV,kE bC),(jt,kN bw),(kO,kP bB),(kI,kK bz),(kG,kD bt),(kH,kQ bu),(kR,kJ bA),(jB,jy bh)]) xK n Oe (cG yb k0) (fun _ _=>.err) (cG yb k0) s=ao5 n br bC bw bB bz bt bu bA bh k0 s:=by kernel_rfl
theorem aoH (n:Nat) (br:dV) (bC:dX) (bw:dU) (bB:dW) (bz:dT) (bt:dY) (bu:dZ) (bA:dS) (bh:dI) (a0:AV) (a1:AV) (h:Heap) (k0:Q0):W NB yb [(fX,kF br),(fV,kE bC),(jt,kN bw),(kO,kP bB),(kI,kK bz),(kG,kD bt),(kH,kQ bu),(kR,kJ bA),(jB,jy bh)] xK n Oe [a0,a1] h k0=Oq n br bC bw bB bz bt bu bA bh a0 a1 h (fun u0 h=>k0 (.int .u64 u0) h):=by
  let k:tp:=fun u0 h=>k0 (.int .u64 u0) h
  have hk:Xk k0 k:=fun _ _=>rfl
  have hb:∀ F:Tr AV→CRes,fJ NB [a0,a1] .leaf F=F (cH [(p0,a0),(p1,a1)]):=fun F=>by kernel_rfl
  exact (lD hb).trans ((apx n br bC bw bB bz bt bu bA bh k0 _).trans (apg n br bC bw bB bz bt bu bA bh k0 k hk a0 a1 h))
end
def nF (n:Nat):gp:=Oq n (gx n) (gn n) (js n) (gX n) (gT n) (gV n) (gW n) (gY n) (gA n)
/-! cofferdam/cost.Most -/
abbrev eU:=AV→AV→Heap→(Int→Int→Heap→CRes)→CRes
abbrev yX:=Int→Int→Heap→CRes
def Je (g:eU):Wr:=fun l h k=>kL l fun a0 l=>kL l fun a1 l=>lw l (g a0 a1 h fun u0 u1 h=>k (.tuple [(.int .u64 u0),(.int .i64 u1)]) h)
def l8 (cC:lq) (cu:jF) (br:dV) (bC:dX) (bw:dU) (bB:dW) (bz:dT) (bt:dY) (bu:dZ) (bW:gp) (bA:dS) (bh:dI):dD:=ez [(Jv,EQ cC),(Gh,Bh cu),(fX,kF br),(fV,kE bC),(jt,kN bw),(kO,kP bB),(kI,kK bz),(kG,kD bt),(kH,kQ bu),(tl,tq bW),(kR,kJ bA),(jB,jy bh)]
abbrev Ea (k0:Q0) (k:yX):Prop:=∀ u0 u1 h,k0 (.tuple [(.int .u64 u0),(.int .i64 u1)]) h=k u0 u1 h
abbrev O3:Type:=AV→AV→Int→Heap→CRes
abbrev XN (J:Q1) (j:O3):Prop:=∀ v2 v3 v7 h,J ⟨cH [(p2,v2),(p3,v3),(p7,(.int .u64 v7))],h⟩=j v2 v3 v7 h
abbrev wQ:Type:=AV→AV→Int→AV→Int→Heap→CRes
abbrev O2 (J:Q1) (j:wQ):Prop:=∀ v2 v3 v7 v18 v19 h,J ⟨cH [(p2,v2),(p3,v3),(p7,(.int .u64 v7)),(p18,v18),(p19,(.int .i64 v19))],h⟩=j v2 v3 v7 v18 v19 h
section
variable (n:Nat) (cC:lq) (cu:jF) (br:dV) (bC:dX) (bw:dU) (bB:dW) (bz:dT) (bt:dY) (bu:dZ) (bW:gp) (bA:dS) (bh:dI) (k0:Q0) (k:yX)
def ajV (n:Nat) (cC:lq) (cu:jF) (br:dV) (bC:dX) (bw:dU) (bB:dW) (bz:dT) (bt:dY) (bu:dZ) (bW:gp) (bA:dS) (bh:dI) (k0:Q0):Q1:=(bE (l8 cC cu br bC bw bB bz bt bu bW bA bh) mr aks (cG I4 k0))
def XY (n:Nat) (cC:lq) (cu:jF) (br:dV) (bC:dX) (bw:dU) (bB:dW) (bz:dT) (bt:dY) (bu:dZ) (bW:gp) (bA:dS) (bh:dI) (k:yX) (v2:AV) (v3:AV) (v7:Int) (h:Heap):CRes:=
 iY .i64 0 h v3 fun x12 x13=>
 Dn .u64 x13 fun x14=>
 iY .u64 2 h v2 fun x15 x16=>
 Ve .u64 x14 x16 fun x17=>
 lp .u64 x17 v7 fun x18=>
 k x18 0 h
theorem auG (hk:Ea k0 k):XN (ajV n cC cu br bC bw bB bz bt bu bW bA bh k0) (XY n cC cu br bC bw bB bz bt bu bW bA bh k):=by
  obtain rfl:=fx3 hk
  intro v2 v3 v7 h
  kernel_rfl
def aj7:Q1:=ajV n cC cu br bC bw bB bz bt bu bW bA bh k0
def O8:O3:=XY n cC cu br bC bw bB bz bt bu bW bA bh k
theorem at7 (hk:Ea k0 k):XN (aj7 n cC cu br bC bw bB bz bt bu bW bA bh k0) (O8 n cC cu br bC bw bB bz bt bu bW bA bh k):=auG n cC cu br bC bw bB bz bt bu bW bA bh k0 k hk
def akO (n:Nat) (cC:lq) (cu:jF) (br:dV) (bC:dX) (bw:dU) (bB:dW) (bz:dT) (bt:dY) (bu:dZ) (bW:gp) (bA:dS) (bh:dI) (k0:Q0) (J0:Q1) (J1:Q1):Q1:=(bE (l8 cC cu br bC bw bB bz bt bu bW bA bh) mr akf (fun s=>dH (.t p20) s (bE (l8 cC cu br bC bw bB bz bt bu bW bA bh) mr ajP (bE (l8 cC cu br bC bw bB bz bt bu bW bA bh) mr akh (bE (l8 cC cu br bC bw bB bz bt bu bW bA bh) mr akK (fun s=>cI XU s J1)))) (fun s=>cI ajO s J0)))
def OZ (n:Nat) (cC:lq) (cu:jF) (br:dV) (bC:dX) (bw:dU) (bB:dW) (bz:dT) (bt:dY) (bu:dZ) (bW:gp) (bA:dS) (bh:dI) (k:yX) (j0:O3) (j1:wQ) (v2:AV) (v3:AV) (v7:Int) (v18:AV) (v19:Int) (h:Heap):CRes:=
 ifB (ltF v19 11)
 (aes 1 11 false v18 v19 fun x19=>
 l8 cC cu br bC bw bB bz bt bu bW bA bh x19 [] h fun x20 h21=>
 Wa .u64 x20 fun x22=>
 O1 true [(.int .u64 v7),(.int .u64 x22)] fun x23=>
 Wa .u64 x23 fun x24=>
 lp .i64 v19 1 fun x25=>
 j1 v2 v3 x24 v18 x25 h21)
 (j0 v2 v3 v7 h)
theorem aul (hk:Ea k0 k) {J0:Q1} {j0:O3} (h0:XN J0 j0) {J1:Q1} {j1:wQ} (h1:O2 J1 j1):O2 (akO n cC cu br bC bw bB bz bt bu bW bA bh k0 J0 J1) (OZ n cC cu br bC bw bB bz bt bu bW bA bh k j0 j1):=by
  obtain rfl:=fx3 hk
  obtain rfl:=fx4 h0
  obtain rfl:=fx6 h1
  intro v2 v3 v7 v18 v19 h
  kernel_rfl
def aj4 (m:Nat):Q1:=Nat.rec (motive:=fun _=>Q1) (fun _=>.err) (fun _ ih=>akO n cC cu br bC bw bB bz bt bu bW bA bh k0 (aj7 n cC cu br bC bw bB bz bt bu bW bA bh k0) ih) m
def Gw (m:Nat):wQ:=Nat.rec (motive:=fun _=>wQ) (fun _ _ _ _ _ _=>.err) (fun _ ih=>OZ n cC cu br bC bw bB bz bt bu bW bA bh k (O8 n cC cu br bC bw bB bz bt bu bW bA bh k) ih) m
theorem auJ (m:Nat):Gw n cC cu br bC bw bB bz bt bu bW bA bh k (m+1)=OZ n cC cu br bC bw bB bz bt bu bW bA bh k (O8 n cC cu br bC bw bB bz bt bu bW bA bh k) (Gw n cC cu br bC bw bB bz bt bu bW bA bh k m):=rfl
theorem auS (hk:Ea k0 k) (m:Nat):O2 (aj4 n cC cu br bC bw bB bz bt bu bW bA bh k0 m) (Gw n cC cu br bC bw bB bz bt bu bW bA bh k m):=by
  induction m with
  | zero=>intro v2 v3 v7 v18 v19 h; rfl
  | succ m ih=>exact aul n cC cu br bC bw bB bz bt bu bW bA bh k0 k hk (at7 n cC cu br bC bw bB bz bt bu bW bA bh k0 k hk) ih
def apN (n:Nat) (cC:lq) (cu:jF) (br:dV) (bC:dX) (bw:dU) (bB:dW) (bz:dT) (bt:dY) (bu:dZ) (bW:gp) (bA:dS) (bh:dI) (k0:Q0) (J1:Q1):Q1:=(bE (l8 cC cu br bC bw bB bz bt bu bW bA bh) mr ah8 (bE (l8 cC cu br bC bw bB bz bt bu bW bA bh) mr akH (bE (l8 cC cu br bC bw bB bz bt bu bW bA bh) mr ajY (fun s=>dH (.t p14) s (bE (l8 cC cu br bC bw bB bz bt bu bW bA bh) mr akC (cG I4 k0)) (bE (l8 cC cu br bC bw bB bz bt bu bW bA bh) mr aj3 (bE (l8 cC cu br bC bw bB bz bt bu bW bA bh) mr akF (fun s=>cI XU s J1)))))))
def agE (n:Nat) (cC:lq) (cu:jF) (br:dV) (bC:dX) (bw:dU) (bB:dW) (bz:dT) (bt:dY) (bu:dZ) (bW:gp) (bA:dS) (bh:dI) (k:yX) (j1:wQ) (a0:AV) (a1:AV) (h:Heap):CRes:=
 Dh h a0 fun x0 h1=>
 Dh h1 a1 fun x2 h3=>
 f8 h3 (.ptr x0 0) 6 true fun x4=>
 f8 h3 (.ptr x2 0) 4 true fun x5=>
 cC x4 x5 h3 fun x6 h7=>
 ifB (fS (eqF x6 0))
 (k 0 x6 h7)
 (f8 h7 (.ptr x0 0) 6 true fun x8=>
 f8 h7 (.ptr x2 0) 4 true fun x9=>
 cu x8 x9 h7 fun x10 h11=>
 j1 (.ptr x0 0) (.ptr x2 0) 0 x10 0 h11)
theorem axY (n:Nat) (cC:lq) (cu:jF) (br:dV) (bC:dX) (bw:dU) (bB:dW) (bz:dT) (bt:dY) (bu:dZ) (bW:gp) (bA:dS) (bh:dI) (k0:Q0) (k:yX) (hk:Ea k0 k) {J1:Q1} {j1:wQ} (h1:O2 J1 j1) (a0:AV) (a1:AV) (h:Heap):(apN n cC cu br bC bw bB bz bt bu bW bA bh k0 J1) ⟨cH [(p0,a0),(p1,a1)],h⟩=(agE n cC cu br bC bw bB bz bt bu bW bA bh k j1) a0 a1 h:=by
  obtain rfl:=fx3 hk
  obtain rfl:=fx6 h1
  kernel_rfl
def ayC:Q1:=apN n cC cu br bC bw bB bz bt bu bW bA bh k0 (aj4 n cC cu br bC bw bB bz bt bu bW bA bh k0 n)
def ahT (n:Nat) (cC:lq) (cu:jF) (br:dV) (bC:dX) (bw:dU) (bB:dW) (bz:dT) (bt:dY) (bu:dZ) (bW:gp) (bA:dS) (bh:dI) (a0:AV) (a1:AV) (h:Heap) (k:yX):CRes:=agE n cC cu br bC bw bB bz bt bu bW bA bh k (Gw n cC cu br bC bw bB bz bt bu bW bA bh k n) a0 a1 h
theorem ayy (n:Nat) (cC:lq) (cu:jF) (br:dV) (bC:dX) (bw:dU) (bB:dW) (bz:dT) (bt:dY) (bu:dZ) (bW:gp) (bA:dS) (bh:dI) (k0:Q0) (s:St):D (ez [(Jv,EQ cC),(Gh,Bh cu),(fX,kF br),(fV,kE bC),(jt,kN bw),(kO,kP bB),(kI,kK bz),(kG,kD bt),(kH,kQ bu),(tl,tq bW),(kR,kJ bA),(jB,jy bh)]) mr n ah7 (cG I4 k0) (fun _ _=>.err) (cG I4 k0) s=ayC n cC cu br bC bw bB bz bt bu bW bA bh k0 s:=by kernel_rfl
theorem ax9 (n:Nat) (cC:lq) (cu:jF) (br:dV) (bC:dX) (bw:dU) (bB:dW) (bz:dT) (bt:dY) (bu:dZ) (bW:gp) (bA:dS) (bh:dI) (a0:AV) (a1:AV) (h:Heap) (k0:Q0):W ahL I4 [(Jv,EQ cC),(Gh,Bh cu),(fX,kF br),(fV,kE bC),(jt,kN bw),(kO,kP bB),(kI,kK bz),(kG,kD bt),(kH,kQ bu),(tl,tq bW),(kR,kJ bA),(jB,jy bh)] mr n ah7 [a0,a1] h k0=ahT n cC cu br bC bw bB bz bt bu bW bA bh a0 a1 h (fun u0 u1 h=>k0 (.tuple [(.int .u64 u0),(.int .i64 u1)]) h):=by
  let k:yX:=fun u0 u1 h=>k0 (.tuple [(.int .u64 u0),(.int .i64 u1)]) h
  have hk:Ea k0 k:=fun _ _ _=>rfl
  have hb:∀ F:Tr AV→CRes,fJ ahL [a0,a1] .leaf F=F (cH [(p0,a0),(p1,a1)]):=fun F=>by kernel_rfl
  exact (lD hb).trans ((ayy n cC cu br bC bw bB bz bt bu bW bA bh k0 _).trans (axY n cC cu br bC bw bB bz bt bu bW bA bh k0 k hk (auS n cC cu br bC bw bB bz bt bu bW bA bh k0 k hk n) a0 a1 h))
end
def yW (n:Nat):eU:=ahT n (wm n) (tc n) (gx n) (gn n) (js n) (gX n) (gT n) (gV n) (gW n) (nF n) (gY n) (gA n)
/-! cofferdam/plan.shape -/
abbrev eG:=AV→Int→Heap→(AV→Heap→CRes)→CRes
abbrev Et:=AV→Heap→CRes
def Ed (g:eG):Wr:=fun l h k=>kL l fun a0 l=>nH .i64 l fun a1 l=>lw l (g a0 a1 h fun u0 h=>k u0 h)
def OQ:dD:=ez []
abbrev akj (k0:Q0) (k:Et):Prop:=∀ u0 h,k0 u0 h=k u0 h
section
variable (n:Nat) (k0:Q0) (k:Et)
def amM (n:Nat) (k0:Q0):Q1:=(bE (OQ) zr ahK (bE (OQ) zr agc (bE (OQ) zr agk (bE (OQ) zr aho (cG Ka k0)))))
def abJ (n:Nat) (k:Et) (a0:AV) (a1:Int) (h:Heap):CRes:=
 Dh h a0 fun x0 h1=>
 Bv h1 (.cells [(.int .i64 0),(.int .i64 0),(.int .i64 0),(.int .i64 0)] true 0) fun x2 h3=>
 fld 16 h3 (.ptr x0 0) 1 false fun x4 x5=>
 eld 8 h3 x5 a1 8 true fun x6 x7=>
 Bv h3 (.cells [.nilslice,(.int .i64 0),(.int .i64 0),(.int .i64 0),(.int .i64 0),(.int .i64 0),(.int .i64 0),(.int .i64 0)] true 0) fun x8 h9=>
 lS h9 (.ptr x8 0) 8 x7 fun h10=>
 iY .i64 1 h10 (.ptr x8 0) fun x11 x12=>
 al0 .i64 1 x12 fun x13=>
 iY .i64 2 h10 (.ptr x8 0) fun x14 x15=>
 iY .i64 2 h10 (.ptr x8 0) fun x16 x17=>
 iY .i64 7 h10 (.ptr x8 0) fun x18 x19=>
 lp .i64 x17 x19 fun x20=>
 YK .i64 x20 1 fun x21=>
 iY .i64 6 h10 (.ptr x8 0) fun x22 x23=>
 Ve .i64 16 x23 fun x24=>
 O1 false [(.int .i64 x21),(.int .i64 x24)] fun x25=>
 Wa .i64 x25 fun x26=>
 iY .i64 3 h10 (.ptr x8 0) fun x27 x28=>
 yL [(.int .i64 0),(.int .i64 0),(.int .i64 0),(.int .i64 0)] [(0,1,(.int .i64 x13)),(1,1,(.int .i64 x15)),(2,1,(.int .i64 x26)),(3,1,(.int .i64 x28))] fun x29=>
 lS h10 (.ptr x2 0) 4 x29 fun h30=>
 f8 h30 (.ptr x2 0) 4 true fun x31=>
 k x31 h30
theorem awY (n:Nat) (k0:Q0) (k:Et) (hk:akj k0 k) (a0:AV) (a1:Int) (h:Heap):(amM n k0) ⟨cH [(p0,a0),(p1,(.int .i64 a1))],h⟩=(abJ n k) a0 a1 h:=by
  obtain rfl:=fx2 hk
  kernel_rfl
def av1:Q1:=amM n k0
def ach (n:Nat) (a0:AV) (a1:Int) (h:Heap) (k:Et):CRes:=abJ n k a0 a1 h
theorem aww (n:Nat) (k0:Q0) (s:St):D (ez []) zr n acq (cG Ka k0) (fun _ _=>.err) (cG Ka k0) s=av1 n k0 s:=by kernel_rfl
theorem awW (n:Nat) (a0:AV) (a1:Int) (h:Heap) (k0:Q0):W abs Ka [] zr n acq [a0,(.int .i64 a1)] h k0=ach n a0 a1 h (fun u0 h=>k0 u0 h):=by
  let k:Et:=fun u0 h=>k0 u0 h
  have hk:akj k0 k:=fun _ _=>rfl
  have hb:∀ F:Tr AV→CRes,fJ abs [a0,(.int .i64 a1)] .leaf F=F (cH [(p0,a0),(p1,(.int .i64 a1))]):=fun F=>by kernel_rfl
  exact (lD hb).trans ((aww n k0 _).trans (awY n k0 k hk a0 a1 h))
end
def ww (n:Nat):eG:=ach n
/-! cofferdam/plan.sliced -/
abbrev jx:=AV→Heap→(Bool→Heap→CRes)→CRes
abbrev iZ:=Bool→Heap→CRes
def Bj (g:jx):Wr:=fun l h k=>kL l fun a0 l=>lw l (g a0 h fun u0 h=>k (.bool u0) h)
def fB (az:b8) (aF:ck) (aP:dy) (aV:ef) (be:eU) (ba:eG):dD:=ez [(ji,iT az),(iK,ig aF),(wx,tf aP),(GZ,Bq aV),(Pi,Je be),(Kl,Ed ba)]
abbrev fe (k0:Q0) (k:iZ):Prop:=∀ u0 h,k0 (.bool u0) h=k u0 h
abbrev HC:Type:=Heap→CRes
abbrev RO (J:Q1) (j:HC):Prop:=∀ h,J ⟨cH [],h⟩=j h
abbrev vN:Type:=AV→Int→Int→Heap→CRes
abbrev Ho (J:Q1) (j:vN):Prop:=∀ v1 v58 v59 h,J ⟨cH [(p1,v1),(p58,(.int .i64 v58)),(p59,(.int .i64 v59))],h⟩=j v1 v58 v59 h
abbrev Hc:Type:=AV→Int→Int→Bool→Heap→CRes
abbrev Rh (J:Q1) (j:Hc):Prop:=∀ v1 v58 v59 v82 h,J ⟨cH [(p1,v1),(p58,(.int .i64 v58)),(p59,(.int .i64 v59)),(p82,(.bool v82))],h⟩=j v1 v58 v59 v82 h
abbrev kx:Type:=AV→Int→Int→Heap→CRes
abbrev vL (J:Q1) (j:kx):Prop:=∀ v1 v58 v59 h,J ⟨cH [(p1,v1),(p58,(.int .i64 v58)),(p59,(.int .i64 v59))],h⟩=j v1 v58 v59 h
abbrev HB:Type:=AV→Bool→Heap→CRes
abbrev R6 (J:Q1) (j:HB):Prop:=∀ v1 v55 h,J ⟨cH [(p1,v1),(p55,(.bool v55))],h⟩=j v1 v55 h
abbrev G6:Type:=AV→Bool→Heap→CRes
abbrev Ra (J:Q1) (j:G6):Prop:=∀ v1 v34 h,J ⟨cH [(p1,v1),(p34,(.bool v34))],h⟩=j v1 v34 h
abbrev Hf:Type:=AV→Bool→Heap→CRes
abbrev RU (J:Q1) (j:Hf):Prop:=∀ v1 v25 h,J ⟨cH [(p1,v1),(p25,(.bool v25))],h⟩=j v1 v25 h
abbrev Hz:Type:=AV→Bool→Heap→CRes
abbrev RK (J:Q1) (j:Hz):Prop:=∀ v1 v20 h,J ⟨cH [(p1,v1),(p20,(.bool v20))],h⟩=j v1 v20 h
abbrev Hm:Type:=AV→Bool→Heap→CRes
abbrev QL (J:Q1) (j:Hm):Prop:=∀ v1 v15 h,J ⟨cH [(p1,v1),(p15,(.bool v15))],h⟩=j v1 v15 h
section
variable (n:Nat) (az:b8) (aF:ck) (aP:dy) (aV:ef) (be:eU) (ba:eG) (k0:Q0) (k:iZ)
def ac7 (n:Nat) (az:b8) (aF:ck) (aP:dy) (aV:ef) (be:eU) (ba:eG) (k0:Q0):Q1:=(bE (fB az aF aP aV be ba) eZ aev (cG qj k0))
def QT (n:Nat) (az:b8) (aF:ck) (aP:dy) (aV:ef) (be:eU) (ba:eG) (k:iZ) (h:Heap):CRes:=
 k true h
theorem aqr (hk:fe k0 k):RO (ac7 n az aF aP aV be ba k0) (QT n az aF aP aV be ba k):=by
  obtain rfl:=fx2 hk
  intro h
  kernel_rfl
def aeu:Q1:=ac7 n az aF aP aV be ba k0
def Hg:HC:=QT n az aF aP aV be ba k
theorem aqp (hk:fe k0 k):RO (aeu n az aF aP aV be ba k0) (Hg n az aF aP aV be ba k):=aqr n az aF aP aV be ba k0 k hk
def adh (n:Nat) (az:b8) (aF:ck) (aP:dy) (aV:ef) (be:eU) (ba:eG) (k0:Q0) (J1:Q1):Q1:=(bE (fB az aF aP aV be ba) eZ adq (fun s=>cI QI s J1))
def He (n:Nat) (az:b8) (aF:ck) (aP:dy) (aV:ef) (be:eU) (ba:eG) (k:iZ) (j1:kx) (v1:AV) (v58:Int) (v59:Int) (h:Heap):CRes:=
 lp .i64 v59 1 fun x47=>
 j1 v1 v58 x47 h
theorem aqK (hk:fe k0 k) {J1:Q1} {j1:kx} (h1:vL J1 j1):Ho (adh n az aF aP aV be ba k0 J1) (He n az aF aP aV be ba k j1):=by
  obtain rfl:=fx2 hk
  obtain rfl:=fx4 h1
  intro v1 v58 v59 h
  kernel_rfl
def R4 (J1:Q1):Q1:=adh n az aF aP aV be ba k0 J1
def vR (j1:kx):vN:=He n az aF aP aV be ba k j1
theorem adm (hk:fe k0 k) {J1:Q1} {j1:kx} (h1:vL J1 j1):Ho (R4 n az aF aP aV be ba k0 J1) (vR n az aF aP aV be ba k j1):=aqK n az aF aP aV be ba k0 k hk h1
def adL (n:Nat) (az:b8) (aF:ck) (aP:dy) (aV:ef) (be:eU) (ba:eG) (k0:Q0) (J2:Q1):Q1:=(fun s=>dH (.t p82) s (bE (fB az aF aP aV be ba) eZ aeL (cG qj k0)) (fun s=>cI Q2 s J2))
def QP (n:Nat) (az:b8) (aF:ck) (aP:dy) (aV:ef) (be:eU) (ba:eG) (k:iZ) (j2:vN) (v1:AV) (v58:Int) (v59:Int) (v82:Bool) (h:Heap):CRes:=
 ifB v82
 (k false h)
 (j2 v1 v58 v59 h)
theorem arb (hk:fe k0 k) {J2:Q1} {j2:vN} (h2:Ho J2 j2):Rh (adL n az aF aP aV be ba k0 J2) (QP n az aF aP aV be ba k j2):=by
  obtain rfl:=fx2 hk
  obtain rfl:=fx4 h2
  intro v1 v58 v59 v82 h
  kernel_rfl
def acK (J1:Q1):Q1:=adL n az aF aP aV be ba k0 (R4 n az aF aP aV be ba k0 J1)
def Hv (j1:kx):Hc:=QP n az aF aP aV be ba k (vR n az aF aP aV be ba k j1)
theorem aqG (hk:fe k0 k) {J1:Q1} {j1:kx} (h1:vL J1 j1):Rh (acK n az aF aP aV be ba k0 J1) (Hv n az aF aP aV be ba k j1):=arb n az aF aP aV be ba k0 k hk (adm n az aF aP aV be ba k0 k hk h1)
def adH (n:Nat) (az:b8) (aF:ck) (aP:dy) (aV:ef) (be:eU) (ba:eG) (k0:Q0) (J0:Q1) (J2:Q1) (J3:Q1):Q1:=(bE (fB az aF aP aV be ba) eZ adG (fun s=>dH (.t p60) s (bE (fB az aF aP aV be ba) eZ acD (bE (fB az aF aP aV be ba) eZ ad2 (fun s=>dH (.t p65) s (fun s=>cI Q2 s J2) (bE (fB az aF aP aV be ba) eZ acZ (bE (fB az aF aP aV be ba) eZ acP (fun s=>cI aek s J3)))))) (fun s=>cI aeA s J0)))
def Hy (n:Nat) (az:b8) (aF:ck) (aP:dy) (aV:ef) (be:eU) (ba:eG) (k:iZ) (j0:HC) (j2:vN) (j3:Hc) (v1:AV) (v58:Int) (v59:Int) (h:Heap):CRes:=
 ifB (ltF v59 v58)
 (f8 h v1 17 true fun x34=>
 aP x34 v59 h fun x35 h36=>
 ifB (fS (eqF x35 0))
 (j2 v1 v58 v59 h36)
 (fld 6 h36 v1 6 true fun x37 x38=>
 f8 h36 v1 17 true fun x39=>
 ba x39 v59 (h36.shut true) fun x40 h41=>
 be x38 x40 (h41.back h36.ro) fun x42 x43 h44=>
 ifB (fS (eqF x43 0))
 (j3 v1 v58 v59 true h44)
 (faK 12 v1 fun x45=>
 ldI .u64 h44 x45 fun x46=>
 j3 v1 v58 v59 (ltF x46 x42) h44)))
 (j0 h)
theorem aqB (hk:fe k0 k) {J0:Q1} {j0:HC} (h0:RO J0 j0) {J2:Q1} {j2:vN} (h2:Ho J2 j2) {J3:Q1} {j3:Hc} (h3:Rh J3 j3):vL (adH n az aF aP aV be ba k0 J0 J2 J3) (Hy n az aF aP aV be ba k j0 j2 j3):=by
  obtain rfl:=fx2 hk
  obtain rfl:=fx1 h0
  obtain rfl:=fx4 h2
  obtain rfl:=fx5 h3
  intro v1 v58 v59 h
  kernel_rfl
def adu (m:Nat):Q1:=Nat.rec (motive:=fun _=>Q1) (fun _=>.err) (fun _ ih=>adH n az aF aP aV be ba k0 (aeu n az aF aP aV be ba k0) (R4 n az aF aP aV be ba k0 ih) (acK n az aF aP aV be ba k0 ih)) m
def rr (m:Nat):kx:=Nat.rec (motive:=fun _=>kx) (fun _ _ _ _=>.err) (fun _ ih=>Hy n az aF aP aV be ba k (Hg n az aF aP aV be ba k) (vR n az aF aP aV be ba k ih) (Hv n az aF aP aV be ba k ih)) m
theorem arh (m:Nat):rr n az aF aP aV be ba k (m+1)=Hy n az aF aP aV be ba k (Hg n az aF aP aV be ba k) (vR n az aF aP aV be ba k (rr n az aF aP aV be ba k m)) (Hv n az aF aP aV be ba k (rr n az aF aP aV be ba k m)):=rfl
theorem aqZ (hk:fe k0 k) (m:Nat):vL (adu n az aF aP aV be ba k0 m) (rr n az aF aP aV be ba k m):=by
  induction m with
  | zero=>intro v1 v58 v59 h; rfl
  | succ m ih=>exact aqB n az aF aP aV be ba k0 k hk (aqp n az aF aP aV be ba k0 k hk) (adm n az aF aP aV be ba k0 k hk ih) (aqG n az aF aP aV be ba k0 k hk ih)
def adM (n:Nat) (az:b8) (aF:ck) (aP:dy) (aV:ef) (be:eU) (ba:eG) (k0:Q0) (J1:Q1):Q1:=(fun s=>dH (.t p55) s (bE (fB az aF aP aV be ba) eZ acU (cG qj k0)) (bE (fB az aF aP aV be ba) eZ ad6 (fun s=>cI QI s J1)))
def QD (n:Nat) (az:b8) (aF:ck) (aP:dy) (aV:ef) (be:eU) (ba:eG) (k:iZ) (j1:kx) (v1:AV) (v55:Bool) (h:Heap):CRes:=
 ifB v55
 (k false h)
 (fld 16 h v1 1 false fun x31 x32=>
 fH x32 fun x33=>
 j1 v1 x33 0 h)
theorem aql (hk:fe k0 k) {J1:Q1} {j1:kx} (h1:vL J1 j1):R6 (adM n az aF aP aV be ba k0 J1) (QD n az aF aP aV be ba k j1):=by
  obtain rfl:=fx2 hk
  obtain rfl:=fx4 h1
  intro v1 v55 h
  kernel_rfl
def aen:Q1:=adM n az aF aP aV be ba k0 (adu n az aF aP aV be ba k0 n)
def QQ:HB:=QD n az aF aP aV be ba k (rr n az aF aP aV be ba k n)
theorem aqN (hk:fe k0 k):R6 (aen n az aF aP aV be ba k0) (QQ n az aF aP aV be ba k):=aql n az aF aP aV be ba k0 k hk (aqZ n az aF aP aV be ba k0 k hk n)
def acX (n:Nat) (az:b8) (aF:ck) (aP:dy) (aV:ef) (be:eU) (ba:eG) (k0:Q0) (J4:Q1):Q1:=(fun s=>dH (.t p34) s (bE (fB az aF aP aV be ba) eZ aam (cG qj k0)) (bE (fB az aF aP aV be ba) eZ Y8 (bE (fB az aF aP aV be ba) eZ abg (fun s=>cI aez s J4))))
def QV (n:Nat) (az:b8) (aF:ck) (aP:dy) (aV:ef) (be:eU) (ba:eG) (k:iZ) (j4:HB) (v1:AV) (v34:Bool) (h:Heap):CRes:=
 ifB v34
 (k true h)
 (fld 6 h v1 6 true fun x17 x18=>
 iY .i64 3 h v1 fun x19 x20=>
 iY .i64 4 h v1 fun x21 x22=>
 Ve .i64 x20 x22 fun x23=>
 iY .i64 5 h v1 fun x24 x25=>
 aV x18 x23 x25 h fun x26 x27 h28=>
 ifB (fS (eqF x27 0))
 (j4 v1 true h28)
 (faK 13 v1 fun x29=>
 ldI .u64 h28 x29 fun x30=>
 j4 v1 (ltF x30 x26) h28))
theorem aqj (hk:fe k0 k) {J4:Q1} {j4:HB} (h4:R6 J4 j4):Ra (acX n az aF aP aV be ba k0 J4) (QV n az aF aP aV be ba k j4):=by
  obtain rfl:=fx2 hk
  obtain rfl:=fx3 h4
  intro v1 v34 h
  kernel_rfl
def adR:Q1:=acX n az aF aP aV be ba k0 (aen n az aF aP aV be ba k0)
def Rn:G6:=QV n az aF aP aV be ba k (QQ n az aF aP aV be ba k)
theorem aq7 (hk:fe k0 k):Ra (adR n az aF aP aV be ba k0) (Rn n az aF aP aV be ba k):=aqj n az aF aP aV be ba k0 k hk (aqN n az aF aP aV be ba k0 k hk)
def acT (n:Nat) (az:b8) (aF:ck) (aP:dy) (aV:ef) (be:eU) (ba:eG) (k0:Q0) (J5:Q1):Q1:=(fun s=>dH (.t p25) s (bE (fB az aF aP aV be ba) eZ ZQ (cG qj k0)) (bE (fB az aF aP aV be ba) eZ Zs (fun s=>cI ac2 s J5)))
def Q7 (n:Nat) (az:b8) (aF:ck) (aP:dy) (aV:ef) (be:eU) (ba:eG) (k:iZ) (j5:G6) (v1:AV) (v25:Bool) (h:Heap):CRes:=
 ifB v25
 (k false h)
 (f8 h v1 17 true fun x10=>
 az x10 h fun x11 h12=>
 ifB (fS x11)
 (j5 v1 true h12)
 (faK 6 v1 fun x13=>
 f8 h12 x13 6 true fun x14=>
 aF x14 h12 fun x15 h16=>
 j5 v1 (fS (eqF x15 0)) h16))
theorem aq5 (hk:fe k0 k) {J5:Q1} {j5:G6} (h5:Ra J5 j5):RU (acT n az aF aP aV be ba k0 J5) (Q7 n az aF aP aV be ba k j5):=by
  obtain rfl:=fx2 hk
  obtain rfl:=fx3 h5
  intro v1 v25 h
  kernel_rfl
def ad7:Q1:=acT n az aF aP aV be ba k0 (adR n az aF aP aV be ba k0)
def QF:Hf:=Q7 n az aF aP aV be ba k (Rn n az aF aP aV be ba k)
theorem aqD (hk:fe k0 k):RU (ad7 n az aF aP aV be ba k0) (QF n az aF aP aV be ba k):=aq5 n az aF aP aV be ba k0 k hk (aq7 n az aF aP aV be ba k0 k hk)
def ael (n:Nat) (az:b8) (aF:ck) (aP:dy) (aV:ef) (be:eU) (ba:eG) (k0:Q0) (J8:Q1):Q1:=(bE (fB az aF aP aV be ba) eZ Y5 (fun s=>cI acO s J8))
def Rl (n:Nat) (az:b8) (aF:ck) (aP:dy) (aV:ef) (be:eU) (ba:eG) (k:iZ) (j8:Hf) (v1:AV) (v20:Bool) (h:Heap):CRes:=
 ifB v20
 (j8 v1 true h)
 (faK 14 v1 fun x8=>
 ldI .u64 h x8 fun x9=>
 j8 v1 (fS (ltF x9 1099511627776)) h)
theorem aqz (hk:fe k0 k) {J8:Q1} {j8:Hf} (h8:RU J8 j8):RK (ael n az aF aP aV be ba k0 J8) (Rl n az aF aP aV be ba k j8):=by
  obtain rfl:=fx2 hk
  obtain rfl:=fx3 h8
  intro v1 v20 h
  kernel_rfl
def acS:Q1:=ael n az aF aP aV be ba k0 (ad7 n az aF aP aV be ba k0)
def Rd:Hz:=Rl n az aF aP aV be ba k (QF n az aF aP aV be ba k)
theorem aq3 (hk:fe k0 k):RK (acS n az aF aP aV be ba k0) (Rd n az aF aP aV be ba k):=aqz n az aF aP aV be ba k0 k hk (aqD n az aF aP aV be ba k0 k hk)
def adA (n:Nat) (az:b8) (aF:ck) (aP:dy) (aV:ef) (be:eU) (ba:eG) (k0:Q0) (J7:Q1):Q1:=(bE (fB az aF aP aV be ba) eZ aaH (fun s=>cI aed s J7))
def RE (n:Nat) (az:b8) (aF:ck) (aP:dy) (aV:ef) (be:eU) (ba:eG) (k:iZ) (j7:Hz) (v1:AV) (v15:Bool) (h:Heap):CRes:=
 ifB v15
 (j7 v1 true h)
 (faK 13 v1 fun x6=>
 ldI .u64 h x6 fun x7=>
 j7 v1 (ltF 4194304 x7) h)
theorem aqF (hk:fe k0 k) {J7:Q1} {j7:Hz} (h7:RK J7 j7):QL (adA n az aF aP aV be ba k0 J7) (RE n az aF aP aV be ba k j7):=by
  obtain rfl:=fx2 hk
  obtain rfl:=fx3 h7
  intro v1 v15 h
  kernel_rfl
def aey:Q1:=adA n az aF aP aV be ba k0 (acS n az aF aP aV be ba k0)
def RW:Hm:=RE n az aF aP aV be ba k (Rd n az aF aP aV be ba k)
theorem aqC (hk:fe k0 k):QL (aey n az aF aP aV be ba k0) (RW n az aF aP aV be ba k):=aqF n az aF aP aV be ba k0 k hk (aq3 n az aF aP aV be ba k0 k hk)
def akc (n:Nat) (az:b8) (aF:ck) (aP:dy) (aV:ef) (be:eU) (ba:eG) (k0:Q0) (J6:Q1):Q1:=(bE (fB az aF aP aV be ba) eZ aa0 (bE (fB az aF aP aV be ba) eZ ZY (fun s=>cI acH s J6)))
def Yt (n:Nat) (az:b8) (aF:ck) (aP:dy) (aV:ef) (be:eU) (ba:eG) (k:iZ) (j6:Hm) (a0:AV) (h:Heap):CRes:=
 Dh h a0 fun x0 h1=>
 iY .u64 12 h1 (.ptr x0 0) fun x2 x3=>
 ifB (ltF x3 1)
 (j6 (.ptr x0 0) true h1)
 (faK 12 (.ptr x0 0) fun x4=>
 ldI .u64 h1 x4 fun x5=>
 j6 (.ptr x0 0) (ltF 4194304 x5) h1)
theorem auh (n:Nat) (az:b8) (aF:ck) (aP:dy) (aV:ef) (be:eU) (ba:eG) (k0:Q0) (k:iZ) (hk:fe k0 k) {J6:Q1} {j6:Hm} (h6:QL J6 j6) (a0:AV) (h:Heap):(akc n az aF aP aV be ba k0 J6) ⟨cH [(p0,a0)],h⟩=(Yt n az aF aP aV be ba k j6) a0 h:=by
  obtain rfl:=fx2 hk
  obtain rfl:=fx3 h6
  kernel_rfl
def at9:Q1:=akc n az aF aP aV be ba k0 (aey n az aF aP aV be ba k0)
def XJ (n:Nat) (az:b8) (aF:ck) (aP:dy) (aV:ef) (be:eU) (ba:eG) (a0:AV) (h:Heap) (k:iZ):CRes:=Yt n az aF aP aV be ba k (RW n az aF aP aV be ba k) a0 h
theorem auz (n:Nat) (az:b8) (aF:ck) (aP:dy) (aV:ef) (be:eU) (ba:eG) (k0:Q0) (s:St):D (ez [(ji,iT az),(iK,ig aF),(wx,tf aP),(GZ,Bq aV),(Pi,Je be),(Kl,Ed ba)]) eZ n Yg (cG qj k0) (fun _ _=>.err) (cG qj k0) s=at9 n az aF aP aV be ba k0 s:=by kernel_rfl
theorem auN (n:Nat) (az:b8) (aF:ck) (aP:dy) (aV:ef) (be:eU) (ba:eG) (a0:AV) (h:Heap) (k0:Q0):W Xv qj [(ji,iT az),(iK,ig aF),(wx,tf aP),(GZ,Bq aV),(Pi,Je be),(Kl,Ed ba)] eZ n Yg [a0] h k0=XJ n az aF aP aV be ba a0 h (fun u0 h=>k0 (.bool u0) h):=by
  let k:iZ:=fun u0 h=>k0 (.bool u0) h
  have hk:fe k0 k:=fun _ _=>rfl
  have hb:∀ F:Tr AV→CRes,fJ Xv [a0] .leaf F=F (cH [(p0,a0)]):=fun F=>by kernel_rfl
  exact (lD hb).trans ((auz n az aF aP aV be ba k0 _).trans (auh n az aF aP aV be ba k0 k hk (aqC n az aF aP aV be ba k0 k hk) a0 h))
end
def s8 (n:Nat):jx:=XJ n (gm n) (gy n) (ns n) (te n) (yW n) (ww n)
/-! cofferdam/plan.turned$1 -/
abbrev gr:=Int→AV→Heap→(Bool→Heap→CRes)→CRes
abbrev tE:=Bool→Heap→CRes
def tH (g:gr):Wr:=fun l h k=>nH .i64 l fun a0 l=>kL l fun a1 l=>lw l (g a0 a1 h fun u0 h=>k (.bool u0) h)
def Wx (aC:bS):dD:=ez [(fx,fb aC)]
abbrev Xb (k0:Q0) (k:tE):Prop:=∀ u0 h,k0 (.bool u0) h=k u0 h
section
variable (n:Nat) (aC:bS) (k0:Q0) (k:tE)
def aap (n:Nat) (aC:bS) (k0:Q0):Q1:=(bE (Wx aC) xu Ui (bE (Wx aC) xu Uo (cG yR k0)))
def OB (n:Nat) (aC:bS) (k:tE) (a0:Int) (a1:AV) (h:Heap):CRes:=
 fld 16 h a1 1 false fun x0 x1=>
 fH x1 fun x2=>
 YK .i64 x2 1 fun x3=>
 aC a0 0 x3 h fun x4 h5=>
 k (fS x4) h5
theorem aoL (n:Nat) (aC:bS) (k0:Q0) (k:tE) (hk:Xb k0 k) (a0:Int) (a1:AV) (h:Heap):(aap n aC k0) ⟨cH [(p0,(.int .i64 a0)),(p1,a1)],h⟩=(OB n aC k) a0 a1 h:=by
  obtain rfl:=fx2 hk
  kernel_rfl
def apm:Q1:=aap n aC k0
def Ov (n:Nat) (aC:bS) (a0:Int) (a1:AV) (h:Heap) (k:tE):CRes:=OB n aC k a0 a1 h
theorem aoo (n:Nat) (aC:bS) (k0:Q0) (s:St):D (ez [(fx,fb aC)]) xu n NX (cG yR k0) (fun _ _=>.err) (cG yR k0) s=apm n aC k0 s:=by kernel_rfl
theorem aoQ (n:Nat) (aC:bS) (a0:Int) (a1:AV) (h:Heap) (k0:Q0):W Nv yR [(fx,fb aC)] xu n NX [(.int .i64 a0),a1] h k0=Ov n aC a0 a1 h (fun u0 h=>k0 (.bool u0) h):=by
  let k:tE:=fun u0 h=>k0 (.bool u0) h
  have hk:Xb k0 k:=fun _ _=>rfl
  have hb:∀ F:Tr AV→CRes,fJ Nv [(.int .i64 a0),a1] .leaf F=F (cH [(p0,(.int .i64 a0)),(p1,a1)]):=fun F=>by kernel_rfl
  exact (lD hb).trans ((aoo n aC k0 _).trans (aoL n aC k0 k hk a0 a1 h))
end
def lY (n:Nat):gr:=Ov n (fN n)
abbrev eD:=AV→AV→Heap→(Int→Heap→CRes)→CRes
abbrev fu:=Int→Heap→CRes
def ik (g:eD):Wr:=fun l h k=>kL l fun a0 l=>kL l fun a1 l=>lw l (g a0 a1 h fun u0 h=>k (.int .i64 u0) h)
def et (ca:gr):dD:=ez [(pN,tH ca)]
abbrev gU (k0:Q0) (k:fu):Prop:=∀ u0 h,k0 (.int .i64 u0) h=k u0 h
abbrev lH:Type:=Heap→CRes
abbrev pr (J:Q1) (j:lH):Prop:=∀ h,J ⟨cH [],h⟩=j h
abbrev fM:Type:=AV→AV→Int→Int→Heap→CRes
abbrev lI (J:Q1) (j:fM):Prop:=∀ v0 v1 v7 v8 h,J ⟨cH [(p0,v0),(p1,v1),(p7,(.int .i64 v7)),(p8,(.int .i64 v8))],h⟩=j v0 v1 v7 v8 h
section
variable (n:Nat) (ca:gr) (k0:Q0) (k:fu)
def wW (n:Nat) (ca:gr) (k0:Q0):Q1:=(bE (et ca) dR xd (cG im k0))
def pt (n:Nat) (ca:gr) (k:fu) (h:Heap):CRes:=
 k (-1) h
theorem LB (hk:gU k0 k):pr (wW n ca k0) (pt n ca k):=by
  obtain rfl:=fx2 hk
  intro h
  kernel_rfl
def w5:Q1:=wW n ca k0
def lJ:lH:=pt n ca k
theorem Lz (hk:gU k0 k):pr (w5 n ca k0) (lJ n ca k):=LB n ca k0 k hk
def w6 (n:Nat) (ca:gr) (k0:Q0) (J0:Q1) (J1:Q1):Q1:=(bE (et ca) dR w9 (fun s=>dH (.t p9) s (bE (et ca) dR wY (bE (et ca) dR xb (fun s=>dH (.t p16) s (bE (et ca) dR w8 (cG im k0)) (bE (et ca) dR xa (fun s=>cI pl s J1))))) (fun s=>cI wX s J0)))
def lK (n:Nat) (ca:gr) (k:fu) (j0:lH) (j1:fM) (v0:AV) (v1:AV) (v7:Int) (v8:Int) (h:Heap):CRes:=
 ifB (ltF v8 v7)
 (Lw .i64 1 h v0 v8 fun x1 x2=>
 et ca v1 [(.int .i64 x2)] h fun x3 h4=>
 Te x3 fun x5=>
 ifB x5
 (k v8 h4)
 (lp .i64 v8 1 fun x6=>
 j1 v0 v1 v7 x6 h4))
 (j0 h)
theorem Ly (hk:gU k0 k) {J0:Q1} {j0:lH} (h0:pr J0 j0) {J1:Q1} {j1:fM} (h1:lI J1 j1):lI (w6 n ca k0 J0 J1) (lK n ca k j0 j1):=by
  obtain rfl:=fx2 hk
  obtain rfl:=fx1 h0
  obtain rfl:=fx5 h1
  intro v0 v1 v7 v8 h
  kernel_rfl
def wZ (m:Nat):Q1:=Nat.rec (motive:=fun _=>Q1) (fun _=>.err) (fun _ ih=>w6 n ca k0 (w5 n ca k0) ih) m
def jd (m:Nat):fM:=Nat.rec (motive:=fun _=>fM) (fun _ _ _ _ _=>.err) (fun _ ih=>lK n ca k (lJ n ca k) ih) m
theorem Lx (m:Nat):jd n ca k (m+1)=lK n ca k (lJ n ca k) (jd n ca k m):=rfl
theorem LA (hk:gU k0 k) (m:Nat):lI (wZ n ca k0 m) (jd n ca k m):=by
  induction m with
  | zero=>intro v0 v1 v7 v8 h; rfl
  | succ m ih=>exact Ly n ca k0 k hk (Lz n ca k0 k hk) ih
def yY (n:Nat) (ca:gr) (k0:Q0) (J1:Q1):Q1:=(bE (et ca) dR xc (bE (et ca) dR w7 (fun s=>cI pl s J1)))
def qP (n:Nat) (ca:gr) (k:fu) (j1:fM) (a0:AV) (a1:AV) (h:Heap):CRes:=
 fH a0 fun x0=>
 j1 a0 a1 x0 0 h
theorem PD (n:Nat) (ca:gr) (k0:Q0) (k:fu) (hk:gU k0 k) {J1:Q1} {j1:fM} (h1:lI J1 j1) (a0:AV) (a1:AV) (h:Heap):(yY n ca k0 J1) ⟨cH [(p0,a0),(p1,a1)],h⟩=(qP n ca k j1) a0 a1 h:=by
  obtain rfl:=fx2 hk
  obtain rfl:=fx5 h1
  kernel_rfl
def PP:Q1:=yY n ca k0 (wZ n ca k0 n)
def qA (n:Nat) (ca:gr) (a0:AV) (a1:AV) (h:Heap) (k:fu):CRes:=qP n ca k (jd n ca k n) a0 a1 h
theorem Qo (n:Nat) (ca:gr) (k0:Q0) (s:St):D (ez [(pN,tH ca)]) dR n qD (cG im k0) (fun _ _=>.err) (cG im k0) s=PP n ca k0 s:=by kernel_rfl
theorem P7 (n:Nat) (ca:gr) (a0:AV) (a1:AV) (h:Heap) (k0:Q0):W qM im [(pN,tH ca)] dR n qD [a0,a1] h k0=qA n ca a0 a1 h (fun u0 h=>k0 (.int .i64 u0) h):=by
  let k:fu:=fun u0 h=>k0 (.int .i64 u0) h
  have hk:gU k0 k:=fun _ _=>rfl
  have hb:∀ F:Tr AV→CRes,fJ qM [a0,a1] .leaf F=F (cH [(p0,a0),(p1,a1)]):=fun F=>by kernel_rfl
  exact (lD hb).trans ((Qo n ca k0 _).trans (PD n ca k0 k hk (LA n ca k0 k hk n) a0 a1 h))
end
def jI (n:Nat):eD:=qA n (lY n)
abbrev dr:=AV→AV→Heap→(Bool→Heap→CRes)→CRes
abbrev gt:=Bool→Heap→CRes
def gD (g:dr):Wr:=fun l h k=>kL l fun a0 l=>kL l fun a1 l=>lw l (g a0 a1 h fun u0 h=>k (.bool u0) h)
def vd (cF:eD):dD:=ez [(jH,ik cF)]
abbrev vf (k0:Q0) (k:gt):Prop:=∀ u0 h,k0 (.bool u0) h=k u0 h
section
variable (n:Nat) (cF:eD) (k0:Q0) (k:gt)
def wz (n:Nat) (cF:eD) (k0:Q0):Q1:=(bE (vd cF) iJ tY (bE (vd cF) iJ uA (cG iU k0)))
def oJ (n:Nat) (cF:eD) (k:gt) (a0:AV) (a1:AV) (h:Heap):CRes:=
 cF a0 a1 h fun x0 h1=>
 k (fS (ltF x0 0)) h1
theorem JE (n:Nat) (cF:eD) (k0:Q0) (k:gt) (hk:vf k0 k) (a0:AV) (a1:AV) (h:Heap):(wz n cF k0) ⟨cH [(p0,a0),(p1,a1)],h⟩=(oJ n cF k) a0 a1 h:=by
  obtain rfl:=fx2 hk
  kernel_rfl
def Jw:Q1:=wz n cF k0
def oM (n:Nat) (cF:eD) (a0:AV) (a1:AV) (h:Heap) (k:gt):CRes:=oJ n cF k a0 a1 h
theorem Kw (n:Nat) (cF:eD) (k0:Q0) (s:St):D (ez [(jH,ik cF)]) iJ n oz (cG iU k0) (fun _ _=>.err) (cG iU k0) s=Jw n cF k0 s:=by kernel_rfl
theorem Lg (n:Nat) (cF:eD) (a0:AV) (a1:AV) (h:Heap) (k0:Q0):W ot iU [(jH,ik cF)] iJ n oz [a0,a1] h k0=oM n cF a0 a1 h (fun u0 h=>k0 (.bool u0) h):=by
  let k:gt:=fun u0 h=>k0 (.bool u0) h
  have hk:vf k0 k:=fun _ _=>rfl
  have hb:∀ F:Tr AV→CRes,fJ ot [a0,a1] .leaf F=F (cH [(p0,a0),(p1,a1)]):=fun F=>by kernel_rfl
  exact (lD hb).trans ((Kw n cF k0 _).trans (JE n cF k0 k hk a0 a1 h))
end
def iS (n:Nat):dr:=oM n (jI n)
/-! cofferdam/plan.turned -/
abbrev jE:=AV→Heap→(Bool→Heap→CRes)→CRes
abbrev wJ:=Bool→Heap→CRes
def Bk (g:jE):Wr:=fun l h k=>kL l fun a0 l=>lw l (g a0 h fun u0 h=>k (.bool u0) h)
def T8 (aC:bS) (bJ:dr):dD:=ez [(fx,fb aC),(iW,gD bJ)]
abbrev Lr (k0:Q0) (k:wJ):Prop:=∀ u0 h,k0 (.bool u0) h=k u0 h
abbrev Hi:Type:=Bool→Heap→CRes
abbrev RF (J:Q1) (j:Hi):Prop:=∀ v13 h,J ⟨cH [(p13,(.bool v13))],h⟩=j v13 h
section
variable (n:Nat) (aC:bS) (bJ:dr) (k0:Q0) (k:wJ)
def adC (n:Nat) (aC:bS) (bJ:dr) (k0:Q0):Q1:=(bE (T8 aC bJ) Ba aee (cG Gs k0))
def Ri (n:Nat) (aC:bS) (bJ:dr) (k:wJ) (v13:Bool) (h:Heap):CRes:=
 k v13 h
theorem arm (hk:Lr k0 k):RF (adC n aC bJ k0) (Ri n aC bJ k):=by
  obtain rfl:=fx2 hk
  intro v13 h
  kernel_rfl
def aej:Q1:=adC n aC bJ k0
def QS:Hi:=Ri n aC bJ k
theorem aqI (hk:Lr k0 k):RF (aej n aC bJ k0) (QS n aC bJ k):=arm n aC bJ k0 k hk
def akq (n:Nat) (aC:bS) (bJ:dr) (k0:Q0) (J0:Q1):Q1:=(bE (T8 aC bJ) Ba adt (bE (T8 aC bJ) Ba aeH (fun s=>cI acI s J0)))
def Yf (n:Nat) (aC:bS) (bJ:dr) (k:wJ) (j0:Hi) (a0:AV) (h:Heap):CRes:=
 Dh h a0 fun x0 h1=>
 fld 15 h1 (.ptr x0 0) 1 false fun x2 x3=>
 fH x3 fun x4=>
 aC x4 1 64 h1 fun x5 h6=>
 ifB x5
 (faK 15 (.ptr x0 0) fun x7=>
 f8 h6 x7 1 false fun x8=>
 bJ x8 (.func 88 [] [(.ptr x0 0)]) h6 fun x9 h10=>
 j0 (fS x9) h10)
 (j0 false h6)
theorem auK (n:Nat) (aC:bS) (bJ:dr) (k0:Q0) (k:wJ) (hk:Lr k0 k) {J0:Q1} {j0:Hi} (h0:RF J0 j0) (a0:AV) (h:Heap):(akq n aC bJ k0 J0) ⟨cH [(p0,a0)],h⟩=(Yf n aC bJ k j0) a0 h:=by
  obtain rfl:=fx2 hk
  obtain rfl:=fx2 h0
  kernel_rfl
def auU:Q1:=akq n aC bJ k0 (aej n aC bJ k0)
def Yh (n:Nat) (aC:bS) (bJ:dr) (a0:AV) (h:Heap) (k:wJ):CRes:=Yf n aC bJ k (QS n aC bJ k) a0 h
theorem aup (n:Nat) (aC:bS) (bJ:dr) (k0:Q0) (s:St):D (ez [(fx,fb aC),(iW,gD bJ)]) Ba n X4 (cG Gs k0) (fun _ _=>.err) (cG Gs k0) s=auU n aC bJ k0 s:=by kernel_rfl
theorem aub (n:Nat) (aC:bS) (bJ:dr) (a0:AV) (h:Heap) (k0:Q0):W X7 Gs [(fx,fb aC),(iW,gD bJ)] Ba n X4 [a0] h k0=Yh n aC bJ a0 h (fun u0 h=>k0 (.bool u0) h):=by
  let k:wJ:=fun u0 h=>k0 (.bool u0) h
  have hk:Lr k0 k:=fun _ _=>rfl
  have hb:∀ F:Tr AV→CRes,fJ X7 [a0] .leaf F=F (cH [(p0,a0)]):=fun F=>by kernel_rfl
  exact (lD hb).trans ((aup n aC bJ k0 _).trans (auK n aC bJ k0 k hk (aqI n aC bJ k0 k hk) a0 h))
end
def s9 (n:Nat):jE:=Yh n (fN n) (iS n)
/-! cofferdam/plan.Check -/
abbrev qt:=AV→Heap→(AV→Heap→CRes)→CRes
abbrev wn:=AV→Heap→CRes
def EF (g:qt):Wr:=fun l h k=>kL l fun a0 l=>lw l (g a0 h fun u0 h=>k u0 h)
def io (bU:gZ) (az:b8) (aF:ck) (cp:jx) (cn:jE) (aP:dy):dD:=ez [(rT,vK bU),(ji,iT az),(iK,ig aF),(Gm,Bj cp),(GL,Bk cn),(wx,tf aP)]
abbrev Be (k0:Q0) (k:wn):Prop:=∀ u0 h,k0 u0 h=k u0 h
abbrev JI:Type:=AV→Heap→CRes
abbrev UG (J:Q1) (j:JI):Prop:=∀ v3 h,J ⟨cH [(p3,v3)],h⟩=j v3 h
abbrev uy:Type:=AV→AV→AV→Int→Int→Heap→CRes
abbrev Ki (J:Q1) (j:uy):Prop:=∀ v1 v3 v4 v29 v30 h,J ⟨cH [(p1,v1),(p3,v3),(p4,v4),(p29,(.int .i64 v29)),(p30,(.int .i64 v30))],h⟩=j v1 v3 v4 v29 v30 h
section
variable (n:Nat) (bU:gZ) (az:b8) (aF:ck) (cp:jx) (cn:jE) (aP:dy) (k0:Q0) (k:wn)
def agB (n:Nat) (bU:gZ) (az:b8) (aF:ck) (cp:jx) (cn:jE) (aP:dy) (k0:Q0):Q1:=(bE (io bU az aF cp cn aP) iH af7 (cG Jq k0))
def Vq (n:Nat) (bU:gZ) (az:b8) (aF:ck) (cp:jx) (cn:jE) (aP:dy) (k:wn) (v3:AV) (h:Heap):CRes:=
 f8 h v3 1 false fun x26=>
 k x26 h
theorem asr (hk:Be k0 k):UG (agB n bU az aF cp cn aP k0) (Vq n bU az aF cp cn aP k):=by
  obtain rfl:=fx2 hk
  intro v3 h
  kernel_rfl
def afY:Q1:=agB n bU az aF cp cn aP k0
def KT:JI:=Vq n bU az aF cp cn aP k
theorem atF (hk:Be k0 k):UG (afY n bU az aF cp cn aP k0) (KT n bU az aF cp cn aP k):=asr n bU az aF cp cn aP k0 k hk
def ahv (n:Nat) (bU:gZ) (az:b8) (aF:ck) (cp:jx) (cn:jE) (aP:dy) (k0:Q0) (J0:Q1) (J1:Q1):Q1:=(bE (io bU az aF cp cn aP) iH ah2 (fun s=>dH (.t p31) s (bE (io bU az aF cp cn aP) iH agx (bE (io bU az aF cp cn aP) iH ahC (bE (io bU az aF cp cn aP) iH afW (bE (io bU az aF cp cn aP) iH ags (fun s=>cI UV s J1))))) (fun s=>cI afS s J0)))
def JD (n:Nat) (bU:gZ) (az:b8) (aF:ck) (cp:jx) (cn:jE) (aP:dy) (k:wn) (j0:JI) (j1:uy) (v1:AV) (v3:AV) (v4:AV) (v29:Int) (v30:Int) (h:Heap):CRes:=
 ifB (ltF v30 v29)
 (f8 h v1 17 true fun x27=>
 aP x27 v30 h fun x28 h29=>
 lp .i64 4 v30 fun x30=>
 io bU az aF cp cn aP v4 [(.bool (eqF x28 0)),(.int .i64 x28),(.int .i64 x30)] h29 fun x31 h32=>
 lp .i64 v30 1 fun x33=>
 j1 v1 v3 v4 v29 x33 h32)
 (j0 v3 h)
theorem ati (hk:Be k0 k) {J0:Q1} {j0:JI} (h0:UG J0 j0) {J1:Q1} {j1:uy} (h1:Ki J1 j1):Ki (ahv n bU az aF cp cn aP k0 J0 J1) (JD n bU az aF cp cn aP k j0 j1):=by
  obtain rfl:=fx2 hk
  obtain rfl:=fx2 h0
  obtain rfl:=fx6 h1
  intro v1 v3 v4 v29 v30 h
  kernel_rfl
def afD (m:Nat):Q1:=Nat.rec (motive:=fun _=>Q1) (fun _=>.err) (fun _ ih=>ahv n bU az aF cp cn aP k0 (afY n bU az aF cp cn aP k0) ih) m
def Dd (m:Nat):uy:=Nat.rec (motive:=fun _=>uy) (fun _ _ _ _ _ _=>.err) (fun _ ih=>JD n bU az aF cp cn aP k (KT n bU az aF cp cn aP k) ih) m
theorem asP (m:Nat):Dd n bU az aF cp cn aP k (m+1)=JD n bU az aF cp cn aP k (KT n bU az aF cp cn aP k) (Dd n bU az aF cp cn aP k m):=rfl
theorem asG (hk:Be k0 k) (m:Nat):Ki (afD n bU az aF cp cn aP k0 m) (Dd n bU az aF cp cn aP k m):=by
  induction m with
  | zero=>intro v1 v3 v4 v29 v30 h; rfl
  | succ m ih=>exact ati n bU az aF cp cn aP k0 k hk (atF n bU az aF cp cn aP k0 k hk) ih
def amU (n:Nat) (bU:gZ) (az:b8) (aF:ck) (cp:jx) (cn:jE) (aP:dy) (k0:Q0) (J1:Q1):Q1:=(bE (io bU az aF cp cn aP) iH adP (bE (io bU az aF cp cn aP) iH ac9 (bE (io bU az aF cp cn aP) iH aeo (bE (io bU az aF cp cn aP) iH acW (bE (io bU az aF cp cn aP) iH ahb (bE (io bU az aF cp cn aP) iH ahp (bE (io bU az aF cp cn aP) iH ahA (bE (io bU az aF cp cn aP) iH ag9 (fun s=>cI UV s J1)))))))))
def acz (n:Nat) (bU:gZ) (az:b8) (aF:ck) (cp:jx) (cn:jE) (aP:dy) (k:wn) (j1:uy) (a0:AV) (h:Heap):CRes:=
 Dh h a0 fun x0 h1=>
 Bv h1 (.cells [.nilslice] true 0) fun x2 h3=>
 f8 h3 (.ptr x0 0) 17 true fun x4=>
 az x4 h3 fun x5 h6=>
 bU x5 114 0 (.ptr x2 0) h6 fun h7=>
 fld 6 h7 (.ptr x0 0) 6 true fun x8 x9=>
 aF x9 h7 fun x10 h11=>
 bU (eqF x10 0) 100 1 (.ptr x2 0) h11 fun h12=>
 f8 h12 (.ptr x0 0) 17 true fun x13=>
 cp x13 h12 fun x14 h15=>
 bU x14 113 2 (.ptr x2 0) h15 fun h16=>
 f8 h16 (.ptr x0 0) 17 true fun x17=>
 cn x17 h16 fun x18 h19=>
 bU x18 112 3 (.ptr x2 0) h19 fun h20=>
 fld 16 h20 (.ptr x0 0) 1 false fun x21 x22=>
 fH x22 fun x23=>
 O1 false [(.int .i64 x23),(.int .i64 8)] fun x24=>
 Wa .i64 x24 fun x25=>
 j1 (.ptr x0 0) (.ptr x2 0) (.func 67 [] [(.ptr x2 0)]) x25 0 h20
theorem awD (n:Nat) (bU:gZ) (az:b8) (aF:ck) (cp:jx) (cn:jE) (aP:dy) (k0:Q0) (k:wn) (hk:Be k0 k) {J1:Q1} {j1:uy} (h1:Ki J1 j1) (a0:AV) (h:Heap):(amU n bU az aF cp cn aP k0 J1) ⟨cH [(p0,a0)],h⟩=(acz n bU az aF cp cn aP k j1) a0 h:=by
  obtain rfl:=fx2 hk
  obtain rfl:=fx6 h1
  kernel_rfl
def avU:Q1:=amU n bU az aF cp cn aP k0 (afD n bU az aF cp cn aP k0 n)
def aby (n:Nat) (bU:gZ) (az:b8) (aF:ck) (cp:jx) (cn:jE) (aP:dy) (a0:AV) (h:Heap) (k:wn):CRes:=acz n bU az aF cp cn aP k (Dd n bU az aF cp cn aP k n) a0 h
theorem awV (n:Nat) (bU:gZ) (az:b8) (aF:ck) (cp:jx) (cn:jE) (aP:dy) (k0:Q0) (s:St):D (ez [(rT,vK bU),(ji,iT az),(iK,ig aF),(Gm,Bj cp),(GL,Bk cn),(wx,tf aP)]) iH n ab4 (cG Jq k0) (fun _ _=>.err) (cG Jq k0) s=avU n bU az aF cp cn aP k0 s:=by kernel_rfl
theorem awP (n:Nat) (bU:gZ) (az:b8) (aF:ck) (cp:jx) (cn:jE) (aP:dy) (a0:AV) (h:Heap) (k0:Q0):W ace Jq [(rT,vK bU),(ji,iT az),(iK,ig aF),(Gm,Bj cp),(GL,Bk cn),(wx,tf aP)] iH n ab4 [a0] h k0=aby n bU az aF cp cn aP a0 h (fun u0 h=>k0 u0 h):=by
  let k:wn:=fun u0 h=>k0 u0 h
  have hk:Be k0 k:=fun _ _=>rfl
  have hb:∀ F:Tr AV→CRes,fJ ace [a0] .leaf F=F (cH [(p0,a0)]):=fun F=>by kernel_rfl
  exact (lD hb).trans ((awV n bU az aF cp cn aP k0 _).trans (awD n bU az aF cp cn aP k0 k hk (asG n bU az aF cp cn aP k0 k hk n) a0 h))
end
def EP (n:Nat):qt:=aby n (mI n) (gm n) (gy n) (s8 n) (s9 n) (ns n)
/-! cofferdam/plan.May -/
abbrev cW:=AV→Heap→(Bool→Heap→CRes)→CRes
abbrev Nb:=Bool→Heap→CRes
def wR (g:cW):Wr:=fun l h k=>kL l fun a0 l=>lw l (g a0 h fun u0 h=>k (.bool u0) h)
def aqi (gi:qt):dD:=ez [(K9,EF gi)]
abbrev apO (k0:Q0) (k:Nb):Prop:=∀ u0 h,k0 (.bool u0) h=k u0 h
section
variable (n:Nat) (gi:qt) (k0:Q0) (k:Nb)
def asB (n:Nat) (gi:qt) (k0:Q0):Q1:=(bE (aqi gi) VM ans (bE (aqi gi) VM al8 (cG Vj k0)))
def alY (n:Nat) (gi:qt) (k:Nb) (a0:AV) (h:Heap):CRes:=
 Dh h a0 fun x0 h1=>
 f8 h1 (.ptr x0 0) 17 true fun x2=>
 gi x2 h1 fun x3 h4=>
 fH x3 fun x5=>
 k (eqF x5 0) h4
theorem ayT (n:Nat) (gi:qt) (k0:Q0) (k:Nb) (hk:apO k0 k) (a0:AV) (h:Heap):(asB n gi k0) ⟨cH [(p0,a0)],h⟩=(alY n gi k) a0 h:=by
  obtain rfl:=fx2 hk
  kernel_rfl
def ay4:Q1:=asB n gi k0
def alp (n:Nat) (gi:qt) (a0:AV) (h:Heap) (k:Nb):CRes:=alY n gi k a0 h
theorem azs (n:Nat) (gi:qt) (k0:Q0) (s:St):D (ez [(K9,EF gi)]) VM n alO (cG Vj k0) (fun _ _=>.err) (cG Vj k0) s=ay4 n gi k0 s:=by kernel_rfl
theorem ayN (n:Nat) (gi:qt) (a0:AV) (h:Heap) (k0:Q0):W ak9 Vj [(K9,EF gi)] VM n alO [a0] h k0=alp n gi a0 h (fun u0 h=>k0 (.bool u0) h):=by
  let k:Nb:=fun u0 h=>k0 (.bool u0) h
  have hk:apO k0 k:=fun _ _=>rfl
  have hb:∀ F:Tr AV→CRes,fJ ak9 [a0] .leaf F=F (cH [(p0,a0)]):=fun F=>by kernel_rfl
  exact (lD hb).trans ((azs n gi k0 _).trans (ayT n gi k0 k hk a0 h))
end
def i9 (n:Nat):cW:=alp n (EP n)
/-! cofferdam/plan.there -/
abbrev qf:=AV→Int→Heap→(Int→Heap→CRes)→CRes
abbrev y8:=Int→Heap→CRes
def Ev (g:qf):Wr:=fun l h k=>kL l fun a0 l=>nH .i64 l fun a1 l=>lw l (g a0 a1 h fun u0 h=>k (.int .i64 u0) h)
def wP (aI:cW):dD:=ez [(zb,wR aI)]
abbrev OX (k0:Q0) (k:y8):Prop:=∀ u0 h,k0 (.int .i64 u0) h=k u0 h
abbrev K2:Type:=Bool→Heap→CRes
abbrev Uh (J:Q1) (j:K2):Prop:=∀ v18 h,J ⟨cH [(p18,(.bool v18))],h⟩=j v18 h
section
variable (n:Nat) (aI:cW) (k0:Q0) (k:y8)
def agK (n:Nat) (aI:cW) (k0:Q0):Q1:=(bE (wP aI) ql agG (fun s=>dH (.t p9) s (bE (wP aI) ql agH (cG y9 k0)) (bE (wP aI) ql agr (cG y9 k0))))
def Vz (n:Nat) (aI:cW) (k:y8) (v18:Bool) (h:Heap):CRes:=
 ifB v18
 (k 270 h)
 (k 0 h)
theorem atb (hk:OX k0 k):Uh (agK n aI k0) (Vz n aI k):=by
  obtain rfl:=fx2 hk
  intro v18 h
  kernel_rfl
def ahk:Q1:=agK n aI k0
def U6:K2:=Vz n aI k
theorem atI (hk:OX k0 k):Uh (ahk n aI k0) (U6 n aI k):=atb n aI k0 k hk
def amK (n:Nat) (aI:cW) (k0:Q0) (J0:Q1):Q1:=(bE (wP aI) ql aif (bE (wP aI) ql ahG (fun s=>dH (.t p5) s (bE (wP aI) ql aft (cG y9 k0)) (bE (wP aI) ql agl (fun s=>cI ahj s J0)))))
def acy (n:Nat) (aI:cW) (k:y8) (j0:K2) (a0:AV) (a1:Int) (h:Heap):CRes:=
 Dh h a0 fun x0 h1=>
 f8 h1 (.ptr x0 0) 17 true fun x2=>
 aI x2 h1 fun x3 h4=>
 ifB (fS x3)
 (k 5 h4)
 (ifB (ltF a1 0)
 (j0 true h4)
 (fld 16 h4 (.ptr x0 0) 1 false fun x5 x6=>
 fH x6 fun x7=>
 j0 (fS (ltF a1 x7)) h4))
theorem awy (n:Nat) (aI:cW) (k0:Q0) (k:y8) (hk:OX k0 k) {J0:Q1} {j0:K2} (h0:Uh J0 j0) (a0:AV) (a1:Int) (h:Heap):(amK n aI k0 J0) ⟨cH [(p0,a0),(p1,(.int .i64 a1))],h⟩=(acy n aI k j0) a0 a1 h:=by
  obtain rfl:=fx2 hk
  obtain rfl:=fx2 h0
  kernel_rfl
def awK:Q1:=amK n aI k0 (ahk n aI k0)
def abL (n:Nat) (aI:cW) (a0:AV) (a1:Int) (h:Heap) (k:y8):CRes:=acy n aI k (U6 n aI k) a0 a1 h
theorem awo (n:Nat) (aI:cW) (k0:Q0) (s:St):D (ez [(zb,wR aI)]) ql n abX (cG y9 k0) (fun _ _=>.err) (cG y9 k0) s=awK n aI k0 s:=by kernel_rfl
theorem aw3 (n:Nat) (aI:cW) (a0:AV) (a1:Int) (h:Heap) (k0:Q0):W abB y9 [(zb,wR aI)] ql n abX [a0,(.int .i64 a1)] h k0=abL n aI a0 a1 h (fun u0 h=>k0 (.int .i64 u0) h):=by
  let k:y8:=fun u0 h=>k0 (.int .i64 u0) h
  have hk:OX k0 k:=fun _ _=>rfl
  have hb:∀ F:Tr AV→CRes,fJ abB [a0,(.int .i64 a1)] .leaf F=F (cH [(p0,a0),(p1,(.int .i64 a1))]):=fun F=>by kernel_rfl
  exact (lD hb).trans ((awo n aI k0 _).trans (awy n aI k0 k hk (atI n aI k0 k hk) a0 a1 h))
end
def Eg (n:Nat):qf:=abL n (i9 n)
/-! cofferdam/plan.Total -/
abbrev cM:=AV→Int→Heap→(Int→Int→Heap→CRes)→CRes
abbrev El:=Int→Int→Heap→CRes
def qe (g:cM):Wr:=fun l h k=>kL l fun a0 l=>nH .i64 l fun a1 l=>lw l (g a0 a1 h fun u0 u1 h=>k (.tuple [(.int .i64 u0),(.int .i64 u1)]) h)
def Gt (fj:qf) (aS:dw):dD:=ez [(Lf,Ev fj),(sx,qr aS)]
abbrev akI (k0:Q0) (k:El):Prop:=∀ u0 u1 h,k0 (.tuple [(.int .i64 u0),(.int .i64 u1)]) h=k u0 u1 h
section
variable (n:Nat) (fj:qf) (aS:dw) (k0:Q0) (k:El)
def am4 (n:Nat) (fj:qf) (aS:dw) (k0:Q0):Q1:=(bE (Gt fj aS) wc ahf (bE (Gt fj aS) wc ail (bE (Gt fj aS) wc afE (fun s=>dH (.t p11) s (bE (Gt fj aS) wc agF (cG Ew k0)) (bE (Gt fj aS) wc agC (cG Ew k0))))))
def abQ (n:Nat) (fj:qf) (aS:dw) (k:El) (a0:AV) (a1:Int) (h:Heap):CRes:=
 Dh h a0 fun x0 h1=>
 f8 h1 (.ptr x0 0) 17 true fun x2=>
 fj x2 a1 h1 fun x3 h4=>
 ifB (fS (eqF x3 0))
 (k 0 x3 h4)
 (f8 h4 (.ptr x0 0) 17 true fun x5=>
 aS x5 a1 h4 fun x6 h7=>
 k x6 0 h7)
theorem av0 (n:Nat) (fj:qf) (aS:dw) (k0:Q0) (k:El) (hk:akI k0 k) (a0:AV) (a1:Int) (h:Heap):(am4 n fj aS k0) ⟨cH [(p0,a0),(p1,(.int .i64 a1))],h⟩=(abQ n fj aS k) a0 a1 h:=by
  obtain rfl:=fx3 hk
  kernel_rfl
def awU:Q1:=am4 n fj aS k0
def abN (n:Nat) (fj:qf) (aS:dw) (a0:AV) (a1:Int) (h:Heap) (k:El):CRes:=abQ n fj aS k a0 a1 h
theorem awL (n:Nat) (fj:qf) (aS:dw) (k0:Q0) (s:St):D (ez [(Lf,Ev fj),(sx,qr aS)]) wc n abR (cG Ew k0) (fun _ _=>.err) (cG Ew k0) s=awU n fj aS k0 s:=by kernel_rfl
theorem avY (n:Nat) (fj:qf) (aS:dw) (a0:AV) (a1:Int) (h:Heap) (k0:Q0):W acC Ew [(Lf,Ev fj),(sx,qr aS)] wc n abR [a0,(.int .i64 a1)] h k0=abN n fj aS a0 a1 h (fun u0 u1 h=>k0 (.tuple [(.int .i64 u0),(.int .i64 u1)]) h):=by
  let k:El:=fun u0 u1 h=>k0 (.tuple [(.int .i64 u0),(.int .i64 u1)]) h
  have hk:akI k0 k:=fun _ _ _=>rfl
  have hb:∀ F:Tr AV→CRes,fJ acC [a0,(.int .i64 a1)] .leaf F=F (cH [(p0,a0),(p1,(.int .i64 a1))]):=fun F=>by kernel_rfl
  exact (lD hb).trans ((awL n fj aS k0 _).trans (av0 n fj aS k0 k hk a0 a1 h))
end
def qi (n:Nat):cM:=abN n (Eg n) (qx n)
abbrev dE:=AV→Heap→(AV→Heap→CRes)→CRes
abbrev jO:=AV→Heap→CRes
def jM (g:dE):Wr:=fun l h k=>kL l fun a0 l=>lw l (g a0 h fun u0 h=>k u0 h)
def oG:dD:=ez []
abbrev DW (k0:Q0) (k:jO):Prop:=∀ u0 h,k0 u0 h=k u0 h
section
variable (n:Nat) (k0:Q0) (k:jO)
def Fa (n:Nat) (k0:Q0):Q1:=(bE (oG) iA C4 (bE (oG) iA CQ (fun s=>dH (.t p4) s (bE (oG) iA Cr (cG jR k0)) (bE (oG) iA Cv (cG jR k0)))))
def vn (n:Nat) (k:jO) (a0:AV) (h:Heap):CRes:=
 ajj (.nil .sl) a0 .nilslice fun x0=>
 ifB (aeZ false x0)
 (k .nilslice h)
 (pG h 0 [] [] fun x1 h2=>
 mQ h2 1 x1 a0 fun x3 h4=>
 k x3 h4)
theorem Wb (n:Nat) (k0:Q0) (k:jO) (hk:DW k0 k) (a0:AV) (h:Heap):(Fa n k0) ⟨cH [(p0,a0)],h⟩=(vn n k) a0 h:=by
  obtain rfl:=fx2 hk
  kernel_rfl
def VZ:Q1:=Fa n k0
def vz (n:Nat) (a0:AV) (h:Heap) (k:jO):CRes:=vn n k a0 h
theorem V1 (n:Nat) (k0:Q0) (s:St):D (ez []) iA n vH (cG jR k0) (fun _ _=>.err) (cG jR k0) s=VZ n k0 s:=by kernel_rfl
theorem VS (n:Nat) (a0:AV) (h:Heap) (k0:Q0):W vh jR [] iA n vH [a0] h k0=vz n a0 h (fun u0 h=>k0 u0 h):=by
  let k:jO:=fun u0 h=>k0 u0 h
  have hk:DW k0 k:=fun _ _=>rfl
  have hb:∀ F:Tr AV→CRes,fJ vh [a0] .leaf F=F (cH [(p0,a0)]):=fun F=>by kernel_rfl
  exact (lD hb).trans ((V1 n k0 _).trans (Wb n k0 k hk a0 h))
end
def jL (n:Nat):dE:=vz n
/-! cofferdam/colour.within -/
abbrev cj:=Int→Int→Int→Heap→(Bool→Heap→CRes)→CRes
abbrev rI:=Bool→Heap→CRes
def eC (g:cj):Wr:=fun l h k=>nH .i64 l fun a0 l=>nH .i64 l fun a1 l=>nH .i64 l fun a2 l=>lw l (g a0 a1 a2 h fun u0 h=>k (.bool u0) h)
def OC:dD:=ez []
abbrev EI (k0:Q0) (k:rI):Prop:=∀ u0 h,k0 (.bool u0) h=k u0 h
abbrev CE:Type:=Bool→Heap→CRes
abbrev KE (J:Q1) (j:CE):Prop:=∀ v14 h,J ⟨cH [(p14,(.bool v14))],h⟩=j v14 h
section
variable (n:Nat) (k0:Q0) (k:rI)
def W7 (n:Nat) (k0:Q0):Q1:=(bE (OC) vQ Xn (cG Ae k0))
def JH (n:Nat) (k:rI) (v14:Bool) (h:Heap):CRes:=
 k v14 h
theorem amJ (hk:EI k0 k):KE (W7 n k0) (JH n k):=by
  obtain rfl:=fx2 hk
  intro v14 h
  kernel_rfl
def WU:Q1:=W7 n k0
def Ld:CE:=JH n k
theorem amh (hk:EI k0 k):KE (WU n k0) (Ld n k):=amJ n k0 k hk
def aew (n:Nat) (k0:Q0) (J0:Q1):Q1:=(bE (OC) vQ WV (bE (OC) vQ W8 (fun s=>cI WT s J0)))
def RC (n:Nat) (k:rI) (j0:CE) (a0:Int) (a1:Int) (a2:Int) (h:Heap):CRes:=
 ifB (fS (ltF a0 a1))
 (j0 (fS (ltF a2 a0)) h)
 (j0 false h)
theorem aqV (n:Nat) (k0:Q0) (k:rI) (hk:EI k0 k) {J0:Q1} {j0:CE} (h0:KE J0 j0) (a0:Int) (a1:Int) (a2:Int) (h:Heap):(aew n k0 J0) ⟨cH [(p0,(.int .i64 a0)),(p1,(.int .i64 a1)),(p2,(.int .i64 a2))],h⟩=(RC n k j0) a0 a1 a2 h:=by
  obtain rfl:=fx2 hk
  obtain rfl:=fx2 h0
  kernel_rfl
def aqW:Q1:=aew n k0 (WU n k0)
def QK (n:Nat) (a0:Int) (a1:Int) (a2:Int) (h:Heap) (k:rI):CRes:=RC n k (Ld n k) a0 a1 a2 h
theorem aqy (n:Nat) (k0:Q0) (s:St):D (ez []) vQ n QE (cG Ae k0) (fun _ _=>.err) (cG Ae k0) s=aqW n k0 s:=by kernel_rfl
theorem aqM (n:Nat) (a0:Int) (a1:Int) (a2:Int) (h:Heap) (k0:Q0):W RN Ae [] vQ n QE [(.int .i64 a0),(.int .i64 a1),(.int .i64 a2)] h k0=QK n a0 a1 a2 h (fun u0 h=>k0 (.bool u0) h):=by
  let k:rI:=fun u0 h=>k0 (.bool u0) h
  have hk:EI k0 k:=fun _ _=>rfl
  have hb:∀ F:Tr AV→CRes,fJ RN [(.int .i64 a0),(.int .i64 a1),(.int .i64 a2)] .leaf F=F (cH [(p0,(.int .i64 a0)),(p1,(.int .i64 a1)),(p2,(.int .i64 a2))]):=fun F=>by kernel_rfl
  exact (lD hb).trans ((aqy n k0 _).trans (aqV n k0 k hk (amh n k0 k hk) a0 a1 a2 h))
end
def ft (n:Nat):cj:=QK n
/-! cofferdam/colour.may -/
abbrev cZ:=Int→Heap→(Bool→Heap→CRes)→CRes
abbrev EE:=Bool→Heap→CRes
def ie (g:cZ):Wr:=fun l h k=>nH .i64 l fun a0 l=>lw l (g a0 h fun u0 h=>k (.bool u0) h)
def ajX (aN:cj):dD:=ez [(eK,eC aN)]
abbrev akQ (k0:Q0) (k:EE):Prop:=∀ u0 h,k0 (.bool u0) h=k u0 h
section
variable (n:Nat) (aN:cj) (k0:Q0) (k:EE)
def amH (n:Nat) (aN:cj) (k0:Q0):Q1:=(bE (ajX aN) JY aii (bE (ajX aN) JY agP (cG Jp k0)))
def acx (n:Nat) (aN:cj) (k:EE) (a0:Int) (h:Heap):CRes:=
 aN a0 1 16 h fun x0 h1=>
 k x0 h1
theorem av5 (n:Nat) (aN:cj) (k0:Q0) (k:EE) (hk:akQ k0 k) (a0:Int) (h:Heap):(amH n aN k0) ⟨cH [(p0,(.int .i64 a0))],h⟩=(acx n aN k) a0 h:=by
  obtain rfl:=fx2 hk
  kernel_rfl
def aw0:Q1:=amH n aN k0
def ab5 (n:Nat) (aN:cj) (a0:Int) (h:Heap) (k:EE):CRes:=acx n aN k a0 h
theorem av3 (n:Nat) (aN:cj) (k0:Q0) (s:St):D (ez [(eK,eC aN)]) JY n abt (cG Jp k0) (fun _ _=>.err) (cG Jp k0) s=aw0 n aN k0 s:=by kernel_rfl
theorem awu (n:Nat) (aN:cj) (a0:Int) (h:Heap) (k0:Q0):W acv Jp [(eK,eC aN)] JY n abt [(.int .i64 a0)] h k0=ab5 n aN a0 h (fun u0 h=>k0 (.bool u0) h):=by
  let k:EE:=fun u0 h=>k0 (.bool u0) h
  have hk:akQ k0 k:=fun _ _=>rfl
  have hb:∀ F:Tr AV→CRes,fJ acv [(.int .i64 a0)] .leaf F=F (cH [(p0,(.int .i64 a0))]):=fun F=>by kernel_rfl
  exact (lD hb).trans ((av3 n aN k0 _).trans (av5 n aN k0 k hk a0 h))
end
def kh (n:Nat):cZ:=ab5 n (ft n)
/-! cofferdam/colour.Count -/
abbrev iQ:=Int→Int→Int→Heap→(Int→Int→Heap→CRes)→CRes
abbrev qN:=Int→Int→Heap→CRes
def yP (g:iQ):Wr:=fun l h k=>nH .i64 l fun a0 l=>nH .i64 l fun a1 l=>nH .i64 l fun a2 l=>lw l (g a0 a1 a2 h fun u0 u1 h=>k (.tuple [(.int .i64 u0),(.int .i64 u1)]) h)
def zU (aN:cj) (aX:cZ):dD:=ez [(eK,eC aN),(iP,ie aX)]
abbrev vP (k0:Q0) (k:qN):Prop:=∀ u0 u1 h,k0 (.tuple [(.int .i64 u0),(.int .i64 u1)]) h=k u0 u1 h
abbrev Ef:Type:=Int→Int→Int→Bool→Heap→CRes
abbrev OH (J:Q1) (j:Ef):Prop:=∀ v0 v1 v2 v22 h,J ⟨cH [(p0,(.int .i64 v0)),(p1,(.int .i64 v1)),(p2,(.int .i64 v2)),(p22,(.bool v22))],h⟩=j v0 v1 v2 v22 h
abbrev Er:Type:=Int→Int→Int→Bool→Heap→CRes
abbrev Ns (J:Q1) (j:Er):Prop:=∀ v0 v1 v2 v15 h,J ⟨cH [(p0,(.int .i64 v0)),(p1,(.int .i64 v1)),(p2,(.int .i64 v2)),(p15,(.bool v15))],h⟩=j v0 v1 v2 v15 h
section
variable (n:Nat) (aN:cj) (aX:cZ) (k0:Q0) (k:qN)
def abm (n:Nat) (aN:cj) (aX:cZ) (k0:Q0):Q1:=(fun s=>dH (.t p22) s (bE (zU aN aX) qH YR (cG yz k0)) (bE (zU aN aX) qH abo (cG yz k0)))
def Nk (n:Nat) (aN:cj) (aX:cZ) (k:qN) (v0:Int) (v1:Int) (v2:Int) (v22:Bool) (h:Heap):CRes:=
 ifB v22
 (k 0 2 h)
 (YK .i64 v0 v2 fun x7=>
 lp .i64 x7 v1 fun x8=>
 YK .i64 x8 1 fun x9=>
 quoK .i64 x9 v1 fun x10=>
 k x10 0 h)
theorem aog (hk:vP k0 k):OH (abm n aN aX k0) (Nk n aN aX k):=by
  obtain rfl:=fx3 hk
  intro v0 v1 v2 v22 h
  kernel_rfl
def Z1:Q1:=abm n aN aX k0
def Om:Ef:=Nk n aN aX k
theorem apo (hk:vP k0 k):OH (Z1 n aN aX k0) (Om n aN aX k):=aog n aN aX k0 k hk
def abc (n:Nat) (aN:cj) (aX:cZ) (k0:Q0) (J1:Q1):Q1:=(bE (zU aN aX) qH aaj (fun s=>cI ZA s J1))
def NV (n:Nat) (aN:cj) (aX:cZ) (k:qN) (j1:Ef) (v0:Int) (v1:Int) (v2:Int) (v15:Bool) (h:Heap):CRes:=
 ifB v15
 (j1 v0 v1 v2 true h)
 (YK .i64 v1 1 fun x4=>
 aN v2 0 x4 h fun x5 h6=>
 j1 v0 v1 v2 (fS x5) h6)
theorem anO (hk:vP k0 k) {J1:Q1} {j1:Ef} (h1:OH J1 j1):Ns (abc n aN aX k0 J1) (NV n aN aX k j1):=by
  obtain rfl:=fx3 hk
  obtain rfl:=fx5 h1
  intro v0 v1 v2 v15 h
  kernel_rfl
def aax:Q1:=abc n aN aX k0 (Z1 n aN aX k0)
def NQ:Er:=NV n aN aX k (Om n aN aX k)
theorem apa (hk:vP k0 k):Ns (aax n aN aX k0) (NQ n aN aX k):=anO n aN aX k0 k hk (apo n aN aX k0 k hk)
def agh (n:Nat) (aN:cj) (aX:cZ) (k0:Q0) (J0:Q1):Q1:=(bE (zU aN aX) qH aaW (bE (zU aN aX) qH aaO (fun s=>cI ZD s J0)))
def Ut (n:Nat) (aN:cj) (aX:cZ) (k:qN) (j0:Er) (a0:Int) (a1:Int) (a2:Int) (h:Heap):CRes:=
 aN a0 1 4096 h fun x0 h1=>
 ifB (fS x0)
 (j0 a0 a1 a2 true h1)
 (aX a1 h1 fun x2 h3=>
 j0 a0 a1 a2 (fS x2) h3)
theorem asD (n:Nat) (aN:cj) (aX:cZ) (k0:Q0) (k:qN) (hk:vP k0 k) {J0:Q1} {j0:Er} (h0:Ns J0 j0) (a0:Int) (a1:Int) (a2:Int) (h:Heap):(agh n aN aX k0 J0) ⟨cH [(p0,(.int .i64 a0)),(p1,(.int .i64 a1)),(p2,(.int .i64 a2))],h⟩=(Ut n aN aX k j0) a0 a1 a2 h:=by
  obtain rfl:=fx3 hk
  obtain rfl:=fx5 h0
  kernel_rfl
def ar2:Q1:=agh n aN aX k0 (aax n aN aX k0)
def Uu (n:Nat) (aN:cj) (aX:cZ) (a0:Int) (a1:Int) (a2:Int) (h:Heap) (k:qN):CRes:=Ut n aN aX k (NQ n aN aX k) a0 a1 a2 h
theorem asq (n:Nat) (aN:cj) (aX:cZ) (k0:Q0) (s:St):D (ez [(eK,eC aN),(iP,ie aX)]) qH n T9 (cG yz k0) (fun _ _=>.err) (cG yz k0) s=ar2 n aN aX k0 s:=by kernel_rfl
theorem ar7 (n:Nat) (aN:cj) (aX:cZ) (a0:Int) (a1:Int) (a2:Int) (h:Heap) (k0:Q0):W UT yz [(eK,eC aN),(iP,ie aX)] qH n T9 [(.int .i64 a0),(.int .i64 a1),(.int .i64 a2)] h k0=Uu n aN aX a0 a1 a2 h (fun u0 u1 h=>k0 (.tuple [(.int .i64 u0),(.int .i64 u1)]) h):=by
  let k:qN:=fun u0 u1 h=>k0 (.tuple [(.int .i64 u0),(.int .i64 u1)]) h
  have hk:vP k0 k:=fun _ _ _=>rfl
  have hb:∀ F:Tr AV→CRes,fJ UT [(.int .i64 a0),(.int .i64 a1),(.int .i64 a2)] .leaf F=F (cH [(p0,(.int .i64 a0)),(p1,(.int .i64 a1)),(p2,(.int .i64 a2))]):=fun F=>by kernel_rfl
  exact (lD hb).trans ((asq n aN aX k0 _).trans (asD n aN aX k0 k hk (apa n aN aX k0 k hk) a0 a1 a2 h))
end
def ue (n:Nat):iQ:=Uu n (ft n) (kh n)
/-! cofferdam/buddy.New -/
abbrev mo:=Int→Heap→(AV→Int→Heap→CRes)→CRes
abbrev nw:=AV→Int→Heap→CRes
def I8 (g:mo):Wr:=fun l h k=>nH .i64 l fun a0 l=>lw l (g a0 h fun u0 u1 h=>k (.tuple [u0,(.int .i64 u1)]) h)
def oL:dD:=ez []
abbrev mS (k0:Q0) (k:nw):Prop:=∀ u0 u1 h,k0 (.tuple [u0,(.int .i64 u1)]) h=k u0 u1 h
abbrev OS:Type:=AV→Heap→CRes
abbrev X5 (J:Q1) (j:OS):Prop:=∀ v4 h,J ⟨cH [(p4,v4)],h⟩=j v4 h
abbrev OW:Type:=Int→AV→Int→Int→Heap→CRes
abbrev Xx (J:Q1) (j:OW):Prop:=∀ v0 v4 v5 v6 h,J ⟨cH [(p0,(.int .i64 v0)),(p4,v4),(p5,(.int .i64 v5)),(p6,(.int .i64 v6))],h⟩=j v0 v4 v5 v6 h
abbrev wI:Type:=Int→AV→Int→Int→Heap→CRes
abbrev O4 (J:Q1) (j:wI):Prop:=∀ v0 v4 v5 v6 h,J ⟨cH [(p0,(.int .i64 v0)),(p4,v4),(p5,(.int .i64 v5)),(p6,(.int .i64 v6))],h⟩=j v0 v4 v5 v6 h
abbrev lV:Type:=Int→AV→Int→Int→Heap→CRes
abbrev Bi (J:Q1) (j:lV):Prop:=∀ v0 v4 v5 v6 h,J ⟨cH [(p0,(.int .i64 v0)),(p4,v4),(p5,(.int .i64 v5)),(p6,(.int .i64 v6))],h⟩=j v0 v4 v5 v6 h
abbrev O7:Type:=Int→Bool→Heap→CRes
abbrev X8 (J:Q1) (j:O7):Prop:=∀ v0 v12 h,J ⟨cH [(p0,(.int .i64 v0)),(p12,(.bool v12))],h⟩=j v0 v12 h
section
variable (n:Nat) (k0:Q0) (k:nw)
def aj1 (n:Nat) (k0:Q0):Q1:=(bE (oL) mq ajI (cG Iy k0))
def X6 (n:Nat) (k:nw) (v4:AV) (h:Heap):CRes:=
 k v4 0 h
theorem at8 (hk:mS k0 k):X5 (aj1 n k0) (X6 n k):=by
  obtain rfl:=fx3 hk
  intro v4 h
  kernel_rfl
def ajM:Q1:=aj1 n k0
def OV:OS:=X6 n k
theorem aun (hk:mS k0 k):X5 (ajM n k0) (OV n k):=at8 n k0 k hk
def akB (n:Nat) (k0:Q0) (J1:Q1):Q1:=(bE (oL) mq akv (bE (oL) mq akz (fun s=>cI Yp s J1)))
def XX (n:Nat) (k:nw) (j1:lV) (v0:Int) (v4:AV) (v5:Int) (v6:Int) (h:Heap):CRes:=
 nfa 2 v4 fun x5=>
 Fw 1 7 x5 v6 fun x6=>
 f8 h x6 1 false fun x7=>
 pG h 1 [(.int .i64 0)] [(0,1,(.int .i64 v5))] fun x8 h9=>
 mQ h9 1 x7 x8 fun x10 h11=>
 nfa 2 v4 fun x12=>
 Fw 1 7 x12 v6 fun x13=>
 lS h11 x13 1 x10 fun h14=>
 al0 .i64 1 v6 fun x15=>
 lp .i64 v5 x15 fun x16=>
 j1 v0 v4 x16 v6 h14
theorem auX (hk:mS k0 k) {J1:Q1} {j1:lV} (h1:Bi J1 j1):Xx (akB n k0 J1) (XX n k j1):=by
  obtain rfl:=fx3 hk
  obtain rfl:=fx5 h1
  intro v0 v4 v5 v6 h
  kernel_rfl
def ajH (J1:Q1):Q1:=akB n k0 J1
def O5 (j1:lV):OW:=XX n k j1
theorem auQ (hk:mS k0 k) {J1:Q1} {j1:lV} (h1:Bi J1 j1):Xx (ajH n k0 J1) (O5 n k j1):=auX n k0 k hk h1
def ajJ (n:Nat) (k0:Q0) (J2:Q1) (J3:Q1):Q1:=(bE (oL) mq akm (fun s=>dH (.t p29) s (bE (oL) mq aka (fun s=>cI Yi s J3)) (fun s=>cI akp s J2)))
def OP (n:Nat) (k:nw) (j2:OW) (j3:wI) (v0:Int) (v4:AV) (v5:Int) (v6:Int) (h:Heap):CRes:=
 al0 .i64 1 v6 fun x17=>
 lp .i64 v5 x17 fun x18=>
 ifB (ltF v0 x18)
 (YK .i64 v6 1 fun x19=>
 j3 v0 v4 v5 x19 h)
 (j2 v0 v4 v5 v6 h)
theorem aux (hk:mS k0 k) {J2:Q1} {j2:OW} (h2:Xx J2 j2) {J3:Q1} {j3:wI} (h3:O4 J3 j3):O4 (ajJ n k0 J2 J3) (OP n k j2 j3):=by
  obtain rfl:=fx3 hk
  obtain rfl:=fx5 h2
  obtain rfl:=fx5 h3
  intro v0 v4 v5 v6 h
  kernel_rfl
def akL (J1:Q1) (m:Nat):Q1:=Nat.rec (motive:=fun _=>Q1) (fun _=>.err) (fun _ ih=>ajJ n k0 (ajH n k0 J1) ih) m
def Bl (j1:lV) (m:Nat):wI:=Nat.rec (motive:=fun _=>wI) (fun _ _ _ _ _=>.err) (fun _ ih=>OP n k (O5 n k j1) ih) m
theorem at6 (j1:lV) (m:Nat):Bl n k j1 (m+1)=OP n k (O5 n k j1) (Bl n k j1 m):=rfl
theorem auI (hk:mS k0 k) {J1:Q1} {j1:lV} (h1:Bi J1 j1) (m:Nat):O4 (akL n k0 J1 m) (Bl n k j1 m):=by
  induction m with
  | zero=>intro v0 v4 v5 v6 h; rfl
  | succ m ih=>exact aux n k0 k hk (auQ n k0 k hk h1) ih
def akW (n:Nat) (k0:Q0) (J0:Q1) (J3:Q1):Q1:=(bE (oL) mq akX (fun s=>dH (.t p19) s (fun s=>cI Yi s J3) (fun s=>cI aj8 s J0)))
def OR (n:Nat) (k:nw) (j0:OS) (j3:wI) (v0:Int) (v4:AV) (v5:Int) (v6:Int) (h:Heap):CRes:=
 ifB (ltF v5 v0)
 (j3 v0 v4 v5 v6 h)
 (j0 v4 h)
theorem auc (hk:mS k0 k) {J0:Q1} {j0:OS} (h0:X5 J0 j0) {J3:Q1} {j3:wI} (h3:O4 J3 j3):Bi (akW n k0 J0 J3) (OR n k j0 j3):=by
  obtain rfl:=fx3 hk
  obtain rfl:=fx2 h0
  obtain rfl:=fx5 h3
  intro v0 v4 v5 v6 h
  kernel_rfl
def aj5 (m:Nat):Q1:=Nat.rec (motive:=fun _=>Q1) (fun _=>.err) (fun _ ih=>akW n k0 (ajM n k0) (akL n k0 ih n)) m
def Bp (m:Nat):lV:=Nat.rec (motive:=fun _=>lV) (fun _ _ _ _ _=>.err) (fun _ ih=>OR n k (OV n k) (Bl n k ih n)) m
theorem aur (m:Nat):Bp n k (m+1)=OR n k (OV n k) (Bl n k (Bp n k m) n):=rfl
theorem at3 (hk:mS k0 k) (m:Nat):Bi (aj5 n k0 m) (Bp n k m):=by
  induction m with
  | zero=>intro v0 v4 v5 v6 h; rfl
  | succ m ih=>exact auc n k0 k hk (aun n k0 k hk) (auI n k0 k hk ih n)
def akP (n:Nat) (k0:Q0) (J1:Q1):Q1:=(fun s=>dH (.t p12) s (bE (oL) mq aj9 (cG Iy k0)) (bE (oL) mq aj0 (bE (oL) mq ajW (fun s=>cI Yp s J1))))
def Yd (n:Nat) (k:nw) (j1:lV) (v0:Int) (v12:Bool) (h:Heap):CRes:=
 ifB v12
 (k .nilptr 2 h)
 (Bv h (.mp []) fun x0 h1=>
 yL [(.bool false),(.int .i64 0),.nilslice,.nilslice,.nilslice,.nilslice,.nilslice,.nilslice,.nilslice,.nilmap] [(0,1,(.bool true)),(1,1,(.int .i64 v0)),(9,1,(.map x0))] fun x2=>
 Dh h1 x2 fun x3 h4=>
 j1 v0 (.ptr x3 0) 0 6 h4)
theorem auT (hk:mS k0 k) {J1:Q1} {j1:lV} (h1:Bi J1 j1):X8 (akP n k0 J1) (Yd n k j1):=by
  obtain rfl:=fx3 hk
  obtain rfl:=fx5 h1
  intro v0 v12 h
  kernel_rfl
def ajQ:Q1:=akP n k0 (aj5 n k0 n)
def Ys:O7:=Yd n k (Bp n k n)
theorem auy (hk:mS k0 k):X8 (ajQ n k0) (Ys n k):=auT n k0 k hk (at3 n k0 k hk n)
def apG (n:Nat) (k0:Q0) (J4:Q1):Q1:=(bE (oL) mq agb (bE (oL) mq akN (fun s=>cI akx s J4)))
def afH (n:Nat) (k:nw) (j4:O7) (a0:Int) (h:Heap):CRes:=
 ifB (ltF a0 0)
 (j4 a0 true h)
 (j4 a0 (ltF 4096 a0) h)
theorem ax2 (n:Nat) (k0:Q0) (k:nw) (hk:mS k0 k) {J4:Q1} {j4:O7} (h4:X8 J4 j4) (a0:Int) (h:Heap):(apG n k0 J4) ⟨cH [(p0,(.int .i64 a0))],h⟩=(afH n k j4) a0 h:=by
  obtain rfl:=fx3 hk
  obtain rfl:=fx3 h4
  kernel_rfl
def axJ:Q1:=apG n k0 (ajQ n k0)
def af0 (n:Nat) (a0:Int) (h:Heap) (k:nw):CRes:=afH n k (Ys n k) a0 h
theorem ayz (n:Nat) (k0:Q0) (s:St):D (ez []) mq n afO (cG Iy k0) (fun _ _=>.err) (cG Iy k0) s=axJ n k0 s:=by kernel_rfl
theorem ayG (n:Nat) (a0:Int) (h:Heap) (k0:Q0):W aig Iy [] mq n afO [(.int .i64 a0)] h k0=af0 n a0 h (fun u0 u1 h=>k0 (.tuple [u0,(.int .i64 u1)]) h):=by
  let k:nw:=fun u0 u1 h=>k0 (.tuple [u0,(.int .i64 u1)]) h
  have hk:mS k0 k:=fun _ _ _=>rfl
  have hb:∀ F:Tr AV→CRes,fJ aig [(.int .i64 a0)] .leaf F=F (cH [(p0,(.int .i64 a0))]):=fun F=>by kernel_rfl
  exact (lD hb).trans ((ayz n k0 _).trans (ax2 n k0 k hk (auy n k0 k hk) a0 h))
end
def DC (n:Nat):mo:=af0 n
/-! cofferdam/pool.New -/
abbrev dl:=AV→Int→Heap→(AV→Int→Heap→CRes)→CRes
abbrev Dj:=AV→Int→Heap→CRes
def N2 (g:dl):Wr:=fun l h k=>kL l fun a0 l=>nH .i64 l fun a1 l=>lw l (g a0 a1 h fun u0 u1 h=>k (.tuple [u0,(.int .i64 u1)]) h)
def iX (aH:cM) (bc:dE) (b7:iQ) (cA:mo):dD:=ez [(sK,qe aH),(mb,jM bc),(DN,yP b7),(Pf,I8 cA)]
abbrev I2 (k0:Q0) (k:Dj):Prop:=∀ u0 u1 h,k0 (.tuple [u0,(.int .i64 u1)]) h=k u0 u1 h
abbrev TO:Type:=AV→Heap→CRes
abbrev abw (J:Q1) (j:TO):Prop:=∀ v9 h,J ⟨cH [(p9,v9)],h⟩=j v9 h
abbrev y6:Type:=AV→AV→AV→Int→Int→Heap→CRes
abbrev TL (J:Q1) (j:y6):Prop:=∀ v2 v9 v57 v58 v59 h,J ⟨cH [(p2,v2),(p9,v9),(p57,v57),(p58,(.int .i64 v58)),(p59,(.int .i64 v59))],h⟩=j v2 v9 v57 v58 v59 h
section
variable (n:Nat) (aH:cM) (bc:dE) (b7:iQ) (cA:mo) (k0:Q0) (k:Dj)
def anF (n:Nat) (aH:cM) (bc:dE) (b7:iQ) (cA:mo) (k0:Q0):Q1:=(bE (iX aH bc b7 cA) iB ani (cG De k0))
def abO (n:Nat) (aH:cM) (bc:dE) (b7:iQ) (cA:mo) (k:Dj) (v9:AV) (h:Heap):CRes:=
 k v9 0 h
theorem awX (hk:I2 k0 k):abw (anF n aH bc b7 cA k0) (abO n aH bc b7 cA k):=by
  obtain rfl:=fx3 hk
  intro v9 h
  kernel_rfl
def amr:Q1:=anF n aH bc b7 cA k0
def TN:TO:=abO n aH bc b7 cA k
theorem awv (hk:I2 k0 k):abw (amr n aH bc b7 cA k0) (TN n aH bc b7 cA k):=awX n aH bc b7 cA k0 k hk
def anu (n:Nat) (aH:cM) (bc:dE) (b7:iQ) (cA:mo) (k0:Q0) (J0:Q1) (J1:Q1):Q1:=(bE (iX aH bc b7 cA) iB aj6 (fun s=>dH (.t p60) s (bE (iX aH bc b7 cA) iB am1 (bE (iX aH bc b7 cA) iB amW (bE (iX aH bc b7 cA) iB anC (fun s=>dH (.t p73) s (bE (iX aH bc b7 cA) iB amZ (cG De k0)) (bE (iX aH bc b7 cA) iB ant (bE (iX aH bc b7 cA) iB ana (fun s=>dH (.t p81) s (bE (iX aH bc b7 cA) iB am8 (cG De k0)) (bE (iX aH bc b7 cA) iB amg (bE (iX aH bc b7 cA) iB am5 (fun s=>cI acw s J1)))))))))) (fun s=>cI anm s J0)))
def Tz (n:Nat) (aH:cM) (bc:dE) (b7:iQ) (cA:mo) (k:Dj) (j0:TO) (j1:y6) (v2:AV) (v9:AV) (v57:AV) (v58:Int) (v59:Int) (h:Heap):CRes:=
 ifB (ltF v59 v58)
 (Lw .i64 1 h v57 v59 fun x42 x43=>
 iY .i64 0 h v2 fun x44 x45=>
 iY .i64 1 h v2 fun x46 x47=>
 b7 x45 x47 x43 h fun x48 x49 h50=>
 ifB (fS (eqF x49 0))
 (k .nilptr x49 h50)
 (cA x48 h50 fun x51 x52 h53=>
 ifB (fS (eqF x52 0))
 (k .nilptr x52 h53)
 (TE 11 h53 v9 1 false fun x54 x55=>
 pG h53 1 [.nilptr] [(0,1,x51)] fun x56 h57=>
 mQ h57 1 x55 x56 fun x58 h59=>
 nfst 11 h59 v9 1 x58 fun x60 h61=>
 lp .i64 v59 1 fun x62=>
 j1 v2 v9 v57 v58 x62 h61)))
 (j0 v9 h)
theorem awm (hk:I2 k0 k) {J0:Q1} {j0:TO} (h0:abw J0 j0) {J1:Q1} {j1:y6} (h1:TL J1 j1):TL (anu n aH bc b7 cA k0 J0 J1) (Tz n aH bc b7 cA k j0 j1):=by
  obtain rfl:=fx3 hk
  obtain rfl:=fx2 h0
  obtain rfl:=fx6 h1
  intro v2 v9 v57 v58 v59 h
  kernel_rfl
def al1 (m:Nat):Q1:=Nat.rec (motive:=fun _=>Q1) (fun _=>.err) (fun _ ih=>anu n aH bc b7 cA k0 (amr n aH bc b7 cA k0) ih) m
def Ky (m:Nat):y6:=Nat.rec (motive:=fun _=>y6) (fun _ _ _ _ _ _=>.err) (fun _ ih=>Tz n aH bc b7 cA k (TN n aH bc b7 cA k) ih) m
theorem av4 (m:Nat):Ky n aH bc b7 cA k (m+1)=Tz n aH bc b7 cA k (TN n aH bc b7 cA k) (Ky n aH bc b7 cA k m):=rfl
theorem avP (hk:I2 k0 k) (m:Nat):TL (al1 n aH bc b7 cA k0 m) (Ky n aH bc b7 cA k m):=by
  induction m with
  | zero=>intro v2 v9 v57 v58 v59 h; rfl
  | succ m ih=>exact awm n aH bc b7 cA k0 k hk (awv n aH bc b7 cA k0 k hk) ih
def asO (n:Nat) (aH:cM) (bc:dE) (b7:iQ) (cA:mo) (k0:Q0) (J1:Q1):Q1:=(bE (iX aH bc b7 cA) iB akV (bE (iX aH bc b7 cA) iB akR (bE (iX aH bc b7 cA) iB ajR (fun s=>dH (.t p22) s (bE (iX aH bc b7 cA) iB akl (cG De k0)) (bE (iX aH bc b7 cA) iB ako (bE (iX aH bc b7 cA) iB akZ (bE (iX aH bc b7 cA) iB akg (bE (iX aH bc b7 cA) iB akd (fun s=>cI acw s J1)))))))))
def alv (n:Nat) (aH:cM) (bc:dE) (b7:iQ) (cA:mo) (k:Dj) (j1:y6) (a0:AV) (a1:Int) (h:Heap):CRes:=
 Dh h a0 fun x0 h1=>
 f8 h1 (.ptr x0 0) 17 true fun x2=>
 aH x2 a1 h1 fun x3 x4 h5=>
 ifB (fS (eqF x4 0))
 (k .nilptr x4 h5)
 (fld 16 h5 (.ptr x0 0) 1 false fun x6 x7=>
 eld 8 h5 x7 a1 8 true fun x8 x9=>
 Bv h5 (.cells [.nilslice,(.int .i64 0),(.int .i64 0),(.int .i64 0),(.int .i64 0),(.int .i64 0),(.int .i64 0),(.int .i64 0)] true 0) fun x10 h11=>
 lS h11 (.ptr x10 0) 8 x9 fun h12=>
 iY .i64 1 h12 (.ptr x0 0) fun x13 x14=>
 fld 0 h12 (.ptr x10 0) 1 false fun x15 x16=>
 bc x16 (h12.shut true) fun x17 h18=>
 iY .i64 1 (h18.back h12.ro) (.ptr x10 0) fun x19 x20=>
 Bv (h18.back h12.ro) (.mp []) fun x21 h22=>
 yL [(.int .i64 0),.nilslice,(.int .i64 0),(.int .i64 0),(.int .i64 0),(.int .i64 0),(.int .i64 0),(.int .i64 0),(.int .i64 0),(.int .i64 0),(.int .i64 0),.nilslice,.nilmap,(.int .i64 0),(.int .i64 0),(.int .i64 0),(.int .i64 0),(.int .i64 0),(.int .i64 0),(.int .i64 0)] [(0,1,(.int .i64 x14)),(1,1,x17),(2,1,(.int .i64 x20)),(10,1,(.int .i64 x3)),(12,1,(.map x21))] fun x23=>
 Dh h22 x23 fun x24 h25=>
 iY .i64 2 h25 (.ptr x10 0) fun x26 x27=>
 iY .i64 3 h25 (.ptr x10 0) fun x28 x29=>
 iY .i64 4 h25 (.ptr x10 0) fun x30 x31=>
 iY .i64 5 h25 (.ptr x10 0) fun x32 x33=>
 iY .i64 6 h25 (.ptr x10 0) fun x34 x35=>
 yL [(.int .i64 0),(.int .i64 0),(.int .i64 0),(.int .i64 0),(.int .i64 0),(.int .i64 0),(.int .i64 0)] [(2,1,(.int .i64 x27)),(3,1,(.int .i64 x29)),(4,1,(.int .i64 x31)),(5,1,(.int .i64 x33)),(6,1,(.int .i64 x35))] fun x36=>
 nfst 3 h25 (.ptr x24 0) 7 x36 fun x37 h38=>
 TE 1 h38 (.ptr x24 0) 1 false fun x39 x40=>
 fH x40 fun x41=>
 j1 (.ptr x0 0) (.ptr x24 0) x40 x41 0 h38)
theorem ayO (n:Nat) (aH:cM) (bc:dE) (b7:iQ) (cA:mo) (k0:Q0) (k:Dj) (hk:I2 k0 k) {J1:Q1} {j1:y6} (h1:TL J1 j1) (a0:AV) (a1:Int) (h:Heap):(asO n aH bc b7 cA k0 J1) ⟨cH [(p0,a0),(p1,(.int .i64 a1))],h⟩=(alv n aH bc b7 cA k j1) a0 a1 h:=by
  obtain rfl:=fx3 hk
  obtain rfl:=fx6 h1
  kernel_rfl
def azp:Q1:=asO n aH bc b7 cA k0 (al1 n aH bc b7 cA k0 n)
def ak8 (n:Nat) (aH:cM) (bc:dE) (b7:iQ) (cA:mo) (a0:AV) (a1:Int) (h:Heap) (k:Dj):CRes:=alv n aH bc b7 cA k (Ky n aH bc b7 cA k n) a0 a1 h
theorem azo (n:Nat) (aH:cM) (bc:dE) (b7:iQ) (cA:mo) (k0:Q0) (s:St):D (ez [(sK,qe aH),(mb,jM bc),(DN,yP b7),(Pf,I8 cA)]) iB n ak3 (cG De k0) (fun _ _=>.err) (cG De k0) s=azp n aH bc b7 cA k0 s:=by kernel_rfl
theorem azm (n:Nat) (aH:cM) (bc:dE) (b7:iQ) (cA:mo) (a0:AV) (a1:Int) (h:Heap) (k0:Q0):W alw De [(sK,qe aH),(mb,jM bc),(DN,yP b7),(Pf,I8 cA)] iB n ak3 [a0,(.int .i64 a1)] h k0=ak8 n aH bc b7 cA a0 a1 h (fun u0 u1 h=>k0 (.tuple [u0,(.int .i64 u1)]) h):=by
  let k:Dj:=fun u0 u1 h=>k0 (.tuple [u0,(.int .i64 u1)]) h
  have hk:I2 k0 k:=fun _ _ _=>rfl
  have hb:∀ F:Tr AV→CRes,fJ alw [a0,(.int .i64 a1)] .leaf F=F (cH [(p0,a0),(p1,(.int .i64 a1))]):=fun F=>by kernel_rfl
  exact (lD hb).trans ((azo n aH bc b7 cA k0 _).trans (ayO n aH bc b7 cA k0 k hk (avP n aH bc b7 cA k0 k hk n) a0 a1 h))
end
def la (n:Nat):dl:=ak8 n (qi n) (jL n) (ue n) (DC n)
abbrev bg:=AV→Heap→(Bool→Heap→CRes)→CRes
abbrev nc:=Bool→Heap→CRes
def cU (g:bg):Wr:=fun l h k=>kL l fun a0 l=>lw l (g a0 h fun u0 h=>k (.bool u0) h)
def FL:dD:=ez []
abbrev xp (k0:Q0) (k:nc):Prop:=∀ u0 h,k0 (.bool u0) h=k u0 h
abbrev vZ:Type:=Bool→Heap→CRes
abbrev Df (J:Q1) (j:vZ):Prop:=∀ v11 h,J ⟨cH [(p11,(.bool v11))],h⟩=j v11 h
section
variable (n:Nat) (k0:Q0) (k:nc)
def Po (n:Nat) (k0:Q0):Q1:=(bE (FL) pZ P4 (cG uh k0))
def DU (n:Nat) (k:nc) (v11:Bool) (h:Heap):CRes:=
 k v11 h
theorem afM (hk:xp k0 k):Df (Po n k0) (DU n k):=by
  obtain rfl:=fx2 hk
  intro v11 h
  kernel_rfl
def Pg:Q1:=Po n k0
def DA:vZ:=DU n k
theorem agO (hk:xp k0 k):Df (Pg n k0) (DA n k):=afM n k0 k hk
def VR (n:Nat) (k0:Q0) (J0:Q1):Q1:=(bE (FL) pZ Py (bE (FL) pZ PL (fun s=>cI Qq s J0)))
def H0 (n:Nat) (k:nc) (j0:vZ) (a0:AV) (h:Heap):CRes:=
 ajj (.nil .ptr) a0 .nilptr fun x0=>
 ifB (aeZ true x0)
 (TE 12 h a0 1 false fun x1 x2=>
 ajj (.nil .mp) x2 .nilmap fun x3=>
 j0 (aeZ true x3) h)
 (j0 false h)
theorem ak1 (n:Nat) (k0:Q0) (k:nc) (hk:xp k0 k) {J0:Q1} {j0:vZ} (h0:Df J0 j0) (a0:AV) (h:Heap):(VR n k0 J0) ⟨cH [(p0,a0)],h⟩=(H0 n k j0) a0 h:=by
  obtain rfl:=fx2 hk
  obtain rfl:=fx2 h0
  kernel_rfl
def ak2:Q1:=VR n k0 (Pg n k0)
def HS (n:Nat) (a0:AV) (h:Heap) (k:nc):CRes:=H0 n k (DA n k) a0 h
theorem aln (n:Nat) (k0:Q0) (s:St):D (ez []) pZ n HP (cG uh k0) (fun _ _=>.err) (cG uh k0) s=ak2 n k0 s:=by kernel_rfl
theorem alo (n:Nat) (a0:AV) (h:Heap) (k0:Q0):W HJ uh [] pZ n HP [a0] h k0=HS n a0 h (fun u0 h=>k0 (.bool u0) h):=by
  let k:nc:=fun u0 h=>k0 (.bool u0) h
  have hk:xp k0 k:=fun _ _=>rfl
  have hb:∀ F:Tr AV→CRes,fJ HJ [a0] .leaf F=F (cH [(p0,a0)]):=fun F=>by kernel_rfl
  exact (lD hb).trans ((aln n k0 _).trans (ak1 n k0 k hk (agO n k0 k hk) a0 h))
end
def dn (n:Nat):bg:=HS n
abbrev bQ:=AV→Heap→(Bool→Heap→CRes)→CRes
abbrev mj:=Bool→Heap→CRes
def eY (g:bQ):Wr:=fun l h k=>kL l fun a0 l=>lw l (g a0 h fun u0 h=>k (.bool u0) h)
def Dq:dD:=ez []
abbrev wa (k0:Q0) (k:mj):Prop:=∀ u0 h,k0 (.bool u0) h=k u0 h
abbrev uL:Type:=Bool→Heap→CRes
abbrev BZ (J:Q1) (j:uL):Prop:=∀ v11 h,J ⟨cH [(p11,(.bool v11))],h⟩=j v11 h
section
variable (n:Nat) (k0:Q0) (k:mj)
def MV (n:Nat) (k0:Q0):Q1:=(bE (Dq) oR Mg (cG sg k0))
def BF (n:Nat) (k:mj) (v11:Bool) (h:Heap):CRes:=
 k v11 h
theorem afp (hk:wa k0 k):BZ (MV n k0) (BF n k):=by
  obtain rfl:=fx2 hk
  intro v11 h
  kernel_rfl
def Mv:Q1:=MV n k0
def BE:uL:=BF n k
theorem afk (hk:wa k0 k):BZ (Mv n k0) (BE n k):=afp n k0 k hk
def S4 (n:Nat) (k0:Q0) (J0:Q1):Q1:=(bE (Dq) oR Me (bE (Dq) oR Mf (fun s=>cI LN s J0)))
def FI (n:Nat) (k:mj) (j0:uL) (a0:AV) (h:Heap):CRes:=
 ajj (.nil .ptr) a0 .nilptr fun x0=>
 ifB (aeZ false x0)
 (j0 true h)
 (nfldB 0 h a0 fun x1 x2=>
 j0 (fS x2) h)
theorem aiW (n:Nat) (k0:Q0) (k:mj) (hk:wa k0 k) {J0:Q1} {j0:uL} (h0:BZ J0 j0) (a0:AV) (h:Heap):(S4 n k0 J0) ⟨cH [(p0,a0)],h⟩=(FI n k j0) a0 h:=by
  obtain rfl:=fx2 hk
  obtain rfl:=fx2 h0
  kernel_rfl
def ajC:Q1:=S4 n k0 (Mv n k0)
def FD (n:Nat) (a0:AV) (h:Heap) (k:mj):CRes:=FI n k (BE n k) a0 h
theorem aiX (n:Nat) (k0:Q0) (s:St):D (ez []) oR n FN (cG sg k0) (fun _ _=>.err) (cG sg k0) s=ajC n k0 s:=by kernel_rfl
theorem ai3 (n:Nat) (a0:AV) (h:Heap) (k0:Q0):W Fx sg [] oR n FN [a0] h k0=FD n a0 h (fun u0 h=>k0 (.bool u0) h):=by
  let k:mj:=fun u0 h=>k0 (.bool u0) h
  have hk:wa k0 k:=fun _ _=>rfl
  have hb:∀ F:Tr AV→CRes,fJ Fx [a0] .leaf F=F (cH [(p0,a0)]):=fun F=>by kernel_rfl
  exact (lD hb).trans ((aiX n k0 _).trans (aiW n k0 k hk (afk n k0 k hk) a0 h))
end
def fF (n:Nat):bQ:=FD n
abbrev bN:=AV→Int→Int→Heap→(AV→Heap→CRes)→CRes
abbrev jq:=AV→Heap→CRes
def eT (g:bN):Wr:=fun l h k=>kL l fun a0 l=>nH .i64 l fun a1 l=>nH .i64 l fun a2 l=>lw l (g a0 a1 a2 h fun u0 h=>k u0 h)
def fT:dD:=ez []
abbrev CI (k0:Q0) (k:jq):Prop:=∀ u0 h,k0 u0 h=k u0 h
section
variable (n:Nat) (k0:Q0) (k:jq)
def DX (n:Nat) (k0:Q0):Q1:=(bE (fT) eJ AO (bE (fT) eJ AS (bE (fT) eJ AD (fun s=>dH (.t p16) s (bE (fT) eJ zy (cG jj k0)) (bE (fT) eJ An (bE (fT) eJ Aw (bE (fT) eJ AA (bE (fT) eJ zF (cG jj k0)))))))))
def tX (n:Nat) (k:jq) (a0:AV) (a1:Int) (a2:Int) (h:Heap):CRes:=
 fH a0 fun x0=>
 slK (.sl 1) a0 (some (.int .i64 a1)) (some (.int .i64 a2)) (some (.int .i64 x0)) fun x1=>
 ifB (eqF a1 a2)
 (k a0 h)
 (fH a0 fun x2=>
 slK (.sl 1) a0 none (some (.int .i64 a1)) none fun x3=>
 slK (.sl 1) a0 (some (.int .i64 a2)) none none fun x4=>
 mQ h 1 x3 x4 fun x5 h6=>
 fH x5 fun x7=>
 slK (.sl 1) x5 (some (.int .i64 x7)) (some (.int .i64 x2)) none fun x8=>
 arT h6 [(.int .i64 0)] x8 fun h9=>
 k x5 h9)
theorem VG (n:Nat) (k0:Q0) (k:jq) (hk:CI k0 k) (a0:AV) (a1:Int) (a2:Int) (h:Heap):(DX n k0) ⟨cH [(p0,a0),(p1,(.int .i64 a1)),(p2,(.int .i64 a2))],h⟩=(tX n k) a0 a1 a2 h:=by
  obtain rfl:=fx2 hk
  kernel_rfl
def Vu:Q1:=DX n k0
def tK (n:Nat) (a0:AV) (a1:Int) (a2:Int) (h:Heap) (k:jq):CRes:=tX n k a0 a1 a2 h
theorem U0 (n:Nat) (k0:Q0) (s:St):D (ez []) eJ n ui (cG jj k0) (fun _ _=>.err) (cG jj k0) s=Vu n k0 s:=by kernel_rfl
theorem Ua (n:Nat) (a0:AV) (a1:Int) (a2:Int) (h:Heap) (k0:Q0):W tU jj [] eJ n ui [a0,(.int .i64 a1),(.int .i64 a2)] h k0=tK n a0 a1 a2 h (fun u0 h=>k0 u0 h):=by
  let k:jq:=fun u0 h=>k0 u0 h
  have hk:CI k0 k:=fun _ _=>rfl
  have hb:∀ F:Tr AV→CRes,fJ tU [a0,(.int .i64 a1),(.int .i64 a2)] .leaf F=F (cH [(p0,a0),(p1,(.int .i64 a1)),(p2,(.int .i64 a2))]):=fun F=>by kernel_rfl
  exact (lD hb).trans ((U0 n k0 _).trans (VG n k0 k hk a0 a1 a2 h))
end
def eo (n:Nat):bN:=tK n
abbrev gu:=Int→Heap→(Bool→Heap→CRes)→CRes
abbrev tj:=Bool→Heap→CRes
def tu (g:gu):Wr:=fun l h k=>nH .i64 l fun a0 l=>lw l (g a0 h fun u0 h=>k (.bool u0) h)
def WS:dD:=ez []
abbrev WI (k0:Q0) (k:tj):Prop:=∀ u0 h,k0 (.bool u0) h=k u0 h
section
variable (n:Nat) (k0:Q0) (k:tj)
def ZZ (n:Nat) (k0:Q0):Q1:=(bE (WS) yo Ur (bE (WS) yo Uv (cG xU k0)))
def N0 (n:Nat) (k:tj) (a0:Int) (h:Heap):CRes:=
 k (fS (eqF a0 a0)) h
theorem aoO (n:Nat) (k0:Q0) (k:tj) (hk:WI k0 k) (a0:Int) (h:Heap):(ZZ n k0) ⟨cH [(p0,(.int .i64 a0))],h⟩=(N0 n k) a0 h:=by
  obtain rfl:=fx2 hk
  kernel_rfl
def aoa:Q1:=ZZ n k0
def Og (n:Nat) (a0:Int) (h:Heap) (k:tj):CRes:=N0 n k a0 h
theorem apd (n:Nat) (k0:Q0) (s:St):D (ez []) yo n Ow (cG xU k0) (fun _ _=>.err) (cG xU k0) s=aoa n k0 s:=by kernel_rfl
theorem ao3 (n:Nat) (a0:Int) (h:Heap) (k0:Q0):W NZ xU [] yo n Ow [(.int .i64 a0)] h k0=Og n a0 h (fun u0 h=>k0 (.bool u0) h):=by
  let k:tj:=fun u0 h=>k0 (.bool u0) h
  have hk:WI k0 k:=fun _ _=>rfl
  have hb:∀ F:Tr AV→CRes,fJ NZ [(.int .i64 a0)] .leaf F=F (cH [(p0,(.int .i64 a0))]):=fun F=>by kernel_rfl
  exact (lD hb).trans ((apd n k0 _).trans (aoO n k0 k hk a0 h))
end
def xA (n:Nat):gu:=Og n
abbrev ga:=Int→Int→Heap→(Bool→Heap→CRes)→CRes
abbrev pi:=Bool→Heap→CRes
def vO (g:ga):Wr:=fun l h k=>nH .i64 l fun a0 l=>nH .i64 l fun a1 l=>lw l (g a0 a1 h fun u0 h=>k (.bool u0) h)
def En (cr:gu):dD:=ez [(xR,tu cr)]
abbrev tD (k0:Q0) (k:pi):Prop:=∀ u0 h,k0 (.bool u0) h=k u0 h
abbrev CJ:Type:=Bool→Heap→CRes
abbrev JU (J:Q1) (j:CJ):Prop:=∀ v16 h,J ⟨cH [(p16,(.bool v16))],h⟩=j v16 h
abbrev CT:Type:=Int→Int→Bool→Heap→CRes
abbrev Kk (J:Q1) (j:CT):Prop:=∀ v0 v1 v11 h,J ⟨cH [(p0,(.int .i64 v0)),(p1,(.int .i64 v1)),(p11,(.bool v11))],h⟩=j v0 v1 v11 h
section
variable (n:Nat) (cr:gu) (k0:Q0) (k:pi)
def Xf (n:Nat) (cr:gu) (k0:Q0):Q1:=(bE (En cr) ru Ww (cG Am k0))
def Ku (n:Nat) (cr:gu) (k:pi) (v16:Bool) (h:Heap):CRes:=
 k v16 h
theorem am6 (hk:tD k0 k):JU (Xf n cr k0) (Ku n cr k):=by
  obtain rfl:=fx2 hk
  intro v16 h
  kernel_rfl
def WJ:Q1:=Xf n cr k0
def K0:CJ:=Ku n cr k
theorem amc (hk:tD k0 k):JU (WJ n cr k0) (K0 n cr k):=am6 n cr k0 k hk
def WQ (n:Nat) (cr:gu) (k0:Q0) (J1:Q1):Q1:=(bE (En cr) ru Xa (fun s=>cI WR s J1))
def KV (n:Nat) (cr:gu) (k:pi) (j1:CJ) (v0:Int) (v1:Int) (v11:Bool) (h:Heap):CRes:=
 ifB v11
 (j1 true h)
 (j1 (ltF v0 v1) h)
theorem anq (hk:tD k0 k) {J1:Q1} {j1:CJ} (h1:JU J1 j1):Kk (WQ n cr k0 J1) (KV n cr k j1):=by
  obtain rfl:=fx2 hk
  obtain rfl:=fx2 h1
  intro v0 v1 v11 h
  kernel_rfl
def WP:Q1:=WQ n cr k0 (WJ n cr k0)
def KN:CT:=KV n cr k (K0 n cr k)
theorem amj (hk:tD k0 k):Kk (WP n cr k0) (KN n cr k):=anq n cr k0 k hk (amc n cr k0 k hk)
def adb (n:Nat) (cr:gu) (k0:Q0) (J0:Q1):Q1:=(bE (En cr) ru Wy (bE (En cr) ru WK (fun s=>cI WZ s J0)))
def QG (n:Nat) (cr:gu) (k:pi) (j0:CT) (a0:Int) (a1:Int) (h:Heap):CRes:=
 cr a0 h fun x0 h1=>
 ifB x0
 (cr a1 h1 fun x2 h3=>
 j0 a0 a1 (fS x2) h3)
 (j0 a0 a1 false h1)
theorem ard (n:Nat) (cr:gu) (k0:Q0) (k:pi) (hk:tD k0 k) {J0:Q1} {j0:CT} (h0:Kk J0 j0) (a0:Int) (a1:Int) (h:Heap):(adb n cr k0 J0) ⟨cH [(p0,(.int .i64 a0)),(p1,(.int .i64 a1))],h⟩=(QG n cr k j0) a0 a1 h:=by
  obtain rfl:=fx2 hk
  obtain rfl:=fx4 h0
  kernel_rfl
def are:Q1:=adb n cr k0 (WP n cr k0)
def Re (n:Nat) (cr:gu) (a0:Int) (a1:Int) (h:Heap) (k:pi):CRes:=QG n cr k (KN n cr k) a0 a1 h
theorem arn (n:Nat) (cr:gu) (k0:Q0) (s:St):D (ez [(xR,tu cr)]) ru n QR (cG Am k0) (fun _ _=>.err) (cG Am k0) s=are n cr k0 s:=by kernel_rfl
theorem aq1 (n:Nat) (cr:gu) (a0:Int) (a1:Int) (h:Heap) (k0:Q0):W Rq Am [(xR,tu cr)] ru n QR [(.int .i64 a0),(.int .i64 a1)] h k0=Re n cr a0 a1 h (fun u0 h=>k0 (.bool u0) h):=by
  let k:pi:=fun u0 h=>k0 (.bool u0) h
  have hk:tD k0 k:=fun _ _=>rfl
  have hb:∀ F:Tr AV→CRes,fJ Rq [(.int .i64 a0),(.int .i64 a1)] .leaf F=F (cH [(p0,(.int .i64 a0)),(p1,(.int .i64 a1))]):=fun F=>by kernel_rfl
  exact (lD hb).trans ((arn n cr k0 _).trans (ard n cr k0 k hk (amj n cr k0 k hk) a0 a1 h))
end
def rY (n:Nat):ga:=Re n (xA n)
abbrev eI:=Int→Heap→(Bool→Heap→CRes)→CRes
abbrev pg:=Bool→Heap→CRes
def oY (g:eI):Wr:=fun l h k=>nH .i64 l fun a0 l=>lw l (g a0 h fun u0 h=>k (.bool u0) h)
def Px:dD:=ez []
abbrev Qg (k0:Q0) (k:pg):Prop:=∀ u0 h,k0 (.bool u0) h=k u0 h
section
variable (n:Nat) (k0:Q0) (k:pg)
def SK (n:Nat) (k0:Q0):Q1:=(bE (Px) sd MN (bE (Px) sd LT (cG sh k0)))
def FU (n:Nat) (k:pg) (a0:Int) (h:Heap):CRes:=
 k (fS (eqF a0 a0)) h
theorem ajb (n:Nat) (k0:Q0) (k:pg) (hk:Qg k0 k) (a0:Int) (h:Heap):(SK n k0) ⟨cH [(p0,(.int .i64 a0))],h⟩=(FU n k) a0 h:=by
  obtain rfl:=fx2 hk
  kernel_rfl
def ajp:Q1:=SK n k0
def Fn (n:Nat) (a0:Int) (h:Heap) (k:pg):CRes:=FU n k a0 h
theorem ajv (n:Nat) (k0:Q0) (s:St):D (ez []) sd n FJ (cG sh k0) (fun _ _=>.err) (cG sh k0) s=ajp n k0 s:=by kernel_rfl
theorem ai8 (n:Nat) (a0:Int) (h:Heap) (k0:Q0):W F0 sh [] sd n FJ [(.int .i64 a0)] h k0=Fn n a0 h (fun u0 h=>k0 (.bool u0) h):=by
  let k:pg:=fun u0 h=>k0 (.bool u0) h
  have hk:Qg k0 k:=fun _ _=>rfl
  have hb:∀ F:Tr AV→CRes,fJ F0 [(.int .i64 a0)] .leaf F=F (cH [(p0,(.int .i64 a0))]):=fun F=>by kernel_rfl
  exact (lD hb).trans ((ajv n k0 _).trans (ajb n k0 k hk a0 h))
end
def mn (n:Nat):eI:=Fn n
abbrev bR:=AV→Int→Heap→(Int→Bool→Heap→CRes)→CRes
abbrev eA:=Int→Bool→Heap→CRes
def dP (g:bR):Wr:=fun l h k=>kL l fun a0 l=>nH .i64 l fun a1 l=>lw l (g a0 a1 h fun u0 u1 h=>k (.tuple [(.int .i64 u0),(.bool u1)]) h)
def dK (bP:ga) (bl:eI):dD:=ez [(Af,vO bP),(rZ,oY bl)]
abbrev eO (k0:Q0) (k:eA):Prop:=∀ u0 u1 h,k0 (.tuple [(.int .i64 u0),(.bool u1)]) h=k u0 u1 h
abbrev kc:Type:=Int→Bool→Heap→CRes
abbrev na (J:Q1) (j:kc):Prop:=∀ v31 v53 h,J ⟨cH [(p31,(.int .i64 v31)),(p53,(.bool v53))],h⟩=j v31 v53 h
abbrev jZ:Type:=AV→Int→Int→Int→Heap→CRes
abbrev nj (J:Q1) (j:jZ):Prop:=∀ v0 v1 v6 v7 h,J ⟨cH [(p0,v0),(p1,(.int .i64 v1)),(p6,(.int .i64 v6)),(p7,(.int .i64 v7))],h⟩=j v0 v1 v6 v7 h
abbrev eW:Type:=AV→Int→Int→Int→Int→Heap→CRes
abbrev kd (J:Q1) (j:eW):Prop:=∀ v0 v1 v6 v7 v8 h,J ⟨cH [(p0,v0),(p1,(.int .i64 v1)),(p6,(.int .i64 v6)),(p7,(.int .i64 v7)),(p8,(.int .i64 v8))],h⟩=j v0 v1 v6 v7 v8 h
section
variable (n:Nat) (bP:ga) (bl:eI) (k0:Q0) (k:eA)
def uw (n:Nat) (bP:ga) (bl:eI) (k0:Q0):Q1:=(bE (dK bP bl) di tT (cG iO k0))
def nb (n:Nat) (bP:ga) (bl:eI) (k:eA) (v31:Int) (v53:Bool) (h:Heap):CRes:=
 k v31 v53 h
theorem HU (hk:eO k0 k):na (uw n bP bl k0) (nb n bP bl k):=by
  obtain rfl:=fx3 hk
  intro v31 v53 h
  kernel_rfl
def uC:Q1:=uw n bP bl k0
def nh:kc:=nb n bP bl k
theorem H5 (hk:eO k0 k):na (uC n bP bl k0) (nh n bP bl k):=HU n bP bl k0 k hk
def tS (n:Nat) (bP:ga) (bl:eI) (k0:Q0) (J0:Q1):Q1:=(bE (dK bP bl) di uz (fun s=>cI uf s J0))
def nk (n:Nat) (bP:ga) (bl:eI) (k:eA) (j0:kc) (v0:AV) (v1:Int) (v6:Int) (v7:Int) (h:Heap):CRes:=
 ifB (ltF v7 v6)
 (Lw .i64 1 h v0 v7 fun x1 x2=>
 ifB (eqF x2 v1)
 (j0 v7 true h)
 (Lw .i64 1 h v0 v7 fun x3 x4=>
 bl x4 h fun x5 h6=>
 ifB x5
 (bl v1 h6 fun x7 h8=>
 j0 v7 x7 h8)
 (j0 v7 false h6)))
 (j0 v7 false h)
theorem HM (hk:eO k0 k) {J0:Q1} {j0:kc} (h0:na J0 j0):nj (tS n bP bl k0 J0) (nk n bP bl k j0):=by
  obtain rfl:=fx3 hk
  obtain rfl:=fx3 h0
  intro v0 v1 v6 v7 h
  kernel_rfl
def uq:Q1:=tS n bP bl k0 (uC n bP bl k0)
def ki:jZ:=nk n bP bl k (nh n bP bl k)
theorem H8 (hk:eO k0 k):nj (uq n bP bl k0) (ki n bP bl k):=HM n bP bl k0 k hk (H5 n bP bl k0 k hk)
def tR (n:Nat) (bP:ga) (bl:eI) (k0:Q0) (J1:Q1) (J2:Q1):Q1:=(bE (dK bP bl) di ul (fun s=>dH (.t p15) s (bE (dK bP bl) di tP (bE (dK bP bl) di uv (fun s=>dH (.t p27) s (bE (dK bP bl) di uj (fun s=>cI kg s J2)) (bE (dK bP bl) di uo (fun s=>cI kg s J2))))) (fun s=>cI tO s J1)))
def jY (n:Nat) (bP:ga) (bl:eI) (k:eA) (j1:jZ) (j2:eW) (v0:AV) (v1:Int) (v6:Int) (v7:Int) (v8:Int) (h:Heap):CRes:=
 ifB (ltF v7 v8)
 (lp .i64 v7 v8 fun x9=>
 Dn .u64 x9 fun x10=>
 shrK .u64 x10 1 fun x11=>
 Dn .i64 x11 fun x12=>
 Lw .i64 1 h v0 x12 fun x13 x14=>
 bP x14 v1 h fun x15 h16=>
 ifB x15
 (lp .i64 x12 1 fun x17=>
 j2 v0 v1 v6 x17 v8 h16)
 (j2 v0 v1 v6 v7 x12 h16))
 (j1 v0 v1 v6 v7 h)
theorem HT (hk:eO k0 k) {J1:Q1} {j1:jZ} (h1:nj J1 j1) {J2:Q1} {j2:eW} (h2:kd J2 j2):kd (tR n bP bl k0 J1 J2) (jY n bP bl k j1 j2):=by
  obtain rfl:=fx3 hk
  obtain rfl:=fx5 h1
  obtain rfl:=fx6 h2
  intro v0 v1 v6 v7 v8 h
  kernel_rfl
def ux (m:Nat):Q1:=Nat.rec (motive:=fun _=>Q1) (fun _=>.err) (fun _ ih=>tR n bP bl k0 (uq n bP bl k0) ih) m
def ib (m:Nat):eW:=Nat.rec (motive:=fun _=>eW) (fun _ _ _ _ _ _=>.err) (fun _ ih=>jY n bP bl k (ki n bP bl k) ih) m
theorem HL (m:Nat):ib n bP bl k (m+1)=jY n bP bl k (ki n bP bl k) (ib n bP bl k m):=rfl
theorem H2 (hk:eO k0 k) (m:Nat):kd (ux n bP bl k0 m) (ib n bP bl k m):=by
  induction m with
  | zero=>intro v0 v1 v6 v7 v8 h; rfl
  | succ m ih=>exact HT n bP bl k0 k hk (H8 n bP bl k0 k hk) ih
def wy (n:Nat) (bP:ga) (bl:eI) (k0:Q0) (J2:Q1):Q1:=(bE (dK bP bl) di tQ (bE (dK bP bl) di uB (bE (dK bP bl) di um (fun s=>cI kg s J2))))
def oO (n:Nat) (bP:ga) (bl:eI) (k:eA) (j2:eW) (a0:AV) (a1:Int) (h:Heap):CRes:=
 fH a0 fun x0=>
 j2 a0 a1 x0 0 x0 h
theorem K8 (n:Nat) (bP:ga) (bl:eI) (k0:Q0) (k:eA) (hk:eO k0 k) {J2:Q1} {j2:eW} (h2:kd J2 j2) (a0:AV) (a1:Int) (h:Heap):(wy n bP bl k0 J2) ⟨cH [(p0,a0),(p1,(.int .i64 a1))],h⟩=(oO n bP bl k j2) a0 a1 h:=by
  obtain rfl:=fx3 hk
  obtain rfl:=fx6 h2
  kernel_rfl
def KC:Q1:=wy n bP bl k0 (ux n bP bl k0 n)
def oi (n:Nat) (bP:ga) (bl:eI) (a0:AV) (a1:Int) (h:Heap) (k:eA):CRes:=oO n bP bl k (ib n bP bl k n) a0 a1 h
theorem Lc (n:Nat) (bP:ga) (bl:eI) (k0:Q0) (s:St):D (ez [(Af,vO bP),(rZ,oY bl)]) di n oI (cG iO k0) (fun _ _=>.err) (cG iO k0) s=KC n bP bl k0 s:=by kernel_rfl
theorem Kr (n:Nat) (bP:ga) (bl:eI) (a0:AV) (a1:Int) (h:Heap) (k0:Q0):W ou iO [(Af,vO bP),(rZ,oY bl)] di n oI [a0,(.int .i64 a1)] h k0=oi n bP bl a0 a1 h (fun u0 u1 h=>k0 (.tuple [(.int .i64 u0),(.bool u1)]) h):=by
  let k:eA:=fun u0 u1 h=>k0 (.tuple [(.int .i64 u0),(.bool u1)]) h
  have hk:eO k0 k:=fun _ _ _=>rfl
  have hb:∀ F:Tr AV→CRes,fJ ou [a0,(.int .i64 a1)] .leaf F=F (cH [(p0,a0),(p1,(.int .i64 a1))]):=fun F=>by kernel_rfl
  exact (lD hb).trans ((Lc n bP bl k0 _).trans (K8 n bP bl k0 k hk (H2 n bP bl k0 k hk n) a0 a1 h))
end
def dQ (n:Nat):bR:=oi n (rY n) (mn n)
abbrev cv:=AV→Int→Int→Heap→(Heap→CRes)→CRes
abbrev pW:=Heap→CRes
def ja (g:cv):Wr:=fun l h k=>kL l fun a0 l=>nH .i64 l fun a1 l=>nH .i64 l fun a2 l=>lw l (g a0 a1 a2 h fun h=>k (.tuple []) h)
def S9 (aE:bR) (cO:Wr):dD:=ez [(eB,dP aE),(lO,cO)]
abbrev SD (k0:Q0) (k:pW):Prop:=∀ h,k0 (.tuple []) h=k h
section
variable (n:Nat) (aE:bR) (cO:Wr) (k0:Q0) (k:pW)
def UF (n:Nat) (aE:bR) (cO:Wr) (k0:Q0):Q1:=(bE (S9 aE cO) uk Qn (bE (S9 aE cO) uk Qu (cG ub k0)))
def HN (n:Nat) (aE:bR) (cO:Wr) (k:pW) (a0:AV) (a1:Int) (a2:Int) (h:Heap):CRes:=
 nfa 2 a0 fun x0=>
 Fw 1 7 x0 a2 fun x1=>
 f8 h x1 1 false fun x2=>
 aE x2 a1 h fun x3 x4 h5=>
 nfa 2 a0 fun x6=>
 Fw 1 7 x6 a2 fun x7=>
 f8 h5 x7 1 false fun x8=>
 pG h5 1 [(.int .i64 0)] [(0,1,(.int .i64 a1))] fun x9 h10=>
 cO [x8,(.int .i64 x3),x9] h10 fun x11 h12=>
 nfa 2 a0 fun x13=>
 Fw 1 7 x13 a2 fun x14=>
 lS h12 x14 1 x11 fun h15=>
 k h15
theorem alg (n:Nat) (aE:bR) (cO:Wr) (k0:Q0) (k:pW) (hk:SD k0 k) (a0:AV) (a1:Int) (a2:Int) (h:Heap):(UF n aE cO k0) ⟨cH [(p0,a0),(p1,(.int .i64 a1)),(p2,(.int .i64 a2))],h⟩=(HN n aE cO k) a0 a1 a2 h:=by
  obtain rfl:=fx1 hk
  kernel_rfl
def alj:Q1:=UF n aE cO k0
def HF (n:Nat) (aE:bR) (cO:Wr) (a0:AV) (a1:Int) (a2:Int) (h:Heap) (k:pW):CRes:=HN n aE cO k a0 a1 a2 h
theorem alQ (n:Nat) (aE:bR) (cO:Wr) (k0:Q0) (s:St):D (ez [(eB,dP aE),(lO,cO)]) uk n HX (cG ub k0) (fun _ _=>.err) (cG ub k0) s=alj n aE cO k0 s:=by kernel_rfl
theorem alC (n:Nat) (aE:bR) (cO:Wr) (a0:AV) (a1:Int) (a2:Int) (h:Heap) (k0:Q0):W H7 ub [(eB,dP aE),(lO,cO)] uk n HX [a0,(.int .i64 a1),(.int .i64 a2)] h k0=HF n aE cO a0 a1 a2 h (fun h=>k0 (.tuple []) h):=by
  let k:pW:=fun h=>k0 (.tuple []) h
  have hk:SD k0 k:=fun _=>rfl
  have hb:∀ F:Tr AV→CRes,fJ H7 [a0,(.int .i64 a1),(.int .i64 a2)] .leaf F=F (cH [(p0,a0),(p1,(.int .i64 a1)),(p2,(.int .i64 a2))]):=fun F=>by kernel_rfl
  exact (lD hb).trans ((alQ n aE cO k0 _).trans (alg n aE cO k0 k hk a0 a1 a2 h))
end
def fY (n:Nat):cv:=HF n (dQ n) (GF oA)
abbrev eX:=AV→Int→Heap→(Int→Int→Heap→CRes)→CRes
abbrev gd:=Int→Int→Heap→CRes
def oV (g:eX):Wr:=fun l h k=>kL l fun a0 l=>nH .i64 l fun a1 l=>lw l (g a0 a1 h fun u0 u1 h=>k (.tuple [(.int .i64 u0),(.int .i64 u1)]) h)
def dJ (av:bQ) (aj:bN) (aG:cv):dD:=ez [(fD,eY av),(fA,eT aj),(jV,ja aG)]
abbrev eS (k0:Q0) (k:gd):Prop:=∀ u0 u1 h,k0 (.tuple [(.int .i64 u0),(.int .i64 u1)]) h=k u0 u1 h
abbrev uZ:Type:=AV→Int→Int→Heap→CRes
abbrev BD (J:Q1) (j:uZ):Prop:=∀ v0 v1 v7 h,J ⟨cH [(p0,v0),(p1,(.int .i64 v1)),(p7,(.int .i64 v7))],h⟩=j v0 v1 v7 h
abbrev kZ:Type:=AV→Int→Int→Int→Heap→CRes
abbrev uQ (J:Q1) (j:kZ):Prop:=∀ v0 v1 v6 v7 h,J ⟨cH [(p0,v0),(p1,(.int .i64 v1)),(p6,(.int .i64 v6)),(p7,(.int .i64 v7))],h⟩=j v0 v1 v6 v7 h
abbrev uK:Type:=AV→Int→Int→Heap→CRes
abbrev BC (J:Q1) (j:uK):Prop:=∀ v0 v1 v6 h,J ⟨cH [(p0,v0),(p1,(.int .i64 v1)),(p6,(.int .i64 v6))],h⟩=j v0 v1 v6 h
abbrev uY:Type:=AV→Int→Int→Bool→Heap→CRes
abbrev Bu (J:Q1) (j:uY):Prop:=∀ v0 v1 v6 v30 h,J ⟨cH [(p0,v0),(p1,(.int .i64 v1)),(p6,(.int .i64 v6)),(p30,(.bool v30))],h⟩=j v0 v1 v6 v30 h
abbrev ic:Type:=AV→Int→Int→Heap→CRes
abbrev pL (J:Q1) (j:ic):Prop:=∀ v0 v1 v6 h,J ⟨cH [(p0,v0),(p1,(.int .i64 v1)),(p6,(.int .i64 v6))],h⟩=j v0 v1 v6 h
abbrev uU:Type:=AV→Int→Bool→Heap→CRes
abbrev BQ (J:Q1) (j:uU):Prop:=∀ v0 v1 v17 h,J ⟨cH [(p0,v0),(p1,(.int .i64 v1)),(p17,(.bool v17))],h⟩=j v0 v1 v17 h
section
variable (n:Nat) (av:bQ) (aj:bN) (aG:cv) (k0:Q0) (k:gd)
def M0 (n:Nat) (av:bQ) (aj:bN) (aG:cv) (k0:Q0):Q1:=(bE (dJ av aj aG) du Mj (bE (dJ av aj aG) du M5 (cG kX k0)))
def BO (n:Nat) (av:bQ) (aj:bN) (aG:cv) (k:gd) (v0:AV) (v1:Int) (v7:Int) (h:Heap):CRes:=
 TE 9 h v0 1 false fun x19 x20=>
 aiP h (.cell .int) x20 (.int .i64 v7) (.int .i64 v1) fun h21=>
 k v7 0 h21
theorem afe (hk:eS k0 k):BD (M0 n av aj aG k0) (BO n av aj aG k):=by
  obtain rfl:=fx3 hk
  intro v0 v1 v7 h
  kernel_rfl
def Mo:Q1:=M0 n av aj aG k0
def uN:uZ:=BO n av aj aG k
theorem afm (hk:eS k0 k):BD (Mo n av aj aG k0) (uN n av aj aG k):=afe n av aj aG k0 k hk
def L8 (n:Nat) (av:bQ) (aj:bN) (aG:cv) (k0:Q0) (J0:Q1) (J1:Q1):Q1:=(bE (dJ av aj aG) du Mu (fun s=>dH (.t p57) s (bE (dJ av aj aG) du LW (bE (dJ av aj aG) du LV (fun s=>cI BK s J1))) (fun s=>cI Ma s J0)))
def uI (n:Nat) (av:bQ) (aj:bN) (aG:cv) (k:gd) (j0:uZ) (j1:kZ) (v0:AV) (v1:Int) (v6:Int) (v7:Int) (h:Heap):CRes:=
 ifB (ltF v1 v6)
 (YK .i64 v6 1 fun x22=>
 al0 .i64 1 x22 fun x23=>
 lp .i64 v7 x23 fun x24=>
 aG v0 x24 x22 h fun h25=>
 j1 v0 v1 x22 v7 h25)
 (j0 v0 v1 v7 h)
theorem ae4 (hk:eS k0 k) {J0:Q1} {j0:uZ} (h0:BD J0 j0) {J1:Q1} {j1:kZ} (h1:uQ J1 j1):uQ (L8 n av aj aG k0 J0 J1) (uI n av aj aG k j0 j1):=by
  obtain rfl:=fx3 hk
  obtain rfl:=fx4 h0
  obtain rfl:=fx5 h1
  intro v0 v1 v6 v7 h
  kernel_rfl
def MD (m:Nat):Q1:=Nat.rec (motive:=fun _=>Q1) (fun _=>.err) (fun _ ih=>L8 n av aj aG k0 (Mo n av aj aG k0) ih) m
def pK (m:Nat):kZ:=Nat.rec (motive:=fun _=>kZ) (fun _ _ _ _ _=>.err) (fun _ ih=>uI n av aj aG k (uN n av aj aG k) ih) m
theorem afj (m:Nat):pK n av aj aG k (m+1)=uI n av aj aG k (uN n av aj aG k) (pK n av aj aG k m):=rfl
theorem afn (hk:eS k0 k) (m:Nat):uQ (MD n av aj aG k0 m) (pK n av aj aG k m):=by
  induction m with
  | zero=>intro v0 v1 v6 v7 h; rfl
  | succ m ih=>exact ae4 n av aj aG k0 k hk (afm n av aj aG k0 k hk) ih
def MO (n:Nat) (av:bQ) (aj:bN) (aG:cv) (k0:Q0) (J1:Q1):Q1:=(bE (dJ av aj aG) du ML (fun s=>dH (.t p34) s (bE (dJ av aj aG) du LK (cG kX k0)) (bE (dJ av aj aG) du MK (bE (dJ av aj aG) du LU (fun s=>cI BK s J1)))))
def BL (n:Nat) (av:bQ) (aj:bN) (aG:cv) (k:gd) (j1:kZ) (v0:AV) (v1:Int) (v6:Int) (h:Heap):CRes:=
 ifB (ltF 6 v6)
 (k 0 90 h)
 (nfa 2 v0 fun x2=>
 Fw 1 7 x2 v6 fun x3=>
 f8 h x3 1 false fun x4=>
 Lw .i64 1 h x4 0 fun x5 x6=>
 nfa 2 v0 fun x7=>
 Fw 1 7 x7 v6 fun x8=>
 f8 h x8 1 false fun x9=>
 aj x9 0 1 h fun x10 h11=>
 nfa 2 v0 fun x12=>
 Fw 1 7 x12 v6 fun x13=>
 lS h11 x13 1 x10 fun h14=>
 j1 v0 v1 v6 x6 h14)
theorem afh (hk:eS k0 k) {J1:Q1} {j1:kZ} (h1:uQ J1 j1):BC (MO n av aj aG k0 J1) (BL n av aj aG k j1):=by
  obtain rfl:=fx3 hk
  obtain rfl:=fx5 h1
  intro v0 v1 v6 h
  kernel_rfl
def LJ:Q1:=MO n av aj aG k0 (MD n av aj aG k0 n)
def BA:uK:=BL n av aj aG k (pK n av aj aG k n)
theorem ae6 (hk:eS k0 k):BC (LJ n av aj aG k0) (BA n av aj aG k):=afh n av aj aG k0 k hk (afn n av aj aG k0 k hk n)
def Mq (n:Nat) (av:bQ) (aj:bN) (aG:cv) (k0:Q0) (J2:Q1) (J3:Q1):Q1:=(fun s=>dH (.t p30) s (bE (dJ av aj aG) du Mn (fun s=>cI BT s J3)) (fun s=>cI Md s J2))
def Bx (n:Nat) (av:bQ) (aj:bN) (aG:cv) (k:gd) (j2:uK) (j3:ic) (v0:AV) (v1:Int) (v6:Int) (v30:Bool) (h:Heap):CRes:=
 ifB v30
 (lp .i64 v6 1 fun x26=>
 j3 v0 v1 x26 h)
 (j2 v0 v1 v6 h)
theorem aeM (hk:eS k0 k) {J2:Q1} {j2:uK} (h2:BC J2 j2) {J3:Q1} {j3:ic} (h3:pL J3 j3):Bu (Mq n av aj aG k0 J2 J3) (Bx n av aj aG k j2 j3):=by
  obtain rfl:=fx3 hk
  obtain rfl:=fx4 h2
  obtain rfl:=fx4 h3
  intro v0 v1 v6 v30 h
  kernel_rfl
def Mw (J3:Q1):Q1:=Mq n av aj aG k0 (LJ n av aj aG k0) J3
def uT (j3:ic):uY:=Bx n av aj aG k (BA n av aj aG k) j3
theorem ae2 (hk:eS k0 k) {J3:Q1} {j3:ic} (h3:pL J3 j3):Bu (Mw n av aj aG k0 J3) (uT n av aj aG k j3):=aeM n av aj aG k0 k hk (ae6 n av aj aG k0 k hk) h3
def L7 (n:Nat) (av:bQ) (aj:bN) (aG:cv) (k0:Q0) (J4:Q1):Q1:=(bE (dJ av aj aG) du KY (fun s=>cI L4 s J4))
def uG (n:Nat) (av:bQ) (aj:bN) (aG:cv) (k:gd) (j4:uY) (v0:AV) (v1:Int) (v6:Int) (h:Heap):CRes:=
 ifB (fS (ltF 6 v6))
 (nfa 2 v0 fun x15=>
 Fw 1 7 x15 v6 fun x16=>
 f8 h x16 1 false fun x17=>
 fH x17 fun x18=>
 j4 v0 v1 v6 (eqF x18 0) h)
 (j4 v0 v1 v6 false h)
theorem ae1 (hk:eS k0 k) {J4:Q1} {j4:uY} (h4:Bu J4 j4):pL (L7 n av aj aG k0 J4) (uG n av aj aG k j4):=by
  obtain rfl:=fx3 hk
  obtain rfl:=fx5 h4
  intro v0 v1 v6 h
  kernel_rfl
def MW (m:Nat):Q1:=Nat.rec (motive:=fun _=>Q1) (fun _=>.err) (fun _ ih=>L7 n av aj aG k0 (Mw n av aj aG k0 ih)) m
def pJ (m:Nat):ic:=Nat.rec (motive:=fun _=>ic) (fun _ _ _ _=>.err) (fun _ ih=>uG n av aj aG k (uT n av aj aG k ih)) m
theorem afo (m:Nat):pJ n av aj aG k (m+1)=uG n av aj aG k (uT n av aj aG k (pJ n av aj aG k m)):=rfl
theorem afb (hk:eS k0 k) (m:Nat):pL (MW n av aj aG k0 m) (pJ n av aj aG k m):=by
  induction m with
  | zero=>intro v0 v1 v6 h; rfl
  | succ m ih=>exact ae1 n av aj aG k0 k hk (ae2 n av aj aG k0 k hk ih)
def L2 (n:Nat) (av:bQ) (aj:bN) (aG:cv) (k0:Q0) (J3:Q1):Q1:=(bE (dJ av aj aG) du JO (fun s=>dH (.t p11) s (bE (dJ av aj aG) du Ls (cG kX k0)) (bE (dJ av aj aG) du KR (fun s=>cI BT s J3))))
def B1 (n:Nat) (av:bQ) (aj:bN) (aG:cv) (k:gd) (j3:ic) (v0:AV) (v1:Int) (v17:Bool) (h:Heap):CRes:=
 ifB v17
 (k 0 2 h)
 (j3 v0 v1 v1 h)
theorem aeO (hk:eS k0 k) {J3:Q1} {j3:ic} (h3:pL J3 j3):BQ (L2 n av aj aG k0 J3) (B1 n av aj aG k j3):=by
  obtain rfl:=fx3 hk
  obtain rfl:=fx4 h3
  intro v0 v1 v17 h
  kernel_rfl
def LE:Q1:=L2 n av aj aG k0 (MW n av aj aG k0 n)
def Bz:uU:=B1 n av aj aG k (pJ n av aj aG k n)
theorem aeR (hk:eS k0 k):BQ (LE n av aj aG k0) (Bz n av aj aG k):=aeO n av aj aG k0 k hk (afb n av aj aG k0 k hk n)
def Sc (n:Nat) (av:bQ) (aj:bN) (aG:cv) (k0:Q0) (J5:Q1):Q1:=(bE (dJ av aj aG) du JF (bE (dJ av aj aG) du Lm (fun s=>dH (.t p8) s (bE (dJ av aj aG) du Kx (cG kX k0)) (bE (dJ av aj aG) du Jo (fun s=>cI Ms s J5)))))
def F6 (n:Nat) (av:bQ) (aj:bN) (aG:cv) (k:gd) (j5:uU) (a0:AV) (a1:Int) (h:Heap):CRes:=
 av a0 h fun x0 h1=>
 ifB x0
 (k 0 1 h1)
 (ifB (ltF a1 0)
 (j5 a0 a1 true h1)
 (j5 a0 a1 (ltF 6 a1) h1))
theorem ajy (n:Nat) (av:bQ) (aj:bN) (aG:cv) (k0:Q0) (k:gd) (hk:eS k0 k) {J5:Q1} {j5:uU} (h5:BQ J5 j5) (a0:AV) (a1:Int) (h:Heap):(Sc n av aj aG k0 J5) ⟨cH [(p0,a0),(p1,(.int .i64 a1))],h⟩=(F6 n av aj aG k j5) a0 a1 h:=by
  obtain rfl:=fx3 hk
  obtain rfl:=fx4 h5
  kernel_rfl
def aje:Q1:=Sc n av aj aG k0 (LE n av aj aG k0)
def Fm (n:Nat) (av:bQ) (aj:bN) (aG:cv) (a0:AV) (a1:Int) (h:Heap) (k:gd):CRes:=F6 n av aj aG k (Bz n av aj aG k) a0 a1 h
theorem ajE (n:Nat) (av:bQ) (aj:bN) (aG:cv) (k0:Q0) (s:St):D (ez [(fD,eY av),(fA,eT aj),(jV,ja aG)]) du n FQ (cG kX k0) (fun _ _=>.err) (cG kX k0) s=aje n av aj aG k0 s:=by kernel_rfl
theorem ajw (n:Nat) (av:bQ) (aj:bN) (aG:cv) (a0:AV) (a1:Int) (h:Heap) (k0:Q0):W FK kX [(fD,eY av),(fA,eT aj),(jV,ja aG)] du n FQ [a0,(.int .i64 a1)] h k0=Fm n av aj aG a0 a1 h (fun u0 u1 h=>k0 (.tuple [(.int .i64 u0),(.int .i64 u1)]) h):=by
  let k:gd:=fun u0 u1 h=>k0 (.tuple [(.int .i64 u0),(.int .i64 u1)]) h
  have hk:eS k0 k:=fun _ _ _=>rfl
  have hb:∀ F:Tr AV→CRes,fJ FK [a0,(.int .i64 a1)] .leaf F=F (cH [(p0,a0),(p1,(.int .i64 a1))]):=fun F=>by kernel_rfl
  exact (lD hb).trans ((ajE n av aj aG k0 _).trans (ajy n av aj aG k0 k hk (aeR n av aj aG k0 k hk) a0 a1 h))
end
def me (n:Nat):eX:=Fm n (fF n) (eo n) (fY n)
end
end Go.Proofs.YtnlbfbiogfilfaaGreat.Sh
