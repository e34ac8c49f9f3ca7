/- The interpreter's code in continuation style: what is left of an operation when all that is fixed has been carried out; code with notes on what lives and of which kind it is. -/
import Derived.Test.YtnlbfbiogfilfaaGreatAiCallSym
set_option linter.all false
namespace Go.Ai
noncomputable def nf:Nat→(Nat→CRes)→CRes:=Nat.rec (motive:=fun _=>(Nat→CRes)→CRes) (fun c=>c 0) (fun k _ c=>c (Nat.succ k))
noncomputable def ifB:Bool→CRes→CRes→CRes:=Bool.rec (motive:=fun _=>CRes→CRes→CRes) (fun _ e=>e) (fun t _=>t)
noncomputable def iC:Int→(Nat→CRes)→(Nat→CRes)→CRes:=Int.rec (motive:=fun _=>(Nat→CRes)→(Nat→CRes)→CRes) (fun m f _=>f m) (fun m _ g=>g m)
noncomputable def aqw:Int→(Nat→CRes)→CRes:=Int.rec (motive:=fun _=>(Nat→CRes)→CRes) (fun m f=>f m) (fun _ _=>.err)
noncomputable def oC {α:Type}:Option α→(α→CRes)→CRes:=Option.rec (motive:=fun _=>(α→CRes)→CRes) (fun _=>.err) (fun a k=>k a)
noncomputable def rD (n:Int) (c:Int→CRes):CRes:=iC n (fun m=>nf m fun m=>c (.ofNat m)) (fun m=>nf m fun m=>c (.negSucc m))
noncomputable def ikN:IntKind→Nat:=IntKind.rec (motive:=fun _=>Nat) 0 1 2 3 4 5 6 7
noncomputable def Da (q q':IntKind):Bool:=Nat.beq (ikN q) (ikN q')
noncomputable def ikTop:IntKind→Nat:=IntKind.rec (motive:=fun _=>Nat) 128 32768 2147483648 9223372036854775808 256 65536 4294967296 18446744073709551616
noncomputable def ayB:IntKind→Bool:=IntKind.rec (motive:=fun _=>Bool) true true true true false false false false
noncomputable def fS:Bool→Bool:=Bool.rec (motive:=fun _=>Bool) true false
noncomputable def andB:Bool→Bool→Bool:=Bool.rec (motive:=fun _=>Bool→Bool) (fun _=>false) (fun b=>b)
noncomputable def eqBB:Bool→Bool→Bool:=Bool.rec (motive:=fun _=>Bool→Bool) (fun b=>fS b) (fun b=>b)
noncomputable def aeZ:Bool→Bool→Bool:=Bool.rec (motive:=fun _=>Bool→Bool) (fun b=>b) (fun b=>fS b)
noncomputable def ayi (q:IntKind) (m:Nat) (c:Int→CRes):CRes:=nf m fun m=>ifB (Nat.blt m (ikTop q)) (c (.ofNat m)) (rD (q.wrap (.ofNat m)) c)
noncomputable def wrapM (q:IntKind) (m:Nat) (c:Int→CRes):CRes:=nf m fun m=>ifB (andB (ayB q) (Nat.blt m (ikTop q))) (c (.negSucc m)) (rD (q.wrap (.negSucc m)) c)
noncomputable def Dn (q:IntKind) (n:Int) (c:Int→CRes):CRes:=iC n (fun m=>ayi q m c) (fun m=>wrapM q m c)
noncomputable def lp (q:IntKind) (a b:Int) (c:Int→CRes):CRes:=iC a (fun x=>iC b (fun y=>ayi q (Nat.add x y) c) (fun _=>Dn q (addF a b) c)) (fun _=>Dn q (addF a b) c)
noncomputable def YK (q:IntKind) (a b:Int) (c:Int→CRes):CRes:=Dn q (subF a b) c
noncomputable def Ve (q:IntKind) (a b:Int) (c:Int→CRes):CRes:=iC a (fun x=>iC b (fun y=>ayi q (Nat.mul x y) c) (fun _=>Dn q (mulF a b) c)) (fun _=>Dn q (mulF a b) c)
noncomputable def quoK (q:IntKind) (a b:Int) (c:Int→CRes):CRes:=ifB (isZ b) .err (Dn q (divF a b) c)
noncomputable def asT (q:IntKind) (a b:Int) (c:Int→CRes):CRes:=ifB (isZ b) .err (rD (modF a b) c)
noncomputable def aol (op:BinOp) (q:IntKind) (a b:Int) (c:Int→CRes):CRes:=oC (wB op q a b) fun n=>rD n c
noncomputable def al0 (q:IntKind) (a b:Int) (c:Int→CRes):CRes:=aqw b fun n=>Dn q (aly q a n) c
noncomputable def shrK (q:IntKind) (a b:Int) (c:Int→CRes):CRes:=aqw b fun n=>rD (shrF q a n) c
noncomputable def catK (a b:List UInt8) (c:List UInt8→CRes):CRes:=ifB (Nat.ble (Nat.add (mv a) (mv b)) 1099511627776) (UB a b c) .err
noncomputable def Wa (q:IntKind):AV→(Int→CRes)→CRes:=AV.rec (motive_1:=fun _=>(Int→CRes)→CRes) (motive_2:=fun _=>Unit) (fun _ _=>.err) (fun q' n k=>ifB (Da q q') (k n) .err) (fun _ _=>.err) (fun _ _ _=>.err) (fun _=>.err) (fun _ _ _ _ _ _=>.err) (fun _ _ _ _=>.err) (fun _=>.err) (fun _ _=>.err) (fun _=>.err) (fun _ _ _ _ _ _=>.err) (fun _=>.err) (fun _ _ _ _=>.err) (fun _=>.err) (fun _ _ _=>.err) (fun _ _ _=>.err) () (fun _ _ _ _=>())
noncomputable def Te:AV→(Bool→CRes)→CRes:=AV.rec (motive_1:=fun _=>(Bool→CRes)→CRes) (motive_2:=fun _=>Unit) (fun b k=>k b) (fun _ _ _=>.err) (fun _ _=>.err) (fun _ _ _=>.err) (fun _=>.err) (fun _ _ _ _ _ _=>.err) (fun _ _ _ _=>.err) (fun _=>.err) (fun _ _=>.err) (fun _=>.err) (fun _ _ _ _ _ _=>.err) (fun _=>.err) (fun _ _ _ _=>.err) (fun _=>.err) (fun _ _ _=>.err) (fun _ _ _=>.err) () (fun _ _ _ _=>())
noncomputable def vStr:AV→(List UInt8→CRes)→CRes:=AV.rec (motive_1:=fun _=>(List UInt8→CRes)→CRes) (motive_2:=fun _=>Unit) (fun _ _=>.err) (fun _ _ _=>.err) (fun s k=>k s) (fun _ _ _=>.err) (fun _=>.err) (fun _ _ _ _ _ _=>.err) (fun _ _ _ _=>.err) (fun _=>.err) (fun _ _=>.err) (fun _=>.err) (fun _ _ _ _ _ _=>.err) (fun _=>.err) (fun _ _ _ _=>.err) (fun _=>.err) (fun _ _ _=>.err) (fun _ _ _=>.err) () (fun _ _ _ _=>())
noncomputable def au3:AV→(Nat→Nat→CRes)→CRes:=AV.rec (motive_1:=fun _=>(Nat→Nat→CRes)→CRes) (motive_2:=fun _=>Unit) (fun _ _=>.err) (fun _ _ _=>.err) (fun _ _=>.err) (fun b o k=>k b o) (fun _=>.err) (fun _ _ _ _ _ _=>.err) (fun _ _ _ _=>.err) (fun _=>.err) (fun _ _=>.err) (fun _=>.err) (fun _ _ _ _ _ _=>.err) (fun _=>.err) (fun _ _ _ _=>.err) (fun _=>.err) (fun _ _ _=>.err) (fun _ _ _=>.err) () (fun _ _ _ _=>())
noncomputable def asSlc:AV→(Nat→Nat→Nat→CRes)→CRes:=AV.rec (motive_1:=fun _=>(Nat→Nat→Nat→CRes)→CRes) (motive_2:=fun _=>Unit) (fun _ _=>.err) (fun _ _ _=>.err) (fun _ _=>.err) (fun _ _ _=>.err) (fun _=>.err) (fun b o l _ _ k=>k b o l) (fun _ _ _ _=>.err) (fun _=>.err) (fun _ _=>.err) (fun _=>.err) (fun _ _ _ _ _ _=>.err) (fun _=>.err) (fun _ _ _ _=>.err) (fun _=>.err) (fun _ _ _=>.err) (fun _ _ _=>.err) () (fun _ _ _ _=>())
noncomputable def asMap:AV→(Nat→CRes)→CRes:=AV.rec (motive_1:=fun _=>(Nat→CRes)→CRes) (motive_2:=fun _=>Unit) (fun _ _=>.err) (fun _ _ _=>.err) (fun _ _=>.err) (fun _ _ _=>.err) (fun _=>.err) (fun _ _ _ _ _ _=>.err) (fun _ _ _ _=>.err) (fun _=>.err) (fun b k=>k b) (fun _=>.err) (fun _ _ _ _ _ _=>.err) (fun _=>.err) (fun _ _ _ _=>.err) (fun _=>.err) (fun _ _ _=>.err) (fun _ _ _=>.err) () (fun _ _ _ _=>())
noncomputable def asAgg:AV→(List AV→CRes)→CRes:=AV.rec (motive_1:=fun _=>(List AV→CRes)→CRes) (motive_2:=fun _=>Unit) (fun _ _=>.err) (fun _ _ _=>.err) (fun _ _=>.err) (fun _ _ _=>.err) (fun _=>.err) (fun _ _ _ _ _ _=>.err) (fun _ _ _ _=>.err) (fun _=>.err) (fun _ _=>.err) (fun _=>.err) (fun _ _ _ _ _ _=>.err) (fun _=>.err) (fun _ _ _ _=>.err) (fun _=>.err) (fun l _ k=>k l) (fun _ _ _=>.err) () (fun _ _ _ _=>())
noncomputable def extK (ix:Nat):AV→(AV→CRes)→CRes:=AV.rec (motive_1:=fun _=>(AV→CRes)→CRes) (motive_2:=fun _=>Unit) (fun _ _=>.err) (fun _ _ _=>.err) (fun _ _=>.err) (fun _ _ _=>.err) (fun _=>.err) (fun _ _ _ _ _ _=>.err) (fun _ _ _ _=>.err) (fun _=>.err) (fun _ _=>.err) (fun _=>.err) (fun _ _ _ _ _ _=>.err) (fun _=>.err) (fun _ _ _ _=>.err) (fun _=>.err) (fun _ _ _=>.err) (fun l _ k=>oC (nth l ix) k) () (fun _ _ _ _=>())
noncomputable def Tw:AV→CRes→CRes:=AV.rec (motive_1:=fun _=>CRes→CRes) (motive_2:=fun _=>Unit) (fun _ _=>.err) (fun _ _ _=>.err) (fun _ _=>.err) (fun _ _ r=>r) (fun _=>.err) (fun _ _ _ _ _ _=>.err) (fun _ _ _ _=>.err) (fun _=>.err) (fun _ _=>.err) (fun _=>.err) (fun _ _ _ _ _ r=>r) (fun _=>.err) (fun _ _ _ _=>.err) (fun _=>.err) (fun _ _ _=>.err) (fun _ _ _=>.err) () (fun _ _ _ _=>())
noncomputable def nilB:NilK→AV→Option Bool:=NilK.rec (motive:=fun _=>AV→Option Bool) (AV.rec (motive_1:=fun _=>Option Bool) (motive_2:=fun _=>Unit) (fun _=>none) (fun _ _=>none) (fun _=>none) (fun _ _=>some false) (some true) (fun _ _ _ _ _=>none) (fun _ _ _=>none) (none) (fun _=>none) (none) (fun _ _ _ _ _=>none) (none) (fun _ _ _=>none) (none) (fun _ _=>none) (fun _ _=>none) () (fun _ _ _ _=>())) (AV.rec (motive_1:=fun _=>Option Bool) (motive_2:=fun _=>Unit) (fun _=>none) (fun _ _=>none) (fun _=>none) (fun _ _=>none) (none) (fun _ _ _ _ _=>some false) (fun _ _ _=>some false) (some true) (fun _=>none) (none) (fun _ _ _ _ _=>none) (none) (fun _ _ _=>none) (none) (fun _ _=>none) (fun _ _=>none) () (fun _ _ _ _=>())) (AV.rec (motive_1:=fun _=>Option Bool) (motive_2:=fun _=>Unit) (fun _=>none) (fun _ _=>none) (fun _=>none) (fun _ _=>none) (none) (fun _ _ _ _ _=>none) (fun _ _ _=>none) (none) (fun _=>some false) (some true) (fun _ _ _ _ _=>none) (none) (fun _ _ _=>none) (none) (fun _ _=>none) (fun _ _=>none) () (fun _ _ _ _=>())) (AV.rec (motive_1:=fun _=>Option Bool) (motive_2:=fun _=>Unit) (fun _=>none) (fun _ _=>none) (fun _=>none) (fun _ _=>none) (none) (fun _ _ _ _ _=>none) (fun _ _ _=>none) (none) (fun _=>none) (none) (fun _ _ _ _ _=>some false) (some true) (fun _ _ _=>none) (none) (fun _ _=>none) (fun _ _=>none) () (fun _ _ _ _=>()))
noncomputable def ajj:EqK→AV→AV→(Bool→CRes)→CRes:=EqK.rec (motive:=fun _=>AV→AV→(Bool→CRes)→CRes)
  (fun k x y c=>oC (nilB k x) fun a=>oC (nilB k y) fun b=>ifB a (c b) (ifB b (c false) .err))
  (fun x y c=>oC (eqK .bool x y) c) (fun ks x y c=>oC (eqK (.plain ks) x y) c)
noncomputable def avz:AV→(List AV→CRes)→CRes→CRes:=AV.rec (motive_1:=fun _=>(List AV→CRes)→CRes→CRes) (motive_2:=fun _=>Unit) (fun _ _ c=>c) (fun _ _ _ c=>c) (fun _ _ c=>c) (fun _ _ _ c=>c) (fun _ c=>c) (fun _ _ _ _ _ _ c=>c) (fun _ _ _ _ c=>c) (fun _ c=>c) (fun _ _ c=>c) (fun _ c=>c) (fun _ _ _ _ _ _ c=>c) (fun _ c=>c) (fun _ _ _ _ c=>c) (fun _ c=>c) (fun l _ f _=>f l) (fun _ _ _ _=>.err) () (fun _ _ _ _=>())
noncomputable def getB:P→Tr Blk→(Blk→CRes)→CRes:=P.rec (motive:=fun _=>Tr Blk→(Blk→CRes)→CRes)
  (Tr.rec (motive:=fun _=>(Blk→CRes)→CRes) (fun _=>.err) (fun _ v _ _ _ k=>oC v k))
  (fun _ ih=>Tr.rec (motive:=fun _=>(Blk→CRes)→CRes) (fun _=>.err) (fun l _ _ _ _ k=>ih l k))
  (fun _ ih=>Tr.rec (motive:=fun _=>(Blk→CRes)→CRes) (fun _=>.err) (fun _ _ r _ _ k=>ih r k))
noncomputable def setB:P→Blk→Tr Blk→(Tr Blk→CRes)→CRes:=P.rec (motive:=fun _=>Blk→Tr Blk→(Tr Blk→CRes)→CRes)
  (fun x=>Tr.rec (motive:=fun _=>(Tr Blk→CRes)→CRes) (fun k=>k (.node .leaf (some x) .leaf)) (fun l _ r _ _ k=>k (.node l (some x) r)))
  (fun _ ih x=>Tr.rec (motive:=fun _=>(Tr Blk→CRes)→CRes) (fun k=>ih x .leaf fun l=>k (.node l none .leaf)) (fun l v r _ _ k=>ih x l fun l=>k (.node l v r)))
  (fun _ ih x=>Tr.rec (motive:=fun _=>(Tr Blk→CRes)→CRes) (fun k=>ih x .leaf fun r=>k (.node .leaf none r)) (fun l v r _ _ k=>ih x r fun r=>k (.node l v r)))
noncomputable def blkC:Blk→(List AV→Bool→Nat→CRes)→CRes:=Blk.rec (motive:=fun _=>(List AV→Bool→Nat→CRes)→CRes) (fun l rw g k=>k l rw g) (fun _ _=>.err) (fun _=>.err)
noncomputable def Bv:Heap→Blk→(Nat→Heap→CRes)→CRes:=Heap.rec (motive:=fun _=>Blk→(Nat→Heap→CRes)→CRes)
  (fun t nx ro x c=>setB (key nx) x t fun t=>nf (Nat.succ nx) fun nx'=>c nx ⟨t,nx',ro⟩)
noncomputable def setX:Heap→Nat→Blk→(Heap→CRes)→CRes:=Heap.rec (motive:=fun _=>Nat→Blk→(Heap→CRes)→CRes)
  (fun t nx ro b x c=>setB (key b) x t fun t=>c ⟨t,nx,ro⟩)
noncomputable def Rk (H:Heap) (b:Nat) (c:List AV→CRes):CRes:=getB (key b) H.t fun x=>blkC x fun l _ _=>c l
noncomputable def ownX (H:Heap) (b:Nat) (c:List AV→Nat→CRes):CRes:=ifB (Nat.blt b H.ro) .err (getB (key b) H.t fun x=>blkC x fun l rw g=>ifB rw (c l g) .err)
noncomputable def nthX:List AV→Nat→(AV→CRes)→CRes:=List.rec (motive:=fun _=>Nat→(AV→CRes)→CRes) (fun _ _=>.err)
  (fun a _ ih=>Nat.rec (motive:=fun _=>(AV→CRes)→CRes) (fun k=>k a) (fun i _ k=>ih i k))
noncomputable def atr (x:AV):List AV→Nat→(List AV→CRes)→CRes:=List.rec (motive:=fun _=>Nat→(List AV→CRes)→CRes) (fun _ _=>.err)
  (fun a t ih=>Nat.rec (motive:=fun _=>(List AV→CRes)→CRes) (fun k=>k (x::t)) (fun i _ k=>ih i fun t=>k (a::t)))
noncomputable def avm:List AV→List AV→(List AV→CRes)→CRes:=List.rec (motive:=fun _=>List AV→(List AV→CRes)→CRes) (fun l k=>k l)
  (fun x _ ih=>List.rec (motive:=fun _=>(List AV→CRes)→CRes) (fun _=>.err) (fun _ t _ k=>ih t fun t=>k (x::t)))
noncomputable def avf (cs:List AV):List AV→Nat→(List AV→CRes)→CRes:=List.rec (motive:=fun _=>Nat→(List AV→CRes)→CRes)
  (Nat.rec (motive:=fun _=>(List AV→CRes)→CRes) (fun k=>avm cs [] k) (fun _ _ _=>.err))
  (fun a t ih=>Nat.rec (motive:=fun _=>(List AV→CRes)→CRes) (fun k=>avm cs (a::t) k) (fun i _ k=>ih i fun t=>k (a::t)))
noncomputable def Dh (H:Heap) (v:AV) (c:Nat→Heap→CRes):CRes:=avz v (fun l=>Bv H (.cells l true 0) c) (Bv H (.cells [v] true 0) c)
noncomputable def ap6 (parts:List (Nat × Nat × AV)):List AV→(List AV→CRes)→CRes:=
  List.rec (motive:=fun _=>List AV→(List AV→CRes)→CRes) (fun z k=>k z)
    (fun p _ ih z k=>avz p.2.2 (fun l=>ifB (Nat.beq (mv l) p.2.1) (avf l z p.1 fun z=>ih z k) .err) (ifB (Nat.beq 1 p.2.1) (atr p.2.2 z p.1 fun z=>ih z k) .err)) parts
noncomputable def yL (z:List AV) (parts:List (Nat × Nat × AV)) (c:AV→CRes):CRes:=ap6 parts z fun l=>c (.agg l)
noncomputable def pG (H:Heap) (len:Nat) (z:List AV) (parts:List (Nat × Nat × AV)) (c:AV→Heap→CRes):CRes:=
  ap6 parts z fun l=>Bv H (.cells l true 0) fun b H'=>c (.slice b 0 len 0 false) H'
noncomputable def f8 (H:Heap) (v:AV) (n:Nat) (agg:Bool) (c:AV→CRes):CRes:=
  au3 v fun b off=>Rk H b fun l=>ifB agg (oC (sub l off n) fun cs=>c (.agg cs)) (ifB (Nat.beq n 1) (nthX l off c) .err)
noncomputable def lS (H:Heap) (a:AV) (n:Nat) (u:AV) (c:Heap→CRes):CRes:=
  au3 a fun b off=>ownX H b fun l g=>avz u (fun cs=>ifB (Nat.beq (mv cs) n) (avf cs l off fun l=>setX H b (.cells l true g) c) .err)
    (ifB (Nat.beq 1 n) (atr u l off fun l=>setX H b (.cells l true g) c) .err)
noncomputable def faK (d:Nat) (v:AV) (c:AV→CRes):CRes:=au3 v fun b off=>nf (Nat.add off d) fun o=>c (.ptr b o)
noncomputable def LC (sz:Nat) (v:AV) (i:Int) (c:AV→CRes):CRes:=asSlc v fun b off len=>aqw i fun j=>ifB (Nat.blt j len) (nf (Nat.add off (Nat.mul j sz)) fun o=>c (.ptr b o)) .err
noncomputable def Fw (sz len:Nat) (v:AV) (i:Int) (c:AV→CRes):CRes:=au3 v fun b off=>aqw i fun j=>ifB (Nat.blt j len) (nf (Nat.add off (Nat.mul j sz)) fun o=>c (.ptr b o)) .err
noncomputable def aes (sz len:Nat) (agg:Bool) (v:AV) (i:Int) (c:AV→CRes):CRes:=asAgg v fun cs=>aqw i fun j=>ifB (Nat.blt j len)
  (nf (Nat.mul j sz) fun o=>oC (sub cs o sz) fun l=>oC (Td agg l) c) .err
noncomputable def idxSK (s:List UInt8) (i:Int) (c:Int→CRes):CRes:=aqw i fun j=>oC (nth s j) fun ch=>nf ch.toNat fun n=>c (.ofNat n)
noncomputable def Lv (x:Option AV) (dflt TI:Nat):Option Nat:=
  Option.casesOn x (some dflt) fun v=>
    match v with
    | .int _ i=>Tt i none fun n=>Bool.casesOn (Nat.ble n TI) none (some n)
    | _=>none
noncomputable def slV (k:SlK) (v:AV) (lo hi mx:Option AV):Option AV:=
  match k,v with
  | .str,.str s=>
    match mx with
    | some _=>none
    | none=>Option.casesOn (Lv hi s.length s.length) none fun h=>Option.casesOn (Lv lo 0 h) none fun l=>some (.str ((skp s l).take (h-l)))
  | .sl sz,.slice b off len ext opn=>
    Option.casesOn (Lv mx (len+ext) (len+ext)) none fun m=>
    Option.casesOn (Lv hi len m) none fun h=>
    Option.casesOn (Lv lo 0 h) none fun l=>
    match mx,hi with
    | some _,none=>none
    | some _,some _=>some (.slice b (if m=l then off else off+l*sz) (h-l) (m-h) false)
    | none,_=>
      if opn then (if m=l then some (.send b off (off+l*sz)) else some (.slice b (off+l*sz) (h-l) (m-h) true))
      else some (.slice b (if m=l then off else off+l*sz) (h-l) (m-h) false)
  | .sl _,.nilslice=>
    Option.casesOn (Lv mx 0 0) none fun m=>Option.casesOn (Lv hi 0 m) none fun h=>Option.casesOn (Lv lo 0 h) none fun _=>
    match mx,hi with
    | some _,none=>none
    | _,_=>some .nilslice
  | .arr n sz,.ptr b off=>
    Option.casesOn (Lv mx n n) none fun m=>
    Option.casesOn (Lv hi n m) none fun h=>
    Option.casesOn (Lv lo 0 h) none fun l=>
    match mx,hi with
    | some _,none=>none
    | _,_=>some (.slice b (if m=l then off else off+l*sz) (h-l) (m-h) false)
  | _,_=>none
noncomputable def ayP (v:AV):(AV→CRes)→CRes:=AV.rec (motive_1:=fun _=>(AV→CRes)→CRes) (motive_2:=fun _=>Unit) (fun _ c=>c v) (fun _ _ c=>c v) (fun _ c=>c v) (fun _ _ c=>c v) (fun c=>c v) (fun b o l e p c=>nf b fun b=>nf o fun o=>nf l fun l=>nf e fun e=>ifB p (c (.slice b o l e true)) (c (.slice b o l e false))) (fun _ _ _ c=>c v) (fun c=>c v) (fun _ c=>c v) (fun c=>c v) (fun _ _ _ _ _ c=>c v) (fun c=>c v) (fun _ _ _ c=>c v) (fun c=>c v) (fun _ _ c=>c v) (fun _ _ c=>c v) () (fun _ _ _ _=>()) v
noncomputable def forceH:Heap→(Heap→CRes)→CRes:=Heap.rec (motive:=fun _=>(Heap→CRes)→CRes) (fun t nx ro c=>nf nx fun nx=>c ⟨t,nx,ro⟩)
noncomputable def slK (k:SlK) (v:AV) (lo hi mx:Option AV) (c:AV→CRes):CRes:=oC (slV k v lo hi mx) fun r=>ayP r c
noncomputable def mkK (H:Heap) (z:List AV) (l n:Int) (c:AV→Heap→CRes):CRes:=aqw l fun l=>aqw n fun n=>
  ifB (andB (Nat.ble l n) (Nat.ble n TI)) (Bv H (.cells (XG z n) true 0) fun b H'=>nf (Nat.sub n l) fun e=>c (.slice b 0 l e false) H') .err
noncomputable def atB (H:Heap):AV→Option (List (AV × AV)):=AV.rec (motive_1:=fun _=>Option (List (AV × AV))) (motive_2:=fun _=>Unit) (fun _=>none) (fun _ _=>none) (fun _=>none) (fun _ _=>none) (none) (fun _ _ _ _ _=>none) (fun _ _ _=>none) (none) (fun b=>vc H b) (some []) (fun _ _ _ _ _=>none) (none) (fun _ _ _=>none) (none) (fun _ _=>none) (fun _ _=>none) () (fun _ _ _ _=>())
noncomputable def Tn (H:Heap) (kk:KeyK) (z m u:AV) (c:AV→Bool→CRes):CRes:=
  oC (atB H m) fun es=>oC (oQ kk u u) fun _=>oC (agm kk u es) fun r=>Option.rec (motive:=fun _=>CRes) (c z false) (fun x=>c x true) r
noncomputable def aiP (H:Heap) (kk:KeyK) (m u y:AV) (c:Heap→CRes):CRes:=
  asMap m fun b=>ifB (Nat.blt b H.ro) .err (oC (vc H b) fun es=>oC (oQ kk u u) fun _=>oC (putF kk u y es) fun es'=>setX H b (.mp es') c)
noncomputable def azZ (H:Heap) (kk:KeyK) (m u:AV):Option Heap:=Option.casesOn (oQ kk u u) none fun _=>match m with
      | .map b=>Bool.casesOn (Nat.blt b H.ro) (Option.casesOn (vc H b) none fun es=>Option.casesOn (delF kk u es) none fun es'=>H.setK b (.mp es') some) none
      | .nilmap=>some H
      | _=>none
noncomputable def aiE (H:Heap) (kk:KeyK) (m u:AV) (c:Heap→CRes):CRes:=oC (azZ H kk m u) c
noncomputable def aAf (s:List UInt8) (c:Int→CRes):CRes:=nf (mv s) fun n=>c (.ofNat n)
noncomputable def fH:AV→(Int→CRes)→CRes:=AV.rec (motive_1:=fun _=>(Int→CRes)→CRes) (motive_2:=fun _=>Unit) (fun _ _=>.err) (fun _ _ _=>.err) (fun _ _=>.err) (fun _ _ _=>.err) (fun _=>.err) (fun _ _ l _ _ c=>c (.ofNat l)) (fun _ _ _ c=>c (.ofNat 0)) (fun c=>c (.ofNat 0)) (fun _ _=>.err) (fun _=>.err) (fun _ _ _ _ _ _=>.err) (fun _=>.err) (fun _ _ _ _=>.err) (fun _=>.err) (fun _ _ _=>.err) (fun _ _ _=>.err) () (fun _ _ _ _=>())
noncomputable def aoB (H:Heap) (v:AV) (c:Int→CRes):CRes:=oC (atB H v) fun es=>nf (mv es) fun n=>c (.ofNat n)
noncomputable def O1 (mx:Bool) (vs:List AV) (c:AV→CRes):CRes:=List.casesOn vs .err fun v vs=>oC (W9 mx v vs) c
noncomputable def outK (r:Option (AV × Heap)) (c:AV→Heap→CRes):CRes:=oC r fun r=>Prod.rec (motive:=fun _=>CRes) c r
noncomputable def mQ (H:Heap) (sz:Nat) (s x:AV) (c:AV→Heap→CRes):CRes:=outK (sB H sz s x) fun v H'=>ayP v fun v=>forceH H' fun H'=>c v H'
noncomputable def copyK (H:Heap) (sz:Nat) (d x:AV) (c:AV→Heap→CRes):CRes:=outK (ayf H sz d x) c
noncomputable def arT (H:Heap) (z:List AV) (x:AV) (c:Heap→CRes):CRes:=outK (acd H z x) fun _ H'=>c H'
noncomputable def ldI (q:IntKind) (H:Heap) (v:AV) (c:Int→CRes):CRes:=f8 H v 1 false fun x=>Wa q x c
noncomputable def ldB (H:Heap) (v:AV) (c:Bool→CRes):CRes:=f8 H v 1 false fun x=>Te x c
noncomputable def fld (d:Nat) (H:Heap) (v:AV) (n:Nat) (agg:Bool) (c:AV→AV→CRes):CRes:=faK d v fun a=>f8 H a n agg fun x=>c a x
noncomputable def iY (q:IntKind) (d:Nat) (H:Heap) (v:AV) (c:AV→Int→CRes):CRes:=faK d v fun a=>f8 H a 1 false fun x=>Wa q x fun x=>c a x
noncomputable def fldB (d:Nat) (H:Heap) (v:AV) (c:AV→Bool→CRes):CRes:=faK d v fun a=>f8 H a 1 false fun x=>Te x fun x=>c a x
noncomputable def nfa (d:Nat) (v:AV) (c:AV→CRes):CRes:=Tw v (faK d v c)
noncomputable def TE (d:Nat) (H:Heap) (v:AV) (n:Nat) (agg:Bool) (c:AV→AV→CRes):CRes:=Tw v (fld d H v n agg c)
noncomputable def arD (q:IntKind) (d:Nat) (H:Heap) (v:AV) (c:AV→Int→CRes):CRes:=Tw v (iY q d H v c)
noncomputable def nfldB (d:Nat) (H:Heap) (v:AV) (c:AV→Bool→CRes):CRes:=Tw v (fldB d H v c)
noncomputable def eld (sz:Nat) (H:Heap) (v:AV) (i:Int) (n:Nat) (agg:Bool) (c:AV→AV→CRes):CRes:=LC sz v i fun a=>f8 H a n agg fun x=>c a x
noncomputable def Lw (q:IntKind) (sz:Nat) (H:Heap) (v:AV) (i:Int) (c:AV→Int→CRes):CRes:=LC sz v i fun a=>f8 H a 1 false fun x=>Wa q x fun x=>c a x
noncomputable def fst (d:Nat) (H:Heap) (v:AV) (n:Nat) (u:AV) (c:AV→Heap→CRes):CRes:=faK d v fun a=>lS H a n u fun H=>c a H
noncomputable def nfst (d:Nat) (H:Heap) (v:AV) (n:Nat) (u:AV) (c:AV→Heap→CRes):CRes:=Tw v (fst d H v n u c)
def hi0:Bool:=true
def hi1:Bool:=hi0
def hi2:Bool:=hi1
def hi3:Bool:=hi2
def hi4:Bool:=hi3
def hi5:Bool:=hi4
def hi6:Bool:=hi5
def hi7:Bool:=hi6
def hi8:Bool:=hi7
def hi9:Bool:=hi8
def hi10:Bool:=hi9
def hi11:Bool:=hi10
def hi12:Bool:=hi11
def hi13:Bool:=hi12
def hi14:Bool:=hi13
def hi15:Bool:=hi14
def hi16:Bool:=hi15
def hi17:Bool:=hi16
def hi18:Bool:=hi17
def hi19:Bool:=hi18
def hi20:Bool:=hi19
def hi21:Bool:=hi20
def hi22:Bool:=hi21
def hi23:Bool:=hi22
def hi24:Bool:=hi23
def hi25:Bool:=hi24
def hi26:Bool:=hi25
def hi27:Bool:=hi26
def hi28:Bool:=hi27
def hi29:Bool:=hi28
def hi30:Bool:=hi29
def hi31:Bool:=hi30
def hi32:Bool:=hi31
def hi33:Bool:=hi32
def hi34:Bool:=hi33
def hi35:Bool:=hi34
def hi36:Bool:=hi35
def hi37:Bool:=hi36
def hi38:Bool:=hi37
def hi39:Bool:=hi38
def hi40:Bool:=hi39
def hi41:Bool:=hi40
def hi42:Bool:=hi41
def hi43:Bool:=hi42
def hi44:Bool:=hi43
def hi45:Bool:=hi44
def hi46:Bool:=hi45
def hi47:Bool:=hi46
def hi48:Bool:=hi47
def hi49:Bool:=hi48
def hi50:Bool:=hi49
noncomputable def high (a:CRes):CRes:=(fun _:Bool=>a) hi50
noncomputable def ifD (b:Bool) (t e:CRes):CRes:=high (Bool.rec (motive:=fun _=>CRes→CRes→CRes) (fun _ e=>e) (fun t _=>t) b t e)
noncomputable def evK (tm:Tr AV) (x:Opd) (k:AV→CRes):CRes:=high (Opd.casesOn x (fun p=>Option.casesOn (Tr.get p tm) .err k) k)
noncomputable def evsK (tm:Tr AV) (xs:List Opd):(List AV→CRes)→CRes:=
  List.rec (motive:=fun _=>(List AV→CRes)→CRes) (fun k=>k []) (fun x _ ih k=>evK tm x fun v=>ih fun vs=>k (v::vs)) xs
noncomputable def evOK (tm:Tr AV) (x:Option Opd) (k:Option AV→CRes):CRes:=high (Option.casesOn x (k none) fun x=>evK tm x fun v=>k (some v))
noncomputable def evPK (tm:Tr AV) (xs:List (Nat × Nat × Opd)):(List (Nat × Nat × AV)→CRes)→CRes:=
  List.rec (motive:=fun _=>(List (Nat × Nat × AV)→CRes)→CRes) (fun k=>k [])
    (fun x _ ih k=>Prod.casesOn x fun a y=>Prod.casesOn y fun b x=>evK tm x fun v=>ih fun vs=>k ((a,b,v)::vs)) xs
noncomputable def intD (v:AV) (k:IntKind→Int→CRes):CRes:=high (AV.casesOn v (fun _=>.err) k (fun _=>.err) (fun _ _=>.err) .err (fun _ _ _ _ _=>.err) (fun _ _ _=>.err) .err (fun _=>.err) .err (fun _ _ _=>.err) .err (fun _ _=>.err) .err (fun _=>.err) (fun _=>.err))
noncomputable def au0 (v:AV) (k:Bool→CRes):CRes:=high (AV.casesOn v k (fun _ _=>.err) (fun _=>.err) (fun _ _=>.err) .err (fun _ _ _ _ _=>.err) (fun _ _ _=>.err) .err (fun _=>.err) .err (fun _ _ _=>.err) .err (fun _ _=>.err) .err (fun _=>.err) (fun _=>.err))
noncomputable def strD (v:AV) (k:List UInt8→CRes):CRes:=high (AV.casesOn v (fun _=>.err) (fun _ _=>.err) k (fun _ _=>.err) .err (fun _ _ _ _ _=>.err) (fun _ _ _=>.err) .err (fun _=>.err) .err (fun _ _ _=>.err) .err (fun _ _=>.err) .err (fun _=>.err) (fun _=>.err))
noncomputable def extD (ix:Nat) (v:AV) (k:AV→CRes):CRes:=high (AV.rec (motive_1:=fun _=>(AV→CRes)→CRes) (motive_2:=fun _=>Unit) (fun _ _=>.err) (fun _ _ _=>.err) (fun _ _=>.err) (fun _ _ _=>.err) (fun _=>.err) (fun _ _ _ _ _ _=>.err) (fun _ _ _ _=>.err) (fun _=>.err) (fun _ _=>.err) (fun _=>.err) (fun _ _ _ _ _ _=>.err) (fun _=>.err) (fun _ _ _ _=>.err) (fun _=>.err) (fun _ _ _=>.err) (fun l _ k=>oC (nth l ix) k) () (fun _ _ _ _=>()) v k)
noncomputable def vIntD (q:IntKind) (v:AV) (k:Int→CRes):CRes:=high (AV.rec (motive_1:=fun _=>(Int→CRes)→CRes) (motive_2:=fun _=>Unit) (fun _ _=>.err) (fun q' n k=>ifB (Da q q') (k n) .err) (fun _ _=>.err) (fun _ _ _=>.err) (fun _=>.err) (fun _ _ _ _ _ _=>.err) (fun _ _ _ _=>.err) (fun _=>.err) (fun _ _=>.err) (fun _=>.err) (fun _ _ _ _ _ _=>.err) (fun _=>.err) (fun _ _ _ _=>.err) (fun _=>.err) (fun _ _ _=>.err) (fun _ _ _=>.err) () (fun _ _ _ _=>()) v k)
noncomputable def vBoolD (v:AV) (k:Bool→CRes):CRes:=high (AV.rec (motive_1:=fun _=>(Bool→CRes)→CRes) (motive_2:=fun _=>Unit) (fun b k=>k b) (fun _ _ _=>.err) (fun _ _=>.err) (fun _ _ _=>.err) (fun _=>.err) (fun _ _ _ _ _ _=>.err) (fun _ _ _ _=>.err) (fun _=>.err) (fun _ _=>.err) (fun _=>.err) (fun _ _ _ _ _ _=>.err) (fun _=>.err) (fun _ _ _ _=>.err) (fun _=>.err) (fun _ _ _=>.err) (fun _ _ _=>.err) () (fun _ _ _ _=>()) v k)
noncomputable def vStrD (v:AV) (k:List UInt8→CRes):CRes:=high (AV.rec (motive_1:=fun _=>(List UInt8→CRes)→CRes) (motive_2:=fun _=>Unit) (fun _ _=>.err) (fun _ _ _=>.err) (fun s k=>k s) (fun _ _ _=>.err) (fun _=>.err) (fun _ _ _ _ _ _=>.err) (fun _ _ _ _=>.err) (fun _=>.err) (fun _ _=>.err) (fun _=>.err) (fun _ _ _ _ _ _=>.err) (fun _=>.err) (fun _ _ _ _=>.err) (fun _=>.err) (fun _ _ _=>.err) (fun _ _ _=>.err) () (fun _ _ _ _=>()) v k)
noncomputable def binID (op:BinOp) (q q':IntKind) (a b:Int) (k:AV→CRes):CRes:=high (BinOp.casesOn op
    (Bool.casesOn (Da q q') .err (lp q a b fun n=>k (.int q n)))
    (Bool.casesOn (Da q q') .err (YK q a b fun n=>k (.int q n)))
    (Bool.casesOn (Da q q') .err (Ve q a b fun n=>k (.int q n)))
    (Bool.casesOn (Da q q') .err (quoK q a b fun n=>k (.int q n)))
    (Bool.casesOn (Da q q') .err (asT q a b fun n=>k (.int q n)))
    (Bool.casesOn (Da q q') .err (aol .and q a b fun n=>k (.int q n)))
    (Bool.casesOn (Da q q') .err (aol .or q a b fun n=>k (.int q n)))
    (Bool.casesOn (Da q q') .err (aol .xor q a b fun n=>k (.int q n)))
    (al0 q a b fun n=>k (.int q n))
    (shrK q a b fun n=>k (.int q n))
    (Bool.casesOn (Da q q') .err (aol .andNot q a b fun n=>k (.int q n)))
    (Bool.casesOn (Da q q') .err (k (.bool (eqF a b))))
    (Bool.casesOn (Da q q') .err (k (.bool (fS (eqF a b)))))
    (Bool.casesOn (Da q q') .err (k (.bool (ltF a b))))
    (Bool.casesOn (Da q q') .err (k (.bool (fS (ltF b a)))))
    (Bool.casesOn (Da q q') .err (k (.bool (ltF b a))))
    (Bool.casesOn (Da q q') .err (k (.bool (fS (ltF a b))))))
noncomputable def binSD (op:BinOp) (a b:List UInt8) (k:AV→CRes):CRes:=high (BinOp.casesOn op
    (catK a b fun n=>k (.str n)) .err .err .err .err .err .err .err .err .err .err
    (k (.bool (CU a b))) (k (.bool (fS (CU a b)))) .err .err .err .err)
noncomputable def binD (op:BinOp) (u v:AV) (k:AV→CRes):CRes:=high (AV.casesOn u (fun _=>.err) (fun q a=>intD v fun q' b=>binID op q q' a b k) (fun a=>strD v fun b=>binSD op a b k) (fun _ _=>.err) .err (fun _ _ _ _ _=>.err) (fun _ _ _=>.err) .err (fun _=>.err) .err (fun _ _ _=>.err) .err (fun _ _=>.err) .err (fun _=>.err) (fun _=>.err))
noncomputable def opD (o:AOp) (tm:Tr AV) (H:Heap) (k:AV→Heap→CRes):CRes:=AOp.casesOn o
  (fun x=>evK tm x fun v=>k v H)
  (fun c a b=>evK tm c fun v=>au0 v fun t=>ifD t (evK tm a fun v=>k v H) (evK tm b fun v=>k v H))
  (fun x=>evK tm x fun v=>au0 v fun t=>k (.bool (fS t)) H)
  (fun op x y=>evK tm x fun u=>evK tm y fun v=>binD op u v fun r=>k r H)
  (fun e neg x y=>evK tm x fun u=>evK tm y fun v=>EqK.casesOn e (fun n=>ajj (.nil n) u v fun r=>k (.bool (aeZ neg r)) H)
      (au0 u fun a=>au0 v fun b=>k (.bool (aeZ neg (eqBB a b))) H) (fun ks=>ajj (.plain ks) u v fun r=>k (.bool (aeZ neg r)) H))
  (fun q x=>evK tm x fun u=>intD u fun _ n=>Dn q n fun r=>k (.int q r) H)
  (fun z=>Bv H (.cells z true 0) fun b H'=>k (.ptr b 0) H')
  (fun x=>evK tm x fun u=>Dh H u fun b H'=>k (.ptr b 0) H')
  (fun z parts=>evPK tm parts fun ps=>yL z ps fun r=>k r H)
  (fun len z parts=>evPK tm parts fun ps=>pG H len z ps k)
  (fun n agg x=>evK tm x fun u=>f8 H u n agg fun r=>k r H)
  (fun n a x=>evK tm a fun a=>evK tm x fun u=>lS H a n u fun H'=>k .undef H')
  (fun x=>evK tm x fun u=>Tw u (k u H))
  (fun d x=>evK tm x fun u=>faK d u fun r=>k r H)
  (fun sz x i=>evK tm x fun u=>evK tm i fun i=>intD i fun _ i=>LC sz u i fun r=>k r H)
  (fun sz len x i=>evK tm x fun u=>evK tm i fun i=>intD i fun _ i=>Fw sz len u i fun r=>k r H)
  (fun sz len agg x i=>evK tm x fun u=>evK tm i fun i=>intD i fun _ i=>aes sz len agg u i fun r=>k r H)
  (fun x i=>evK tm x fun u=>evK tm i fun i=>strD u fun s=>intD i fun _ i=>idxSK s i fun n=>k (.int .u8 n) H)
  (fun sk x lo hi mx=>evK tm x fun u=>evOK tm lo fun lo=>evOK tm hi fun hi=>evOK tm mx fun mx=>slK sk u lo hi mx fun r=>k r H)
  (fun ix x=>evK tm x fun u=>extD ix u fun r=>k r H)
  (fun f a c=>evsK tm a fun va=>evsK tm c fun cs=>k (.func f va cs) H)
  (Bv H (.mp []) fun b H'=>k (.map b) H')
  (fun z len cap=>evK tm len fun u=>evK tm cap fun v=>intD u fun _ l=>intD v fun _ c=>mkK H z l c k)
  (fun kk z ok m key=>evK tm m fun m=>evK tm key fun u=>Tn H kk z m u fun r b=>Bool.casesOn ok (k r H) (k (.tuple [r,.bool b]) H))
  (fun kk m key x=>evK tm m fun m=>evK tm key fun u=>evK tm x fun y=>aiP H kk m u y fun H'=>k .undef H')
  (fun kk m key=>evK tm m fun m=>evK tm key fun u=>aiE H kk m u fun H'=>k .undef H')
  (fun lk x=>evK tm x fun u=>LenK.casesOn lk (strD u fun s=>aAf s fun n=>k (.int .i64 n) H) (fun n=>k (.int .i64 (.ofNat n)) H)
      (fH u fun n=>k (.int .i64 n) H) (aoB H u fun n=>k (.int .i64 n) H))
  (fun mx xs=>evsK tm xs fun vs=>O1 mx vs fun r=>k r H)
  (fun sz s x=>evK tm s fun s=>evK tm x fun x=>mQ H sz s x k)
  (fun sz d x=>evK tm d fun d=>evK tm x fun x=>copyK H sz d x k)
  (fun z x=>evK tm x fun x=>arT H z x fun H'=>k .undef H')
inductive Ty where
  | any | int (q:IntKind) | bool | str
abbrev Kp:=List (P × Ty)
inductive SC where
  | skip
  | reg (l:List (Option Kp × List Ins))
  | seq (g:Option Kp) (a b:SC)
  | cond (c:Opd) (a b:SC)
  | block (id:Nat) (g:Option Kp) (a:SC)
  | loop (g:Kp) (a:SC)
  | exit (id:Nat)
  | ret
def av8:List (Option Kp × List Ins)→List Ins
  | []=>[]
  | x::l=>x.2++av8 l
def amB:SC→AC
  | .skip=>.skip
  | .reg l=>.reg (av8 l)
  | .seq _ a b=>.seq (amB a) (amB b)
  | .cond c a b=>.cond c (amB a) (amB b)
  | .block id _ a=>.block id (amB a)
  | .loop _ a=>.loop (amB a)
  | .exit id=>.exit id
  | .ret=>.ret
noncomputable def asx (t:Ty) (v:AV) (k:AV→CRes):CRes:=high (Ty.casesOn t (k v)
  (fun q=>vIntD q v fun n=>k (.int q n)) (vBoolD v fun b=>k (.bool b)) (vStrD v fun s=>k (.str s)))
noncomputable def keepGo (tm:Tr AV) (g:Kp):Tr AV→(Tr AV→CRes)→CRes:=
  List.rec (motive:=fun _=>Tr AV→(Tr AV→CRes)→CRes) (fun acc c=>c acc)
    (fun e _ ih acc c=>Prod.casesOn e fun p t=>Option.casesOn (Tr.get p tm) .err fun v=>asx t v fun v=>Tr.setK p v acc fun acc=>ih acc c) g
noncomputable def cI (g:Kp) (s:St) (f:St→CRes):CRes:=St.casesOn s fun tm H=>keepGo tm g .leaf fun tm=>f ⟨tm,H⟩
noncomputable def jn (g:Option Kp) (f:St→CRes):St→CRes:=Option.casesOn g f fun g s=>cI g s f
noncomputable def putT (ty:Tr Ty) (d:Option P) (v:AV) (tm:Tr AV) (k:Tr AV→CRes):CRes:=high (Option.casesOn d (k tm) fun p=>
  Option.casesOn (Tr.get p ty) (Tr.setK p v tm k) fun t=>asx t v fun v=>Tr.setK p v tm k)
noncomputable def isD (tm:Tr AV) (p:P) (kt kf ko:Tr AV→CRes):CRes:=high (Option.casesOn (Tr.get p tm) .err fun v=>
  AV.casesOn v (fun b=>ifD b (Tr.setK p (.bool true) tm kt) (Tr.setK p (.bool false) tm kf)) (fun _ _=>ko tm) (fun _=>ko tm) (fun _ _=>ko tm) (ko tm) (fun _ _ _ _ _=>ko tm) (fun _ _ _=>ko tm) (ko tm) (fun _=>ko tm) (ko tm) (fun _ _ _=>ko tm) (ko tm) (fun _ _=>ko tm) (ko tm) (fun _=>ko tm) (fun _=>ko tm))
noncomputable def arV (g:Gd) (tm:Tr AV) (ky kn:Tr AV→CRes):CRes:=high (Gd.casesOn g (ky tm) fun p want=>Bool.casesOn want (isD tm p kn ky kn) (isD tm p ky kn kn))
noncomputable def dH (c:Opd) (s:St) (ka kb:St→CRes):CRes:=high (St.casesOn s fun tm H=>Opd.casesOn c
  (fun p=>isD tm p (fun tm=>ka ⟨tm,H⟩) (fun tm=>kb ⟨tm,H⟩) (fun _=>.err)) (fun v=>au0 v fun b=>ifD b (ka ⟨tm,H⟩) (kb ⟨tm,H⟩)))
abbrev dD:=AV→List AV→Heap→(AV→Heap→CRes)→CRes
noncomputable def insD (cf:dD) (ty:Tr Ty) (x:Ins) (s:St) (k:St→CRes):CRes:=St.casesOn s fun tm H=>Ins.casesOn x
  (fun g d o=>arV g tm (fun tm=>opD o tm H fun v H'=>putT ty d v tm fun tm=>k ⟨tm,H'⟩) (fun tm=>putK tm d .undef fun tm=>k ⟨tm,H⟩))
  (fun g d q f args=>arV g tm (fun tm=>evK tm f fun fv=>evsK tm args fun vs=>
      Bool.casesOn q (cf fv vs H fun v H'=>putT ty d v tm fun tm=>k ⟨tm,H'⟩)
        (cf fv vs (H.shut true) fun v H'=>putT ty d v tm fun tm=>k ⟨tm,H'.back H.ro⟩))
    (fun tm=>putK tm d .undef fun tm=>k ⟨tm,H⟩))
noncomputable def bE (cf:dD) (ty:Tr Ty) (l:List Ins):(St→CRes)→St→CRes:=
  List.rec (motive:=fun _=>(St→CRes)→St→CRes) (fun k s=>k s) (fun x _ ih k s=>insD cf ty x s (ih k)) l
noncomputable def regsD (cf:dD) (ty:Tr Ty) (l:List (Option Kp × List Ins)):(St→CRes)→St→CRes:=
  List.rec (motive:=fun _=>(St→CRes)→St→CRes) (fun k s=>k s) (fun x _ ih k s=>Prod.casesOn x fun g l=>bE cf ty l (jn g (ih k)) s) l
noncomputable def loopD (g:Kp) (body:(St→CRes)→St→CRes) (n:Nat):St→CRes:=
  Nat.rec (motive:=fun _=>St→CRes) (fun _=>.err) (fun _ F s=>body (fun s=>cI g s F) s) n
noncomputable def D (cf:dD) (ty:Tr Ty) (n:Nat) (c:SC):(St→CRes)→(Nat→St→CRes)→(St→CRes)→St→CRes:=
  SC.rec (motive:=fun _=>(St→CRes)→(Nat→St→CRes)→(St→CRes)→St→CRes)
  (fun kn _ _ s=>kn s)
  (fun l kn _ _ s=>regsD cf ty l kn s)
  (fun g _ _ iha ihb kn ke kr s=>iha (jn g (ihb kn ke kr)) ke kr s)
  (fun c _ _ iha ihb kn ke kr s=>dH c s (iha kn ke kr) (ihb kn ke kr))
  (fun id g _ iha kn ke kr s=>iha (jn g kn) (fun i s=>Bool.casesOn (Nat.beq i id) (ke i s) (jn g kn s)) kr s)
  (fun g _ iha _ ke kr s=>cI g s (loopD g (fun F=>iha F ke kr) n))
  (fun id _ ke _ s=>ke id s)
  (fun _ _ kr s=>kr s) c
noncomputable def fJ (g:Kp):List AV→Tr AV→(Tr AV→CRes)→CRes:=
  List.rec (motive:=fun _=>List AV→Tr AV→(Tr AV→CRes)→CRes) (fun vs tm k=>List.casesOn vs (k tm) (fun _ _=>.err))
    (fun e _ ih vs tm k=>List.casesOn vs .err fun v vs=>Prod.casesOn e fun p t=>asx t v fun v=>Tr.setK p v tm fun tm=>ih vs tm k) g
noncomputable def rvK (r:Rv) (s:St) (k:AV→CRes):CRes:=high (St.casesOn s fun tm H=>Rv.casesOn r (fun p=>Option.casesOn (Tr.get p tm) .err k)
  (fun p n agg=>Option.casesOn (Tr.get p tm) .err fun v=>f8 H v n agg k))
noncomputable def finGo (rs:List (Rv × Ty)) (s:St):(List AV→CRes)→CRes:=
  List.rec (motive:=fun _=>(List AV→CRes)→CRes) (fun k=>k []) (fun x _ ih k=>Prod.casesOn x fun r t=>rvK r s fun v=>asx t v fun v=>ih fun vs=>k (v::vs)) rs
noncomputable def oneK (vs:List AV):AV:=List.casesOn vs (.tuple []) fun v t=>List.casesOn t v (fun _ _=>.tuple vs)
noncomputable def cG (rs:List (Rv × Ty)) (k:AV→Heap→CRes) (s:St):CRes:=finGo rs s fun vs=>k (oneK vs) s.hp
abbrev Wr:=List AV→Heap→(AV→Heap→CRes)→CRes
noncomputable def findW (f:Nat) (l:List (Nat × Wr)):Option Wr:=
  List.rec (motive:=fun _=>Option Wr) none (fun e _ ih=>Prod.casesOn e fun g w=>Bool.casesOn (Nat.beq f g) ih (some w)) l
noncomputable def ez (l:List (Nat × Wr)):dD:=fun fv vs H k=>AV.casesOn fv (fun _=>.err) (fun _ _=>.err) (fun _=>.err) (fun _ _=>.err) .err (fun _ _ _ _ _=>.err) (fun _ _ _=>.err) .err (fun _=>.err) .err
  (fun f first cap=>Option.casesOn (findW f l) .err fun w=>w (UB first (UB vs cap id) id) H k) .err (fun _ _=>.err) .err (fun _=>.err) (fun _=>.err)
noncomputable def W (ps:Kp) (rs:List (Rv × Ty)) (l:List (Nat × Wr)) (ty:Tr Ty) (n:Nat) (c:SC):Wr:=fun args H k=>
  fJ ps args .leaf fun tm=>D (ez l) ty n c (cG rs k) (fun _ _=>.err) (cG rs k) ⟨tm,H⟩
noncomputable def nH (q:IntKind) (args:List AV) (k:Int→List AV→CRes):CRes:=List.casesOn args .err fun v t=>Wa q v fun n=>k n t
noncomputable def aBool (args:List AV) (k:Bool→List AV→CRes):CRes:=List.casesOn args .err fun v t=>Te v fun n=>k n t
noncomputable def kL (args:List AV) (k:AV→List AV→CRes):CRes:=List.casesOn args .err k
noncomputable def lw (args:List AV) (k:CRes):CRes:=List.casesOn args k (fun _ _=>.err)
noncomputable def cH (l:List (P × AV)):Tr AV:=List.rec (motive:=fun _=>Tr AV→Tr AV) (fun t=>t) (fun e _ ih t=>Tr.setK e.1 e.2 t ih) l .leaf
end Go.Ai
