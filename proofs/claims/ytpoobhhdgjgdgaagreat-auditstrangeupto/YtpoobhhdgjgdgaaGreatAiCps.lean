/- The interpreter's code in continuation style: what is left of an operation when all that is fixed has been carried out; code with notes on what lives and of which kind it is. -/
import Derived.Test.YtpoobhhdgjgdgaaGreatAiCallSym
set_option linter.all false
namespace Go.Ai
noncomputable def nV:Nat→(Nat→aa)→aa:=Nat.rec (motive:=fun _=>(Nat→aa)→aa) (fun c=>c 0) (fun k _ c=>c (Nat.succ k))
noncomputable def ifB:Bool→aa→aa→aa:=Bool.rec (motive:=fun _=>aa→aa→aa) (fun _ e=>e) (fun t _=>t)
noncomputable def iC:Int→(Nat→aa)→(Nat→aa)→aa:=Int.rec (motive:=fun _=>(Nat→aa)→(Nat→aa)→aa) (fun m f _=>f m) (fun m _ g=>g m)
noncomputable def ahY:Int→(Nat→aa)→aa:=Int.rec (motive:=fun _=>(Nat→aa)→aa) (fun m f=>f m) (fun _ _=>.err)
noncomputable def oC {α:Type}:Option α→(α→aa)→aa:=Option.rec (motive:=fun _=>(α→aa)→aa) (fun _=>.err) (fun a k=>k a)
noncomputable def A9 (n:Int) (c:Int→aa):aa:=iC n (fun m=>nV m fun m=>c (.ofNat m)) (fun m=>nV m fun m=>c (.negSucc m))
noncomputable def ikN:IntKind→Nat:=IntKind.rec (motive:=fun _=>Nat) 0 1 2 3 4 5 6 7
noncomputable def NM (q q':IntKind):Bool:=Nat.beq (ikN q) (ikN q')
noncomputable def ikTop:IntKind→Nat:=IntKind.rec (motive:=fun _=>Nat) 128 32768 2147483648 9223372036854775808 256 65536 4294967296 18446744073709551616
noncomputable def aoc:IntKind→Bool:=IntKind.rec (motive:=fun _=>Bool) true true true true false false false false
noncomputable def jK:Bool→Bool:=Bool.rec (motive:=fun _=>Bool) true false
noncomputable def andB:Bool→Bool→Bool:=Bool.rec (motive:=fun _=>Bool→Bool) (fun _=>false) (fun b=>b)
noncomputable def eqBB:Bool→Bool→Bool:=Bool.rec (motive:=fun _=>Bool→Bool) (fun b=>jK b) (fun b=>b)
noncomputable def xorB:Bool→Bool→Bool:=Bool.rec (motive:=fun _=>Bool→Bool) (fun b=>b) (fun b=>jK b)
noncomputable def an5 (q:IntKind) (m:Nat) (c:Int→aa):aa:=nV m fun m=>ifB (Nat.blt m (ikTop q)) (c (.ofNat m)) (A9 (q.wrap (.ofNat m)) c)
noncomputable def wrapM (q:IntKind) (m:Nat) (c:Int→aa):aa:=nV m fun m=>ifB (andB (aoc q) (Nat.blt m (ikTop q))) (c (.negSucc m)) (A9 (q.wrap (.negSucc m)) c)
noncomputable def uq (q:IntKind) (n:Int) (c:Int→aa):aa:=iC n (fun m=>an5 q m c) (fun m=>wrapM q m c)
noncomputable def la (q:IntKind) (a b:Int) (c:Int→aa):aa:=iC a (fun x=>iC b (fun y=>an5 q (Nat.add x y) c) (fun _=>uq q (Cw a b) c)) (fun _=>uq q (Cw a b) c)
noncomputable def PU (q:IntKind) (a b:Int) (c:Int→aa):aa:=uq q (subF a b) c
noncomputable def A7 (q:IntKind) (a b:Int) (c:Int→aa):aa:=iC a (fun x=>iC b (fun y=>an5 q (Nat.mul x y) c) (fun _=>uq q (mulF a b) c)) (fun _=>uq q (mulF a b) c)
noncomputable def quoK (q:IntKind) (a b:Int) (c:Int→aa):aa:=ifB (isZ b) .err (uq q (divF a b) c)
noncomputable def afl (q:IntKind) (a b:Int) (c:Int→aa):aa:=ifB (isZ b) .err (A9 (modF a b) c)
noncomputable def ae8 (op:BinOp) (q:IntKind) (a b:Int) (c:Int→aa):aa:=oC (F8 op q a b) fun n=>A9 n c
noncomputable def shlK (q:IntKind) (a b:Int) (c:Int→aa):aa:=ahY b fun n=>uq q (shlF q a n) c
noncomputable def shrK (q:IntKind) (a b:Int) (c:Int→aa):aa:=ahY b fun n=>A9 (shrF q a n) c
noncomputable def catK (a b:List UInt8) (c:List UInt8→aa):aa:=ifB (Nat.ble (Nat.add (sZ a) (sZ b)) 1099511627776) (ZK a b c) .err
noncomputable def D9 (q:IntKind):AV→(Int→aa)→aa:=AV.rec (motive_1:=fun _=>(Int→aa)→aa) (motive_2:=fun _=>Unit) (fun _ _=>.err) (fun q' n k=>ifB (NM q q') (k n) .err) (fun _ _=>.err) (fun _ _ _=>.err) (fun _=>.err) (fun _ _ _ _ _ _=>.err) (fun _ _ _ _=>.err) (fun _=>.err) (fun _ _=>.err) (fun _=>.err) (fun _ _ _ _ _ _=>.err) (fun _=>.err) (fun _ _ _ _=>.err) (fun _=>.err) (fun _ _ _=>.err) (fun _ _ _=>.err) () (fun _ _ _ _=>())
noncomputable def JN:AV→(Bool→aa)→aa:=AV.rec (motive_1:=fun _=>(Bool→aa)→aa) (motive_2:=fun _=>Unit) (fun b k=>k b) (fun _ _ _=>.err) (fun _ _=>.err) (fun _ _ _=>.err) (fun _=>.err) (fun _ _ _ _ _ _=>.err) (fun _ _ _ _=>.err) (fun _=>.err) (fun _ _=>.err) (fun _=>.err) (fun _ _ _ _ _ _=>.err) (fun _=>.err) (fun _ _ _ _=>.err) (fun _=>.err) (fun _ _ _=>.err) (fun _ _ _=>.err) () (fun _ _ _ _=>())
noncomputable def vStr:AV→(List UInt8→aa)→aa:=AV.rec (motive_1:=fun _=>(List UInt8→aa)→aa) (motive_2:=fun _=>Unit) (fun _ _=>.err) (fun _ _ _=>.err) (fun s k=>k s) (fun _ _ _=>.err) (fun _=>.err) (fun _ _ _ _ _ _=>.err) (fun _ _ _ _=>.err) (fun _=>.err) (fun _ _=>.err) (fun _=>.err) (fun _ _ _ _ _ _=>.err) (fun _=>.err) (fun _ _ _ _=>.err) (fun _=>.err) (fun _ _ _=>.err) (fun _ _ _=>.err) () (fun _ _ _ _=>())
noncomputable def akI:AV→(Nat→Nat→aa)→aa:=AV.rec (motive_1:=fun _=>(Nat→Nat→aa)→aa) (motive_2:=fun _=>Unit) (fun _ _=>.err) (fun _ _ _=>.err) (fun _ _=>.err) (fun b o k=>k b o) (fun _=>.err) (fun _ _ _ _ _ _=>.err) (fun _ _ _ _=>.err) (fun _=>.err) (fun _ _=>.err) (fun _=>.err) (fun _ _ _ _ _ _=>.err) (fun _=>.err) (fun _ _ _ _=>.err) (fun _=>.err) (fun _ _ _=>.err) (fun _ _ _=>.err) () (fun _ _ _ _=>())
noncomputable def asSlc:AV→(Nat→Nat→Nat→aa)→aa:=AV.rec (motive_1:=fun _=>(Nat→Nat→Nat→aa)→aa) (motive_2:=fun _=>Unit) (fun _ _=>.err) (fun _ _ _=>.err) (fun _ _=>.err) (fun _ _ _=>.err) (fun _=>.err) (fun b o l _ _ k=>k b o l) (fun _ _ _ _=>.err) (fun _=>.err) (fun _ _=>.err) (fun _=>.err) (fun _ _ _ _ _ _=>.err) (fun _=>.err) (fun _ _ _ _=>.err) (fun _=>.err) (fun _ _ _=>.err) (fun _ _ _=>.err) () (fun _ _ _ _=>())
noncomputable def asMap:AV→(Nat→aa)→aa:=AV.rec (motive_1:=fun _=>(Nat→aa)→aa) (motive_2:=fun _=>Unit) (fun _ _=>.err) (fun _ _ _=>.err) (fun _ _=>.err) (fun _ _ _=>.err) (fun _=>.err) (fun _ _ _ _ _ _=>.err) (fun _ _ _ _=>.err) (fun _=>.err) (fun b k=>k b) (fun _=>.err) (fun _ _ _ _ _ _=>.err) (fun _=>.err) (fun _ _ _ _=>.err) (fun _=>.err) (fun _ _ _=>.err) (fun _ _ _=>.err) () (fun _ _ _ _=>())
noncomputable def asAgg:AV→(List AV→aa)→aa:=AV.rec (motive_1:=fun _=>(List AV→aa)→aa) (motive_2:=fun _=>Unit) (fun _ _=>.err) (fun _ _ _=>.err) (fun _ _=>.err) (fun _ _ _=>.err) (fun _=>.err) (fun _ _ _ _ _ _=>.err) (fun _ _ _ _=>.err) (fun _=>.err) (fun _ _=>.err) (fun _=>.err) (fun _ _ _ _ _ _=>.err) (fun _=>.err) (fun _ _ _ _=>.err) (fun _=>.err) (fun l _ k=>k l) (fun _ _ _=>.err) () (fun _ _ _ _=>())
noncomputable def P2:AV→aa→aa:=AV.rec (motive_1:=fun _=>aa→aa) (motive_2:=fun _=>Unit) (fun _ _=>.err) (fun _ _ _=>.err) (fun _ _=>.err) (fun _ _ r=>r) (fun _=>.err) (fun _ _ _ _ _ _=>.err) (fun _ _ _ _=>.err) (fun _=>.err) (fun _ _=>.err) (fun _=>.err) (fun _ _ _ _ _ r=>r) (fun _=>.err) (fun _ _ _ _=>.err) (fun _=>.err) (fun _ _ _=>.err) (fun _ _ _=>.err) () (fun _ _ _ _=>())
noncomputable def nilB:NilK→AV→Option Bool:=NilK.rec (motive:=fun _=>AV→Option Bool) (AV.rec (motive_1:=fun _=>Option Bool) (motive_2:=fun _=>Unit) (fun _=>none) (fun _ _=>none) (fun _=>none) (fun _ _=>some false) (some true) (fun _ _ _ _ _=>none) (fun _ _ _=>none) (none) (fun _=>none) (none) (fun _ _ _ _ _=>none) (none) (fun _ _ _=>none) (none) (fun _ _=>none) (fun _ _=>none) () (fun _ _ _ _=>())) (AV.rec (motive_1:=fun _=>Option Bool) (motive_2:=fun _=>Unit) (fun _=>none) (fun _ _=>none) (fun _=>none) (fun _ _=>none) (none) (fun _ _ _ _ _=>some false) (fun _ _ _=>some false) (some true) (fun _=>none) (none) (fun _ _ _ _ _=>none) (none) (fun _ _ _=>none) (none) (fun _ _=>none) (fun _ _=>none) () (fun _ _ _ _=>())) (AV.rec (motive_1:=fun _=>Option Bool) (motive_2:=fun _=>Unit) (fun _=>none) (fun _ _=>none) (fun _=>none) (fun _ _=>none) (none) (fun _ _ _ _ _=>none) (fun _ _ _=>none) (none) (fun _=>some false) (some true) (fun _ _ _ _ _=>none) (none) (fun _ _ _=>none) (none) (fun _ _=>none) (fun _ _=>none) () (fun _ _ _ _=>())) (AV.rec (motive_1:=fun _=>Option Bool) (motive_2:=fun _=>Unit) (fun _=>none) (fun _ _=>none) (fun _=>none) (fun _ _=>none) (none) (fun _ _ _ _ _=>none) (fun _ _ _=>none) (none) (fun _=>none) (none) (fun _ _ _ _ _=>some false) (some true) (fun _ _ _=>none) (none) (fun _ _=>none) (fun _ _=>none) () (fun _ _ _ _=>()))
noncomputable def eqRK:EqK→AV→AV→(Bool→aa)→aa:=EqK.rec (motive:=fun _=>AV→AV→(Bool→aa)→aa)
  (fun k x y c=>oC (nilB k x) fun a=>oC (nilB k y) fun b=>ifB a (c b) (ifB b (c false) .err))
  (fun x y c=>oC (eqK .bool x y) c) (fun ks x y c=>oC (eqK (.plain ks) x y) c)
noncomputable def akQ:AV→(List AV→aa)→aa→aa:=AV.rec (motive_1:=fun _=>(List AV→aa)→aa→aa) (motive_2:=fun _=>Unit) (fun _ _ c=>c) (fun _ _ _ c=>c) (fun _ _ c=>c) (fun _ _ _ c=>c) (fun _ c=>c) (fun _ _ _ _ _ _ c=>c) (fun _ _ _ _ c=>c) (fun _ c=>c) (fun _ _ c=>c) (fun _ c=>c) (fun _ _ _ _ _ _ c=>c) (fun _ c=>c) (fun _ _ _ _ c=>c) (fun _ c=>c) (fun l _ f _=>f l) (fun _ _ _ _=>.err) () (fun _ _ _ _=>())
noncomputable def getB:P→Tr Blk→(Blk→aa)→aa:=P.rec (motive:=fun _=>Tr Blk→(Blk→aa)→aa)
  (Tr.rec (motive:=fun _=>(Blk→aa)→aa) (fun _=>.err) (fun _ v _ _ _ k=>oC v k))
  (fun _ ih=>Tr.rec (motive:=fun _=>(Blk→aa)→aa) (fun _=>.err) (fun l _ _ _ _ k=>ih l k))
  (fun _ ih=>Tr.rec (motive:=fun _=>(Blk→aa)→aa) (fun _=>.err) (fun _ _ r _ _ k=>ih r k))
noncomputable def setB:P→Blk→Tr Blk→(Tr Blk→aa)→aa:=P.rec (motive:=fun _=>Blk→Tr Blk→(Tr Blk→aa)→aa)
  (fun x=>Tr.rec (motive:=fun _=>(Tr Blk→aa)→aa) (fun k=>k (.node .leaf (some x) .leaf)) (fun l _ r _ _ k=>k (.node l (some x) r)))
  (fun _ ih x=>Tr.rec (motive:=fun _=>(Tr Blk→aa)→aa) (fun k=>ih x .leaf fun l=>k (.node l none .leaf)) (fun l v r _ _ k=>ih x l fun l=>k (.node l v r)))
  (fun _ ih x=>Tr.rec (motive:=fun _=>(Tr Blk→aa)→aa) (fun k=>ih x .leaf fun r=>k (.node .leaf none r)) (fun l v r _ _ k=>ih x r fun r=>k (.node l v r)))
noncomputable def blkC:Blk→(List AV→Bool→Nat→aa)→aa:=Blk.rec (motive:=fun _=>(List AV→Bool→Nat→aa)→aa) (fun l rw g k=>k l rw g) (fun _ _=>.err) (fun _=>.err)
noncomputable def lG:Heap→Blk→(Nat→Heap→aa)→aa:=Heap.rec (motive:=fun _=>Blk→(Nat→Heap→aa)→aa)
  (fun t nx ro x c=>setB (key nx) x t fun t=>nV (Nat.succ nx) fun nx'=>c nx ⟨t,nx',ro⟩)
noncomputable def setX:Heap→Nat→Blk→(Heap→aa)→aa:=Heap.rec (motive:=fun _=>Nat→Blk→(Heap→aa)→aa)
  (fun t nx ro b x c=>setB (key b) x t fun t=>c ⟨t,nx,ro⟩)
noncomputable def GO (H:Heap) (b:Nat) (c:List AV→aa):aa:=getB (key b) H.t fun x=>blkC x fun l _ _=>c l
noncomputable def ownX (H:Heap) (b:Nat) (c:List AV→Nat→aa):aa:=ifB (Nat.blt b H.ro) .err (getB (key b) H.t fun x=>blkC x fun l rw g=>ifB rw (c l g) .err)
noncomputable def nthX:List AV→Nat→(AV→aa)→aa:=List.rec (motive:=fun _=>Nat→(AV→aa)→aa) (fun _ _=>.err)
  (fun a _ ih=>Nat.rec (motive:=fun _=>(AV→aa)→aa) (fun k=>k a) (fun i _ k=>ih i k))
noncomputable def aib (x:AV):List AV→Nat→(List AV→aa)→aa:=List.rec (motive:=fun _=>Nat→(List AV→aa)→aa) (fun _ _=>.err)
  (fun a t ih=>Nat.rec (motive:=fun _=>(List AV→aa)→aa) (fun k=>k (x::t)) (fun i _ k=>ih i fun t=>k (a::t)))
noncomputable def ak0:List AV→List AV→(List AV→aa)→aa:=List.rec (motive:=fun _=>List AV→(List AV→aa)→aa) (fun l k=>k l)
  (fun x _ ih=>List.rec (motive:=fun _=>(List AV→aa)→aa) (fun _=>.err) (fun _ t _ k=>ih t fun t=>k (x::t)))
noncomputable def alb (cs:List AV):List AV→Nat→(List AV→aa)→aa:=List.rec (motive:=fun _=>Nat→(List AV→aa)→aa)
  (Nat.rec (motive:=fun _=>(List AV→aa)→aa) (fun k=>ak0 cs [] k) (fun _ _ _=>.err))
  (fun a t ih=>Nat.rec (motive:=fun _=>(List AV→aa)→aa) (fun k=>ak0 cs (a::t) k) (fun i _ k=>ih i fun t=>k (a::t)))
noncomputable def qR (H:Heap) (v:AV) (c:Nat→Heap→aa):aa:=akQ v (fun l=>lG H (.cells l true 0) c) (lG H (.cells [v] true 0) c)
noncomputable def aiM (parts:List (Nat × Nat × AV)):List AV→(List AV→aa)→aa:=
  List.rec (motive:=fun _=>List AV→(List AV→aa)→aa) (fun z k=>k z)
    (fun p _ ih z k=>akQ p.2.2 (fun l=>ifB (Nat.beq (sZ l) p.2.1) (alb l z p.1 fun z=>ih z k) .err) (ifB (Nat.beq 1 p.2.1) (aib p.2.2 z p.1 fun z=>ih z k) .err)) parts
noncomputable def kM (z:List AV) (parts:List (Nat × Nat × AV)) (c:AV→aa):aa:=aiM parts z fun l=>c (.agg l)
noncomputable def l8 (H:Heap) (len:Nat) (z:List AV) (parts:List (Nat × Nat × AV)) (c:AV→Heap→aa):aa:=
  aiM parts z fun l=>lG H (.cells l true 0) fun b H'=>c (.slice b 0 len 0 false) H'
noncomputable def jg (H:Heap) (v:AV) (n:Nat) (agg:Bool) (c:AV→aa):aa:=
  akI v fun b off=>GO H b fun l=>ifB agg (oC (sub l off n) fun cs=>c (.agg cs)) (ifB (Nat.beq n 1) (nthX l off c) .err)
noncomputable def jf (H:Heap) (a:AV) (n:Nat) (u:AV) (c:Heap→aa):aa:=
  akI a fun b off=>ownX H b fun l g=>akQ u (fun cs=>ifB (Nat.beq (sZ cs) n) (alb cs l off fun l=>setX H b (.cells l true g) c) .err)
    (ifB (Nat.beq 1 n) (aib u l off fun l=>setX H b (.cells l true g) c) .err)
noncomputable def faK (d:Nat) (v:AV) (c:AV→aa):aa:=akI v fun b off=>nV (Nat.add off d) fun o=>c (.ptr b o)
noncomputable def Qc (sz:Nat) (v:AV) (i:Int) (c:AV→aa):aa:=asSlc v fun b off len=>ahY i fun j=>ifB (Nat.blt j len) (nV (Nat.add off (Nat.mul j sz)) fun o=>c (.ptr b o)) .err
noncomputable def Iv (sz len:Nat) (v:AV) (i:Int) (c:AV→aa):aa:=akI v fun b off=>ahY i fun j=>ifB (Nat.blt j len) (nV (Nat.add off (Nat.mul j sz)) fun o=>c (.ptr b o)) .err
noncomputable def aeA (sz len:Nat) (agg:Bool) (v:AV) (i:Int) (c:AV→aa):aa:=asAgg v fun cs=>ahY i fun j=>ifB (Nat.blt j len)
  (nV (Nat.mul j sz) fun o=>oC (sub cs o sz) fun l=>oC (HE agg l) c) .err
noncomputable def idxSK (s:List UInt8) (i:Int) (c:Int→aa):aa:=ahY i fun j=>oC (nth s j) fun ch=>nV ch.toNat fun n=>c (.ofNat n)
noncomputable def Xh (x:Option AV) (dflt Zj:Nat):Option Nat:=
  Option.casesOn x (some dflt) fun v=>
    match v with
    | .int _ i=>LG i none fun n=>Bool.casesOn (Nat.ble n Zj) none (some n)
    | _=>none
noncomputable def slV (k:SlK) (v:AV) (lo hi mx:Option AV):Option AV:=
  match k,v with
  | .str,.str s=>
    match mx with
    | some _=>none
    | none=>Option.casesOn (Xh hi s.length s.length) none fun h=>Option.casesOn (Xh lo 0 h) none fun l=>some (.str ((skp s l).take (h-l)))
  | .sl sz,.slice b off len ext opn=>
    Option.casesOn (Xh mx (len+ext) (len+ext)) none fun m=>
    Option.casesOn (Xh hi len m) none fun h=>
    Option.casesOn (Xh lo 0 h) none fun l=>
    match mx,hi with
    | some _,none=>none
    | some _,some _=>some (.slice b (if m=l then off else off+l*sz) (h-l) (m-h) false)
    | none,_=>
      if opn then (if m=l then some (.send b off (off+l*sz)) else some (.slice b (off+l*sz) (h-l) (m-h) true))
      else some (.slice b (if m=l then off else off+l*sz) (h-l) (m-h) false)
  | .sl _,.nilslice=>
    Option.casesOn (Xh mx 0 0) none fun m=>Option.casesOn (Xh hi 0 m) none fun h=>Option.casesOn (Xh lo 0 h) none fun _=>
    match mx,hi with
    | some _,none=>none
    | _,_=>some .nilslice
  | .arr n sz,.ptr b off=>
    Option.casesOn (Xh mx n n) none fun m=>
    Option.casesOn (Xh hi n m) none fun h=>
    Option.casesOn (Xh lo 0 h) none fun l=>
    match mx,hi with
    | some _,none=>none
    | _,_=>some (.slice b (if m=l then off else off+l*sz) (h-l) (m-h) false)
  | _,_=>none
noncomputable def apF (v:AV):(AV→aa)→aa:=AV.rec (motive_1:=fun _=>(AV→aa)→aa) (motive_2:=fun _=>Unit) (fun _ c=>c v) (fun _ _ c=>c v) (fun _ c=>c v) (fun _ _ c=>c v) (fun c=>c v) (fun b o l e p c=>nV b fun b=>nV o fun o=>nV l fun l=>nV e fun e=>ifB p (c (.slice b o l e true)) (c (.slice b o l e false))) (fun _ _ _ c=>c v) (fun c=>c v) (fun _ c=>c v) (fun c=>c v) (fun _ _ _ _ _ c=>c v) (fun c=>c v) (fun _ _ _ c=>c v) (fun c=>c v) (fun _ _ c=>c v) (fun _ _ c=>c v) () (fun _ _ _ _=>()) v
noncomputable def forceH:Heap→(Heap→aa)→aa:=Heap.rec (motive:=fun _=>(Heap→aa)→aa) (fun t nx ro c=>nV nx fun nx=>c ⟨t,nx,ro⟩)
noncomputable def slK (k:SlK) (v:AV) (lo hi mx:Option AV) (c:AV→aa):aa:=oC (slV k v lo hi mx) fun r=>apF r c
noncomputable def mkK (H:Heap) (z:List AV) (l n:Int) (c:AV→Heap→aa):aa:=ahY l fun l=>ahY n fun n=>
  ifB (andB (Nat.ble l n) (Nat.ble n Zj)) (lG H (.cells (LW z n) true 0) fun b H'=>nV (Nat.sub n l) fun e=>c (.slice b 0 l e false) H') .err
noncomputable def mapOf (H:Heap):AV→Option (List (AV × AV)):=AV.rec (motive_1:=fun _=>Option (List (AV × AV))) (motive_2:=fun _=>Unit) (fun _=>none) (fun _ _=>none) (fun _=>none) (fun _ _=>none) (none) (fun _ _ _ _ _=>none) (fun _ _ _=>none) (none) (fun b=>Jg H b) (some []) (fun _ _ _ _ _=>none) (none) (fun _ _ _=>none) (none) (fun _ _=>none) (fun _ _=>none) () (fun _ _ _ _=>())
noncomputable def CD (H:Heap) (kk:dh) (z m u:AV) (c:AV→Bool→aa):aa:=
  oC (mapOf H m) fun es=>oC (oh kk u u) fun _=>oC (Gj kk u es) fun r=>Option.rec (motive:=fun _=>aa) (c z false) (fun x=>c x true) r
noncomputable def aaw (H:Heap) (kk:dh) (m u y:AV) (c:Heap→aa):aa:=
  asMap m fun b=>ifB (Nat.blt b H.ro) .err (oC (Jg H b) fun es=>oC (oh kk u u) fun _=>oC (Tx kk u y es) fun es'=>setX H b (.mp es') c)
noncomputable def mapdelF (H:Heap) (kk:dh) (m u:AV):Option Heap:=Option.casesOn (oh kk u u) none fun _=>match m with
      | .map b=>Bool.casesOn (Nat.blt b H.ro) (Option.casesOn (Jg H b) none fun es=>Option.casesOn (delF kk u es) none fun es'=>H.setK b (.mp es') some) none
      | .nilmap=>some H
      | _=>none
noncomputable def mapdelK (H:Heap) (kk:dh) (m u:AV) (c:Heap→aa):aa:=oC (mapdelF H kk m u) c
noncomputable def lenStrK (s:List UInt8) (c:Int→aa):aa:=nV (sZ s) fun n=>c (.ofNat n)
noncomputable def jC:AV→(Int→aa)→aa:=AV.rec (motive_1:=fun _=>(Int→aa)→aa) (motive_2:=fun _=>Unit) (fun _ _=>.err) (fun _ _ _=>.err) (fun _ _=>.err) (fun _ _ _=>.err) (fun _=>.err) (fun _ _ l _ _ c=>c (.ofNat l)) (fun _ _ _ c=>c (.ofNat 0)) (fun c=>c (.ofNat 0)) (fun _ _=>.err) (fun _=>.err) (fun _ _ _ _ _ _=>.err) (fun _=>.err) (fun _ _ _ _=>.err) (fun _=>.err) (fun _ _ _=>.err) (fun _ _ _=>.err) () (fun _ _ _ _=>())
noncomputable def lenMpK (H:Heap) (v:AV) (c:Int→aa):aa:=oC (mapOf H v) fun es=>nV (sZ es) fun n=>c (.ofNat n)
noncomputable def tg (mx:Bool) (vs:List AV) (c:AV→aa):aa:=List.casesOn vs .err fun v vs=>oC (KZ mx v vs) c
noncomputable def outK (r:Option (AV × Heap)) (c:AV→Heap→aa):aa:=oC r fun r=>Prod.rec (motive:=fun _=>aa) c r
noncomputable def rX (H:Heap) (sz:Nat) (s x:AV) (c:AV→Heap→aa):aa:=outK (Ch H sz s x) fun v H'=>apF v fun v=>forceH H' fun H'=>c v H'
noncomputable def copyK (H:Heap) (sz:Nat) (d x:AV) (c:AV→Heap→aa):aa:=outK (anq H sz d x) c
noncomputable def clearK (H:Heap) (z:List AV) (x:AV) (c:Heap→aa):aa:=outK (ady H z x) fun _ H'=>c H'
noncomputable def ldI (q:IntKind) (H:Heap) (v:AV) (c:Int→aa):aa:=jg H v 1 false fun x=>D9 q x c
noncomputable def ldB (H:Heap) (v:AV) (c:Bool→aa):aa:=jg H v 1 false fun x=>JN x c
noncomputable def fld (d:Nat) (H:Heap) (v:AV) (n:Nat) (agg:Bool) (c:AV→AV→aa):aa:=faK d v fun a=>jg H a n agg fun x=>c a x
noncomputable def jy (q:IntKind) (d:Nat) (H:Heap) (v:AV) (c:AV→Int→aa):aa:=faK d v fun a=>jg H a 1 false fun x=>D9 q x fun x=>c a x
noncomputable def fldB (d:Nat) (H:Heap) (v:AV) (c:AV→Bool→aa):aa:=faK d v fun a=>jg H a 1 false fun x=>JN x fun x=>c a x
noncomputable def nfa (d:Nat) (v:AV) (c:AV→aa):aa:=P2 v (faK d v c)
noncomputable def nfld (d:Nat) (H:Heap) (v:AV) (n:Nat) (agg:Bool) (c:AV→AV→aa):aa:=P2 v (fld d H v n agg c)
noncomputable def nfldI (q:IntKind) (d:Nat) (H:Heap) (v:AV) (c:AV→Int→aa):aa:=P2 v (jy q d H v c)
noncomputable def nfldB (d:Nat) (H:Heap) (v:AV) (c:AV→Bool→aa):aa:=P2 v (fldB d H v c)
noncomputable def eld (sz:Nat) (H:Heap) (v:AV) (i:Int) (n:Nat) (agg:Bool) (c:AV→AV→aa):aa:=Qc sz v i fun a=>jg H a n agg fun x=>c a x
noncomputable def Xg (q:IntKind) (sz:Nat) (H:Heap) (v:AV) (i:Int) (c:AV→Int→aa):aa:=Qc sz v i fun a=>jg H a 1 false fun x=>D9 q x fun x=>c a x
noncomputable def fst (d:Nat) (H:Heap) (v:AV) (n:Nat) (u:AV) (c:AV→Heap→aa):aa:=faK d v fun a=>jf H a n u fun H=>c a H
def hi0:Bool:=true
def hi1:Bool:=hi0
def hi2:Bool:=hi1
def hi3:Bool:=hi2
def hi4:Bool:=hi3
def hi5:Bool:=hi4
def hi6:Bool:=hi5
def hi7:Bool:=hi6
def hi8:Bool:=hi7
def hi9:Bool:=hi8
def hi10:Bool:=hi9
def hi11:Bool:=hi10
def hi12:Bool:=hi11
def hi13:Bool:=hi12
def hi14:Bool:=hi13
def hi15:Bool:=hi14
def hi16:Bool:=hi15
def hi17:Bool:=hi16
def hi18:Bool:=hi17
def hi19:Bool:=hi18
def hi20:Bool:=hi19
def hi21:Bool:=hi20
def hi22:Bool:=hi21
def hi23:Bool:=hi22
def hi24:Bool:=hi23
def hi25:Bool:=hi24
def hi26:Bool:=hi25
def hi27:Bool:=hi26
def hi28:Bool:=hi27
def hi29:Bool:=hi28
def hi30:Bool:=hi29
def hi31:Bool:=hi30
def hi32:Bool:=hi31
def hi33:Bool:=hi32
def hi34:Bool:=hi33
def hi35:Bool:=hi34
def hi36:Bool:=hi35
def hi37:Bool:=hi36
def hi38:Bool:=hi37
def hi39:Bool:=hi38
def hi40:Bool:=hi39
def hi41:Bool:=hi40
def hi42:Bool:=hi41
def hi43:Bool:=hi42
def hi44:Bool:=hi43
def hi45:Bool:=hi44
def hi46:Bool:=hi45
def hi47:Bool:=hi46
def hi48:Bool:=hi47
def hi49:Bool:=hi48
def hi50:Bool:=hi49
noncomputable def high (a:aa):aa:=(fun _:Bool=>a) hi50
noncomputable def ifD (b:Bool) (t e:aa):aa:=high (Bool.rec (motive:=fun _=>aa→aa→aa) (fun _ e=>e) (fun t _=>t) b t e)
noncomputable def evK (tm:Tr AV) (x:Opd) (k:AV→aa):aa:=high (Opd.casesOn x (fun p=>Option.casesOn (Tr.get p tm) .err k) k)
noncomputable def evsK (tm:Tr AV) (xs:List Opd):(List AV→aa)→aa:=
  List.rec (motive:=fun _=>(List AV→aa)→aa) (fun k=>k []) (fun x _ ih k=>evK tm x fun v=>ih fun vs=>k (v::vs)) xs
noncomputable def evOK (tm:Tr AV) (x:Option Opd) (k:Option AV→aa):aa:=high (Option.casesOn x (k none) fun x=>evK tm x fun v=>k (some v))
noncomputable def evPK (tm:Tr AV) (xs:List (Nat × Nat × Opd)):(List (Nat × Nat × AV)→aa)→aa:=
  List.rec (motive:=fun _=>(List (Nat × Nat × AV)→aa)→aa) (fun k=>k [])
    (fun x _ ih k=>Prod.casesOn x fun a y=>Prod.casesOn y fun b x=>evK tm x fun v=>ih fun vs=>k ((a,b,v)::vs)) xs
noncomputable def intD (v:AV) (k:IntKind→Int→aa):aa:=high (AV.casesOn v (fun _=>.err) k (fun _=>.err) (fun _ _=>.err) .err (fun _ _ _ _ _=>.err) (fun _ _ _=>.err) .err (fun _=>.err) .err (fun _ _ _=>.err) .err (fun _ _=>.err) .err (fun _=>.err) (fun _=>.err))
noncomputable def akO (v:AV) (k:Bool→aa):aa:=high (AV.casesOn v k (fun _ _=>.err) (fun _=>.err) (fun _ _=>.err) .err (fun _ _ _ _ _=>.err) (fun _ _ _=>.err) .err (fun _=>.err) .err (fun _ _ _=>.err) .err (fun _ _=>.err) .err (fun _=>.err) (fun _=>.err))
noncomputable def strD (v:AV) (k:List UInt8→aa):aa:=high (AV.casesOn v (fun _=>.err) (fun _ _=>.err) k (fun _ _=>.err) .err (fun _ _ _ _ _=>.err) (fun _ _ _=>.err) .err (fun _=>.err) .err (fun _ _ _=>.err) .err (fun _ _=>.err) .err (fun _=>.err) (fun _=>.err))
noncomputable def extD (ix:Nat) (v:AV) (k:AV→aa):aa:=high (AV.rec (motive_1:=fun _=>(AV→aa)→aa) (motive_2:=fun _=>Unit) (fun _ _=>.err) (fun _ _ _=>.err) (fun _ _=>.err) (fun _ _ _=>.err) (fun _=>.err) (fun _ _ _ _ _ _=>.err) (fun _ _ _ _=>.err) (fun _=>.err) (fun _ _=>.err) (fun _=>.err) (fun _ _ _ _ _ _=>.err) (fun _=>.err) (fun _ _ _ _=>.err) (fun _=>.err) (fun _ _ _=>.err) (fun l _ k=>oC (nth l ix) k) () (fun _ _ _ _=>()) v k)
noncomputable def vIntD (q:IntKind) (v:AV) (k:Int→aa):aa:=high (AV.rec (motive_1:=fun _=>(Int→aa)→aa) (motive_2:=fun _=>Unit) (fun _ _=>.err) (fun q' n k=>ifB (NM q q') (k n) .err) (fun _ _=>.err) (fun _ _ _=>.err) (fun _=>.err) (fun _ _ _ _ _ _=>.err) (fun _ _ _ _=>.err) (fun _=>.err) (fun _ _=>.err) (fun _=>.err) (fun _ _ _ _ _ _=>.err) (fun _=>.err) (fun _ _ _ _=>.err) (fun _=>.err) (fun _ _ _=>.err) (fun _ _ _=>.err) () (fun _ _ _ _=>()) v k)
noncomputable def vBoolD (v:AV) (k:Bool→aa):aa:=high (AV.rec (motive_1:=fun _=>(Bool→aa)→aa) (motive_2:=fun _=>Unit) (fun b k=>k b) (fun _ _ _=>.err) (fun _ _=>.err) (fun _ _ _=>.err) (fun _=>.err) (fun _ _ _ _ _ _=>.err) (fun _ _ _ _=>.err) (fun _=>.err) (fun _ _=>.err) (fun _=>.err) (fun _ _ _ _ _ _=>.err) (fun _=>.err) (fun _ _ _ _=>.err) (fun _=>.err) (fun _ _ _=>.err) (fun _ _ _=>.err) () (fun _ _ _ _=>()) v k)
noncomputable def vStrD (v:AV) (k:List UInt8→aa):aa:=high (AV.rec (motive_1:=fun _=>(List UInt8→aa)→aa) (motive_2:=fun _=>Unit) (fun _ _=>.err) (fun _ _ _=>.err) (fun s k=>k s) (fun _ _ _=>.err) (fun _=>.err) (fun _ _ _ _ _ _=>.err) (fun _ _ _ _=>.err) (fun _=>.err) (fun _ _=>.err) (fun _=>.err) (fun _ _ _ _ _ _=>.err) (fun _=>.err) (fun _ _ _ _=>.err) (fun _=>.err) (fun _ _ _=>.err) (fun _ _ _=>.err) () (fun _ _ _ _=>()) v k)
noncomputable def binID (op:BinOp) (q q':IntKind) (a b:Int) (k:AV→aa):aa:=high (BinOp.casesOn op
    (Bool.casesOn (NM q q') .err (la q a b fun n=>k (.int q n)))
    (Bool.casesOn (NM q q') .err (PU q a b fun n=>k (.int q n)))
    (Bool.casesOn (NM q q') .err (A7 q a b fun n=>k (.int q n)))
    (Bool.casesOn (NM q q') .err (quoK q a b fun n=>k (.int q n)))
    (Bool.casesOn (NM q q') .err (afl q a b fun n=>k (.int q n)))
    (Bool.casesOn (NM q q') .err (ae8 .and q a b fun n=>k (.int q n)))
    (Bool.casesOn (NM q q') .err (ae8 .or q a b fun n=>k (.int q n)))
    (Bool.casesOn (NM q q') .err (ae8 .xor q a b fun n=>k (.int q n)))
    (shlK q a b fun n=>k (.int q n))
    (shrK q a b fun n=>k (.int q n))
    (Bool.casesOn (NM q q') .err (ae8 .andNot q a b fun n=>k (.int q n)))
    (Bool.casesOn (NM q q') .err (k (.bool (eqF a b))))
    (Bool.casesOn (NM q q') .err (k (.bool (jK (eqF a b)))))
    (Bool.casesOn (NM q q') .err (k (.bool (ltF a b))))
    (Bool.casesOn (NM q q') .err (k (.bool (jK (ltF b a)))))
    (Bool.casesOn (NM q q') .err (k (.bool (ltF b a))))
    (Bool.casesOn (NM q q') .err (k (.bool (jK (ltF a b))))))
noncomputable def binSD (op:BinOp) (a b:List UInt8) (k:AV→aa):aa:=high (BinOp.casesOn op
    (catK a b fun n=>k (.str n)) .err .err .err .err .err .err .err .err .err .err
    (k (.bool (Ii a b))) (k (.bool (jK (Ii a b)))) .err .err .err .err)
noncomputable def binD (op:BinOp) (u v:AV) (k:AV→aa):aa:=high (AV.casesOn u (fun _=>.err) (fun q a=>intD v fun q' b=>binID op q q' a b k) (fun a=>strD v fun b=>binSD op a b k) (fun _ _=>.err) .err (fun _ _ _ _ _=>.err) (fun _ _ _=>.err) .err (fun _=>.err) .err (fun _ _ _=>.err) .err (fun _ _=>.err) .err (fun _=>.err) (fun _=>.err))
noncomputable def opD (o:AOp) (tm:Tr AV) (H:Heap) (k:AV→Heap→aa):aa:=AOp.casesOn o
  (fun x=>evK tm x fun v=>k v H)
  (fun c a b=>evK tm c fun v=>akO v fun t=>ifD t (evK tm a fun v=>k v H) (evK tm b fun v=>k v H))
  (fun x=>evK tm x fun v=>akO v fun t=>k (.bool (jK t)) H)
  (fun op x y=>evK tm x fun u=>evK tm y fun v=>binD op u v fun r=>k r H)
  (fun e neg x y=>evK tm x fun u=>evK tm y fun v=>EqK.casesOn e (fun n=>eqRK (.nil n) u v fun r=>k (.bool (xorB neg r)) H)
      (akO u fun a=>akO v fun b=>k (.bool (xorB neg (eqBB a b))) H) (fun ks=>eqRK (.plain ks) u v fun r=>k (.bool (xorB neg r)) H))
  (fun q x=>evK tm x fun u=>intD u fun _ n=>uq q n fun r=>k (.int q r) H)
  (fun z=>lG H (.cells z true 0) fun b H'=>k (.ptr b 0) H')
  (fun x=>evK tm x fun u=>qR H u fun b H'=>k (.ptr b 0) H')
  (fun z parts=>evPK tm parts fun ps=>kM z ps fun r=>k r H)
  (fun len z parts=>evPK tm parts fun ps=>l8 H len z ps k)
  (fun n agg x=>evK tm x fun u=>jg H u n agg fun r=>k r H)
  (fun n a x=>evK tm a fun a=>evK tm x fun u=>jf H a n u fun H'=>k .undef H')
  (fun x=>evK tm x fun u=>P2 u (k u H))
  (fun d x=>evK tm x fun u=>faK d u fun r=>k r H)
  (fun sz x i=>evK tm x fun u=>evK tm i fun i=>intD i fun _ i=>Qc sz u i fun r=>k r H)
  (fun sz len x i=>evK tm x fun u=>evK tm i fun i=>intD i fun _ i=>Iv sz len u i fun r=>k r H)
  (fun sz len agg x i=>evK tm x fun u=>evK tm i fun i=>intD i fun _ i=>aeA sz len agg u i fun r=>k r H)
  (fun x i=>evK tm x fun u=>evK tm i fun i=>strD u fun s=>intD i fun _ i=>idxSK s i fun n=>k (.int .u8 n) H)
  (fun sk x lo hi mx=>evK tm x fun u=>evOK tm lo fun lo=>evOK tm hi fun hi=>evOK tm mx fun mx=>slK sk u lo hi mx fun r=>k r H)
  (fun ix x=>evK tm x fun u=>extD ix u fun r=>k r H)
  (fun f a c=>evsK tm a fun va=>evsK tm c fun cs=>k (.func f va cs) H)
  (lG H (.mp []) fun b H'=>k (.map b) H')
  (fun z len cap=>evK tm len fun u=>evK tm cap fun v=>intD u fun _ l=>intD v fun _ c=>mkK H z l c k)
  (fun kk z ok m key=>evK tm m fun m=>evK tm key fun u=>CD H kk z m u fun r b=>Bool.casesOn ok (k r H) (k (.tuple [r,.bool b]) H))
  (fun kk m key x=>evK tm m fun m=>evK tm key fun u=>evK tm x fun y=>aaw H kk m u y fun H'=>k .undef H')
  (fun kk m key=>evK tm m fun m=>evK tm key fun u=>mapdelK H kk m u fun H'=>k .undef H')
  (fun lk x=>evK tm x fun u=>LenK.casesOn lk (strD u fun s=>lenStrK s fun n=>k (.int .i64 n) H) (fun n=>k (.int .i64 (.ofNat n)) H)
      (jC u fun n=>k (.int .i64 n) H) (lenMpK H u fun n=>k (.int .i64 n) H))
  (fun mx xs=>evsK tm xs fun vs=>tg mx vs fun r=>k r H)
  (fun sz s x=>evK tm s fun s=>evK tm x fun x=>rX H sz s x k)
  (fun sz d x=>evK tm d fun d=>evK tm x fun x=>copyK H sz d x k)
  (fun z x=>evK tm x fun x=>clearK H z x fun H'=>k .undef H')
inductive Ty where
  | any | int (q:IntKind) | bool | str
abbrev Kp:=List (P × Ty)
inductive SC where
  | skip
  | reg (l:List (Option Kp × List Ins))
  | regU (l:List UI)
  | seq (g:Option Kp) (a b:SC)
  | cond (c:Opd) (a b:SC)
  | block (id:Nat) (g:Option Kp) (a:SC)
  | loop (g:Kp) (a:SC)
  | exit (id:Nat)
  | ret
def al4:List (Option Kp × List Ins)→List Ins
  | []=>[]
  | x::l=>x.2++al4 l
def Sq:SC→AC
  | .skip=>.skip
  | .reg l=>.reg (al4 l)
  | .regU l=>.regU l
  | .seq _ a b=>.seq (Sq a) (Sq b)
  | .cond c a b=>.cond c (Sq a) (Sq b)
  | .block id _ a=>.block id (Sq a)
  | .loop _ a=>.loop (Sq a)
  | .exit id=>.exit id
  | .ret=>.ret
noncomputable def abY (t:Ty) (v:AV) (k:AV→aa):aa:=high (Ty.casesOn t (k v)
  (fun q=>vIntD q v fun n=>k (.int q n)) (vBoolD v fun b=>k (.bool b)) (vStrD v fun s=>k (.str s)))
noncomputable def keepGo (tm:Tr AV) (g:Kp):Tr AV→(Tr AV→aa)→aa:=
  List.rec (motive:=fun _=>Tr AV→(Tr AV→aa)→aa) (fun acc c=>c acc)
    (fun e _ ih acc c=>Prod.casesOn e fun p t=>Option.casesOn (Tr.get p tm) .err fun v=>abY t v fun v=>Tr.setK p v acc fun acc=>ih acc c) g
noncomputable def ak5 (g:Kp) (s:St) (f:St→aa):aa:=St.casesOn s fun tm H=>keepGo tm g .leaf fun tm=>f ⟨tm,H⟩
noncomputable def jn (g:Option Kp) (f:St→aa):St→aa:=Option.casesOn g f fun g s=>ak5 g s f
noncomputable def putT (ty:Tr Ty) (d:Option P) (v:AV) (tm:Tr AV) (k:Tr AV→aa):aa:=high (Option.casesOn d (k tm) fun p=>
  Option.casesOn (Tr.get p ty) (Tr.setK p v tm k) fun t=>abY t v fun v=>Tr.setK p v tm k)
noncomputable def isD (tm:Tr AV) (p:P) (kt kf ko:Tr AV→aa):aa:=high (Option.casesOn (Tr.get p tm) .err fun v=>
  AV.casesOn v (fun b=>ifD b (Tr.setK p (.bool true) tm kt) (Tr.setK p (.bool false) tm kf)) (fun _ _=>ko tm) (fun _=>ko tm) (fun _ _=>ko tm) (ko tm) (fun _ _ _ _ _=>ko tm) (fun _ _ _=>ko tm) (ko tm) (fun _=>ko tm) (ko tm) (fun _ _ _=>ko tm) (ko tm) (fun _ _=>ko tm) (ko tm) (fun _=>ko tm) (fun _=>ko tm))
noncomputable def ajm (g:Gd) (tm:Tr AV) (ky kn:Tr AV→aa):aa:=high (Gd.casesOn g (ky tm) fun p want=>Bool.casesOn want (isD tm p kn ky kn) (isD tm p ky kn kn))
noncomputable def condD (c:Opd) (s:St) (ka kb:St→aa):aa:=high (St.casesOn s fun tm H=>Opd.casesOn c
  (fun p=>isD tm p (fun tm=>ka ⟨tm,H⟩) (fun tm=>kb ⟨tm,H⟩) (fun _=>.err)) (fun v=>akO v fun b=>ifD b (ka ⟨tm,H⟩) (kb ⟨tm,H⟩)))
abbrev bf:=AV→List AV→Heap→(AV→Heap→aa)→aa
noncomputable def insD (cf:bf) (ty:Tr Ty) (x:Ins) (s:St) (k:St→aa):aa:=St.casesOn s fun tm H=>Ins.casesOn x
  (fun g d o=>ajm g tm (fun tm=>opD o tm H fun v H'=>putT ty d v tm fun tm=>k ⟨tm,H'⟩) (fun tm=>putK tm d .undef fun tm=>k ⟨tm,H⟩))
  (fun g d q f args=>ajm g tm (fun tm=>evK tm f fun fv=>evsK tm args fun vs=>
      Bool.casesOn q (cf fv vs H fun v H'=>putT ty d v tm fun tm=>k ⟨tm,H'⟩)
        (cf fv vs (H.shut true) fun v H'=>putT ty d v tm fun tm=>k ⟨tm,H'.back H.ro⟩))
    (fun tm=>putK tm d .undef fun tm=>k ⟨tm,H⟩))
noncomputable def gZ (cf:bf) (ty:Tr Ty) (l:List Ins):(St→aa)→St→aa:=
  List.rec (motive:=fun _=>(St→aa)→St→aa) (fun k s=>k s) (fun x _ ih k s=>insD cf ty x s (ih k)) l
noncomputable def regsD (cf:bf) (ty:Tr Ty) (l:List (Option Kp × List Ins)):(St→aa)→St→aa:=
  List.rec (motive:=fun _=>(St→aa)→St→aa) (fun k s=>k s) (fun x _ ih k s=>Prod.casesOn x fun g l=>gZ cf ty l (jn g (ih k)) s) l
noncomputable def redoD (cf:bf) (ty:Tr Ty) (y:Sv) (H:Heap) (k:aa):aa:=
  insD cf ty y.x ⟨y.tm,H⟩ fun s=>St.casesOn s fun tm _=>Option.casesOn y.x.dst .err fun d=>Option.casesOn (Tr.get d tm) .err fun v=>ifD (akN y.v v) (ifD (lowA y.nx y.v) k .err) .err
noncomputable def ac7 (cf:bf) (ty:Tr Ty) (sv:List (Nat × Sv)) (H:Heap) (is:List Nat) (k:aa):aa:=
  List.rec (motive:=fun _=>aa) k (fun i _ ih=>Option.casesOn (Gg i sv) .err fun y=>redoD cf ty y H ih) is
noncomputable def akA (cf:bf) (ty:Tr Ty) (l:List UI):Nat→List (Nat × Sv)→(St→aa)→St→aa:=
  List.rec (motive:=fun _=>Nat→List (Nat × Sv)→(St→aa)→St→aa) (fun _ _ k s=>k s)
    (fun u _ ih j sv k s=>List.casesOn u.back (insD cf ty u.x s fun s'=>ac7 cf ty sv s'.hp u.again
      (Bool.casesOn u.keep (ih (j+1) sv k s') (Option.casesOn u.x.dst .err fun d=>Option.casesOn (Tr.get d s'.tm) .err fun v=>ih (j+1) ((j,⟨u.x,s.tm,v,s.hp.nx⟩)::sv) k s'))) (fun _ _=>.err)) l
noncomputable def loopD (g:Kp) (body:(St→aa)→St→aa) (n:Nat):St→aa:=
  Nat.rec (motive:=fun _=>St→aa) (fun _=>.err) (fun _ F s=>body (fun s=>ak5 g s F) s) n
noncomputable def D (cf:bf) (ty:Tr Ty) (n:Nat) (c:SC):(St→aa)→(Nat→St→aa)→(St→aa)→St→aa:=
  SC.rec (motive:=fun _=>(St→aa)→(Nat→St→aa)→(St→aa)→St→aa)
  (fun kn _ _ s=>kn s)
  (fun l kn _ _ s=>regsD cf ty l kn s)
  (fun l kn _ _ s=>akA cf ty l 0 [] kn s)
  (fun g _ _ iha ihb kn ke kr s=>iha (jn g (ihb kn ke kr)) ke kr s)
  (fun c _ _ iha ihb kn ke kr s=>condD c s (iha kn ke kr) (ihb kn ke kr))
  (fun id g _ iha kn ke kr s=>iha (jn g kn) (fun i s=>Bool.casesOn (Nat.beq i id) (ke i s) (jn g kn s)) kr s)
  (fun g _ iha _ ke kr s=>ak5 g s (loopD g (fun F=>iha F ke kr) n))
  (fun id _ ke _ s=>ke id s)
  (fun _ _ kr s=>kr s) c
noncomputable def aoK (g:Kp):List AV→Tr AV→(Tr AV→aa)→aa:=
  List.rec (motive:=fun _=>List AV→Tr AV→(Tr AV→aa)→aa) (fun vs tm k=>List.casesOn vs (k tm) (fun _ _=>.err))
    (fun e _ ih vs tm k=>List.casesOn vs .err fun v vs=>Prod.casesOn e fun p t=>abY t v fun v=>Tr.setK p v tm fun tm=>ih vs tm k) g
noncomputable def rvK (r:Rv) (s:St) (k:AV→aa):aa:=high (St.casesOn s fun tm H=>Rv.casesOn r (fun p=>Option.casesOn (Tr.get p tm) .err k)
  (fun p n agg=>Option.casesOn (Tr.get p tm) .err fun v=>jg H v n agg k))
noncomputable def finGo (rs:List (Rv × Ty)) (s:St):(List AV→aa)→aa:=
  List.rec (motive:=fun _=>(List AV→aa)→aa) (fun k=>k []) (fun x _ ih k=>Prod.casesOn x fun r t=>rvK r s fun v=>abY t v fun v=>ih fun vs=>k (v::vs)) rs
noncomputable def oneK (vs:List AV):AV:=List.casesOn vs (.tuple []) fun v t=>List.casesOn t v (fun _ _=>.tuple vs)
noncomputable def jk (rs:List (Rv × Ty)) (k:AV→Heap→aa) (s:St):aa:=finGo rs s fun vs=>k (oneK vs) s.hp
abbrev Wr:=List AV→Heap→(AV→Heap→aa)→aa
noncomputable def findW (f:Nat) (l:List (Nat × Wr)):Option Wr:=
  List.rec (motive:=fun _=>Option Wr) none (fun e _ ih=>Prod.casesOn e fun g w=>Bool.casesOn (Nat.beq f g) ih (some w)) l
noncomputable def lC (l:List (Nat × Wr)):bf:=fun fv vs H k=>AV.casesOn fv (fun _=>.err) (fun _ _=>.err) (fun _=>.err) (fun _ _=>.err) .err (fun _ _ _ _ _=>.err) (fun _ _ _=>.err) .err (fun _=>.err) .err
  (fun f first cap=>Option.casesOn (findW f l) .err fun w=>w (ZK first (ZK vs cap id) id) H k) .err (fun _ _=>.err) .err (fun _=>.err) (fun _=>.err)
noncomputable def W (ps:Kp) (rs:List (Rv × Ty)) (l:List (Nat × Wr)) (ty:Tr Ty) (n:Nat) (c:SC):Wr:=fun args H k=>
  aoK ps args .leaf fun tm=>D (lC l) ty n c (jk rs k) (fun _ _=>.err) (jk rs k) ⟨tm,H⟩
noncomputable def aInt (q:IntKind) (args:List AV) (k:Int→List AV→aa):aa:=List.casesOn args .err fun v t=>D9 q v fun n=>k n t
noncomputable def aBool (args:List AV) (k:Bool→List AV→aa):aa:=List.casesOn args .err fun v t=>JN v fun n=>k n t
noncomputable def aStr (args:List AV) (k:List UInt8→List AV→aa):aa:=List.casesOn args .err fun v t=>vStr v fun n=>k n t
noncomputable def aAny (args:List AV) (k:AV→List AV→aa):aa:=List.casesOn args .err k
noncomputable def aNil (args:List AV) (k:aa):aa:=List.casesOn args k (fun _ _=>.err)
end Go.Ai
