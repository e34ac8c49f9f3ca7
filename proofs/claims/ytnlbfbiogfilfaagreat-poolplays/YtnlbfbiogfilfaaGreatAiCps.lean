/- The interpreter's code in continuation style: what is left of an operation when all that is fixed has been carried out; code with notes on what lives and of which kind it is. -/
import Derived.Test.YtnlbfbiogfilfaaGreatAiCallSym
set_option linter.all false
namespace Go.Ai
noncomputable def zK:Nat→(Nat→ah)→ah:=Nat.rec (motive:=fun _=>(Nat→ah)→ah) (fun c=>c 0) (fun k _ c=>c (Nat.succ k))
noncomputable def ifB:Bool→ah→ah→ah:=Bool.rec (motive:=fun _=>ah→ah→ah) (fun _ e=>e) (fun t _=>t)
noncomputable def iC:Int→(Nat→ah)→(Nat→ah)→ah:=Int.rec (motive:=fun _=>(Nat→ah)→(Nat→ah)→ah) (fun m f _=>f m) (fun m _ g=>g m)
noncomputable def axl:Int→(Nat→ah)→ah:=Int.rec (motive:=fun _=>(Nat→ah)→ah) (fun m f=>f m) (fun _ _=>.err)
noncomputable def oC {α:Type}:Option α→(α→ah)→ah:=Option.rec (motive:=fun _=>(α→ah)→ah) (fun _=>.err) (fun a k=>k a)
noncomputable def SF (n:Int) (c:Int→ah):ah:=iC n (fun m=>zK m fun m=>c (.ofNat m)) (fun m=>zK m fun m=>c (.negSucc m))
noncomputable def ikN:IntKind→Nat:=IntKind.rec (motive:=fun _=>Nat) 0 1 2 3 4 5 6 7
noncomputable def ajY (q q':IntKind):Bool:=Nat.beq (ikN q) (ikN q')
noncomputable def ikTop:IntKind→Nat:=IntKind.rec (motive:=fun _=>Nat) 128 32768 2147483648 9223372036854775808 256 65536 4294967296 18446744073709551616
noncomputable def aD5:IntKind→Bool:=IntKind.rec (motive:=fun _=>Bool) true true true true false false false false
noncomputable def mW:Bool→Bool:=Bool.rec (motive:=fun _=>Bool) true false
noncomputable def andB:Bool→Bool→Bool:=Bool.rec (motive:=fun _=>Bool→Bool) (fun _=>false) (fun b=>b)
noncomputable def eqBB:Bool→Bool→Bool:=Bool.rec (motive:=fun _=>Bool→Bool) (fun b=>mW b) (fun b=>b)
noncomputable def X1:Bool→Bool→Bool:=Bool.rec (motive:=fun _=>Bool→Bool) (fun b=>b) (fun b=>mW b)
noncomputable def aDa (q:IntKind) (m:Nat) (c:Int→ah):ah:=zK m fun m=>ifB (Nat.blt m (ikTop q)) (c (.ofNat m)) (SF (q.wrap (.ofNat m)) c)
noncomputable def wrapM (q:IntKind) (m:Nat) (c:Int→ah):ah:=zK m fun m=>ifB (andB (aD5 q) (Nat.blt m (ikTop q))) (c (.negSucc m)) (SF (q.wrap (.negSucc m)) c)
noncomputable def NR (q:IntKind) (n:Int) (c:Int→ah):ah:=iC n (fun m=>aDa q m c) (fun m=>wrapM q m c)
noncomputable def oK (q:IntKind) (a b:Int) (c:Int→ah):ah:=iC a (fun x=>iC b (fun y=>aDa q (Nat.add x y) c) (fun _=>NR q (addF a b) c)) (fun _=>NR q (addF a b) c)
noncomputable def amc (q:IntKind) (a b:Int) (c:Int→ah):ah:=NR q (subF a b) c
noncomputable def Gb (q:IntKind) (a b:Int) (c:Int→ah):ah:=iC a (fun x=>iC b (fun y=>aDa q (Nat.mul x y) c) (fun _=>NR q (mulF a b) c)) (fun _=>NR q (mulF a b) c)
noncomputable def aw1 (q:IntKind) (a b:Int) (c:Int→ah):ah:=ifB (isZ b) .err (NR q (divF a b) c)
noncomputable def remK (q:IntKind) (a b:Int) (c:Int→ah):ah:=ifB (isZ b) .err (SF (modF a b) c)
noncomputable def bitK (op:BinOp) (q:IntKind) (a b:Int) (c:Int→ah):ah:=oC (abL op q a b) fun n=>SF n c
noncomputable def ak4 (q:IntKind) (a b:Int) (c:Int→ah):ah:=axl b fun n=>NR q (an4 q a n) c
noncomputable def shrK (q:IntKind) (a b:Int) (c:Int→ah):ah:=axl b fun n=>SF (shrF q a n) c
noncomputable def catK (a b:List UInt8) (c:List UInt8→ah):ah:=ifB (Nat.ble (Nat.add (Ao a) (Ao b)) 1099511627776) (amp a b c) .err
noncomputable def ac0 (q:IntKind):AV→(Int→ah)→ah:=AV.rec (motive_1:=fun _=>(Int→ah)→ah) (motive_2:=fun _=>Unit) (fun _ _=>.err) (fun q' n k=>ifB (ajY q q') (k n) .err) (fun _ _=>.err) (fun _ _ _=>.err) (fun _=>.err) (fun _ _ _ _ _ _=>.err) (fun _ _ _ _=>.err) (fun _=>.err) (fun _ _=>.err) (fun _=>.err) (fun _ _ _ _ _ _=>.err) (fun _=>.err) (fun _ _ _ _=>.err) (fun _=>.err) (fun _ _ _=>.err) (fun _ _ _=>.err) () (fun _ _ _ _=>())
noncomputable def aoK:AV→(Bool→ah)→ah:=AV.rec (motive_1:=fun _=>(Bool→ah)→ah) (motive_2:=fun _=>Unit) (fun b k=>k b) (fun _ _ _=>.err) (fun _ _=>.err) (fun _ _ _=>.err) (fun _=>.err) (fun _ _ _ _ _ _=>.err) (fun _ _ _ _=>.err) (fun _=>.err) (fun _ _=>.err) (fun _=>.err) (fun _ _ _ _ _ _=>.err) (fun _=>.err) (fun _ _ _ _=>.err) (fun _=>.err) (fun _ _ _=>.err) (fun _ _ _=>.err) () (fun _ _ _ _=>())
noncomputable def vStr:AV→(List UInt8→ah)→ah:=AV.rec (motive_1:=fun _=>(List UInt8→ah)→ah) (motive_2:=fun _=>Unit) (fun _ _=>.err) (fun _ _ _=>.err) (fun s k=>k s) (fun _ _ _=>.err) (fun _=>.err) (fun _ _ _ _ _ _=>.err) (fun _ _ _ _=>.err) (fun _=>.err) (fun _ _=>.err) (fun _=>.err) (fun _ _ _ _ _ _=>.err) (fun _=>.err) (fun _ _ _ _=>.err) (fun _=>.err) (fun _ _ _=>.err) (fun _ _ _=>.err) () (fun _ _ _ _=>())
noncomputable def aAB:AV→(Nat→Nat→ah)→ah:=AV.rec (motive_1:=fun _=>(Nat→Nat→ah)→ah) (motive_2:=fun _=>Unit) (fun _ _=>.err) (fun _ _ _=>.err) (fun _ _=>.err) (fun b o k=>k b o) (fun _=>.err) (fun _ _ _ _ _ _=>.err) (fun _ _ _ _=>.err) (fun _=>.err) (fun _ _=>.err) (fun _=>.err) (fun _ _ _ _ _ _=>.err) (fun _=>.err) (fun _ _ _ _=>.err) (fun _=>.err) (fun _ _ _=>.err) (fun _ _ _=>.err) () (fun _ _ _ _=>())
noncomputable def asSlc:AV→(Nat→Nat→Nat→ah)→ah:=AV.rec (motive_1:=fun _=>(Nat→Nat→Nat→ah)→ah) (motive_2:=fun _=>Unit) (fun _ _=>.err) (fun _ _ _=>.err) (fun _ _=>.err) (fun _ _ _=>.err) (fun _=>.err) (fun b o l _ _ k=>k b o l) (fun _ _ _ _=>.err) (fun _=>.err) (fun _ _=>.err) (fun _=>.err) (fun _ _ _ _ _ _=>.err) (fun _=>.err) (fun _ _ _ _=>.err) (fun _=>.err) (fun _ _ _=>.err) (fun _ _ _=>.err) () (fun _ _ _ _=>())
noncomputable def asMap:AV→(Nat→ah)→ah:=AV.rec (motive_1:=fun _=>(Nat→ah)→ah) (motive_2:=fun _=>Unit) (fun _ _=>.err) (fun _ _ _=>.err) (fun _ _=>.err) (fun _ _ _=>.err) (fun _=>.err) (fun _ _ _ _ _ _=>.err) (fun _ _ _ _=>.err) (fun _=>.err) (fun b k=>k b) (fun _=>.err) (fun _ _ _ _ _ _=>.err) (fun _=>.err) (fun _ _ _ _=>.err) (fun _=>.err) (fun _ _ _=>.err) (fun _ _ _=>.err) () (fun _ _ _ _=>())
noncomputable def asAgg:AV→(List AV→ah)→ah:=AV.rec (motive_1:=fun _=>(List AV→ah)→ah) (motive_2:=fun _=>Unit) (fun _ _=>.err) (fun _ _ _=>.err) (fun _ _=>.err) (fun _ _ _=>.err) (fun _=>.err) (fun _ _ _ _ _ _=>.err) (fun _ _ _ _=>.err) (fun _=>.err) (fun _ _=>.err) (fun _=>.err) (fun _ _ _ _ _ _=>.err) (fun _=>.err) (fun _ _ _ _=>.err) (fun _=>.err) (fun l _ k=>k l) (fun _ _ _=>.err) () (fun _ _ _ _=>())
noncomputable def ahr:AV→ah→ah:=AV.rec (motive_1:=fun _=>ah→ah) (motive_2:=fun _=>Unit) (fun _ _=>.err) (fun _ _ _=>.err) (fun _ _=>.err) (fun _ _ r=>r) (fun _=>.err) (fun _ _ _ _ _ _=>.err) (fun _ _ _ _=>.err) (fun _=>.err) (fun _ _=>.err) (fun _=>.err) (fun _ _ _ _ _ r=>r) (fun _=>.err) (fun _ _ _ _=>.err) (fun _=>.err) (fun _ _ _=>.err) (fun _ _ _=>.err) () (fun _ _ _ _=>())
noncomputable def nilB:NilK→AV→Option Bool:=NilK.rec (motive:=fun _=>AV→Option Bool) (AV.rec (motive_1:=fun _=>Option Bool) (motive_2:=fun _=>Unit) (fun _=>none) (fun _ _=>none) (fun _=>none) (fun _ _=>some false) (some true) (fun _ _ _ _ _=>none) (fun _ _ _=>none) (none) (fun _=>none) (none) (fun _ _ _ _ _=>none) (none) (fun _ _ _=>none) (none) (fun _ _=>none) (fun _ _=>none) () (fun _ _ _ _=>())) (AV.rec (motive_1:=fun _=>Option Bool) (motive_2:=fun _=>Unit) (fun _=>none) (fun _ _=>none) (fun _=>none) (fun _ _=>none) (none) (fun _ _ _ _ _=>some false) (fun _ _ _=>some false) (some true) (fun _=>none) (none) (fun _ _ _ _ _=>none) (none) (fun _ _ _=>none) (none) (fun _ _=>none) (fun _ _=>none) () (fun _ _ _ _=>())) (AV.rec (motive_1:=fun _=>Option Bool) (motive_2:=fun _=>Unit) (fun _=>none) (fun _ _=>none) (fun _=>none) (fun _ _=>none) (none) (fun _ _ _ _ _=>none) (fun _ _ _=>none) (none) (fun _=>some false) (some true) (fun _ _ _ _ _=>none) (none) (fun _ _ _=>none) (none) (fun _ _=>none) (fun _ _=>none) () (fun _ _ _ _=>())) (AV.rec (motive_1:=fun _=>Option Bool) (motive_2:=fun _=>Unit) (fun _=>none) (fun _ _=>none) (fun _=>none) (fun _ _=>none) (none) (fun _ _ _ _ _=>none) (fun _ _ _=>none) (none) (fun _=>none) (none) (fun _ _ _ _ _=>some false) (some true) (fun _ _ _=>none) (none) (fun _ _=>none) (fun _ _=>none) () (fun _ _ _ _=>()))
noncomputable def aha:EqK→AV→AV→(Bool→ah)→ah:=EqK.rec (motive:=fun _=>AV→AV→(Bool→ah)→ah)
  (fun k x y c=>oC (nilB k x) fun a=>oC (nilB k y) fun b=>ifB a (c b) (ifB b (c false) .err))
  (fun x y c=>oC (eqK .bool x y) c) (fun ks x y c=>oC (eqK (.plain ks) x y) c)
noncomputable def aAE:AV→(List AV→ah)→ah→ah:=AV.rec (motive_1:=fun _=>(List AV→ah)→ah→ah) (motive_2:=fun _=>Unit) (fun _ _ c=>c) (fun _ _ _ c=>c) (fun _ _ c=>c) (fun _ _ _ c=>c) (fun _ c=>c) (fun _ _ _ _ _ _ c=>c) (fun _ _ _ _ c=>c) (fun _ c=>c) (fun _ _ c=>c) (fun _ c=>c) (fun _ _ _ _ _ _ c=>c) (fun _ c=>c) (fun _ _ _ _ c=>c) (fun _ c=>c) (fun l _ f _=>f l) (fun _ _ _ _=>.err) () (fun _ _ _ _=>())
noncomputable def getB:P→Tr Blk→(Blk→ah)→ah:=P.rec (motive:=fun _=>Tr Blk→(Blk→ah)→ah)
  (Tr.rec (motive:=fun _=>(Blk→ah)→ah) (fun _=>.err) (fun _ v _ _ _ k=>oC v k))
  (fun _ ih=>Tr.rec (motive:=fun _=>(Blk→ah)→ah) (fun _=>.err) (fun l _ _ _ _ k=>ih l k))
  (fun _ ih=>Tr.rec (motive:=fun _=>(Blk→ah)→ah) (fun _=>.err) (fun _ _ r _ _ k=>ih r k))
noncomputable def setB:P→Blk→Tr Blk→(Tr Blk→ah)→ah:=P.rec (motive:=fun _=>Blk→Tr Blk→(Tr Blk→ah)→ah)
  (fun x=>Tr.rec (motive:=fun _=>(Tr Blk→ah)→ah) (fun k=>k (.node .leaf (some x) .leaf)) (fun l _ r _ _ k=>k (.node l (some x) r)))
  (fun _ ih x=>Tr.rec (motive:=fun _=>(Tr Blk→ah)→ah) (fun k=>ih x .leaf fun l=>k (.node l none .leaf)) (fun l v r _ _ k=>ih x l fun l=>k (.node l v r)))
  (fun _ ih x=>Tr.rec (motive:=fun _=>(Tr Blk→ah)→ah) (fun k=>ih x .leaf fun r=>k (.node .leaf none r)) (fun l v r _ _ k=>ih x r fun r=>k (.node l v r)))
noncomputable def blkC:Blk→(List AV→Bool→Nat→ah)→ah:=Blk.rec (motive:=fun _=>(List AV→Bool→Nat→ah)→ah) (fun l rw g k=>k l rw g) (fun _ _=>.err) (fun _=>.err)
noncomputable def Jr:ad→Blk→(Nat→ad→ah)→ah:=ad.rec (motive:=fun _=>Blk→(Nat→ad→ah)→ah)
  (fun t nx ro x c=>setB (key nx) x t fun t=>zK (Nat.succ nx) fun nx'=>c nx ⟨t,nx',ro⟩)
noncomputable def setX:ad→Nat→Blk→(ad→ah)→ah:=ad.rec (motive:=fun _=>Nat→Blk→(ad→ah)→ah)
  (fun t nx ro b x c=>setB (key b) x t fun t=>c ⟨t,nx,ro⟩)
noncomputable def acN (H:ad) (b:Nat) (c:List AV→ah):ah:=getB (key b) H.t fun x=>blkC x fun l _ _=>c l
noncomputable def ownX (H:ad) (b:Nat) (c:List AV→Nat→ah):ah:=ifB (Nat.blt b H.ro) .err (getB (key b) H.t fun x=>blkC x fun l rw g=>ifB rw (c l g) .err)
noncomputable def nthX:List AV→Nat→(AV→ah)→ah:=List.rec (motive:=fun _=>Nat→(AV→ah)→ah) (fun _ _=>.err)
  (fun a _ ih=>Nat.rec (motive:=fun _=>(AV→ah)→ah) (fun k=>k a) (fun i _ k=>ih i k))
noncomputable def axU (x:AV):List AV→Nat→(List AV→ah)→ah:=List.rec (motive:=fun _=>Nat→(List AV→ah)→ah) (fun _ _=>.err)
  (fun a t ih=>Nat.rec (motive:=fun _=>(List AV→ah)→ah) (fun k=>k (x::t)) (fun i _ k=>ih i fun t=>k (a::t)))
noncomputable def aAy:List AV→List AV→(List AV→ah)→ah:=List.rec (motive:=fun _=>List AV→(List AV→ah)→ah) (fun l k=>k l)
  (fun x _ ih=>List.rec (motive:=fun _=>(List AV→ah)→ah) (fun _=>.err) (fun _ t _ k=>ih t fun t=>k (x::t)))
noncomputable def aAO (cs:List AV):List AV→Nat→(List AV→ah)→ah:=List.rec (motive:=fun _=>Nat→(List AV→ah)→ah)
  (Nat.rec (motive:=fun _=>(List AV→ah)→ah) (fun k=>aAy cs [] k) (fun _ _ _=>.err))
  (fun a t ih=>Nat.rec (motive:=fun _=>(List AV→ah)→ah) (fun k=>aAy cs (a::t) k) (fun i _ k=>ih i fun t=>k (a::t)))
noncomputable def Ad (H:ad) (v:AV) (c:Nat→ad→ah):ah:=aAE v (fun l=>Jr H (.cells l true 0) c) (Jr H (.cells [v] true 0) c)
noncomputable def awC (parts:List (Nat × Nat × AV)):List AV→(List AV→ah)→ah:=
  List.rec (motive:=fun _=>List AV→(List AV→ah)→ah) (fun z k=>k z)
    (fun p _ ih z k=>aAE p.2.2 (fun l=>ifB (Nat.beq (Ao l) p.2.1) (aAO l z p.1 fun z=>ih z k) .err) (ifB (Nat.beq 1 p.2.1) (axU p.2.2 z p.1 fun z=>ih z k) .err)) parts
noncomputable def uK (z:List AV) (parts:List (Nat × Nat × AV)) (c:AV→ah):ah:=awC parts z fun l=>c (.agg l)
noncomputable def pZ (H:ad) (len:Nat) (z:List AV) (parts:List (Nat × Nat × AV)) (c:AV→ad→ah):ah:=
  awC parts z fun l=>Jr H (.cells l true 0) fun b H'=>c (.slice b 0 len 0 false) H'
noncomputable def nq (H:ad) (v:AV) (n:Nat) (agg:Bool) (c:AV→ah):ah:=
  aAB v fun b off=>acN H b fun l=>ifB agg (oC (sub l off n) fun cs=>c (.agg cs)) (ifB (Nat.beq n 1) (nthX l off c) .err)
noncomputable def qT (H:ad) (a:AV) (n:Nat) (u:AV) (c:ad→ah):ah:=
  aAB a fun b off=>ownX H b fun l g=>aAE u (fun cs=>ifB (Nat.beq (Ao cs) n) (aAO cs l off fun l=>setX H b (.cells l true g) c) .err)
    (ifB (Nat.beq 1 n) (axU u l off fun l=>setX H b (.cells l true g) c) .err)
noncomputable def faK (d:Nat) (v:AV) (c:AV→ah):ah:=aAB v fun b off=>zK (Nat.add off d) fun o=>c (.ptr b o)
noncomputable def agV (sz:Nat) (v:AV) (i:Int) (c:AV→ah):ah:=asSlc v fun b off len=>axl i fun j=>ifB (Nat.blt j len) (zK (Nat.add off (Nat.mul j sz)) fun o=>c (.ptr b o)) .err
noncomputable def SA (sz len:Nat) (v:AV) (i:Int) (c:AV→ah):ah:=aAB v fun b off=>axl i fun j=>ifB (Nat.blt j len) (zK (Nat.add off (Nat.mul j sz)) fun o=>c (.ptr b o)) .err
noncomputable def apC (sz len:Nat) (agg:Bool) (v:AV) (i:Int) (c:AV→ah):ah:=asAgg v fun cs=>axl i fun j=>ifB (Nat.blt j len)
  (zK (Nat.mul j sz) fun o=>oC (sub cs o sz) fun l=>oC (adV agg l) c) .err
noncomputable def idxSK (s:List UInt8) (i:Int) (c:Int→ah):ah:=axl i fun j=>oC (nth s j) fun ch=>zK ch.toNat fun n=>c (.ofNat n)
noncomputable def Yt (x:Option AV) (dflt UH:Nat):Option Nat:=
  Option.casesOn x (some dflt) fun v=>
    match v with
    | .int _ i=>aeN i none fun n=>Bool.casesOn (Nat.ble n UH) none (some n)
    | _=>none
noncomputable def slV (k:SlK) (v:AV) (lo hi mx:Option AV):Option AV:=
  match k,v with
  | .str,.str s=>
    match mx with
    | some _=>none
    | none=>Option.casesOn (Yt hi s.length s.length) none fun h=>Option.casesOn (Yt lo 0 h) none fun l=>some (.str ((skp s l).take (h-l)))
  | .sl sz,.slice b off len ext opn=>
    Option.casesOn (Yt mx (len+ext) (len+ext)) none fun m=>
    Option.casesOn (Yt hi len m) none fun h=>
    Option.casesOn (Yt lo 0 h) none fun l=>
    match mx,hi with
    | some _,none=>none
    | some _,some _=>some (.slice b (if m=l then off else off+l*sz) (h-l) (m-h) false)
    | none,_=>
      if opn then (if m=l then some (.send b off (off+l*sz)) else some (.slice b (off+l*sz) (h-l) (m-h) true))
      else some (.slice b (if m=l then off else off+l*sz) (h-l) (m-h) false)
  | .sl _,.nilslice=>
    Option.casesOn (Yt mx 0 0) none fun m=>Option.casesOn (Yt hi 0 m) none fun h=>Option.casesOn (Yt lo 0 h) none fun _=>
    match mx,hi with
    | some _,none=>none
    | _,_=>some .nilslice
  | .arr n sz,.ptr b off=>
    Option.casesOn (Yt mx n n) none fun m=>
    Option.casesOn (Yt hi n m) none fun h=>
    Option.casesOn (Yt lo 0 h) none fun l=>
    match mx,hi with
    | some _,none=>none
    | _,_=>some (.slice b (if m=l then off else off+l*sz) (h-l) (m-h) false)
  | _,_=>none
noncomputable def aEe (v:AV):(AV→ah)→ah:=AV.rec (motive_1:=fun _=>(AV→ah)→ah) (motive_2:=fun _=>Unit) (fun _ c=>c v) (fun _ _ c=>c v) (fun _ c=>c v) (fun _ _ c=>c v) (fun c=>c v) (fun b o l e p c=>zK b fun b=>zK o fun o=>zK l fun l=>zK e fun e=>ifB p (c (.slice b o l e true)) (c (.slice b o l e false))) (fun _ _ _ c=>c v) (fun c=>c v) (fun _ c=>c v) (fun c=>c v) (fun _ _ _ _ _ c=>c v) (fun c=>c v) (fun _ _ _ c=>c v) (fun c=>c v) (fun _ _ c=>c v) (fun _ _ c=>c v) () (fun _ _ _ _=>()) v
noncomputable def forceH:ad→(ad→ah)→ah:=ad.rec (motive:=fun _=>(ad→ah)→ah) (fun t nx ro c=>zK nx fun nx=>c ⟨t,nx,ro⟩)
noncomputable def slK (k:SlK) (v:AV) (lo hi mx:Option AV) (c:AV→ah):ah:=oC (slV k v lo hi mx) fun r=>aEe r c
noncomputable def mkK (H:ad) (z:List AV) (l n:Int) (c:AV→ad→ah):ah:=axl l fun l=>axl n fun n=>
  ifB (andB (Nat.ble l n) (Nat.ble n UH)) (Jr H (.cells (ag0 z n) true 0) fun b H'=>zK (Nat.sub n l) fun e=>c (.slice b 0 l e false) H') .err
noncomputable def aAZ (H:ad):AV→Option (List (AV × AV)):=AV.rec (motive_1:=fun _=>Option (List (AV × AV))) (motive_2:=fun _=>Unit) (fun _=>none) (fun _ _=>none) (fun _=>none) (fun _ _=>none) (none) (fun _ _ _ _ _=>none) (fun _ _ _=>none) (none) (fun b=>JA H b) (some []) (fun _ _ _ _ _=>none) (none) (fun _ _ _=>none) (none) (fun _ _=>none) (fun _ _=>none) () (fun _ _ _ _=>())
noncomputable def ahs (H:ad) (kk:fB) (z m u:AV) (c:AV→Bool→ah):ah:=
  oC (aAZ H m) fun es=>oC (zM kk u u) fun _=>oC (apH kk u es) fun r=>Option.rec (motive:=fun _=>ah) (c z false) (fun x=>c x true) r
noncomputable def auj (H:ad) (kk:fB) (m u y:AV) (c:ad→ah):ah:=
  asMap m fun b=>ifB (Nat.blt b H.ro) .err (oC (JA H b) fun es=>oC (zM kk u u) fun _=>oC (putF kk u y es) fun es'=>setX H b (.mp es') c)
noncomputable def aFI (H:ad) (kk:fB) (m u:AV):Option ad:=Option.casesOn (zM kk u u) none fun _=>match m with
      | .map b=>Bool.casesOn (Nat.blt b H.ro) (Option.casesOn (JA H b) none fun es=>Option.casesOn (delF kk u es) none fun es'=>H.setK b (.mp es') some) none
      | .nilmap=>some H
      | _=>none
noncomputable def at8 (H:ad) (kk:fB) (m u:AV) (c:ad→ah):ah:=oC (aFI H kk m u) c
noncomputable def lenStrK (s:List UInt8) (c:Int→ah):ah:=zK (Ao s) fun n=>c (.ofNat n)
noncomputable def mX:AV→(Int→ah)→ah:=AV.rec (motive_1:=fun _=>(Int→ah)→ah) (motive_2:=fun _=>Unit) (fun _ _=>.err) (fun _ _ _=>.err) (fun _ _=>.err) (fun _ _ _=>.err) (fun _=>.err) (fun _ _ l _ _ c=>c (.ofNat l)) (fun _ _ _ c=>c (.ofNat 0)) (fun c=>c (.ofNat 0)) (fun _ _=>.err) (fun _=>.err) (fun _ _ _ _ _ _=>.err) (fun _=>.err) (fun _ _ _ _=>.err) (fun _=>.err) (fun _ _ _=>.err) (fun _ _ _=>.err) () (fun _ _ _ _=>())
noncomputable def azN (H:ad) (v:AV) (c:Int→ah):ah:=oC (aAZ H v) fun es=>zK (Ao es) fun n=>c (.ofNat n)
noncomputable def Ui (mx:Bool) (vs:List AV) (c:AV→ah):ah:=List.casesOn vs .err fun v vs=>oC (ahP mx v vs) c
noncomputable def outK (r:Option (AV × ad)) (c:AV→ad→ah):ah:=oC r fun r=>Prod.rec (motive:=fun _=>ah) c r
noncomputable def sI (H:ad) (sz:Nat) (s x:AV) (c:AV→ad→ah):ah:=outK (FY H sz s x) fun v H'=>aEe v fun v=>forceH H' fun H'=>c v H'
noncomputable def copyK (H:ad) (sz:Nat) (d x:AV) (c:AV→ad→ah):ah:=outK (aCT H sz d x) c
noncomputable def aBE (H:ad) (z:List AV) (x:AV) (c:ad→ah):ah:=outK (aod H z x) fun _ H'=>c H'
noncomputable def ldI (q:IntKind) (H:ad) (v:AV) (c:Int→ah):ah:=nq H v 1 false fun x=>ac0 q x c
noncomputable def ldB (H:ad) (v:AV) (c:Bool→ah):ah:=nq H v 1 false fun x=>aoK x c
noncomputable def fld (d:Nat) (H:ad) (v:AV) (n:Nat) (agg:Bool) (c:AV→AV→ah):ah:=faK d v fun a=>nq H a n agg fun x=>c a x
noncomputable def oq (q:IntKind) (d:Nat) (H:ad) (v:AV) (c:AV→Int→ah):ah:=faK d v fun a=>nq H a 1 false fun x=>ac0 q x fun x=>c a x
noncomputable def fldB (d:Nat) (H:ad) (v:AV) (c:AV→Bool→ah):ah:=faK d v fun a=>nq H a 1 false fun x=>aoK x fun x=>c a x
noncomputable def nfa (d:Nat) (v:AV) (c:AV→ah):ah:=ahr v (faK d v c)
noncomputable def ys (d:Nat) (H:ad) (v:AV) (n:Nat) (agg:Bool) (c:AV→AV→ah):ah:=ahr v (fld d H v n agg c)
noncomputable def ayS (q:IntKind) (d:Nat) (H:ad) (v:AV) (c:AV→Int→ah):ah:=ahr v (oq q d H v c)
noncomputable def aDq (d:Nat) (H:ad) (v:AV) (c:AV→Bool→ah):ah:=ahr v (fldB d H v c)
noncomputable def eld (sz:Nat) (H:ad) (v:AV) (i:Int) (n:Nat) (agg:Bool) (c:AV→AV→ah):ah:=agV sz v i fun a=>nq H a n agg fun x=>c a x
noncomputable def Ga (q:IntKind) (sz:Nat) (H:ad) (v:AV) (i:Int) (c:AV→Int→ah):ah:=agV sz v i fun a=>nq H a 1 false fun x=>ac0 q x fun x=>c a x
noncomputable def eldB (sz:Nat) (H:ad) (v:AV) (i:Int) (c:AV→Bool→ah):ah:=agV sz v i fun a=>nq H a 1 false fun x=>aoK x fun x=>c a x
noncomputable def fst (d:Nat) (H:ad) (v:AV) (n:Nat) (u:AV) (c:AV→ad→ah):ah:=faK d v fun a=>qT H a n u fun H=>c a H
noncomputable def nfst (d:Nat) (H:ad) (v:AV) (n:Nat) (u:AV) (c:AV→ad→ah):ah:=ahr v (fst d H v n u c)
noncomputable def est (sz:Nat) (H:ad) (v:AV) (i:Int) (n:Nat) (u:AV) (c:AV→ad→ah):ah:=agV sz v i fun a=>qT H a n u fun H=>c a H
def hi0:Bool:=true
def hi1:Bool:=hi0
def hi2:Bool:=hi1
def hi3:Bool:=hi2
def hi4:Bool:=hi3
def hi5:Bool:=hi4
def hi6:Bool:=hi5
def hi7:Bool:=hi6
def hi8:Bool:=hi7
def hi9:Bool:=hi8
def hi10:Bool:=hi9
def hi11:Bool:=hi10
def hi12:Bool:=hi11
def hi13:Bool:=hi12
def hi14:Bool:=hi13
def hi15:Bool:=hi14
def hi16:Bool:=hi15
def hi17:Bool:=hi16
def hi18:Bool:=hi17
def hi19:Bool:=hi18
def hi20:Bool:=hi19
def hi21:Bool:=hi20
def hi22:Bool:=hi21
def hi23:Bool:=hi22
def hi24:Bool:=hi23
def hi25:Bool:=hi24
def hi26:Bool:=hi25
def hi27:Bool:=hi26
def hi28:Bool:=hi27
def hi29:Bool:=hi28
def hi30:Bool:=hi29
def hi31:Bool:=hi30
def hi32:Bool:=hi31
def hi33:Bool:=hi32
def hi34:Bool:=hi33
def hi35:Bool:=hi34
def hi36:Bool:=hi35
def hi37:Bool:=hi36
def hi38:Bool:=hi37
def hi39:Bool:=hi38
def hi40:Bool:=hi39
def hi41:Bool:=hi40
def hi42:Bool:=hi41
def hi43:Bool:=hi42
def hi44:Bool:=hi43
def hi45:Bool:=hi44
def hi46:Bool:=hi45
def hi47:Bool:=hi46
def hi48:Bool:=hi47
def hi49:Bool:=hi48
def hi50:Bool:=hi49
noncomputable def high (a:ah):ah:=(fun _:Bool=>a) hi50
noncomputable def ifD (b:Bool) (t e:ah):ah:=high (Bool.rec (motive:=fun _=>ah→ah→ah) (fun _ e=>e) (fun t _=>t) b t e)
noncomputable def evK (tm:Tr AV) (x:Opd) (k:AV→ah):ah:=high (Opd.casesOn x (fun p=>Option.casesOn (Tr.get p tm) .err k) k)
noncomputable def evsK (tm:Tr AV) (xs:List Opd):(List AV→ah)→ah:=
  List.rec (motive:=fun _=>(List AV→ah)→ah) (fun k=>k []) (fun x _ ih k=>evK tm x fun v=>ih fun vs=>k (v::vs)) xs
noncomputable def evOK (tm:Tr AV) (x:Option Opd) (k:Option AV→ah):ah:=high (Option.casesOn x (k none) fun x=>evK tm x fun v=>k (some v))
noncomputable def evPK (tm:Tr AV) (xs:List (Nat × Nat × Opd)):(List (Nat × Nat × AV)→ah)→ah:=
  List.rec (motive:=fun _=>(List (Nat × Nat × AV)→ah)→ah) (fun k=>k [])
    (fun x _ ih k=>Prod.casesOn x fun a y=>Prod.casesOn y fun b x=>evK tm x fun v=>ih fun vs=>k ((a,b,v)::vs)) xs
noncomputable def intD (v:AV) (k:IntKind→Int→ah):ah:=high (AV.casesOn v (fun _=>.err) k (fun _=>.err) (fun _ _=>.err) .err (fun _ _ _ _ _=>.err) (fun _ _ _=>.err) .err (fun _=>.err) .err (fun _ _ _=>.err) .err (fun _ _=>.err) .err (fun _=>.err) (fun _=>.err))
noncomputable def aA3 (v:AV) (k:Bool→ah):ah:=high (AV.casesOn v k (fun _ _=>.err) (fun _=>.err) (fun _ _=>.err) .err (fun _ _ _ _ _=>.err) (fun _ _ _=>.err) .err (fun _=>.err) .err (fun _ _ _=>.err) .err (fun _ _=>.err) .err (fun _=>.err) (fun _=>.err))
noncomputable def strD (v:AV) (k:List UInt8→ah):ah:=high (AV.casesOn v (fun _=>.err) (fun _ _=>.err) k (fun _ _=>.err) .err (fun _ _ _ _ _=>.err) (fun _ _ _=>.err) .err (fun _=>.err) .err (fun _ _ _=>.err) .err (fun _ _=>.err) .err (fun _=>.err) (fun _=>.err))
noncomputable def extD (ix:Nat) (v:AV) (k:AV→ah):ah:=high (AV.rec (motive_1:=fun _=>(AV→ah)→ah) (motive_2:=fun _=>Unit) (fun _ _=>.err) (fun _ _ _=>.err) (fun _ _=>.err) (fun _ _ _=>.err) (fun _=>.err) (fun _ _ _ _ _ _=>.err) (fun _ _ _ _=>.err) (fun _=>.err) (fun _ _=>.err) (fun _=>.err) (fun _ _ _ _ _ _=>.err) (fun _=>.err) (fun _ _ _ _=>.err) (fun _=>.err) (fun _ _ _=>.err) (fun l _ k=>oC (nth l ix) k) () (fun _ _ _ _=>()) v k)
noncomputable def vIntD (q:IntKind) (v:AV) (k:Int→ah):ah:=high (AV.rec (motive_1:=fun _=>(Int→ah)→ah) (motive_2:=fun _=>Unit) (fun _ _=>.err) (fun q' n k=>ifB (ajY q q') (k n) .err) (fun _ _=>.err) (fun _ _ _=>.err) (fun _=>.err) (fun _ _ _ _ _ _=>.err) (fun _ _ _ _=>.err) (fun _=>.err) (fun _ _=>.err) (fun _=>.err) (fun _ _ _ _ _ _=>.err) (fun _=>.err) (fun _ _ _ _=>.err) (fun _=>.err) (fun _ _ _=>.err) (fun _ _ _=>.err) () (fun _ _ _ _=>()) v k)
noncomputable def vBoolD (v:AV) (k:Bool→ah):ah:=high (AV.rec (motive_1:=fun _=>(Bool→ah)→ah) (motive_2:=fun _=>Unit) (fun b k=>k b) (fun _ _ _=>.err) (fun _ _=>.err) (fun _ _ _=>.err) (fun _=>.err) (fun _ _ _ _ _ _=>.err) (fun _ _ _ _=>.err) (fun _=>.err) (fun _ _=>.err) (fun _=>.err) (fun _ _ _ _ _ _=>.err) (fun _=>.err) (fun _ _ _ _=>.err) (fun _=>.err) (fun _ _ _=>.err) (fun _ _ _=>.err) () (fun _ _ _ _=>()) v k)
noncomputable def vStrD (v:AV) (k:List UInt8→ah):ah:=high (AV.rec (motive_1:=fun _=>(List UInt8→ah)→ah) (motive_2:=fun _=>Unit) (fun _ _=>.err) (fun _ _ _=>.err) (fun s k=>k s) (fun _ _ _=>.err) (fun _=>.err) (fun _ _ _ _ _ _=>.err) (fun _ _ _ _=>.err) (fun _=>.err) (fun _ _=>.err) (fun _=>.err) (fun _ _ _ _ _ _=>.err) (fun _=>.err) (fun _ _ _ _=>.err) (fun _=>.err) (fun _ _ _=>.err) (fun _ _ _=>.err) () (fun _ _ _ _=>()) v k)
noncomputable def binID (op:BinOp) (q q':IntKind) (a b:Int) (k:AV→ah):ah:=high (BinOp.casesOn op
    (Bool.casesOn (ajY q q') .err (oK q a b fun n=>k (.int q n)))
    (Bool.casesOn (ajY q q') .err (amc q a b fun n=>k (.int q n)))
    (Bool.casesOn (ajY q q') .err (Gb q a b fun n=>k (.int q n)))
    (Bool.casesOn (ajY q q') .err (aw1 q a b fun n=>k (.int q n)))
    (Bool.casesOn (ajY q q') .err (remK q a b fun n=>k (.int q n)))
    (Bool.casesOn (ajY q q') .err (bitK .and q a b fun n=>k (.int q n)))
    (Bool.casesOn (ajY q q') .err (bitK .or q a b fun n=>k (.int q n)))
    (Bool.casesOn (ajY q q') .err (bitK .xor q a b fun n=>k (.int q n)))
    (ak4 q a b fun n=>k (.int q n))
    (shrK q a b fun n=>k (.int q n))
    (Bool.casesOn (ajY q q') .err (bitK .andNot q a b fun n=>k (.int q n)))
    (Bool.casesOn (ajY q q') .err (k (.bool (eqF a b))))
    (Bool.casesOn (ajY q q') .err (k (.bool (mW (eqF a b)))))
    (Bool.casesOn (ajY q q') .err (k (.bool (ltF a b))))
    (Bool.casesOn (ajY q q') .err (k (.bool (mW (ltF b a)))))
    (Bool.casesOn (ajY q q') .err (k (.bool (ltF b a))))
    (Bool.casesOn (ajY q q') .err (k (.bool (mW (ltF a b))))))
noncomputable def binSD (op:BinOp) (a b:List UInt8) (k:AV→ah):ah:=high (BinOp.casesOn op
    (catK a b fun n=>k (.str n)) .err .err .err .err .err .err .err .err .err .err
    (k (.bool (aeQ a b))) (k (.bool (mW (aeQ a b)))) .err .err .err .err)
noncomputable def binD (op:BinOp) (u v:AV) (k:AV→ah):ah:=high (AV.casesOn u (fun _=>.err) (fun q a=>intD v fun q' b=>binID op q q' a b k) (fun a=>strD v fun b=>binSD op a b k) (fun _ _=>.err) .err (fun _ _ _ _ _=>.err) (fun _ _ _=>.err) .err (fun _=>.err) .err (fun _ _ _=>.err) .err (fun _ _=>.err) .err (fun _=>.err) (fun _=>.err))
noncomputable def opD (o:AOp) (tm:Tr AV) (H:ad) (k:AV→ad→ah):ah:=AOp.casesOn o
  (fun x=>evK tm x fun v=>k v H)
  (fun c a b=>evK tm c fun v=>aA3 v fun t=>ifD t (evK tm a fun v=>k v H) (evK tm b fun v=>k v H))
  (fun x=>evK tm x fun v=>aA3 v fun t=>k (.bool (mW t)) H)
  (fun op x y=>evK tm x fun u=>evK tm y fun v=>binD op u v fun r=>k r H)
  (fun e neg x y=>evK tm x fun u=>evK tm y fun v=>EqK.casesOn e (fun n=>aha (.nil n) u v fun r=>k (.bool (X1 neg r)) H)
      (aA3 u fun a=>aA3 v fun b=>k (.bool (X1 neg (eqBB a b))) H) (fun ks=>aha (.plain ks) u v fun r=>k (.bool (X1 neg r)) H))
  (fun q x=>evK tm x fun u=>intD u fun _ n=>NR q n fun r=>k (.int q r) H)
  (fun z=>Jr H (.cells z true 0) fun b H'=>k (.ptr b 0) H')
  (fun x=>evK tm x fun u=>Ad H u fun b H'=>k (.ptr b 0) H')
  (fun z parts=>evPK tm parts fun ps=>uK z ps fun r=>k r H)
  (fun len z parts=>evPK tm parts fun ps=>pZ H len z ps k)
  (fun n agg x=>evK tm x fun u=>nq H u n agg fun r=>k r H)
  (fun n a x=>evK tm a fun a=>evK tm x fun u=>qT H a n u fun H'=>k .undef H')
  (fun x=>evK tm x fun u=>ahr u (k u H))
  (fun d x=>evK tm x fun u=>faK d u fun r=>k r H)
  (fun sz x i=>evK tm x fun u=>evK tm i fun i=>intD i fun _ i=>agV sz u i fun r=>k r H)
  (fun sz len x i=>evK tm x fun u=>evK tm i fun i=>intD i fun _ i=>SA sz len u i fun r=>k r H)
  (fun sz len agg x i=>evK tm x fun u=>evK tm i fun i=>intD i fun _ i=>apC sz len agg u i fun r=>k r H)
  (fun x i=>evK tm x fun u=>evK tm i fun i=>strD u fun s=>intD i fun _ i=>idxSK s i fun n=>k (.int .u8 n) H)
  (fun sk x lo hi mx=>evK tm x fun u=>evOK tm lo fun lo=>evOK tm hi fun hi=>evOK tm mx fun mx=>slK sk u lo hi mx fun r=>k r H)
  (fun ix x=>evK tm x fun u=>extD ix u fun r=>k r H)
  (fun f a c=>evsK tm a fun va=>evsK tm c fun cs=>k (.func f va cs) H)
  (Jr H (.mp []) fun b H'=>k (.map b) H')
  (fun z len cap=>evK tm len fun u=>evK tm cap fun v=>intD u fun _ l=>intD v fun _ c=>mkK H z l c k)
  (fun kk z ok m key=>evK tm m fun m=>evK tm key fun u=>ahs H kk z m u fun r b=>Bool.casesOn ok (k r H) (k (.tuple [r,.bool b]) H))
  (fun kk m key x=>evK tm m fun m=>evK tm key fun u=>evK tm x fun y=>auj H kk m u y fun H'=>k .undef H')
  (fun kk m key=>evK tm m fun m=>evK tm key fun u=>at8 H kk m u fun H'=>k .undef H')
  (fun lk x=>evK tm x fun u=>LenK.casesOn lk (strD u fun s=>lenStrK s fun n=>k (.int .i64 n) H) (fun n=>k (.int .i64 (.ofNat n)) H)
      (mX u fun n=>k (.int .i64 n) H) (azN H u fun n=>k (.int .i64 n) H))
  (fun mx xs=>evsK tm xs fun vs=>Ui mx vs fun r=>k r H)
  (fun sz s x=>evK tm s fun s=>evK tm x fun x=>sI H sz s x k)
  (fun sz d x=>evK tm d fun d=>evK tm x fun x=>copyK H sz d x k)
  (fun z x=>evK tm x fun x=>aBE H z x fun H'=>k .undef H')
inductive Ty where
  | any | int (q:IntKind) | bool | str
abbrev Kp:=List (P × Ty)
inductive SC where
  | skip
  | reg (l:List (Option Kp × List Ins))
  | regU (l:List UI)
  | seq (g:Option Kp) (a b:SC)
  | cond (c:Opd) (a b:SC)
  | block (id:Nat) (g:Option Kp) (a:SC)
  | loop (g:Kp) (a:SC)
  | exit (id:Nat)
  | ret
def aB3:List (Option Kp × List Ins)→List Ins
  | []=>[]
  | x::l=>x.2++aB3 l
def anw:SC→AC
  | .skip=>.skip
  | .reg l=>.reg (aB3 l)
  | .regU l=>.regU l
  | .seq _ a b=>.seq (anw a) (anw b)
  | .cond c a b=>.cond c (anw a) (anw b)
  | .block id _ a=>.block id (anw a)
  | .loop _ a=>.loop (anw a)
  | .exit id=>.exit id
  | .ret=>.ret
noncomputable def atw (t:Ty) (v:AV) (k:AV→ah):ah:=high (Ty.casesOn t (k v)
  (fun q=>vIntD q v fun n=>k (.int q n)) (vBoolD v fun b=>k (.bool b)) (vStrD v fun s=>k (.str s)))
noncomputable def keepGo (tm:Tr AV) (g:Kp):Tr AV→(Tr AV→ah)→ah:=
  List.rec (motive:=fun _=>Tr AV→(Tr AV→ah)→ah) (fun acc c=>c acc)
    (fun e _ ih acc c=>Prod.casesOn e fun p t=>Option.casesOn (Tr.get p tm) .err fun v=>atw t v fun v=>Tr.setK p v acc fun acc=>ih acc c) g
noncomputable def aAG (g:Kp) (s:St) (f:St→ah):ah:=St.casesOn s fun tm H=>keepGo tm g .leaf fun tm=>f ⟨tm,H⟩
noncomputable def jn (g:Option Kp) (f:St→ah):St→ah:=Option.casesOn g f fun g s=>aAG g s f
noncomputable def putT (ty:Tr Ty) (d:Option P) (v:AV) (tm:Tr AV) (k:Tr AV→ah):ah:=high (Option.casesOn d (k tm) fun p=>
  Option.casesOn (Tr.get p ty) (Tr.setK p v tm k) fun t=>atw t v fun v=>Tr.setK p v tm k)
noncomputable def isD (tm:Tr AV) (p:P) (kt kf ko:Tr AV→ah):ah:=high (Option.casesOn (Tr.get p tm) .err fun v=>
  AV.casesOn v (fun b=>ifD b (Tr.setK p (.bool true) tm kt) (Tr.setK p (.bool false) tm kf)) (fun _ _=>ko tm) (fun _=>ko tm) (fun _ _=>ko tm) (ko tm) (fun _ _ _ _ _=>ko tm) (fun _ _ _=>ko tm) (ko tm) (fun _=>ko tm) (ko tm) (fun _ _ _=>ko tm) (ko tm) (fun _ _=>ko tm) (ko tm) (fun _=>ko tm) (fun _=>ko tm))
noncomputable def azB (g:Gd) (tm:Tr AV) (ky kn:Tr AV→ah):ah:=high (Gd.casesOn g (ky tm) fun p want=>Bool.casesOn want (isD tm p kn ky kn) (isD tm p ky kn kn))
noncomputable def condD (c:Opd) (s:St) (ka kb:St→ah):ah:=high (St.casesOn s fun tm H=>Opd.casesOn c
  (fun p=>isD tm p (fun tm=>ka ⟨tm,H⟩) (fun tm=>kb ⟨tm,H⟩) (fun _=>.err)) (fun v=>aA3 v fun b=>ifD b (ka ⟨tm,H⟩) (kb ⟨tm,H⟩)))
abbrev aW:=AV→List AV→ad→(AV→ad→ah)→ah
noncomputable def insD (cf:aW) (ty:Tr Ty) (x:Ins) (s:St) (k:St→ah):ah:=St.casesOn s fun tm H=>Ins.casesOn x
  (fun g d o=>azB g tm (fun tm=>opD o tm H fun v H'=>putT ty d v tm fun tm=>k ⟨tm,H'⟩) (fun tm=>putK tm d .undef fun tm=>k ⟨tm,H⟩))
  (fun g d q f args=>azB g tm (fun tm=>evK tm f fun fv=>evsK tm args fun vs=>
      Bool.casesOn q (cf fv vs H fun v H'=>putT ty d v tm fun tm=>k ⟨tm,H'⟩)
        (cf fv vs (H.shut true) fun v H'=>putT ty d v tm fun tm=>k ⟨tm,H'.back H.ro⟩))
    (fun tm=>putK tm d .undef fun tm=>k ⟨tm,H⟩))
noncomputable def jB (cf:aW) (ty:Tr Ty) (l:List Ins):(St→ah)→St→ah:=
  List.rec (motive:=fun _=>(St→ah)→St→ah) (fun k s=>k s) (fun x _ ih k s=>insD cf ty x s (ih k)) l
noncomputable def regsD (cf:aW) (ty:Tr Ty) (l:List (Option Kp × List Ins)):(St→ah)→St→ah:=
  List.rec (motive:=fun _=>(St→ah)→St→ah) (fun k s=>k s) (fun x _ ih k s=>Prod.casesOn x fun g l=>jB cf ty l (jn g (ih k)) s) l
noncomputable def redoD (cf:aW) (ty:Tr Ty) (y:Sv) (H:ad) (k:ah):ah:=
  insD cf ty y.x ⟨y.tm,H⟩ fun s=>St.casesOn s fun tm _=>Option.casesOn y.x.dst .err fun d=>Option.casesOn (Tr.get d tm) .err fun v=>ifD (aAN y.v v) (ifD (lowA y.nx y.v) k .err) .err
noncomputable def avG (cf:aW) (ty:Tr Ty) (sv:List (Nat × Sv)) (H:ad) (is:List Nat) (k:ah):ah:=
  List.rec (motive:=fun _=>ah) k (fun i _ ih=>Option.casesOn (abx i sv) .err fun y=>redoD cf ty y H ih) is
noncomputable def ayP (cf:aW) (ty:Tr Ty) (l:List UI):Nat→List (Nat × Sv)→(St→ah)→St→ah:=
  List.rec (motive:=fun _=>Nat→List (Nat × Sv)→(St→ah)→St→ah) (fun _ _ k s=>k s)
    (fun u _ ih j sv k s=>List.casesOn u.back (insD cf ty u.x s fun s'=>avG cf ty sv s'.hp u.again
      (Bool.casesOn u.keep (ih (j+1) sv k s') (Option.casesOn u.x.dst .err fun d=>Option.casesOn (Tr.get d s'.tm) .err fun v=>ih (j+1) ((j,⟨u.x,s.tm,v,s.hp.nx⟩)::sv) k s'))) (fun _ _=>.err)) l
noncomputable def loopD (g:Kp) (body:(St→ah)→St→ah) (n:Nat):St→ah:=
  Nat.rec (motive:=fun _=>St→ah) (fun _=>.err) (fun _ F s=>body (fun s=>aAG g s F) s) n
noncomputable def D (cf:aW) (ty:Tr Ty) (n:Nat) (c:SC):(St→ah)→(Nat→St→ah)→(St→ah)→St→ah:=
  SC.rec (motive:=fun _=>(St→ah)→(Nat→St→ah)→(St→ah)→St→ah)
  (fun kn _ _ s=>kn s)
  (fun l kn _ _ s=>regsD cf ty l kn s)
  (fun l kn _ _ s=>ayP cf ty l 0 [] kn s)
  (fun g _ _ iha ihb kn ke kr s=>iha (jn g (ihb kn ke kr)) ke kr s)
  (fun c _ _ iha ihb kn ke kr s=>condD c s (iha kn ke kr) (ihb kn ke kr))
  (fun id g _ iha kn ke kr s=>iha (jn g kn) (fun i s=>Bool.casesOn (Nat.beq i id) (ke i s) (jn g kn s)) kr s)
  (fun g _ iha _ ke kr s=>aAG g s (loopD g (fun F=>iha F ke kr) n))
  (fun id _ ke _ s=>ke id s)
  (fun _ _ kr s=>kr s) c
noncomputable def aCH (g:Kp):List AV→Tr AV→(Tr AV→ah)→ah:=
  List.rec (motive:=fun _=>List AV→Tr AV→(Tr AV→ah)→ah) (fun vs tm k=>List.casesOn vs (k tm) (fun _ _=>.err))
    (fun e _ ih vs tm k=>List.casesOn vs .err fun v vs=>Prod.casesOn e fun p t=>atw t v fun v=>Tr.setK p v tm fun tm=>ih vs tm k) g
noncomputable def rvK (r:Rv) (s:St) (k:AV→ah):ah:=high (St.casesOn s fun tm H=>Rv.casesOn r (fun p=>Option.casesOn (Tr.get p tm) .err k)
  (fun p n agg=>Option.casesOn (Tr.get p tm) .err fun v=>nq H v n agg k))
noncomputable def finGo (rs:List (Rv × Ty)) (s:St):(List AV→ah)→ah:=
  List.rec (motive:=fun _=>(List AV→ah)→ah) (fun k=>k []) (fun x _ ih k=>Prod.casesOn x fun r t=>rvK r s fun v=>atw t v fun v=>ih fun vs=>k (v::vs)) rs
noncomputable def oneK (vs:List AV):AV:=List.casesOn vs (.tuple []) fun v t=>List.casesOn t v (fun _ _=>.tuple vs)
noncomputable def lP (rs:List (Rv × Ty)) (k:AV→ad→ah) (s:St):ah:=finGo rs s fun vs=>k (oneK vs) s.hp
abbrev Wr:=List AV→ad→(AV→ad→ah)→ah
noncomputable def findW (f:Nat) (l:List (Nat × Wr)):Option Wr:=
  List.rec (motive:=fun _=>Option Wr) none (fun e _ ih=>Prod.casesOn e fun g w=>Bool.casesOn (Nat.beq f g) ih (some w)) l
noncomputable def pl (l:List (Nat × Wr)):aW:=fun fv vs H k=>AV.casesOn fv (fun _=>.err) (fun _ _=>.err) (fun _=>.err) (fun _ _=>.err) .err (fun _ _ _ _ _=>.err) (fun _ _ _=>.err) .err (fun _=>.err) .err
  (fun f first cap=>Option.casesOn (findW f l) .err fun w=>w (amp first (amp vs cap id) id) H k) .err (fun _ _=>.err) .err (fun _=>.err) (fun _=>.err)
noncomputable def W (ps:Kp) (rs:List (Rv × Ty)) (l:List (Nat × Wr)) (ty:Tr Ty) (n:Nat) (c:SC):Wr:=fun args H k=>
  aCH ps args .leaf fun tm=>D (pl l) ty n c (lP rs k) (fun _ _=>.err) (lP rs k) ⟨tm,H⟩
noncomputable def aInt (q:IntKind) (args:List AV) (k:Int→List AV→ah):ah:=List.casesOn args .err fun v t=>ac0 q v fun n=>k n t
noncomputable def aBool (args:List AV) (k:Bool→List AV→ah):ah:=List.casesOn args .err fun v t=>aoK v fun n=>k n t
noncomputable def aStr (args:List AV) (k:List UInt8→List AV→ah):ah:=List.casesOn args .err fun v t=>vStr v fun n=>k n t
noncomputable def aAny (args:List AV) (k:AV→List AV→ah):ah:=List.casesOn args .err k
noncomputable def aNil (args:List AV) (k:ah):ah:=List.casesOn args k (fun _ _=>.err)
end Go.Ai
