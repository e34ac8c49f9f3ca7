/- The interpreter's code in continuation style: what is left of an operation when all that is fixed has been carried out; code with notes on what lives and of which kind it is. -/
import Derived.Test.YtnlbfbiogfilfaaGreatAiCallSym
set_option linter.all false
namespace Go.Ai
noncomputable def mN : Nat → (Nat → CRes) → CRes := Nat.rec (motive := fun _ => (Nat → CRes) → CRes) (fun c => c 0) (fun k _ c => c (Nat.succ k))
noncomputable def ifB : Bool → CRes → CRes → CRes := Bool.rec (motive := fun _ => CRes → CRes → CRes) (fun _ e => e) (fun t _ => t)
noncomputable def iC : Int → (Nat → CRes) → (Nat → CRes) → CRes := Int.rec (motive := fun _ => (Nat → CRes) → (Nat → CRes) → CRes) (fun m f _ => f m) (fun m _ g => g m)
noncomputable def aip : Int → (Nat → CRes) → CRes := Int.rec (motive := fun _ => (Nat → CRes) → CRes) (fun m f => f m) (fun _ _ => .err)
noncomputable def oC {α : Type} : Option α → (α → CRes) → CRes := Option.rec (motive := fun _ => (α → CRes) → CRes) (fun _ => .err) (fun a k => k a)
noncomputable def qG (n : Int) (c : Int → CRes) : CRes := iC n (fun m => mN m fun m => c (.ofNat m)) (fun m => mN m fun m => c (.negSucc m))
noncomputable def ikN : IntKind → Nat := IntKind.rec (motive := fun _ => Nat) 0 1 2 3 4 5 6 7
noncomputable def zf (q q' : IntKind) : Bool := Nat.beq (ikN q) (ikN q')
noncomputable def ikTop : IntKind → Nat := IntKind.rec (motive := fun _ => Nat) 128 32768 2147483648 9223372036854775808 256 65536 4294967296 18446744073709551616
noncomputable def apW : IntKind → Bool := IntKind.rec (motive := fun _ => Bool) true true true true false false false false
noncomputable def jk : Bool → Bool := Bool.rec (motive := fun _ => Bool) true false
noncomputable def andB : Bool → Bool → Bool := Bool.rec (motive := fun _ => Bool → Bool) (fun _ => false) (fun b => b)
noncomputable def eqBB : Bool → Bool → Bool := Bool.rec (motive := fun _ => Bool → Bool) (fun b => jk b) (fun b => b)
noncomputable def X7 : Bool → Bool → Bool := Bool.rec (motive := fun _ => Bool → Bool) (fun b => b) (fun b => jk b)
noncomputable def apH (q : IntKind) (m : Nat) (c : Int → CRes) : CRes := mN m fun m => ifB (Nat.blt m (ikTop q)) (c (.ofNat m)) (qG (q.wrap (.ofNat m)) c)
noncomputable def wrapM (q : IntKind) (m : Nat) (c : Int → CRes) : CRes := mN m fun m => ifB (andB (apW q) (Nat.blt m (ikTop q))) (c (.negSucc m)) (qG (q.wrap (.negSucc m)) c)
noncomputable def BG (q : IntKind) (n : Int) (c : Int → CRes) : CRes := iC n (fun m => apH q m c) (fun m => wrapM q m c)
noncomputable def lU (q : IntKind) (a b : Int) (c : Int → CRes) : CRes := iC a (fun x => iC b (fun y => apH q (Nat.add x y) c) (fun _ => BG q (addF a b) c)) (fun _ => BG q (addF a b) c)
noncomputable def Yl (q : IntKind) (a b : Int) (c : Int → CRes) : CRes := BG q (subF a b) c
noncomputable def OL (q : IntKind) (a b : Int) (c : Int → CRes) : CRes := iC a (fun x => iC b (fun y => apH q (Nat.mul x y) c) (fun _ => BG q (mulF a b) c)) (fun _ => BG q (mulF a b) c)
noncomputable def quoK (q : IntKind) (a b : Int) (c : Int → CRes) : CRes := ifB (isZ b) .err (BG q (divF a b) c)
noncomputable def remK (q : IntKind) (a b : Int) (c : Int → CRes) : CRes := ifB (isZ b) .err (qG (modF a b) c)
noncomputable def bitK (op : BinOp) (q : IntKind) (a b : Int) (c : Int → CRes) : CRes := oC (tM op q a b) fun n => qG n c
noncomputable def aiv (q : IntKind) (a b : Int) (c : Int → CRes) : CRes := aip b fun n => BG q (agM q a n) c
noncomputable def shrK (q : IntKind) (a b : Int) (c : Int → CRes) : CRes := aip b fun n => qG (shrF q a n) c
noncomputable def catK (a b : List UInt8) (c : List UInt8 → CRes) : CRes := ifB (Nat.ble (Nat.add (mo a) (mo b)) 1099511627776) (Pd a b c) .err
noncomputable def UA (q : IntKind) : AV → (Int → CRes) → CRes := AV.rec (motive_1 := fun _ => (Int → CRes) → CRes) (motive_2 := fun _ => Unit) (fun _ _ => .err) (fun q' n k => ifB (zf q q') (k n) .err) (fun _ _ => .err) (fun _ _ _ => .err) (fun _ => .err) (fun _ _ _ _ _ _ => .err) (fun _ _ _ _ => .err) (fun _ => .err) (fun _ _ => .err) (fun _ => .err) (fun _ _ _ _ _ _ => .err) (fun _ => .err) (fun _ _ _ _ => .err) (fun _ => .err) (fun _ _ _ => .err) (fun _ _ _ => .err) () (fun _ _ _ _ => ())
noncomputable def Nf : AV → (Bool → CRes) → CRes := AV.rec (motive_1 := fun _ => (Bool → CRes) → CRes) (motive_2 := fun _ => Unit) (fun b k => k b) (fun _ _ _ => .err) (fun _ _ => .err) (fun _ _ _ => .err) (fun _ => .err) (fun _ _ _ _ _ _ => .err) (fun _ _ _ _ => .err) (fun _ => .err) (fun _ _ => .err) (fun _ => .err) (fun _ _ _ _ _ _ => .err) (fun _ => .err) (fun _ _ _ _ => .err) (fun _ => .err) (fun _ _ _ => .err) (fun _ _ _ => .err) () (fun _ _ _ _ => ())
noncomputable def vStr : AV → (List UInt8 → CRes) → CRes := AV.rec (motive_1 := fun _ => (List UInt8 → CRes) → CRes) (motive_2 := fun _ => Unit) (fun _ _ => .err) (fun _ _ _ => .err) (fun s k => k s) (fun _ _ _ => .err) (fun _ => .err) (fun _ _ _ _ _ _ => .err) (fun _ _ _ _ => .err) (fun _ => .err) (fun _ _ => .err) (fun _ => .err) (fun _ _ _ _ _ _ => .err) (fun _ => .err) (fun _ _ _ _ => .err) (fun _ => .err) (fun _ _ _ => .err) (fun _ _ _ => .err) () (fun _ _ _ _ => ())
noncomputable def am8 : AV → (Nat → Nat → CRes) → CRes := AV.rec (motive_1 := fun _ => (Nat → Nat → CRes) → CRes) (motive_2 := fun _ => Unit) (fun _ _ => .err) (fun _ _ _ => .err) (fun _ _ => .err) (fun b o k => k b o) (fun _ => .err) (fun _ _ _ _ _ _ => .err) (fun _ _ _ _ => .err) (fun _ => .err) (fun _ _ => .err) (fun _ => .err) (fun _ _ _ _ _ _ => .err) (fun _ => .err) (fun _ _ _ _ => .err) (fun _ => .err) (fun _ _ _ => .err) (fun _ _ _ => .err) () (fun _ _ _ _ => ())
noncomputable def asSlc : AV → (Nat → Nat → Nat → CRes) → CRes := AV.rec (motive_1 := fun _ => (Nat → Nat → Nat → CRes) → CRes) (motive_2 := fun _ => Unit) (fun _ _ => .err) (fun _ _ _ => .err) (fun _ _ => .err) (fun _ _ _ => .err) (fun _ => .err) (fun b o l _ _ k => k b o l) (fun _ _ _ _ => .err) (fun _ => .err) (fun _ _ => .err) (fun _ => .err) (fun _ _ _ _ _ _ => .err) (fun _ => .err) (fun _ _ _ _ => .err) (fun _ => .err) (fun _ _ _ => .err) (fun _ _ _ => .err) () (fun _ _ _ _ => ())
noncomputable def asMap : AV → (Nat → CRes) → CRes := AV.rec (motive_1 := fun _ => (Nat → CRes) → CRes) (motive_2 := fun _ => Unit) (fun _ _ => .err) (fun _ _ _ => .err) (fun _ _ => .err) (fun _ _ _ => .err) (fun _ => .err) (fun _ _ _ _ _ _ => .err) (fun _ _ _ _ => .err) (fun _ => .err) (fun b k => k b) (fun _ => .err) (fun _ _ _ _ _ _ => .err) (fun _ => .err) (fun _ _ _ _ => .err) (fun _ => .err) (fun _ _ _ => .err) (fun _ _ _ => .err) () (fun _ _ _ _ => ())
noncomputable def asAgg : AV → (List AV → CRes) → CRes := AV.rec (motive_1 := fun _ => (List AV → CRes) → CRes) (motive_2 := fun _ => Unit) (fun _ _ => .err) (fun _ _ _ => .err) (fun _ _ => .err) (fun _ _ _ => .err) (fun _ => .err) (fun _ _ _ _ _ _ => .err) (fun _ _ _ _ => .err) (fun _ => .err) (fun _ _ => .err) (fun _ => .err) (fun _ _ _ _ _ _ => .err) (fun _ => .err) (fun _ _ _ _ => .err) (fun _ => .err) (fun l _ k => k l) (fun _ _ _ => .err) () (fun _ _ _ _ => ())
noncomputable def extK (ix : Nat) : AV → (AV → CRes) → CRes := AV.rec (motive_1 := fun _ => (AV → CRes) → CRes) (motive_2 := fun _ => Unit) (fun _ _ => .err) (fun _ _ _ => .err) (fun _ _ => .err) (fun _ _ _ => .err) (fun _ => .err) (fun _ _ _ _ _ _ => .err) (fun _ _ _ _ => .err) (fun _ => .err) (fun _ _ => .err) (fun _ => .err) (fun _ _ _ _ _ _ => .err) (fun _ => .err) (fun _ _ _ _ => .err) (fun _ => .err) (fun _ _ _ => .err) (fun l _ k => oC (nth l ix) k) () (fun _ _ _ _ => ())
noncomputable def Nw : AV → CRes → CRes := AV.rec (motive_1 := fun _ => CRes → CRes) (motive_2 := fun _ => Unit) (fun _ _ => .err) (fun _ _ _ => .err) (fun _ _ => .err) (fun _ _ r => r) (fun _ => .err) (fun _ _ _ _ _ _ => .err) (fun _ _ _ _ => .err) (fun _ => .err) (fun _ _ => .err) (fun _ => .err) (fun _ _ _ _ _ r => r) (fun _ => .err) (fun _ _ _ _ => .err) (fun _ => .err) (fun _ _ _ => .err) (fun _ _ _ => .err) () (fun _ _ _ _ => ())
noncomputable def nilB : NilK → AV → Option Bool := NilK.rec (motive := fun _ => AV → Option Bool) (AV.rec (motive_1 := fun _ => Option Bool) (motive_2 := fun _ => Unit) (fun _ => none) (fun _ _ => none) (fun _ => none) (fun _ _ => some false) (some true) (fun _ _ _ _ _ => none) (fun _ _ _ => none) (none) (fun _ => none) (none) (fun _ _ _ _ _ => none) (none) (fun _ _ _ => none) (none) (fun _ _ => none) (fun _ _ => none) () (fun _ _ _ _ => ())) (AV.rec (motive_1 := fun _ => Option Bool) (motive_2 := fun _ => Unit) (fun _ => none) (fun _ _ => none) (fun _ => none) (fun _ _ => none) (none) (fun _ _ _ _ _ => some false) (fun _ _ _ => some false) (some true) (fun _ => none) (none) (fun _ _ _ _ _ => none) (none) (fun _ _ _ => none) (none) (fun _ _ => none) (fun _ _ => none) () (fun _ _ _ _ => ())) (AV.rec (motive_1 := fun _ => Option Bool) (motive_2 := fun _ => Unit) (fun _ => none) (fun _ _ => none) (fun _ => none) (fun _ _ => none) (none) (fun _ _ _ _ _ => none) (fun _ _ _ => none) (none) (fun _ => some false) (some true) (fun _ _ _ _ _ => none) (none) (fun _ _ _ => none) (none) (fun _ _ => none) (fun _ _ => none) () (fun _ _ _ _ => ())) (AV.rec (motive_1 := fun _ => Option Bool) (motive_2 := fun _ => Unit) (fun _ => none) (fun _ _ => none) (fun _ => none) (fun _ _ => none) (none) (fun _ _ _ _ _ => none) (fun _ _ _ => none) (none) (fun _ => none) (none) (fun _ _ _ _ _ => some false) (some true) (fun _ _ _ => none) (none) (fun _ _ => none) (fun _ _ => none) () (fun _ _ _ _ => ()))
noncomputable def X0 : EqK → AV → AV → (Bool → CRes) → CRes := EqK.rec (motive := fun _ => AV → AV → (Bool → CRes) → CRes)
  (fun k x y c => oC (nilB k x) fun a => oC (nilB k y) fun b => ifB a (c b) (ifB b (c false) .err))
  (fun x y c => oC (eqK .bool x y) c) (fun ks x y c => oC (eqK (.plain ks) x y) c)
noncomputable def amL : AV → (List AV → CRes) → CRes → CRes := AV.rec (motive_1 := fun _ => (List AV → CRes) → CRes → CRes) (motive_2 := fun _ => Unit) (fun _ _ c => c) (fun _ _ _ c => c) (fun _ _ c => c) (fun _ _ _ c => c) (fun _ c => c) (fun _ _ _ _ _ _ c => c) (fun _ _ _ _ c => c) (fun _ c => c) (fun _ _ c => c) (fun _ c => c) (fun _ _ _ _ _ _ c => c) (fun _ c => c) (fun _ _ _ _ c => c) (fun _ c => c) (fun l _ f _ => f l) (fun _ _ _ _ => .err) () (fun _ _ _ _ => ())
noncomputable def getB : P → Tr Blk → (Blk → CRes) → CRes := P.rec (motive := fun _ => Tr Blk → (Blk → CRes) → CRes)
  (Tr.rec (motive := fun _ => (Blk → CRes) → CRes) (fun _ => .err) (fun _ v _ _ _ k => oC v k))
  (fun _ ih => Tr.rec (motive := fun _ => (Blk → CRes) → CRes) (fun _ => .err) (fun l _ _ _ _ k => ih l k))
  (fun _ ih => Tr.rec (motive := fun _ => (Blk → CRes) → CRes) (fun _ => .err) (fun _ _ r _ _ k => ih r k))
noncomputable def setB : P → Blk → Tr Blk → (Tr Blk → CRes) → CRes := P.rec (motive := fun _ => Blk → Tr Blk → (Tr Blk → CRes) → CRes)
  (fun x => Tr.rec (motive := fun _ => (Tr Blk → CRes) → CRes) (fun k => k (.node .leaf (some x) .leaf)) (fun l _ r _ _ k => k (.node l (some x) r)))
  (fun _ ih x => Tr.rec (motive := fun _ => (Tr Blk → CRes) → CRes) (fun k => ih x .leaf fun l => k (.node l none .leaf)) (fun l v r _ _ k => ih x l fun l => k (.node l v r)))
  (fun _ ih x => Tr.rec (motive := fun _ => (Tr Blk → CRes) → CRes) (fun k => ih x .leaf fun r => k (.node .leaf none r)) (fun l v r _ _ k => ih x r fun r => k (.node l v r)))
noncomputable def blkC : Blk → (List AV → Bool → Nat → CRes) → CRes := Blk.rec (motive := fun _ => (List AV → Bool → Nat → CRes) → CRes) (fun l rw g k => k l rw g) (fun _ _ => .err) (fun _ => .err)
noncomputable def yA : Heap → Blk → (Nat → Heap → CRes) → CRes := Heap.rec (motive := fun _ => Blk → (Nat → Heap → CRes) → CRes)
  (fun t nx ro x c => setB (key nx) x t fun t => mN (Nat.succ nx) fun nx' => c nx ⟨t, nx', ro⟩)
noncomputable def setX : Heap → Nat → Blk → (Heap → CRes) → CRes := Heap.rec (motive := fun _ => Nat → Blk → (Heap → CRes) → CRes)
  (fun t nx ro b x c => setB (key b) x t fun t => c ⟨t, nx, ro⟩)
noncomputable def Mm (H : Heap) (b : Nat) (c : List AV → CRes) : CRes := getB (key b) H.t fun x => blkC x fun l _ _ => c l
noncomputable def ownX (H : Heap) (b : Nat) (c : List AV → Nat → CRes) : CRes := ifB (Nat.blt b H.ro) .err (getB (key b) H.t fun x => blkC x fun l rw g => ifB rw (c l g) .err)
noncomputable def nthX : List AV → Nat → (AV → CRes) → CRes := List.rec (motive := fun _ => Nat → (AV → CRes) → CRes) (fun _ _ => .err)
  (fun a _ ih => Nat.rec (motive := fun _ => (AV → CRes) → CRes) (fun k => k a) (fun i _ k => ih i k))
noncomputable def akh (x : AV) : List AV → Nat → (List AV → CRes) → CRes := List.rec (motive := fun _ => Nat → (List AV → CRes) → CRes) (fun _ _ => .err)
  (fun a t ih => Nat.rec (motive := fun _ => (List AV → CRes) → CRes) (fun k => k (x :: t)) (fun i _ k => ih i fun t => k (a :: t)))
noncomputable def am5 : List AV → List AV → (List AV → CRes) → CRes := List.rec (motive := fun _ => List AV → (List AV → CRes) → CRes) (fun l k => k l)
  (fun x _ ih => List.rec (motive := fun _ => (List AV → CRes) → CRes) (fun _ => .err) (fun _ t _ k => ih t fun t => k (x :: t)))
noncomputable def anb (cs : List AV) : List AV → Nat → (List AV → CRes) → CRes := List.rec (motive := fun _ => Nat → (List AV → CRes) → CRes)
  (Nat.rec (motive := fun _ => (List AV → CRes) → CRes) (fun k => am5 cs [] k) (fun _ _ _ => .err))
  (fun a t ih => Nat.rec (motive := fun _ => (List AV → CRes) → CRes) (fun k => am5 cs (a :: t) k) (fun i _ k => ih i fun t => k (a :: t)))
noncomputable def zt (H : Heap) (v : AV) (c : Nat → Heap → CRes) : CRes := amL v (fun l => yA H (.cells l true 0) c) (yA H (.cells [v] true 0) c)
noncomputable def aia (parts : List (Nat × Nat × AV)) : List AV → (List AV → CRes) → CRes :=
  List.rec (motive := fun _ => List AV → (List AV → CRes) → CRes) (fun z k => k z)
    (fun p _ ih z k => amL p.2.2 (fun l => ifB (Nat.beq (mo l) p.2.1) (anb l z p.1 fun z => ih z k) .err) (ifB (Nat.beq 1 p.2.1) (akh p.2.2 z p.1 fun z => ih z k) .err)) parts
noncomputable def wa (z : List AV) (parts : List (Nat × Nat × AV)) (c : AV → CRes) : CRes := aia parts z fun l => c (.agg l)
noncomputable def pR (H : Heap) (len : Nat) (z : List AV) (parts : List (Nat × Nat × AV)) (c : AV → Heap → CRes) : CRes :=
  aia parts z fun l => yA H (.cells l true 0) fun b H' => c (.slice b 0 len 0 false) H'
noncomputable def gJ (H : Heap) (v : AV) (n : Nat) (agg : Bool) (c : AV → CRes) : CRes :=
  am8 v fun b off => Mm H b fun l => ifB agg (oC (sub l off n) fun cs => c (.agg cs)) (ifB (Nat.beq n 1) (nthX l off c) .err)
noncomputable def lR (H : Heap) (a : AV) (n : Nat) (u : AV) (c : Heap → CRes) : CRes :=
  am8 a fun b off => ownX H b fun l g => amL u (fun cs => ifB (Nat.beq (mo cs) n) (anb cs l off fun l => setX H b (.cells l true g) c) .err)
    (ifB (Nat.beq 1 n) (akh u l off fun l => setX H b (.cells l true g) c) .err)
noncomputable def faK (d : Nat) (v : AV) (c : AV → CRes) : CRes := am8 v fun b off => mN (Nat.add off d) fun o => c (.ptr b o)
noncomputable def SM (sz : Nat) (v : AV) (i : Int) (c : AV → CRes) : CRes := asSlc v fun b off len => aip i fun j => ifB (Nat.blt j len) (mN (Nat.add off (Nat.mul j sz)) fun o => c (.ptr b o)) .err
noncomputable def KG (sz len : Nat) (v : AV) (i : Int) (c : AV → CRes) : CRes := am8 v fun b off => aip i fun j => ifB (Nat.blt j len) (mN (Nat.add off (Nat.mul j sz)) fun o => c (.ptr b o)) .err
noncomputable def Xc (sz len : Nat) (agg : Bool) (v : AV) (i : Int) (c : AV → CRes) : CRes := asAgg v fun cs => aip i fun j => ifB (Nat.blt j len)
  (mN (Nat.mul j sz) fun o => oC (sub cs o sz) fun l => oC (MT agg l) c) .err
noncomputable def idxSK (s : List UInt8) (i : Int) (c : Int → CRes) : CRes := aip i fun j => oC (nth s j) fun ch => mN ch.toNat fun n => c (.ofNat n)
noncomputable def Gh (x : Option AV) (dflt Np : Nat) : Option Nat :=
  Option.casesOn x (some dflt) fun v =>
    match v with
    | .int _ i => Ny i none fun n => Bool.casesOn (Nat.ble n Np) none (some n)
    | _ => none
noncomputable def slV (k : SlK) (v : AV) (lo hi mx : Option AV) : Option AV :=
  match k, v with
  | .str, .str s =>
    match mx with
    | some _ => none
    | none => Option.casesOn (Gh hi s.length s.length) none fun h => Option.casesOn (Gh lo 0 h) none fun l => some (.str ((skp s l).take (h - l)))
  | .sl sz, .slice b off len ext opn =>
    Option.casesOn (Gh mx (len + ext) (len + ext)) none fun m =>
    Option.casesOn (Gh hi len m) none fun h =>
    Option.casesOn (Gh lo 0 h) none fun l =>
    match mx, hi with
    | some _, none => none
    | some _, some _ => some (.slice b (if m = l then off else off + l * sz) (h - l) (m - h) false)
    | none, _ =>
      if opn then (if m = l then some (.send b off (off + l * sz)) else some (.slice b (off + l * sz) (h - l) (m - h) true))
      else some (.slice b (if m = l then off else off + l * sz) (h - l) (m - h) false)
  | .sl _, .nilslice =>
    Option.casesOn (Gh mx 0 0) none fun m => Option.casesOn (Gh hi 0 m) none fun h => Option.casesOn (Gh lo 0 h) none fun _ =>
    match mx, hi with
    | some _, none => none
    | _, _ => some .nilslice
  | .arr n sz, .ptr b off =>
    Option.casesOn (Gh mx n n) none fun m =>
    Option.casesOn (Gh hi n m) none fun h =>
    Option.casesOn (Gh lo 0 h) none fun l =>
    match mx, hi with
    | some _, none => none
    | _, _ => some (.slice b (if m = l then off else off + l * sz) (h - l) (m - h) false)
  | _, _ => none
noncomputable def aq1 (v : AV) : (AV → CRes) → CRes := AV.rec (motive_1 := fun _ => (AV → CRes) → CRes) (motive_2 := fun _ => Unit) (fun _ c => c v) (fun _ _ c => c v) (fun _ c => c v) (fun _ _ c => c v) (fun c => c v) (fun b o l e p c => mN b fun b => mN o fun o => mN l fun l => mN e fun e => ifB p (c (.slice b o l e true)) (c (.slice b o l e false))) (fun _ _ _ c => c v) (fun c => c v) (fun _ c => c v) (fun c => c v) (fun _ _ _ _ _ c => c v) (fun c => c v) (fun _ _ _ c => c v) (fun c => c v) (fun _ _ c => c v) (fun _ _ c => c v) () (fun _ _ _ _ => ()) v
noncomputable def forceH : Heap → (Heap → CRes) → CRes := Heap.rec (motive := fun _ => (Heap → CRes) → CRes) (fun t nx ro c => mN nx fun nx => c ⟨t, nx, ro⟩)
noncomputable def slK (k : SlK) (v : AV) (lo hi mx : Option AV) (c : AV → CRes) : CRes := oC (slV k v lo hi mx) fun r => aq1 r c
noncomputable def mkK (H : Heap) (z : List AV) (l n : Int) (c : AV → Heap → CRes) : CRes := aip l fun l => aip n fun n =>
  ifB (andB (Nat.ble l n) (Nat.ble n Np)) (yA H (.cells (Rz z n) true 0) fun b H' => mN (Nat.sub n l) fun e => c (.slice b 0 l e false) H') .err
noncomputable def amN (H : Heap) : AV → Option (List (AV × AV)) := AV.rec (motive_1 := fun _ => Option (List (AV × AV))) (motive_2 := fun _ => Unit) (fun _ => none) (fun _ _ => none) (fun _ => none) (fun _ _ => none) (none) (fun _ _ _ _ _ => none) (fun _ _ _ => none) (none) (fun b => xg H b) (some []) (fun _ _ _ _ _ => none) (none) (fun _ _ _ => none) (none) (fun _ _ => none) (fun _ _ => none) () (fun _ _ _ _ => ())
noncomputable def afG (H : Heap) (kk : KeyK) (z m u : AV) (c : AV → Bool → CRes) : CRes :=
  oC (amN H m) fun es => oC (qL kk u u) fun _ => oC (afK kk u es) fun r => Option.rec (motive := fun _ => CRes) (c z false) (fun x => c x true) r
noncomputable def abm (H : Heap) (kk : KeyK) (m u y : AV) (c : Heap → CRes) : CRes :=
  asMap m fun b => ifB (Nat.blt b H.ro) .err (oC (xg H b) fun es => oC (qL kk u u) fun _ => oC (putF kk u y es) fun es' => setX H b (.mp es') c)
noncomputable def mapdelF (H : Heap) (kk : KeyK) (m u : AV) : Option Heap := Option.casesOn (qL kk u u) none fun _ => match m with
      | .map b => Bool.casesOn (Nat.blt b H.ro) (Option.casesOn (xg H b) none fun es => Option.casesOn (delF kk u es) none fun es' => H.setK b (.mp es') some) none
      | .nilmap => some H
      | _ => none
noncomputable def arw (H : Heap) (kk : KeyK) (m u : AV) (c : Heap → CRes) : CRes := oC (mapdelF H kk m u) c
noncomputable def ar0 (s : List UInt8) (c : Int → CRes) : CRes := mN (mo s) fun n => c (.ofNat n)
noncomputable def jb : AV → (Int → CRes) → CRes := AV.rec (motive_1 := fun _ => (Int → CRes) → CRes) (motive_2 := fun _ => Unit) (fun _ _ => .err) (fun _ _ _ => .err) (fun _ _ => .err) (fun _ _ _ => .err) (fun _ => .err) (fun _ _ l _ _ c => c (.ofNat l)) (fun _ _ _ c => c (.ofNat 0)) (fun c => c (.ofNat 0)) (fun _ _ => .err) (fun _ => .err) (fun _ _ _ _ _ _ => .err) (fun _ => .err) (fun _ _ _ _ => .err) (fun _ => .err) (fun _ _ _ => .err) (fun _ _ _ => .err) () (fun _ _ _ _ => ())
noncomputable def akg (H : Heap) (v : AV) (c : Int → CRes) : CRes := oC (amN H v) fun es => mN (mo es) fun n => c (.ofNat n)
noncomputable def Qd (mx : Bool) (vs : List AV) (c : AV → CRes) : CRes := List.casesOn vs .err fun v vs => oC (abq mx v vs) c
noncomputable def outK (r : Option (AV × Heap)) (c : AV → Heap → CRes) : CRes := oC r fun r => Prod.rec (motive := fun _ => CRes) c r
noncomputable def qk (H : Heap) (sz : Nat) (s x : AV) (c : AV → Heap → CRes) : CRes := outK (uX H sz s x) fun v H' => aq1 v fun v => forceH H' fun H' => c v H'
noncomputable def copyK (H : Heap) (sz : Nat) (d x : AV) (c : AV → Heap → CRes) : CRes := outK (apo H sz d x) c
noncomputable def ajK (H : Heap) (z : List AV) (x : AV) (c : Heap → CRes) : CRes := outK (U5 H z x) fun _ H' => c H'
noncomputable def ldI (q : IntKind) (H : Heap) (v : AV) (c : Int → CRes) : CRes := gJ H v 1 false fun x => UA q x c
noncomputable def ldB (H : Heap) (v : AV) (c : Bool → CRes) : CRes := gJ H v 1 false fun x => Nf x c
noncomputable def fld (d : Nat) (H : Heap) (v : AV) (n : Nat) (agg : Bool) (c : AV → AV → CRes) : CRes := faK d v fun a => gJ H a n agg fun x => c a x
noncomputable def jO (q : IntKind) (d : Nat) (H : Heap) (v : AV) (c : AV → Int → CRes) : CRes := faK d v fun a => gJ H a 1 false fun x => UA q x fun x => c a x
noncomputable def fldB (d : Nat) (H : Heap) (v : AV) (c : AV → Bool → CRes) : CRes := faK d v fun a => gJ H a 1 false fun x => Nf x fun x => c a x
noncomputable def nfa (d : Nat) (v : AV) (c : AV → CRes) : CRes := Nw v (faK d v c)
noncomputable def Z3 (d : Nat) (H : Heap) (v : AV) (n : Nat) (agg : Bool) (c : AV → AV → CRes) : CRes := Nw v (fld d H v n agg c)
noncomputable def apt (q : IntKind) (d : Nat) (H : Heap) (v : AV) (c : AV → Int → CRes) : CRes := Nw v (jO q d H v c)
noncomputable def nfldB (d : Nat) (H : Heap) (v : AV) (c : AV → Bool → CRes) : CRes := Nw v (fldB d H v c)
noncomputable def eld (sz : Nat) (H : Heap) (v : AV) (i : Int) (n : Nat) (agg : Bool) (c : AV → AV → CRes) : CRes := SM sz v i fun a => gJ H a n agg fun x => c a x
noncomputable def Q6 (q : IntKind) (sz : Nat) (H : Heap) (v : AV) (i : Int) (c : AV → Int → CRes) : CRes := SM sz v i fun a => gJ H a 1 false fun x => UA q x fun x => c a x
noncomputable def fst (d : Nat) (H : Heap) (v : AV) (n : Nat) (u : AV) (c : AV → Heap → CRes) : CRes := faK d v fun a => lR H a n u fun H => c a H
noncomputable def nfst (d : Nat) (H : Heap) (v : AV) (n : Nat) (u : AV) (c : AV → Heap → CRes) : CRes := Nw v (fst d H v n u c)
def hi0 : Bool := true
def hi1 : Bool := hi0
def hi2 : Bool := hi1
def hi3 : Bool := hi2
def hi4 : Bool := hi3
def hi5 : Bool := hi4
def hi6 : Bool := hi5
def hi7 : Bool := hi6
def hi8 : Bool := hi7
def hi9 : Bool := hi8
def hi10 : Bool := hi9
def hi11 : Bool := hi10
def hi12 : Bool := hi11
def hi13 : Bool := hi12
def hi14 : Bool := hi13
def hi15 : Bool := hi14
def hi16 : Bool := hi15
def hi17 : Bool := hi16
def hi18 : Bool := hi17
def hi19 : Bool := hi18
def hi20 : Bool := hi19
def hi21 : Bool := hi20
def hi22 : Bool := hi21
def hi23 : Bool := hi22
def hi24 : Bool := hi23
def hi25 : Bool := hi24
def hi26 : Bool := hi25
def hi27 : Bool := hi26
def hi28 : Bool := hi27
def hi29 : Bool := hi28
def hi30 : Bool := hi29
def hi31 : Bool := hi30
def hi32 : Bool := hi31
def hi33 : Bool := hi32
def hi34 : Bool := hi33
def hi35 : Bool := hi34
def hi36 : Bool := hi35
def hi37 : Bool := hi36
def hi38 : Bool := hi37
def hi39 : Bool := hi38
def hi40 : Bool := hi39
def hi41 : Bool := hi40
def hi42 : Bool := hi41
def hi43 : Bool := hi42
def hi44 : Bool := hi43
def hi45 : Bool := hi44
def hi46 : Bool := hi45
def hi47 : Bool := hi46
def hi48 : Bool := hi47
def hi49 : Bool := hi48
def hi50 : Bool := hi49
noncomputable def high (a : CRes) : CRes := (fun _ : Bool => a) hi50
noncomputable def ifD (b : Bool) (t e : CRes) : CRes := high (Bool.rec (motive := fun _ => CRes → CRes → CRes) (fun _ e => e) (fun t _ => t) b t e)
noncomputable def evK (tm : Tr AV) (x : Opd) (k : AV → CRes) : CRes := high (Opd.casesOn x (fun p => Option.casesOn (Tr.get p tm) .err k) k)
noncomputable def evsK (tm : Tr AV) (xs : List Opd) : (List AV → CRes) → CRes :=
  List.rec (motive := fun _ => (List AV → CRes) → CRes) (fun k => k []) (fun x _ ih k => evK tm x fun v => ih fun vs => k (v :: vs)) xs
noncomputable def evOK (tm : Tr AV) (x : Option Opd) (k : Option AV → CRes) : CRes := high (Option.casesOn x (k none) fun x => evK tm x fun v => k (some v))
noncomputable def evPK (tm : Tr AV) (xs : List (Nat × Nat × Opd)) : (List (Nat × Nat × AV) → CRes) → CRes :=
  List.rec (motive := fun _ => (List (Nat × Nat × AV) → CRes) → CRes) (fun k => k [])
    (fun x _ ih k => Prod.casesOn x fun a y => Prod.casesOn y fun b x => evK tm x fun v => ih fun vs => k ((a, b, v) :: vs)) xs
noncomputable def intD (v : AV) (k : IntKind → Int → CRes) : CRes := high (AV.casesOn v (fun _ => .err) k (fun _ => .err) (fun _ _ => .err) .err (fun _ _ _ _ _ => .err) (fun _ _ _ => .err) .err (fun _ => .err) .err (fun _ _ _ => .err) .err (fun _ _ => .err) .err (fun _ => .err) (fun _ => .err))
noncomputable def am1 (v : AV) (k : Bool → CRes) : CRes := high (AV.casesOn v k (fun _ _ => .err) (fun _ => .err) (fun _ _ => .err) .err (fun _ _ _ _ _ => .err) (fun _ _ _ => .err) .err (fun _ => .err) .err (fun _ _ _ => .err) .err (fun _ _ => .err) .err (fun _ => .err) (fun _ => .err))
noncomputable def strD (v : AV) (k : List UInt8 → CRes) : CRes := high (AV.casesOn v (fun _ => .err) (fun _ _ => .err) k (fun _ _ => .err) .err (fun _ _ _ _ _ => .err) (fun _ _ _ => .err) .err (fun _ => .err) .err (fun _ _ _ => .err) .err (fun _ _ => .err) .err (fun _ => .err) (fun _ => .err))
noncomputable def extD (ix : Nat) (v : AV) (k : AV → CRes) : CRes := high (AV.rec (motive_1 := fun _ => (AV → CRes) → CRes) (motive_2 := fun _ => Unit) (fun _ _ => .err) (fun _ _ _ => .err) (fun _ _ => .err) (fun _ _ _ => .err) (fun _ => .err) (fun _ _ _ _ _ _ => .err) (fun _ _ _ _ => .err) (fun _ => .err) (fun _ _ => .err) (fun _ => .err) (fun _ _ _ _ _ _ => .err) (fun _ => .err) (fun _ _ _ _ => .err) (fun _ => .err) (fun _ _ _ => .err) (fun l _ k => oC (nth l ix) k) () (fun _ _ _ _ => ()) v k)
noncomputable def vIntD (q : IntKind) (v : AV) (k : Int → CRes) : CRes := high (AV.rec (motive_1 := fun _ => (Int → CRes) → CRes) (motive_2 := fun _ => Unit) (fun _ _ => .err) (fun q' n k => ifB (zf q q') (k n) .err) (fun _ _ => .err) (fun _ _ _ => .err) (fun _ => .err) (fun _ _ _ _ _ _ => .err) (fun _ _ _ _ => .err) (fun _ => .err) (fun _ _ => .err) (fun _ => .err) (fun _ _ _ _ _ _ => .err) (fun _ => .err) (fun _ _ _ _ => .err) (fun _ => .err) (fun _ _ _ => .err) (fun _ _ _ => .err) () (fun _ _ _ _ => ()) v k)
noncomputable def vBoolD (v : AV) (k : Bool → CRes) : CRes := high (AV.rec (motive_1 := fun _ => (Bool → CRes) → CRes) (motive_2 := fun _ => Unit) (fun b k => k b) (fun _ _ _ => .err) (fun _ _ => .err) (fun _ _ _ => .err) (fun _ => .err) (fun _ _ _ _ _ _ => .err) (fun _ _ _ _ => .err) (fun _ => .err) (fun _ _ => .err) (fun _ => .err) (fun _ _ _ _ _ _ => .err) (fun _ => .err) (fun _ _ _ _ => .err) (fun _ => .err) (fun _ _ _ => .err) (fun _ _ _ => .err) () (fun _ _ _ _ => ()) v k)
noncomputable def vStrD (v : AV) (k : List UInt8 → CRes) : CRes := high (AV.rec (motive_1 := fun _ => (List UInt8 → CRes) → CRes) (motive_2 := fun _ => Unit) (fun _ _ => .err) (fun _ _ _ => .err) (fun s k => k s) (fun _ _ _ => .err) (fun _ => .err) (fun _ _ _ _ _ _ => .err) (fun _ _ _ _ => .err) (fun _ => .err) (fun _ _ => .err) (fun _ => .err) (fun _ _ _ _ _ _ => .err) (fun _ => .err) (fun _ _ _ _ => .err) (fun _ => .err) (fun _ _ _ => .err) (fun _ _ _ => .err) () (fun _ _ _ _ => ()) v k)
noncomputable def binID (op : BinOp) (q q' : IntKind) (a b : Int) (k : AV → CRes) : CRes := high (BinOp.casesOn op
    (Bool.casesOn (zf q q') .err (lU q a b fun n => k (.int q n)))
    (Bool.casesOn (zf q q') .err (Yl q a b fun n => k (.int q n)))
    (Bool.casesOn (zf q q') .err (OL q a b fun n => k (.int q n)))
    (Bool.casesOn (zf q q') .err (quoK q a b fun n => k (.int q n)))
    (Bool.casesOn (zf q q') .err (remK q a b fun n => k (.int q n)))
    (Bool.casesOn (zf q q') .err (bitK .and q a b fun n => k (.int q n)))
    (Bool.casesOn (zf q q') .err (bitK .or q a b fun n => k (.int q n)))
    (Bool.casesOn (zf q q') .err (bitK .xor q a b fun n => k (.int q n)))
    (aiv q a b fun n => k (.int q n))
    (shrK q a b fun n => k (.int q n))
    (Bool.casesOn (zf q q') .err (bitK .andNot q a b fun n => k (.int q n)))
    (Bool.casesOn (zf q q') .err (k (.bool (eqF a b))))
    (Bool.casesOn (zf q q') .err (k (.bool (jk (eqF a b)))))
    (Bool.casesOn (zf q q') .err (k (.bool (ltF a b))))
    (Bool.casesOn (zf q q') .err (k (.bool (jk (ltF b a)))))
    (Bool.casesOn (zf q q') .err (k (.bool (ltF b a))))
    (Bool.casesOn (zf q q') .err (k (.bool (jk (ltF a b))))))
noncomputable def binSD (op : BinOp) (a b : List UInt8) (k : AV → CRes) : CRes := high (BinOp.casesOn op
    (catK a b fun n => k (.str n)) .err .err .err .err .err .err .err .err .err .err
    (k (.bool (zb a b))) (k (.bool (jk (zb a b)))) .err .err .err .err)
noncomputable def binD (op : BinOp) (u v : AV) (k : AV → CRes) : CRes := high (AV.casesOn u (fun _ => .err) (fun q a => intD v fun q' b => binID op q q' a b k) (fun a => strD v fun b => binSD op a b k) (fun _ _ => .err) .err (fun _ _ _ _ _ => .err) (fun _ _ _ => .err) .err (fun _ => .err) .err (fun _ _ _ => .err) .err (fun _ _ => .err) .err (fun _ => .err) (fun _ => .err))
noncomputable def opD (o : AOp) (tm : Tr AV) (H : Heap) (k : AV → Heap → CRes) : CRes := AOp.casesOn o
  (fun x => evK tm x fun v => k v H)
  (fun c a b => evK tm c fun v => am1 v fun t => ifD t (evK tm a fun v => k v H) (evK tm b fun v => k v H))
  (fun x => evK tm x fun v => am1 v fun t => k (.bool (jk t)) H)
  (fun op x y => evK tm x fun u => evK tm y fun v => binD op u v fun r => k r H)
  (fun e neg x y => evK tm x fun u => evK tm y fun v => EqK.casesOn e (fun n => X0 (.nil n) u v fun r => k (.bool (X7 neg r)) H)
      (am1 u fun a => am1 v fun b => k (.bool (X7 neg (eqBB a b))) H) (fun ks => X0 (.plain ks) u v fun r => k (.bool (X7 neg r)) H))
  (fun q x => evK tm x fun u => intD u fun _ n => BG q n fun r => k (.int q r) H)
  (fun z => yA H (.cells z true 0) fun b H' => k (.ptr b 0) H')
  (fun x => evK tm x fun u => zt H u fun b H' => k (.ptr b 0) H')
  (fun z parts => evPK tm parts fun ps => wa z ps fun r => k r H)
  (fun len z parts => evPK tm parts fun ps => pR H len z ps k)
  (fun n agg x => evK tm x fun u => gJ H u n agg fun r => k r H)
  (fun n a x => evK tm a fun a => evK tm x fun u => lR H a n u fun H' => k .undef H')
  (fun x => evK tm x fun u => Nw u (k u H))
  (fun d x => evK tm x fun u => faK d u fun r => k r H)
  (fun sz x i => evK tm x fun u => evK tm i fun i => intD i fun _ i => SM sz u i fun r => k r H)
  (fun sz len x i => evK tm x fun u => evK tm i fun i => intD i fun _ i => KG sz len u i fun r => k r H)
  (fun sz len agg x i => evK tm x fun u => evK tm i fun i => intD i fun _ i => Xc sz len agg u i fun r => k r H)
  (fun x i => evK tm x fun u => evK tm i fun i => strD u fun s => intD i fun _ i => idxSK s i fun n => k (.int .u8 n) H)
  (fun sk x lo hi mx => evK tm x fun u => evOK tm lo fun lo => evOK tm hi fun hi => evOK tm mx fun mx => slK sk u lo hi mx fun r => k r H)
  (fun ix x => evK tm x fun u => extD ix u fun r => k r H)
  (fun f a c => evsK tm a fun va => evsK tm c fun cs => k (.func f va cs) H)
  (yA H (.mp []) fun b H' => k (.map b) H')
  (fun z len cap => evK tm len fun u => evK tm cap fun v => intD u fun _ l => intD v fun _ c => mkK H z l c k)
  (fun kk z ok m key => evK tm m fun m => evK tm key fun u => afG H kk z m u fun r b => Bool.casesOn ok (k r H) (k (.tuple [r, .bool b]) H))
  (fun kk m key x => evK tm m fun m => evK tm key fun u => evK tm x fun y => abm H kk m u y fun H' => k .undef H')
  (fun kk m key => evK tm m fun m => evK tm key fun u => arw H kk m u fun H' => k .undef H')
  (fun lk x => evK tm x fun u => LenK.casesOn lk (strD u fun s => ar0 s fun n => k (.int .i64 n) H) (fun n => k (.int .i64 (.ofNat n)) H)
      (jb u fun n => k (.int .i64 n) H) (akg H u fun n => k (.int .i64 n) H))
  (fun mx xs => evsK tm xs fun vs => Qd mx vs fun r => k r H)
  (fun sz s x => evK tm s fun s => evK tm x fun x => qk H sz s x k)
  (fun sz d x => evK tm d fun d => evK tm x fun x => copyK H sz d x k)
  (fun z x => evK tm x fun x => ajK H z x fun H' => k .undef H')
inductive Ty where
  | any | int (q : IntKind) | bool | str
abbrev Kp := List (P × Ty)
inductive SC where
  | skip
  | reg (l : List (Option Kp × List Ins))
  | seq (g : Option Kp) (a b : SC)
  | cond (c : Opd) (a b : SC)
  | block (id : Nat) (g : Option Kp) (a : SC)
  | loop (g : Kp) (a : SC)
  | exit (id : Nat)
  | ret
def aoh : List (Option Kp × List Ins) → List Ins
  | [] => []
  | x :: l => x.2 ++ aoh l
def afT : SC → AC
  | .skip => .skip
  | .reg l => .reg (aoh l)
  | .seq _ a b => .seq (afT a) (afT b)
  | .cond c a b => .cond c (afT a) (afT b)
  | .block id _ a => .block id (afT a)
  | .loop _ a => .loop (afT a)
  | .exit id => .exit id
  | .ret => .ret
noncomputable def akX (t : Ty) (v : AV) (k : AV → CRes) : CRes := high (Ty.casesOn t (k v)
  (fun q => vIntD q v fun n => k (.int q n)) (vBoolD v fun b => k (.bool b)) (vStrD v fun s => k (.str s)))
noncomputable def keepGo (tm : Tr AV) (g : Kp) : Tr AV → (Tr AV → CRes) → CRes :=
  List.rec (motive := fun _ => Tr AV → (Tr AV → CRes) → CRes) (fun acc c => c acc)
    (fun e _ ih acc c => Prod.casesOn e fun p t => Option.casesOn (Tr.get p tm) .err fun v => akX t v fun v => Tr.setK p v acc fun acc => ih acc c) g
noncomputable def da (g : Kp) (s : St) (f : St → CRes) : CRes := St.casesOn s fun tm H => keepGo tm g .leaf fun tm => f ⟨tm, H⟩
noncomputable def jn (g : Option Kp) (f : St → CRes) : St → CRes := Option.casesOn g f fun g s => da g s f
noncomputable def putT (ty : Tr Ty) (d : Option P) (v : AV) (tm : Tr AV) (k : Tr AV → CRes) : CRes := high (Option.casesOn d (k tm) fun p =>
  Option.casesOn (Tr.get p ty) (Tr.setK p v tm k) fun t => akX t v fun v => Tr.setK p v tm k)
noncomputable def isD (tm : Tr AV) (p : P) (kt kf ko : Tr AV → CRes) : CRes := high (Option.casesOn (Tr.get p tm) .err fun v =>
  AV.casesOn v (fun b => ifD b (Tr.setK p (.bool true) tm kt) (Tr.setK p (.bool false) tm kf)) (fun _ _ => ko tm) (fun _ => ko tm) (fun _ _ => ko tm) (ko tm) (fun _ _ _ _ _ => ko tm) (fun _ _ _ => ko tm) (ko tm) (fun _ => ko tm) (ko tm) (fun _ _ _ => ko tm) (ko tm) (fun _ _ => ko tm) (ko tm) (fun _ => ko tm) (fun _ => ko tm))
noncomputable def akK (g : Gd) (tm : Tr AV) (ky kn : Tr AV → CRes) : CRes := high (Gd.casesOn g (ky tm) fun p want => Bool.casesOn want (isD tm p kn ky kn) (isD tm p ky kn kn))
noncomputable def eK (c : Opd) (s : St) (ka kb : St → CRes) : CRes := high (St.casesOn s fun tm H => Opd.casesOn c
  (fun p => isD tm p (fun tm => ka ⟨tm, H⟩) (fun tm => kb ⟨tm, H⟩) (fun _ => .err)) (fun v => am1 v fun b => ifD b (ka ⟨tm, H⟩) (kb ⟨tm, H⟩)))
abbrev dN := AV → List AV → Heap → (AV → Heap → CRes) → CRes
noncomputable def insD (cf : dN) (ty : Tr Ty) (x : Ins) (s : St) (k : St → CRes) : CRes := St.casesOn s fun tm H => Ins.casesOn x
  (fun g d o => akK g tm (fun tm => opD o tm H fun v H' => putT ty d v tm fun tm => k ⟨tm, H'⟩) (fun tm => putK tm d .undef fun tm => k ⟨tm, H⟩))
  (fun g d q f args => akK g tm (fun tm => evK tm f fun fv => evsK tm args fun vs =>
      Bool.casesOn q (cf fv vs H fun v H' => putT ty d v tm fun tm => k ⟨tm, H'⟩)
        (cf fv vs (H.shut true) fun v H' => putT ty d v tm fun tm => k ⟨tm, H'.back H.ro⟩))
    (fun tm => putK tm d .undef fun tm => k ⟨tm, H⟩))
noncomputable def bS (cf : dN) (ty : Tr Ty) (l : List Ins) : (St → CRes) → St → CRes :=
  List.rec (motive := fun _ => (St → CRes) → St → CRes) (fun k s => k s) (fun x _ ih k s => insD cf ty x s (ih k)) l
noncomputable def regsD (cf : dN) (ty : Tr Ty) (l : List (Option Kp × List Ins)) : (St → CRes) → St → CRes :=
  List.rec (motive := fun _ => (St → CRes) → St → CRes) (fun k s => k s) (fun x _ ih k s => Prod.casesOn x fun g l => bS cf ty l (jn g (ih k)) s) l
noncomputable def loopD (g : Kp) (body : (St → CRes) → St → CRes) (n : Nat) : St → CRes :=
  Nat.rec (motive := fun _ => St → CRes) (fun _ => .err) (fun _ F s => body (fun s => da g s F) s) n
noncomputable def D (cf : dN) (ty : Tr Ty) (n : Nat) (c : SC) : (St → CRes) → (Nat → St → CRes) → (St → CRes) → St → CRes :=
  SC.rec (motive := fun _ => (St → CRes) → (Nat → St → CRes) → (St → CRes) → St → CRes)
  (fun kn _ _ s => kn s)
  (fun l kn _ _ s => regsD cf ty l kn s)
  (fun g _ _ iha ihb kn ke kr s => iha (jn g (ihb kn ke kr)) ke kr s)
  (fun c _ _ iha ihb kn ke kr s => eK c s (iha kn ke kr) (ihb kn ke kr))
  (fun id g _ iha kn ke kr s => iha (jn g kn) (fun i s => Bool.casesOn (Nat.beq i id) (ke i s) (jn g kn s)) kr s)
  (fun g _ iha _ ke kr s => da g s (loopD g (fun F => iha F ke kr) n))
  (fun id _ ke _ s => ke id s)
  (fun _ _ kr s => kr s) c
noncomputable def gG (g : Kp) : List AV → Tr AV → (Tr AV → CRes) → CRes :=
  List.rec (motive := fun _ => List AV → Tr AV → (Tr AV → CRes) → CRes) (fun vs tm k => List.casesOn vs (k tm) (fun _ _ => .err))
    (fun e _ ih vs tm k => List.casesOn vs .err fun v vs => Prod.casesOn e fun p t => akX t v fun v => Tr.setK p v tm fun tm => ih vs tm k) g
noncomputable def rvK (r : Rv) (s : St) (k : AV → CRes) : CRes := high (St.casesOn s fun tm H => Rv.casesOn r (fun p => Option.casesOn (Tr.get p tm) .err k)
  (fun p n agg => Option.casesOn (Tr.get p tm) .err fun v => gJ H v n agg k))
noncomputable def finGo (rs : List (Rv × Ty)) (s : St) : (List AV → CRes) → CRes :=
  List.rec (motive := fun _ => (List AV → CRes) → CRes) (fun k => k []) (fun x _ ih k => Prod.casesOn x fun r t => rvK r s fun v => akX t v fun v => ih fun vs => k (v :: vs)) rs
noncomputable def oneK (vs : List AV) : AV := List.casesOn vs (.tuple []) fun v t => List.casesOn t v (fun _ _ => .tuple vs)
noncomputable def cX (rs : List (Rv × Ty)) (k : AV → Heap → CRes) (s : St) : CRes := finGo rs s fun vs => k (oneK vs) s.hp
abbrev Wr := List AV → Heap → (AV → Heap → CRes) → CRes
noncomputable def findW (f : Nat) (l : List (Nat × Wr)) : Option Wr :=
  List.rec (motive := fun _ => Option Wr) none (fun e _ ih => Prod.casesOn e fun g w => Bool.casesOn (Nat.beq f g) ih (some w)) l
noncomputable def eO (l : List (Nat × Wr)) : dN := fun fv vs H k => AV.casesOn fv (fun _ => .err) (fun _ _ => .err) (fun _ => .err) (fun _ _ => .err) .err (fun _ _ _ _ _ => .err) (fun _ _ _ => .err) .err (fun _ => .err) .err
  (fun f first cap => Option.casesOn (findW f l) .err fun w => w (Pd first (Pd vs cap id) id) H k) .err (fun _ _ => .err) .err (fun _ => .err) (fun _ => .err)
noncomputable def W (ps : Kp) (rs : List (Rv × Ty)) (l : List (Nat × Wr)) (ty : Tr Ty) (n : Nat) (c : SC) : Wr := fun args H k =>
  gG ps args .leaf fun tm => D (eO l) ty n c (cX rs k) (fun _ _ => .err) (cX rs k) ⟨tm, H⟩
noncomputable def ph (q : IntKind) (args : List AV) (k : Int → List AV → CRes) : CRes := List.casesOn args .err fun v t => UA q v fun n => k n t
noncomputable def aBool (args : List AV) (k : Bool → List AV → CRes) : CRes := List.casesOn args .err fun v t => Nf v fun n => k n t
noncomputable def lM (args : List AV) (k : AV → List AV → CRes) : CRes := List.casesOn args .err k
noncomputable def mq (args : List AV) (k : CRes) : CRes := List.casesOn args k (fun _ _ => .err)
noncomputable def c8 (l : List (P × AV)) : Tr AV := List.rec (motive := fun _ => Tr AV → Tr AV) (fun t => t) (fun e _ ih t => Tr.setK e.1 e.2 t ih) l .leaf
end Go.Ai
