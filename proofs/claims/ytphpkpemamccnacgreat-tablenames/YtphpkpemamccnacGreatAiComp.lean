/- The model's code turned into the interpreter's: a function of the program's tables; 'none' where a construct is not taken. -/
import Derived.Test.YtphpkpemamccnacGreatAiDefs
namespace Go.Ai

def posC : Nat → Nat → P
  | 0, _ => .h
  | f + 1, n => if n ≤ 1 then .h else if n % 2 = 0 then .o (posC f (n / 2)) else .i (posC f (n / 2))
def keyC (n : Nat) : P := posC (n + 1) (n + 1)

def cellAV : Value → Option AV
  | .bool b => some (.bool b)
  | .int k n => some (.int k n)
  | .string s => some (.str s.data.toList)
  | .pointer none => some .nilptr
  | .slice none 0 0 => some .nilslice
  | .map none => some .nilmap
  | .nilFunc => some .nilfunc
  | .nilIface => some .niliface
  | _ => none
def cellsAV : List Value → Option (List AV)
  | [] => some []
  | v :: l => (cellAV v).bind fun a => (cellsAV l).map (a :: ·)
def toAV : Value → Option AV
  | .agg cs => (cellsAV cs.toList).map .agg
  | v => cellAV v

def P.eqb : Ai.P → Ai.P → Bool
  | .h, .h => true
  | .o p, .o q => P.eqb p q
  | .i p, .i q => P.eqb p q
  | _, _ => false
def P.mem (p : Ai.P) : List Ai.P → Bool
  | [] => false
  | q :: l => P.eqb p q || P.mem p l

def Opd.ps : Opd → List Ai.P
  | .t p => [p]
  | .c _ => []
def Opd.psL : List Opd → List Ai.P
  | [] => []
  | x :: l => x.ps ++ psL l
def Opd.psO : Option Opd → List Ai.P
  | none => []
  | some x => x.ps
def Opd.psP : List (Nat × Nat × Opd) → List Ai.P
  | [] => []
  | x :: l => x.2.2.ps ++ psP l

/-- the places that an operation reads -/
def AOp.ps : AOp → List Ai.P
  | .mov x => x.ps
  | .pick c a b => c.ps ++ (a.ps ++ b.ps)
  | .not x => x.ps
  | .bin _ x y => x.ps ++ y.ps
  | .eq _ _ x y => x.ps ++ y.ps
  | .conv _ x => x.ps
  | .alloc _ => []
  | .box x => x.ps
  | .build _ l => Opd.psP l
  | .buildSlice _ _ l => Opd.psP l
  | .load _ _ x => x.ps
  | .store _ a x => a.ps ++ x.ps
  | .nilchk x => x.ps
  | .fa _ x => x.ps
  | .iaS _ x i => x.ps ++ i.ps
  | .iaA _ _ x i => x.ps ++ i.ps
  | .idxA _ _ _ x i => x.ps ++ i.ps
  | .idxS x i => x.ps ++ i.ps
  | .sl _ x lo hi mx => x.ps ++ (Opd.psO lo ++ (Opd.psO hi ++ Opd.psO mx))
  | .ext _ x => x.ps
  | .mkfunc _ a c => Opd.psL a ++ Opd.psL c
  | .mkmap => []
  | .mk _ l c => l.ps ++ c.ps
  | .lookup _ _ _ m k => m.ps ++ k.ps
  | .mapset _ m k x => m.ps ++ (k.ps ++ x.ps)
  | .mapdel _ m k => m.ps ++ k.ps
  | .len _ x => x.ps
  | .minmax _ xs => Opd.psL xs
  | .append _ s x => s.ps ++ x.ps
  | .copy _ d x => d.ps ++ x.ps
  | .clear _ x => x.ps
def Gd.ps : Gd → List Ai.P
  | .always => []
  | .on p _ => [p]
def Ins.reads : Ins → List Ai.P
  | .op g _ o => g.ps ++ o.ps
  | .call g _ _ f args => g.ps ++ (f.ps ++ Opd.psL args)
/-- one writes what the other names -/
def touch (x y : Ins) : Bool :=
  (match x.dst with | some d => P.mem d y.reads || (match y.dst with | some e => P.eqb d e | none => false) | none => false) ||
  (match y.dst with | some d => P.mem d x.reads | none => false)

section
variable (P : Program) (nt : Nat)

def opd : Operand → Option Opd
  | .tmp t => if t < nt then some (.t (keyC t)) else none
  | .const v => (toAV v).map .c
  | .func f => some (.c (.func f [] []))
  | .global _ => none
def opds : List Operand → Option (List Opd)
  | [] => some []
  | x :: l => (opd nt x).bind fun a => (opds l).map (a :: ·)
def opdO : Option Operand → Option (Option Opd)
  | none => some none
  | some x => (opd nt x).map some

def szT (t : TypeId) : Option Nat := (P.info? t).map (·.size)
def zeroT (t : TypeId) : Option AV := ((P.info? t).bind (·.zero)).bind toAV
def aggT (t : TypeId) : Option Bool :=
  match P.underlying t with
  | some (.struct _) | some (.array _ _) => some true
  | some _ => some false
  | none => none
/-- cells and whether it is a struct or an array; what is neither has one cell -/
def shapeT (t : TypeId) : Option (Nat × Bool) :=
  (szT P t).bind fun n => (aggT P t).bind fun g => if g || n == 1 then some (n, g) else none

def plainFs (r : TypeId → Option (List CK)) : List Field → Nat → Option (List CK)
  | [], _ => some []
  | f :: fs, off => if f.name != "_" && f.offset == off then (r f.type).bind fun ks => if szT P f.type == some ks.length then (plainFs r fs (off + ks.length)).map (ks ++ ·) else none else none
/-- a type whose values are held against each other cell by cell: numbers, texts, bools -/
def plainT : Nat → TypeId → Option (List CK)
  | 0, _ => none
  | d + 1, t =>
    match P.underlying t with
    | some (.int _) => if szT P t == some 1 then some [.int] else none
    | some .string => if szT P t == some 1 then some [.str] else none
    | some .bool => if szT P t == some 1 then some [.bool] else none
    | some (.struct fs) => if P.stoodInHeld t then none else (plainFs P (plainT d) fs.toList 0).bind fun ks => if szT P t == some ks.length then some ks else none
    | some (.array n e) => (plainT d e).bind fun ks => if szT P e == some ks.length && szT P t == some (n * ks.length) then some (List.replicate n ks).flatten else none
    | _ => none

/-- a type of keys -/
def keyT (t : TypeId) : Option KeyK :=
  match P.underlying t with
  | some (.int _) => some (.cell .int)
  | some .string => some (.cell .str)
  | some .bool => some (.cell .bool)
  | some (.array n e) => match P.underlying e with
    | some (.int _) => (plainT P 8 t).bind fun ks => if ks.length == n && szT P e == some 1 then some (.agg ks) else none
    | _ => none
  | _ => none

def placesT (fs : List Field) : Option (List (Nat × Nat)) :=
  match fs with
  | [] => some []
  | f :: fs => (szT P f.type).bind fun s => (placesT fs).map ((f.offset, s) :: ·)

def partsS (ps : List (Nat × Nat)) : List (Nat × Operand) → Option (List (Nat × Nat × Opd))
  | [] => some []
  | (i, x) :: l => ps[i]?.bind fun p => (opd nt x).bind fun a => (partsS ps l).map ((p.1, p.2, a) :: ·)
def partsA (s : Nat) : List (Nat × Operand) → Option (List (Nat × Nat × Opd))
  | [] => some []
  | (i, x) :: l => (opd nt x).bind fun a => (partsA s l).map ((i * s, s, a) :: ·)

def repsC (z : List AV) : Nat → List AV
  | 0 => []
  | n + 1 => z ++ repsC z n

def compBin (op : BinOp) (t : TypeId) (a b : Opd) : Option AOp :=
  match P.underlying t with
  | some (.int _) | some .string => some (.bin op a b)
  | some .bool => match op with | .eql => some (.eq .bool false a b) | .neq => some (.eq .bool true a b) | _ => none
  | some (.pointer _) => match op with | .eql => some (.eq (.nil .ptr) false a b) | .neq => some (.eq (.nil .ptr) true a b) | _ => none
  | some (.slice _) => match op with | .eql => some (.eq (.nil .sl) false a b) | .neq => some (.eq (.nil .sl) true a b) | _ => none
  | some (.map _ _) => match op with | .eql => some (.eq (.nil .mp) false a b) | .neq => some (.eq (.nil .mp) true a b) | _ => none
  | some (.func _ _ _) => match op with | .eql => some (.eq (.nil .fn) false a b) | .neq => some (.eq (.nil .fn) true a b) | _ => none
  | some (.struct _) | some (.array _ _) =>
    if P.eqGuardType P.depth t then none else (plainT P 8 t).bind fun ks =>
      match op with | .eql => some (.eq (.plain ks) false a b) | .neq => some (.eq (.plain ks) true a b) | _ => none
  | _ => none

def sliceElem (t : TypeId) : Option TypeId := match P.underlying t with | some (.slice e) => some e | _ => none

/-- what may be appended, or copied: a slice, or a text -/
def srcT (t : TypeId) (s : Nat) : Bool :=
  match P.underlying t with
  | some (.slice _) => true
  | some .string => s == 1
  | _ => false

def compBuiltin (b : Builtin) (ats : List TypeId) (args : List Operand) : Option AOp :=
  match b, ats, args with
  | .len, [t], [x] => (opd nt x).bind fun a => match P.underlying t with
    | some .string => some (.len .str a)
    | some (.array n _) => some (.len (.arr n) a)
    | some (.slice _) => some (.len .sl a)
    | some (.map _ _) => some (.len .mp a)
    | _ => none
  | .append, [t, u], [x, y] => (sliceElem P t).bind fun e => (P.info? e).bind fun i => (zeroT P e).bind fun z => (opd nt x).bind fun a => (opd nt y).bind fun b =>
    if 0 < i.size && i.bytes ≤ 65536 && z.cells.length == i.size && srcT P u i.size then some (.append i.size a b) else none
  | .copy, [t, u], [x, y] => (sliceElem P t).bind fun e => (szT P e).bind fun s => (opd nt x).bind fun a => (opd nt y).bind fun b => if 0 < s && srcT P u s then some (.copy s a b) else none
  | .clear, [t], [x] => (sliceElem P t).bind fun e => (zeroT P e).bind fun z => (opd nt x).bind fun a => if 0 < z.cells.length then some (.clear z.cells a) else none
  | .delete, [t, _], [x, y] => (opd nt x).bind fun a => (opd nt y).bind fun b => match P.underlying t with
    | some (.map k _) => (keyT P k).bind fun kk => some (.mapdel kk a b)
    | _ => none
  | .max, _, xs => (opds nt xs).bind fun as => some (.minmax true as)
  | .min, _, xs => (opds nt xs).bind fun as => some (.minmax false as)
  | _, _, _ => none

def compOp (op : Op) : Option AOp :=
  match op with
  | .move x | .assign x => (opd nt x).map .mov
  | .pick c x y => (opd nt c).bind fun c => (opd nt x).bind fun a => (opd nt y).bind fun b => some (.pick c a b)
  | .alloc t => (zeroT P t).bind fun z => some (.alloc z.cells)
  | .box _ x => (opd nt x).bind fun a => some (.box a)
  | .build t parts => (zeroT P t).bind fun z => match P.underlying t, z with
    | some (.struct fs), .agg z => (placesT P fs.toList).bind fun ps => (partsS nt ps parts.toList).bind fun l => some (.build z l)
    | some (.array _ e), .agg z => (szT P e).bind fun s => (partsA nt s parts.toList).bind fun l => some (.build z l)
    | _, _ => none
  | .buildSlice t len parts => (sliceElem P t).bind fun e => (szT P e).bind fun s => (zeroT P e).bind fun z =>
    if z.cells.length == s && len * s ≤ 16777216 then (partsA nt s parts.toList).bind fun l => some (.buildSlice len (repsC z.cells len) l) else none
  | .load t x => (shapeT P t).bind fun s => (opd nt x).bind fun a => some (.load s.1 s.2 a)
  | .store t x y => (szT P t).bind fun n => (opd nt x).bind fun a => (opd nt y).bind fun b => some (.store n a b)
  | .nilCheck x => (opd nt x).bind fun a => some (.nilchk a)
  | .binOp op t x y _ => (opd nt x).bind fun a => (opd nt y).bind fun b => compBin P op t a b
  | .unOp .not _ x => (opd nt x).bind fun a => some (.not a)
  | .convert s d x => match P.underlying s, P.underlying d with
    | some _, some (.int k) => (opd nt x).bind fun a => some (.conv k a)
    | _, _ => none
  | .makeFunc (.func f) first cap => (opds nt first.toList).bind fun a => (opds nt cap.toList).bind fun c => some (.mkfunc f a c)
  | .makeMap t r => match P.underlying t, r with
    | some (.map _ _), none => some .mkmap
    | some (.map _ _), some (.const (.int _ _)) => some .mkmap
    | _, _ => none
  | .makeSlice t l c => (sliceElem P t).bind fun e => (P.info? e).bind fun i => (zeroT P e).bind fun z => (opd nt l).bind fun a => (opd nt c).bind fun b =>
    if z.cells.length == i.size && 0 < i.size && i.bytes ≤ 65536 then some (.mk z.cells a b) else none
  | .slice t x lo hi mx => (opd nt x).bind fun a => (opdO nt lo).bind fun l => (opdO nt hi).bind fun h => (opdO nt mx).bind fun m => match P.underlying t with
    | some (.array n e) => (szT P e).bind fun s => some (.sl (.arr n s) a l h m)
    | some (.slice e) => (szT P e).bind fun s => some (.sl (.sl s) a l h m)
    | some .string => some (.sl .str a l h m)
    | _ => none
  | .fieldAddr t x i => (opd nt x).bind fun a => match P.underlying t with
    | some (.struct fs) => fs[i]?.bind fun f => (szT P f.type).bind fun s => if 0 < s then some (.fa f.offset a) else none
    | _ => none
  | .indexAddr t x i => (opd nt x).bind fun a => (opd nt i).bind fun b => match P.underlying t with
    | some (.array n e) => (szT P e).bind fun s => some (.iaA s n a b)
    | some (.slice e) => (szT P e).bind fun s => some (.iaS s a b)
    | _ => none
  | .index t x i => (opd nt x).bind fun a => (opd nt i).bind fun b => match P.underlying t with
    | some (.array n e) => (shapeT P e).bind fun s => some (.idxA s.1 n s.2 a b)
    | some .string => some (.idxS a b)
    | _ => none
  | .extract x i => (opd nt x).bind fun a => some (.ext i a)
  | .lookup t x k ok => (opd nt x).bind fun a => (opd nt k).bind fun b => match P.underlying t with
    | some (.map kt e) => (keyT P kt).bind fun kk => (zeroT P e).bind fun z => some (.lookup kk z ok a b)
    | _ => none
  | .mapUpdate t m k x => (opd nt m).bind fun a => (opd nt k).bind fun b => (opd nt x).bind fun c => match P.underlying t with
    | some (.map kt _) => (keyT P kt).bind fun kk => some (.mapset kk a b c)
    | _ => none
  | .call { callee := .builtin b, args, argTypes } => compBuiltin P nt b argTypes.toList args.toList
  | _ => none

def compGd (ops : Array Oper) (g : Option (Nat × Bool)) : Option Gd :=
  match g with
  | none => some .always
  | some (j, want) => match (ops[j]?).bind (·.dst) with
    | some t => if t < nt then some (.on (keyC t) want) else none
    | none => none
def compDst (d : Option Tmp) : Option (Option Ai.P) :=
  match d with
  | none => some none
  | some t => if t < nt then some (some (keyC t)) else none

def compOper (ops : Array Oper) (q : Bool) (o : Oper) : Option Ins :=
  (compGd nt ops o.guard).bind fun g => (compDst nt o.dst).bind fun d =>
  match o.op with
  | .call { callee := .value f, args, .. } => (opd nt f).bind fun f => (opds nt args.toList).bind fun as => some (.call g d q f as)
  | op => (compOp P nt op).bind fun a => some (.op g d a)

/-! ### Regions that draw their order -/
inductive Cl where
  | pure | alloc | load | eff
  deriving DecidableEq

def clsA : AOp → Cl
  | .mov _ | .pick .. | .not _ | .bin .. | .eq .. | .conv .. | .build .. | .nilchk _ | .fa .. | .iaS .. | .iaA .. | .idxA .. | .idxS .. | .sl .. | .ext .. | .mkfunc .. | .minmax .. => .pure
  | .len .mp _ => .load
  | .len _ _ => .pure
  | .alloc _ | .box _ | .buildSlice .. | .mkmap | .mk .. => .alloc
  | .load .. | .lookup .. => .load
  | .store .. | .mapset .. | .mapdel .. | .append .. | .copy .. | .clear .. => .eff
def clsI : Ins → Cl
  | .op _ _ o => clsA o
  | .call _ _ q _ _ => if q then .alloc else .eff

/-- an operation that makes memory, and looks at none -/
def allocI : Ins → Bool
  | .op _ _ o => match clsA o with | .alloc => true | _ => false
  | .call .. => false

/-- may the two not be exchanged? -/
def clash : Cl → Cl → Bool
  | .pure, _ | _, .pure => false
  | .eff, _ | _, .eff => true
  | _, _ => false

/-- all that stand ahead of each, by the edges -/
def aheads (ops : List Oper) : List (List Nat) :=
  ops.foldl (fun acc o => acc ++ [o.after.toList.flatMap fun e => if Region.binds .any e then e.on :: acc.getD e.on [] else []]) []

def drawOk (ops : Array Oper) (l : List Ins) : Bool :=
  let b := aheads ops.toList
  (List.range ops.size).all fun j => (List.range j).all fun i =>
    (b.getD j []).contains i || match l[i]?, l[j]? with
      | some p, some q => !touch p q && !clash (clsI p) (clsI q)
      | _, _ => false

/-- is a call at this place beside something that reads or makes memory, in no order? -/
def besides (ops : Array Oper) (i : Nat) (l : List Ins) : Bool :=
  let b := aheads ops.toList
  (List.range ops.size).any fun j => j != i && !((b.getD j []).contains i || (b.getD i []).contains j) && (match l[j]? with | some p => clsI p != .pure | none => true)

def compOpers (ops : Array Oper) (q : Nat → Bool) : Nat → List Oper → Option (List Ins)
  | _, [] => some []
  | i, o :: l => (compOper P nt ops (q i) o).bind fun x => (compOpers ops q (i + 1) l).map (x :: ·)

/-- a load and an effect that stand in no order: is the load done again? -/
def redone (us : List UI) (i j : Nat) : Bool :=
  match us[i]?, us[j]? with
  | some p, some q => (match clsI p.x, clsI q.x with
    | .load, .eff => q.again.contains i
    | .eff, .load => q.back.contains i
    | _, _ => false)
  | _, _ => false
/-- may the second run ahead of the first? -/
def passes (p q : Ins) : Bool := !clash (clsI p) (clsI q) || (allocI p && (match clsI q with | .eff => true | _ => false))
/-- an order of the operations in which every two that stand in none may change places -/
def drawOkU (b : List (List Nat)) (π : List Nat) (us : List UI) : Bool :=
  (List.range us.length).all fun j => (List.range j).all fun i =>
    (b.getD (π.getD j 0) []).contains (π.getD i 0) || match us[i]?, us[j]? with
      | some p, some q => !touch p.x q.x && (passes p.x q.x || redone us i j)
      | _, _ => false
def inN (r : Nat) : List Nat → Bool
  | [] => false
  | x :: l => Nat.beq x r || inN r l
def distN : List Nat → Bool
  | [] => true
  | x :: l => !inN x l && distN l
def permOk (n : Nat) (π : List Nat) : Bool := Nat.beq π.length n && ((List.range n).all (fun r => inN r π) && (distN π && π.all fun r => Nat.blt r n))
def pickAll (l₀ : List Ins) : List Nat → Option (List Ins)
  | [] => some []
  | r :: rs => (l₀[r]?).bind fun x => (pickAll l₀ rs).map (x :: ·)
/-! ### The same by masks, for the kernel -/
def bitB (m i : Nat) : Bool := Nat.beq (Nat.mod (Nat.div m (Nat.pow 2 i)) 2) 1
def bitM (i : Nat) : Nat := Nat.pow 2 i
def getN : List Nat → Nat → Nat
  | [], _ => 0
  | x :: _, 0 => x
  | _ :: l, n + 1 => getN l n
def foldM (acc : List Nat) : List Edge → Nat → Nat
  | [], m => m
  | e :: l, m => if Region.binds .any e then foldM acc l (Nat.lor m (Nat.lor (bitM e.on) (getN acc e.on))) else foldM acc l m
def masksR : List Oper → List Nat → List Nat
  | [], acc => acc
  | o :: l, acc => masksR l (acc ++ [foldM acc o.after.toList 0])
def masks (ops : List Oper) : List Nat := masksR ops []
def numP : Ai.P → Nat
  | .h => 1
  | .o p => Nat.mul 2 (numP p)
  | .i p => Nat.succ (Nat.mul 2 (numP p))
def maskL : List Ai.P → Nat → Nat
  | [], m => m
  | p :: l, m => maskL l (Nat.lor m (bitM (numP p)))
def maskD : Option Ai.P → Nat
  | none => 0
  | some p => bitM (numP p)
/-- what is no effect comes first -/
def subM (b d : Nat) : Bool := Nat.beq (Nat.land b d) b
def sched (b : List Nat) (eff : Nat → Bool) : Nat → List Nat → Nat → List Nat → List Nat
  | 0, _, _, d => d.reverse
  | f + 1, todo, m, d =>
    match (todo.find? fun r => !eff r && subM (getN b r) m) with
    | some r => sched b eff f (todo.filter fun x => !Nat.beq x r) (Nat.lor m (bitM r)) (r :: d)
    | none => match (todo.find? fun r => subM (getN b r) m) with
      | some r => sched b eff f (todo.filter fun x => !Nat.beq x r) (Nat.lor m (bitM r)) (r :: d)
      | none => d.reverse
def effB (l : List Ins) (r : Nat) : Bool := match l[r]? with | some x => (match clsI x with | .eff => true | _ => false) | none => true
def plainU (l : List Ins) : List UI := l.map fun x => ⟨x, false, false, [], []⟩
/-- an instruction with its masks: where it stands among the operations, what stands ahead of it, what it writes, what it reads -/
structure MI where
  r : Nat
  b : Nat
  d : Nat
  rd : Nat
def miOf (b : List Nat) (r : Nat) (x : Ins) : MI := ⟨r, getN b r, maskD x.dst, maskL x.reads 0⟩
def noTouch (p q : MI) : Bool := Nat.beq (Nat.lor (Nat.land p.d (Nat.lor q.rd q.d)) (Nat.land q.d p.rd)) 0
/-- each against those ahead of it: 'cl i j': may the two change places? -/
def pairsF (cl : Nat → Nat → Ins → Ins → Bool) (x : Ins) (m : MI) (j : Nat) : List (Ins × MI) → Nat → Bool
  | [], _ => true
  | (y, n) :: l, i => (bitB m.b n.r || (noTouch n m && cl i j y x)) && pairsF cl x m j l (i + 1)
def allF (cl : Nat → Nat → Ins → Ins → Bool) (all : List (Ins × MI)) : List (Ins × MI) → Nat → Bool
  | [], _ => true
  | (x, m) :: l, j => pairsF cl x m j (all.take j) 0 && allF cl all l (j + 1)
def withM (b : List Nat) : List Nat → List Ins → List (Ins × MI)
  | r :: π, x :: l => (x, miOf b r x) :: withM b π l
  | _, _ => []
def drawFast (ops : Array Oper) (l : List Ins) : Bool :=
  let a := withM (masks ops.toList) (List.range ops.size) l
  Nat.beq l.length ops.size && allF (fun _ _ p q => !clash (clsI p) (clsI q)) a a 0
def drawFastU (b : List Nat) (π : List Nat) (us : List UI) : Bool :=
  let a := withM b π (us.map UI.x)
  Nat.beq us.length π.length && allF (fun i j p q => passes p q || redone us i j) a a 0

def looseM (p q : MI) : Bool := !(bitB q.b p.r || bitB p.b q.r)
def pickU (t : Cl) (m : MI) (lo hi : Nat) : List (Ins × MI) → Nat → List Nat
  | [], _ => []
  | (y, n) :: l, j => if Nat.ble lo j && Nat.blt j hi && (match clsI y, t with | .load, .load => true | .eff, .eff => true | _, _ => false) && looseM n m then j :: pickU t m lo hi l (j + 1) else pickU t m lo hi l (j + 1)
def mkUF (n : Nat) (all : List (Ins × MI)) : List (Ins × MI) → Nat → List UI
  | [], _ => []
  | (x, m) :: l, i => (match clsI x with
    | .load => ⟨x, false, !(pickU .eff m i n all 0).isEmpty, pickU .eff m 0 i all 0, []⟩
    | .eff => ⟨x, !(pickU .load m i n all 0).isEmpty, false, [], pickU .load m 0 i all 0⟩
    | _ => ⟨x, false, false, [], []⟩) :: mkUF n all l (i + 1)
def mkU (b : List Nat) (π : List Nat) (l : List Ins) : List UI := mkUF l.length (withM b π l) (withM b π l) 0

/-- the instructions in that order -/
def compU (ops : Array Oper) (l₀ : List Ins) : Option AC :=
  let b := masks ops.toList
  let π := sched b (effB l₀) ops.size (List.range ops.size) 0 []
  if permOk ops.size π then
    (pickAll l₀ π).bind fun l =>
    if drawFastU b π (plainU l) then some (.reg l) else
    let us := mkU b π l
    if drawFastU b π us then some (.regU us) else none
  else none
def compReg (ops : Array Oper) (draw : Bool) : Option AC :=
  if draw then
    if ops.toList.zipIdx.all (fun (o, i) => o.after.toList.all fun e => !Region.binds .any e || e.on < i) then
      (compOpers P nt ops (fun _ => false) 0 ops.toList).bind fun l₀ =>
      if drawFast ops l₀ then some (.reg l₀) else
      match compU ops l₀ with
      | some c => some c
      | none => (compOpers P nt ops (fun i => besides ops i l₀) 0 ops.toList).bind fun l =>
        if drawOk ops l then some (.reg l) else none
    else none
  else (compOpers P nt ops (fun _ => false) 0 ops.toList).map .reg

def comp : Code → Option AC
  | .skip => some .skip
  | .region _ ops draw => compReg P nt ops draw
  | .seq a b => (comp a).bind fun a => (comp b).bind fun b => some (.seq a b)
  | .cond c a b => (opd nt c).bind fun c => (comp a).bind fun a => (comp b).bind fun b => some (.cond c a b)
  | .block id a => (comp a).map (.block id)
  | .loop a => (comp a).map .loop
  | .scope a => comp a
  | .label _ => some .skip
  | .exit id => some (.exit id)
  | .ret => some .ret
  | _ => none

def compRv : ResultVar → Option Rv
  | .tmp t => if t < nt then some (.t (keyC t)) else none
  | .cell a t => (shapeT P t).bind fun s => if a < nt then some (.cell (keyC a) s.1 s.2) else none
def compRvs : List ResultVar → Option (List Rv)
  | [] => some []
  | r :: l => (compRv P nt r).bind fun a => (compRvs l).map (a :: ·)

end

def compF (P : Program) (f : Func) : Option AFn :=
  f.body.bind fun c => (comp P f.ntmps c).bind fun body => (compRvs P f.ntmps f.results.toList).bind fun rs =>
    if f.params.size + f.nfree ≤ f.ntmps then some (.code ((List.range (f.params.size + f.nfree)).map keyC) body rs) else none

end Go.Ai
