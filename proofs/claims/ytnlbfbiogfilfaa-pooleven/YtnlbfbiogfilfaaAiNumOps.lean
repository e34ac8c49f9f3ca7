/- The interpreter's numbers and texts are the model's. -/
import Derived.Test.YtnlbfbiogfilfaaAiRelSteps
import Derived.Laws.Entries
import Derived.WalkLawsBesides
import Derived.Test.YtnlbfbiogfilfaaAiDefs
set_option linter.all false
namespace Go.Ai
theorem anK (k : IntKind) (m : Nat) (h : m < IntKind.top k) : k.wrap (Int.ofNat m) = Int.ofNat m := by
  have e : (Int.ofNat m) = (m : Int) := rfl
  rw [e]
  cases k <;> simp only [IntKind.top] at h <;> simp only [IntKind.wrap, IntKind.signed, IntKind.bits] <;> simp <;> omega
theorem nR {β : Type} (k : IntKind) (n : Int) (c : Int → β) : Hm k n c = c (k.wrap n) := by
  cases n with
  | ofNat m =>
    show Bool.casesOn (motive := fun _ => β) (Nat.blt m (IntKind.top k)) (c (k.wrap (Int.ofNat m))) (c (Int.ofNat m)) = _
    cases h : Nat.blt m (IntKind.top k) with
    | false => rfl
    | true => show c (Int.ofNat m) = _; rw [anK k m (by simp [Nat.blt] at h; omega)]
  | negSucc m => rfl
theorem aac (a b : Int) : addF a b = a + b := by cases a <;> cases b <;> rfl
theorem aar (a b : Int) : mulF a b = a * b := by cases a <;> cases b <;> rfl
theorem aai (a b : Int) : subF a b = a - b := by
  cases a with
  | negSucc x => rfl
  | ofNat x => cases b with
    | negSucc y => rfl
    | ofNat y =>
      show Bool.casesOn (motive := fun _ => Int) (Nat.ble y x) (Int.ofNat x - Int.ofNat y) (Int.ofNat (Nat.sub x y)) = _
      cases h : Nat.ble y x with
      | false => rfl
      | true =>
        have := Nat.le_of_ble_eq_true h
        show ((x - y : Nat) : Int) = (x : Int) - (y : Int)
        omega
theorem aoY (a b : Int) : divF a b = a.tdiv b := by cases a <;> cases b <;> rfl
theorem aoW (a b : Int) : modF a b = a.tmod b := by cases a <;> cases b <;> rfl
theorem blt_eq (x y : Nat) : Nat.blt x y = decide (x < y) := by
  rw [Bool.eq_iff_iff, Nat.blt_eq]; simp
theorem cx (a b : Int) : ltF a b = decide (a < b) := by
  cases a with
  | ofNat x => cases b with
    | ofNat y => show Nat.blt x y = _; rw [blt_eq]; congr 1; exact propext Int.ofNat_lt.symm
    | negSucc y => show false = _; symm; simp; have := Int.negSucc_lt_zero y; show Int.negSucc y ≤ (x : Int); omega
  | negSucc x => cases b with
    | ofNat y => show true = _; symm; simp; have := Int.negSucc_lt_zero x; show Int.negSucc x < (y : Int); omega
    | negSucc y => show Nat.blt y x = _; rw [blt_eq]; congr 1; exact propext (by rw [Int.negSucc_eq, Int.negSucc_eq]; omega)
theorem beqN (x y : Nat) : Nat.beq x y = decide (x = y) := by
  cases h : Nat.beq x y with
  | true => symm; simpa using Nat.eq_of_beq_eq_true h
  | false => symm; simpa using Nat.ne_of_beq_eq_false h
theorem cz (a b : Int) : eqF a b = (a == b) := by
  cases a with
  | ofNat x => cases b with
    | ofNat y => show Nat.beq x y = _; rw [beqN, Bool.eq_iff_iff]; simp; exact Int.ofNat_inj.symm
    | negSucc y => rfl
  | negSucc x => cases b with
    | ofNat y => rfl
    | negSucc y => show Nat.beq x y = _; rw [beqN, Bool.eq_iff_iff]; simp
theorem alH (a : Int) : isZ a = decide (a = 0) := by unfold isZ; rw [cz]; rfl
theorem natF_eq {β : Type} (a : Int) (e : β) (k : Nat → β) : KG a e k = if 0 ≤ a then k a.toNat else e := by
  cases a with
  | ofNat x => rw [if_pos (show 0 ≤ Int.ofNat x from Int.natCast_nonneg x)]; rfl
  | negSucc x => rw [if_neg (by have := Int.negSucc_lt_zero x; omega)]; rfl
theorem zY {α : Type} {a : Int} {k : Nat → Option α} {r : α} (h : KG a none k = some r) : 0 ≤ a ∧ k a.toNat = some r := by
  rw [natF_eq] at h; split at h
  · exact ⟨by assumption, h⟩
  · cases h
theorem shrF_eq (k : IntKind) (x : Int) (y : Nat) : shrF k x y = x.fdiv (2 ^ (min y k.bits)) := by
  cases x with
  | negSucc a => rfl
  | ofNat a =>
    show Int.ofNat (Nat.div a (Nat.pow 2 (min y k.bits))) = _
    have : ((2 : Int) ^ (min y k.bits)) = Int.ofNat (Nat.pow 2 (min y k.bits)) := by
      show _ = ((2 ^ (min y k.bits) : Nat) : Int); simp
    have h2 := Int.fdiv_eq_ediv_of_nonneg (Int.ofNat a) (show 0 ≤ Int.ofNat (Nat.pow 2 (min y k.bits)) from Int.natCast_nonneg _)
    rw [this, h2]
    rfl
theorem Rt (a : List UInt8) : ∀ b, xm a b = (a == b) := by
  induction a with
  | nil => intro b; cases b <;> rfl
  | cons x a ih =>
    intro b
    cases b with
    | nil => rfl
    | cons y b =>
      show Bool.casesOn (motive := fun _ => Bool) (Nat.beq x.toNat y.toNat) false (xm a b) = _
      rw [beqN]
      have e : (decide (x.toNat = y.toNat)) = (x == y) := by
        rw [Bool.eq_iff_iff]; simp [UInt8.toNat_inj]
      rw [e]
      cases h : (x == y) with
      | true => simp only [List.cons_beq_cons, h, Bool.true_and]; exact ih b
      | false => simp only [List.cons_beq_cons, h, Bool.false_and]
section
variable {P : Program} {w : World} {t : TypeId}
theorem aow (a b : List UInt8) : ((⟨a.toArray⟩ : ByteArray).toList == (⟨b.toArray⟩ : ByteArray).toList) = (a == b) := by
  rw [ByteArray.toList_mk, ByteArray.toList_mk]
end
end Go.Ai
/- The model's code turned into the interpreter's: a function of the program's tables; 'none' where a construct is not taken. -/
namespace Go.Ai
def posC : Nat → Nat → P
  | 0, _ => .h
  | f + 1, n => if n ≤ 1 then .h else if n % 2 = 0 then .o (posC f (n / 2)) else .i (posC f (n / 2))
def keyC (n : Nat) : P := posC (n + 1) (n + 1)
def akG : Value → Option AV
  | .bool b => some (.bool b)
  | .int k n => some (.int k n)
  | .string s => some (.str s.data.toList)
  | .pointer none => some .nilptr
  | .slice none 0 0 => some .nilslice
  | .map none => some .nilmap
  | .nilFunc => some .nilfunc
  | .nilIface => some .niliface
  | _ => none
def af2 : List Value → Option (List AV)
  | [] => some []
  | v :: l => (akG v).bind fun a => (af2 l).map (a :: ·)
def toAV : Value → Option AV
  | .agg cs => (af2 cs.toList).map .agg
  | v => akG v
def P.eqb : Ai.P → Ai.P → Bool
  | .h, .h => true
  | .o p, .o q => P.eqb p q
  | .i p, .i q => P.eqb p q
  | _, _ => false
def P.mem (p : Ai.P) : List Ai.P → Bool
  | [] => false
  | q :: l => P.eqb p q || P.mem p l
def Opd.ps : Opd → List Ai.P
  | .t p => [p]
  | .c _ => []
def Opd.psL : List Opd → List Ai.P
  | [] => []
  | x :: l => x.ps ++ psL l
def Opd.psO : Option Opd → List Ai.P
  | none => []
  | some x => x.ps
def Opd.psP : List (Nat × Nat × Opd) → List Ai.P
  | [] => []
  | x :: l => x.2.2.ps ++ psP l
def AOp.ps : AOp → List Ai.P
  | .mov x => x.ps
  | .pick c a b => c.ps ++ (a.ps ++ b.ps)
  | .not x => x.ps
  | .bin _ x y => x.ps ++ y.ps
  | .eq _ _ x y => x.ps ++ y.ps
  | .conv _ x => x.ps
  | .alloc _ => []
  | .box x => x.ps
  | .build _ l => Opd.psP l
  | .buildSlice _ _ l => Opd.psP l
  | .load _ _ x => x.ps
  | .store _ a x => a.ps ++ x.ps
  | .nilchk x => x.ps
  | .fa _ x => x.ps
  | .iaS _ x i => x.ps ++ i.ps
  | .iaA _ _ x i => x.ps ++ i.ps
  | .idxA _ _ _ x i => x.ps ++ i.ps
  | .idxS x i => x.ps ++ i.ps
  | .sl _ x lo hi mx => x.ps ++ (Opd.psO lo ++ (Opd.psO hi ++ Opd.psO mx))
  | .ext _ x => x.ps
  | .mkfunc _ a c => Opd.psL a ++ Opd.psL c
  | .mkmap => []
  | .mk _ l c => l.ps ++ c.ps
  | .lookup _ _ _ m k => m.ps ++ k.ps
  | .mapset _ m k x => m.ps ++ (k.ps ++ x.ps)
  | .mapdel _ m k => m.ps ++ k.ps
  | .len _ x => x.ps
  | .minmax _ xs => Opd.psL xs
  | .append _ s x => s.ps ++ x.ps
  | .copy _ d x => d.ps ++ x.ps
  | .clear _ x => x.ps
def Gd.ps : Gd → List Ai.P
  | .always => []
  | .on p _ => [p]
def Ins.reads : Ins → List Ai.P
  | .op g _ o => g.ps ++ o.ps
  | .call g _ _ f args => g.ps ++ (f.ps ++ Opd.psL args)
def SL (x y : Ins) : Bool :=
  (match x.dst with | some d => P.mem d y.reads || (match y.dst with | some e => P.eqb d e | none => false) | none => false) ||
  (match y.dst with | some d => P.mem d x.reads | none => false)
section
variable (P : Program) (nt : Nat)
def opd : Operand → Option Opd
  | .tmp t => if t < nt then some (.t (keyC t)) else none
  | .const v => (toAV v).map .c
  | .func f => some (.c (.func f [] []))
  | .global _ => none
def afD : List Operand → Option (List Opd)
  | [] => some []
  | x :: l => (opd nt x).bind fun a => (afD l).map (a :: ·)
def abD : Option Operand → Option (Option Opd)
  | none => some none
  | some x => (opd nt x).map some
def szT (t : TypeId) : Option Nat := (P.info? t).map (·.size)
def A1 (t : TypeId) : Option AV := ((P.info? t).bind (·.zero)).bind toAV
def Kl (t : TypeId) : Option Bool :=
  match P.underlying t with
  | some (.struct _) | some (.array _ _) => some true
  | some _ => some false
  | none => none
def U4 (t : TypeId) : Option (Nat × Bool) :=
  (szT P t).bind fun n => (Kl P t).bind fun g => if g || n == 1 then some (n, g) else none
def Z9 (r : TypeId → Option (List CK)) : List Field → Nat → Option (List CK)
  | [], _ => some []
  | f :: fs, off => if f.name != "_" && f.offset == off then (r f.type).bind fun ks => if szT P f.type == some ks.length then (Z9 r fs (off + ks.length)).map (ks ++ ·) else none else none
def CI : Nat → TypeId → Option (List CK)
  | 0, _ => none
  | d + 1, t =>
    match P.underlying t with
    | some (.int _) => if szT P t == some 1 then some [.int] else none
    | some .string => if szT P t == some 1 then some [.str] else none
    | some .bool => if szT P t == some 1 then some [.bool] else none
    | some (.struct fs) => if P.stoodInHeld t then none else (Z9 P (CI d) fs.toList 0).bind fun ks => if szT P t == some ks.length then some ks else none
    | some (.array n e) => (CI d e).bind fun ks => if szT P e == some ks.length && szT P t == some (n * ks.length) then some (List.replicate n ks).flatten else none
    | _ => none
def keyT (t : TypeId) : Option KeyK :=
  match P.underlying t with
  | some (.int _) => some (.cell .int)
  | some .string => some (.cell .str)
  | some .bool => some (.cell .bool)
  | some (.array n e) => match P.underlying e with
    | some (.int _) => (CI P 8 t).bind fun ks => if ks.length == n && szT P e == some 1 then some (.agg ks) else none
    | _ => none
  | _ => none
def abh (fs : List Field) : Option (List (Nat × Nat)) :=
  match fs with
  | [] => some []
  | f :: fs => (szT P f.type).bind fun s => (abh fs).map ((f.offset, s) :: ·)
def agB (ps : List (Nat × Nat)) : List (Nat × Operand) → Option (List (Nat × Nat × Opd))
  | [] => some []
  | (i, x) :: l => ps[i]?.bind fun p => (opd nt x).bind fun a => (agB ps l).map ((p.1, p.2, a) :: ·)
def Zv (s : Nat) : List (Nat × Operand) → Option (List (Nat × Nat × Opd))
  | [] => some []
  | (i, x) :: l => (opd nt x).bind fun a => (Zv s l).map ((i * s, s, a) :: ·)
def amL (z : List AV) : Nat → List AV
  | 0 => []
  | n + 1 => z ++ amL z n
def akw (op : BinOp) (t : TypeId) (a b : Opd) : Option AOp :=
  match P.underlying t with
  | some (.int _) | some .string => some (.bin op a b)
  | some .bool => match op with | .eql => some (.eq .bool false a b) | .neq => some (.eq .bool true a b) | _ => none
  | some (.pointer _) => match op with | .eql => some (.eq (.nil .ptr) false a b) | .neq => some (.eq (.nil .ptr) true a b) | _ => none
  | some (.slice _) => match op with | .eql => some (.eq (.nil .sl) false a b) | .neq => some (.eq (.nil .sl) true a b) | _ => none
  | some (.map _ _) => match op with | .eql => some (.eq (.nil .mp) false a b) | .neq => some (.eq (.nil .mp) true a b) | _ => none
  | some (.func _ _ _) => match op with | .eql => some (.eq (.nil .fn) false a b) | .neq => some (.eq (.nil .fn) true a b) | _ => none
  | some (.struct _) | some (.array _ _) =>
    if P.eqGuardType P.depth t then none else (CI P 8 t).bind fun ks =>
      match op with | .eql => some (.eq (.plain ks) false a b) | .neq => some (.eq (.plain ks) true a b) | _ => none
  | _ => none
def Fn (t : TypeId) : Option TypeId := match P.underlying t with | some (.slice e) => some e | _ => none
def srcT (t : TypeId) (s : Nat) : Bool :=
  match P.underlying t with
  | some (.slice _) => true
  | some .string => s == 1
  | _ => false
def Vs (b : Builtin) (ats : List TypeId) (args : List Operand) : Option AOp :=
  match b, ats, args with
  | .len, [t], [x] => (opd nt x).bind fun a => match P.underlying t with
    | some .string => some (.len .str a)
    | some (.array n _) => some (.len (.arr n) a)
    | some (.slice _) => some (.len .sl a)
    | some (.map _ _) => some (.len .mp a)
    | _ => none
  | .append, [t, u], [x, y] => (Fn P t).bind fun e => (P.info? e).bind fun i => (A1 P e).bind fun z => (opd nt x).bind fun a => (opd nt y).bind fun b =>
    if 0 < i.size && i.bytes ≤ 65536 && z.cells.length == i.size && srcT P u i.size then some (.append i.size a b) else none
  | .copy, [t, u], [x, y] => (Fn P t).bind fun e => (szT P e).bind fun s => (opd nt x).bind fun a => (opd nt y).bind fun b => if 0 < s && srcT P u s then some (.copy s a b) else none
  | .clear, [t], [x] => (Fn P t).bind fun e => (A1 P e).bind fun z => (opd nt x).bind fun a => if 0 < z.cells.length then some (.clear z.cells a) else none
  | .delete, [t, _], [x, y] => (opd nt x).bind fun a => (opd nt y).bind fun b => match P.underlying t with
    | some (.map k _) => (keyT P k).bind fun kk => some (.mapdel kk a b)
    | _ => none
  | .max, _, xs => (afD nt xs).bind fun as => some (.minmax true as)
  | .min, _, xs => (afD nt xs).bind fun as => some (.minmax false as)
  | _, _, _ => none
def aou (op : Op) : Option AOp :=
  match op with
  | .move x | .assign x => (opd nt x).map .mov
  | .pick c x y => (opd nt c).bind fun c => (opd nt x).bind fun a => (opd nt y).bind fun b => some (.pick c a b)
  | .alloc t => (A1 P t).bind fun z => some (.alloc z.cells)
  | .box _ x => (opd nt x).bind fun a => some (.box a)
  | .build t parts => (A1 P t).bind fun z => match P.underlying t, z with
    | some (.struct fs), .agg z => (abh P fs.toList).bind fun ps => (agB nt ps parts.toList).bind fun l => some (.build z l)
    | some (.array _ e), .agg z => (szT P e).bind fun s => (Zv nt s parts.toList).bind fun l => some (.build z l)
    | _, _ => none
  | .buildSlice t len parts => (Fn P t).bind fun e => (szT P e).bind fun s => (A1 P e).bind fun z =>
    if z.cells.length == s && len * s ≤ 16777216 then (Zv nt s parts.toList).bind fun l => some (.buildSlice len (amL z.cells len) l) else none
  | .load t x => (U4 P t).bind fun s => (opd nt x).bind fun a => some (.load s.1 s.2 a)
  | .store t x y => (szT P t).bind fun n => (opd nt x).bind fun a => (opd nt y).bind fun b => some (.store n a b)
  | .nilCheck x => (opd nt x).bind fun a => some (.nilchk a)
  | .binOp op t x y _ => (opd nt x).bind fun a => (opd nt y).bind fun b => akw P op t a b
  | .unOp .not _ x => (opd nt x).bind fun a => some (.not a)
  | .convert s d x => match P.underlying s, P.underlying d with
    | some _, some (.int k) => (opd nt x).bind fun a => some (.conv k a)
    | _, _ => none
  | .makeFunc (.func f) first cap => (afD nt first.toList).bind fun a => (afD nt cap.toList).bind fun c => some (.mkfunc f a c)
  | .makeMap t r => match P.underlying t, r with
    | some (.map _ _), none => some .mkmap
    | some (.map _ _), some (.const (.int _ _)) => some .mkmap
    | _, _ => none
  | .makeSlice t l c => (Fn P t).bind fun e => (P.info? e).bind fun i => (A1 P e).bind fun z => (opd nt l).bind fun a => (opd nt c).bind fun b =>
    if z.cells.length == i.size && 0 < i.size && i.bytes ≤ 65536 then some (.mk z.cells a b) else none
  | .slice t x lo hi mx => (opd nt x).bind fun a => (abD nt lo).bind fun l => (abD nt hi).bind fun h => (abD nt mx).bind fun m => match P.underlying t with
    | some (.array n e) => (szT P e).bind fun s => some (.sl (.arr n s) a l h m)
    | some (.slice e) => (szT P e).bind fun s => some (.sl (.sl s) a l h m)
    | some .string => some (.sl .str a l h m)
    | _ => none
  | .fieldAddr t x i => (opd nt x).bind fun a => match P.underlying t with
    | some (.struct fs) => fs[i]?.bind fun f => (szT P f.type).bind fun s => if 0 < s then some (.fa f.offset a) else none
    | _ => none
  | .indexAddr t x i => (opd nt x).bind fun a => (opd nt i).bind fun b => match P.underlying t with
    | some (.array n e) => (szT P e).bind fun s => some (.iaA s n a b)
    | some (.slice e) => (szT P e).bind fun s => some (.iaS s a b)
    | _ => none
  | .index t x i => (opd nt x).bind fun a => (opd nt i).bind fun b => match P.underlying t with
    | some (.array n e) => (U4 P e).bind fun s => some (.idxA s.1 n s.2 a b)
    | some .string => some (.idxS a b)
    | _ => none
  | .extract x i => (opd nt x).bind fun a => some (.ext i a)
  | .lookup t x k ok => (opd nt x).bind fun a => (opd nt k).bind fun b => match P.underlying t with
    | some (.map kt e) => (keyT P kt).bind fun kk => (A1 P e).bind fun z => some (.lookup kk z ok a b)
    | _ => none
  | .mapUpdate t m k x => (opd nt m).bind fun a => (opd nt k).bind fun b => (opd nt x).bind fun c => match P.underlying t with
    | some (.map kt _) => (keyT P kt).bind fun kk => some (.mapset kk a b c)
    | _ => none
  | .call { callee := .builtin b, args, argTypes } => Vs P nt b argTypes.toList args.toList
  | _ => none
def aoE (ops : Array Oper) (g : Option (Nat × Bool)) : Option Gd :=
  match g with
  | none => some .always
  | some (j, want) => match (ops[j]?).bind (·.dst) with
    | some t => if t < nt then some (.on (keyC t) want) else none
    | none => none
def W0 (d : Option Tmp) : Option (Option Ai.P) :=
  match d with
  | none => some none
  | some t => if t < nt then some (some (keyC t)) else none
def yp (ops : Array Oper) (q : Bool) (o : Oper) : Option Ins :=
  (aoE nt ops o.guard).bind fun g => (W0 nt o.dst).bind fun d =>
  match o.op with
  | .call { callee := .value f, args, .. } => (opd nt f).bind fun f => (afD nt args.toList).bind fun as => some (.call g d q f as)
  | op => (aou P nt op).bind fun a => some (.op g d a)
inductive Cl where
  | pure | alloc | load | eff
  deriving DecidableEq
def afa : AOp → Cl
  | .mov _ | .pick .. | .not _ | .bin .. | .eq .. | .conv .. | .build .. | .nilchk _ | .fa .. | .iaS .. | .iaA .. | .idxA .. | .idxS .. | .sl .. | .ext .. | .mkfunc .. | .minmax .. => .pure
  | .len .mp _ => .load
  | .len _ _ => .pure
  | .alloc _ | .box _ | .buildSlice .. | .mkmap | .mk .. => .alloc
  | .load .. | .lookup .. => .load
  | .store .. | .mapset .. | .mapdel .. | .append .. | .copy .. | .clear .. => .eff
def lG : Ins → Cl
  | .op _ _ o => afa o
  | .call _ _ q _ _ => if q then .alloc else .eff
def MA : Ins → Bool
  | .op _ _ o => match afa o with | .alloc => true | _ => false
  | .call .. => false
def UX : Cl → Cl → Bool
  | .pure, _ | _, .pure => false
  | .eff, _ | _, .eff => true
  | _, _ => false
def FK (ops : List Oper) : List (List Nat) :=
  ops.foldl (fun acc o => acc ++ [o.after.toList.flatMap fun e => if Region.binds .any e then e.on :: acc.getD e.on [] else []]) []
def ak0 (ops : Array Oper) (l : List Ins) : Bool :=
  let b := FK ops.toList
  (List.range ops.size).all fun j => (List.range j).all fun i =>
    (b.getD j []).contains i || match l[i]?, l[j]? with
      | some p, some q => !SL p q && !UX (lG p) (lG q)
      | _, _ => false
def besides (ops : Array Oper) (i : Nat) (l : List Ins) : Bool :=
  let b := FK ops.toList
  (List.range ops.size).any fun j => j != i && !((b.getD j []).contains i || (b.getD i []).contains j) && (match l[j]? with | some p => lG p != .pure | none => true)
def Cg (ops : Array Oper) (q : Nat → Bool) : Nat → List Oper → Option (List Ins)
  | _, [] => some []
  | i, o :: l => (yp P nt ops (q i) o).bind fun x => (Cg ops q (i + 1) l).map (x :: ·)
def adb (us : List UI) (i j : Nat) : Bool :=
  match us[i]?, us[j]? with
  | some p, some q => (match lG p.x, lG q.x with
    | .load, .eff => q.again.contains i
    | .eff, .load => q.back.contains i
    | _, _ => false)
  | _, _ => false
def aoN (p q : Ins) : Bool := !UX (lG p) (lG q) || (MA p && (match lG q with | .eff => true | _ => false))
def inN (r : Nat) : List Nat → Bool
  | [] => false
  | x :: l => Nat.beq x r || inN r l
def distN : List Nat → Bool
  | [] => true
  | x :: l => !inN x l && distN l
def alU (n : Nat) (π : List Nat) : Bool := Nat.beq π.length n && ((List.range n).all (fun r => inN r π) && (distN π && π.all fun r => Nat.blt r n))
def af5 (l₀ : List Ins) : List Nat → Option (List Ins)
  | [] => some []
  | r :: rs => (l₀[r]?).bind fun x => (af5 l₀ rs).map (x :: ·)
def CE (m i : Nat) : Bool := Nat.beq (Nat.mod (Nat.div m (Nat.pow 2 i)) 2) 1
def bitM (i : Nat) : Nat := Nat.pow 2 i
def VP : List Nat → Nat → Nat
  | [], _ => 0
  | x :: _, 0 => x
  | _ :: l, n + 1 => VP l n
def amv (acc : List Nat) : List Edge → Nat → Nat
  | [], m => m
  | e :: l, m => if Region.binds .any e then amv acc l (Nat.lor m (Nat.lor (bitM e.on) (VP acc e.on))) else amv acc l m
def alQ : List Oper → List Nat → List Nat
  | [], acc => acc
  | o :: l, acc => alQ l (acc ++ [amv acc o.after.toList 0])
def aep (ops : List Oper) : List Nat := alQ ops []
def numP : Ai.P → Nat
  | .h => 1
  | .o p => Nat.mul 2 (numP p)
  | .i p => Nat.succ (Nat.mul 2 (numP p))
def M9 : List Ai.P → Nat → Nat
  | [], m => m
  | p :: l, m => M9 l (Nat.lor m (bitM (numP p)))
def D5 : Option Ai.P → Nat
  | none => 0
  | some p => bitM (numP p)
def subM (b d : Nat) : Bool := Nat.beq (Nat.land b d) b
def amm (b : List Nat) (eff : Nat → Bool) : Nat → List Nat → Nat → List Nat → List Nat
  | 0, _, _, d => d.reverse
  | f + 1, todo, m, d =>
    match (todo.find? fun r => !eff r && subM (VP b r) m) with
    | some r => amm b eff f (todo.filter fun x => !Nat.beq x r) (Nat.lor m (bitM r)) (r :: d)
    | none => match (todo.find? fun r => subM (VP b r) m) with
      | some r => amm b eff f (todo.filter fun x => !Nat.beq x r) (Nat.lor m (bitM r)) (r :: d)
      | none => d.reverse
def effB (l : List Ins) (r : Nat) : Bool := match l[r]? with | some x => (match lG x with | .eff => true | _ => false) | none => true
def Zc (l : List Ins) : List UI := l.map fun x => ⟨x, false, false, [], []⟩
structure MI where
  r : Nat
  b : Nat
  d : Nat
  rd : Nat
def miOf (b : List Nat) (r : Nat) (x : Ins) : MI := ⟨r, VP b r, D5 x.dst, M9 x.reads 0⟩
def aaM (p q : MI) : Bool := Nat.beq (Nat.lor (Nat.land p.d (Nat.lor q.rd q.d)) (Nat.land q.d p.rd)) 0
def alu (cl : Nat → Nat → Ins → Ins → Bool) (x : Ins) (m : MI) (j : Nat) : List (Ins × MI) → Nat → Bool
  | [], _ => true
  | (y, n) :: l, i => (CE m.b n.r || (aaM n m && cl i j y x)) && alu cl x m j l (i + 1)
def allF (cl : Nat → Nat → Ins → Ins → Bool) (all : List (Ins × MI)) : List (Ins × MI) → Nat → Bool
  | [], _ => true
  | (x, m) :: l, j => alu cl x m j (all.take j) 0 && allF cl all l (j + 1)
def Vg (b : List Nat) : List Nat → List Ins → List (Ins × MI)
  | r :: π, x :: l => (x, miOf b r x) :: Vg b π l
  | _, _ => []
def abE (ops : Array Oper) (l : List Ins) : Bool :=
  let a := Vg (aep ops.toList) (List.range ops.size) l
  Nat.beq l.length ops.size && allF (fun _ _ p q => !UX (lG p) (lG q)) a a 0
def WY (b : List Nat) (π : List Nat) (us : List UI) : Bool :=
  let a := Vg b π (us.map UI.x)
  Nat.beq us.length π.length && allF (fun i j p q => aoN p q || adb us i j) a a 0
def looseM (p q : MI) : Bool := !(CE q.b p.r || CE p.b q.r)
def aka (t : Cl) (m : MI) (lo hi : Nat) : List (Ins × MI) → Nat → List Nat
  | [], _ => []
  | (y, n) :: l, j => if Nat.ble lo j && Nat.blt j hi && (match lG y, t with | .load, .load => true | .eff, .eff => true | _, _ => false) && looseM n m then j :: aka t m lo hi l (j + 1) else aka t m lo hi l (j + 1)
def mkUF (n : Nat) (all : List (Ins × MI)) : List (Ins × MI) → Nat → List UI
  | [], _ => []
  | (x, m) :: l, i => (match lG x with
    | .load => ⟨x, false, !(aka .eff m i n all 0).isEmpty, aka .eff m 0 i all 0, []⟩
    | .eff => ⟨x, !(aka .load m i n all 0).isEmpty, false, [], aka .load m 0 i all 0⟩
    | _ => ⟨x, false, false, [], []⟩) :: mkUF n all l (i + 1)
def mkU (b : List Nat) (π : List Nat) (l : List Ins) : List UI := mkUF l.length (Vg b π l) (Vg b π l) 0
def compU (ops : Array Oper) (l₀ : List Ins) : Option AC :=
  let b := aep ops.toList
  let π := amm b (effB l₀) ops.size (List.range ops.size) 0 []
  if alU ops.size π then
    (af5 l₀ π).bind fun l =>
    if WY b π (Zc l) then some (.reg l) else
    let us := mkU b π l
    if WY b π us then some (.regU us) else none
  else none
def akm (m : Bool) (ops : Array Oper) (draw : Bool) : Option AC :=
  if draw then
    if ops.toList.zipIdx.all (fun (o, i) => o.after.toList.all fun e => !Region.binds .any e || e.on < i) then
      (Cg P nt ops (fun _ => false) 0 ops.toList).bind fun l₀ =>
      if abE ops l₀ then some (.reg l₀) else
      match if m then none else compU ops l₀ with
      | some c => some c
      | none => (Cg P nt ops (fun i => besides ops i l₀) 0 ops.toList).bind fun l =>
        if ak0 ops l then some (.reg l) else none
    else none
  else (Cg P nt ops (fun _ => false) 0 ops.toList).map .reg
def ZR (m : Bool) : Code → Option AC
  | .skip => some .skip
  | .region _ ops draw => akm P nt m ops draw
  | .seq a b => (ZR m a).bind fun a => (ZR m b).bind fun b => some (.seq a b)
  | .cond c a b => (opd nt c).bind fun c => (ZR m a).bind fun a => (ZR m b).bind fun b => some (.cond c a b)
  | .block id a => (ZR m a).map (.block id)
  | .loop a => (ZR m a).map .loop
  | .scope a => ZR m a
  | .label _ => some .skip
  | .exit id => some (.exit id)
  | .ret => some .ret
  | _ => none
def alh : ResultVar → Option Rv
  | .tmp t => if t < nt then some (.t (keyC t)) else none
  | .cell a t => (U4 P t).bind fun s => if a < nt then some (.cell (keyC a) s.1 s.2) else none
def aaf : List ResultVar → Option (List Rv)
  | [] => some []
  | r :: l => (alh P nt r).bind fun a => (aaf l).map (a :: ·)
end
def VU (P : Program) (f : Func) (m : Bool := false) : Option AFn :=
  f.body.bind fun c => (ZR P f.ntmps m c).bind fun body => (aaf P f.ntmps f.results.toList).bind fun rs =>
    if f.params.size + f.nfree ≤ f.ntmps then some (.code ((List.range (f.params.size + f.nfree)).map keyC) body rs) else none
end Go.Ai
/- The groundwork for 'an operation of the interpreter is the model's': temporaries, operands, constants, and what stands in the tables. -/
namespace Go.Ai
theorem aoU : ∀ (f n : Nat), posC f n = pos f n
  | 0, _ => rfl
  | f + 1, n => by rw [anr, posC, aoU f]
theorem NK (n : Nat) : keyC n = key n := aoU _ _
section
variable {α β : Type}
theorem cE {x : Option α} {k : α → Option β} {r : β} (h : Option.casesOn (motive := fun _ => Option β) x none k = some r) : ∃ a, x = some a ∧ k a = some r := by
  cases x with
  | none => cases h
  | some a => exact ⟨a, rfl, h⟩
theorem oF {b : Bool} {k : Option β} {r : β} (h : Bool.casesOn (motive := fun _ => Option β) b none k = some r) : b = true ∧ k = some r := by
  cases b with
  | false => cases h
  | true => exact ⟨rfl, h⟩
theorem R2 {b : Bool} {k : Option β} {r : β} (h : Bool.casesOn (motive := fun _ => Option β) b k none = some r) : b = false ∧ k = some r := by
  cases b with
  | true => cases h
  | false => exact ⟨rfl, h⟩
end
structure TmRel (M : Mp) (D : Nat → Prop) (nt : Nat) (tm : Tr AV) (a : Act) : Prop where
  size : nt ≤ a.tmps.size
  at_ : ∀ t v, t < nt → tm.get (key t) = some v → a.tmps.getD t undef = bh M v ∧ okv D v
theorem TmRel.mono {M M' : Mp} {D D' : Nat → Prop} {nt : Nat} {tm : Tr AV} {a : Act} (h : TmRel M D nt tm a) (hd : ∀ b, D b → D' b) (ha : ∀ b, D b → M' b = M b) : TmRel M' D' nt tm a :=
  ⟨h.size, fun t v ht hv => by
    obtain ⟨e, o⟩ := h.at_ t v ht hv
    exact ⟨by rw [nO ha _ o]; exact e, iD hd _ o⟩⟩
theorem TmRel.put {M : Mp} {D : Nat → Prop} {nt : Nat} {tm : Tr AV} {a : Act} (h : TmRel M D nt tm a) {d : Nat} (hd : d < nt) {v : AV} (hv : okv D v) :
    TmRel M D nt (tm.set (key d) v) (a.put (some d) (bh M v)) := by
  refine ⟨by simp [Act.put]; exact h.size, fun t u ht hu => ?_⟩
  by_cases e : d = t
  · subst e
    rw [Tr.get_set_same] at hu; cases hu
    refine ⟨?_, hv⟩
    have := Nat.lt_of_lt_of_le hd h.size
    simp [Act.put, this]
  · rw [Tr.get_set_other (fun k => e (xD k))] at hu
    obtain ⟨x, y⟩ := h.at_ t u ht hu
    refine ⟨?_, y⟩
    simp only [Act.put]
    rw [← x]
    simp [Array.getElem?_setIfInBounds_ne e]
theorem adx {M : Mp} {D : Nat → Prop} {v : Value} {a : AV} (h : akG v = some a) : bh M a = v ∧ okv D a ∧ a.isCell = true := by
  unfold akG at h
  split at h <;> first | (cases h; done) | (cases h; refine ⟨?_, ?_, rfl⟩ <;> simp [bh, okv]) | skip
theorem ZQ {M : Mp} {D : Nat → Prop} : ∀ {l : List Value} {r : List AV}, af2 l = some r → ug M r = l ∧ okL D r ∧ ∀ v ∈ r, v.isCell = true
  | [], r, h => by cases h; simp [ug, okL]
  | v :: l, r, h => by
    simp only [af2, Option.bind_eq_some_iff, Option.map_eq_some_iff] at h
    obtain ⟨a, ha, t, ht, rfl⟩ := h
    obtain ⟨h1, h2, h3⟩ := adx (M := M) (D := D) ha
    obtain ⟨k1, k2, k3⟩ := ZQ (M := M) (D := D) ht
    refine ⟨by simp [ug, h1, k1], by simp [okL, h2, k2], fun u hu => ?_⟩
    rcases List.mem_cons.1 hu with rfl | hu
    · exact h3
    · exact k3 _ hu
theorem ako {M : Mp} {D : Nat → Prop} {v : Value} {a : AV} (h : toAV v = some a) : bh M a = v ∧ okv D a := by
  unfold toAV at h
  split at h
  · rename_i cs
    simp only [Option.map_eq_some_iff] at h
    obtain ⟨l, hl, rfl⟩ := h
    obtain ⟨h1, h2, h3⟩ := ZQ (M := M) (D := D) hl
    exact ⟨by simp [bh, h1], by simp only [okv]; exact ⟨h2, h3⟩⟩
  · obtain ⟨h1, h2, _⟩ := adx (M := M) (D := D) h
    exact ⟨h1, h2⟩
theorem aoz {M : Mp} {D : Nat → Prop} {v : Value} {a : AV} (h : toAV v = some a) : v.cells = (a.cells.map (bh M)).toArray ∧ ∀ u ∈ a.cells, okv D u ∧ u.isCell = true := by
  unfold toAV at h
  split at h
  · rename_i cs
    simp only [Option.map_eq_some_iff] at h
    obtain ⟨l, hl, rfl⟩ := h
    obtain ⟨h1, h2, h3⟩ := ZQ (M := M) (D := D) hl
    rw [mb] at h1
    refine ⟨by simp [Value.cells, AV.cells, h1], fun u hu => ⟨(oP D l).1 h2 u hu, h3 u hu⟩⟩
  · rename_i hna
    obtain ⟨h1, h2, h3⟩ := adx (M := M) (D := D) h
    have ha : a.cells = [a] := by cases a <;> simp_all [AV.cells, AV.isCell]
    rw [ha]
    refine ⟨?_, fun u hu => ?_⟩
    · rw [← h1]; cases a <;> simp_all [bh, Value.cells, AV.isCell]
    · simp at hu; subst hu; exact ⟨h2, h3⟩
section
variable {P : Program} {nt : Nat} {M : Mp} {D : Nat → Prop} {tm : Tr AV} {a : Act}
theorem lR {x : Operand} {X : Opd} {v : AV} (hx : opd nt x = some X) (ht : TmRel M D nt tm a) (hv : ev tm X = some v) : a.eval x = bh M v ∧ okv D v := by
  cases x with
  | tmp t =>
    simp only [opd] at hx
    split at hx
    · rename_i hlt
      cases hx
      have hv' : tm.get (key t) = some v := by rw [← NK]; exact hv
      exact ht.at_ t v hlt hv'
    · cases hx
  | const c =>
    simp only [opd, Option.map_eq_some_iff] at hx
    obtain ⟨b, hb, rfl⟩ := hx
    have : b = v := by have h : some b = some v := hv; simpa using h
    subst this
    obtain ⟨h1, h2⟩ := ako (M := M) (D := D) hb
    exact ⟨h1.symm, h2⟩
  | func f =>
    simp only [opd, Option.some.injEq] at hx
    subst hx
    have : AV.func f [] [] = v := by have h : some (AV.func f [] []) = some v := hv; simpa using h
    subst this
    exact ⟨by simp [Act.eval, bh, ug], by simp [okv, okL]⟩
  | global g => cases hx
theorem evs_cons {X : Opd} {L : List Opd} {r : List AV} (h : evs tm (X :: L) = some r) : ∃ v vs, ev tm X = some v ∧ evs tm L = some vs ∧ r = v :: vs := by
  have h' : Option.casesOn (motive := fun _ => Option (List AV)) (ev tm X) none (fun v => Option.casesOn (motive := fun _ => Option (List AV)) (evs tm L) none fun vs => some (v :: vs)) = some r := h
  obtain ⟨v, hv, h'⟩ := cE h'
  obtain ⟨vs, hvs, h'⟩ := cE h'
  exact ⟨v, vs, hv, hvs, by simpa using h'.symm⟩
theorem ahz : ∀ {l : List Operand} {L : List Opd} {vs : List AV}, afD nt l = some L → TmRel M D nt tm a → evs tm L = some vs → l.map a.eval = ug M vs ∧ okL D vs
  | [], L, vs, hl, _, hv => by
    cases hl
    have : ([] : List AV) = vs := by have h : some [] = some vs := hv; simpa using h
    subst this; simp [ug, okL]
  | x :: l, L, vs, hl, ht, hv => by
    simp only [afD, Option.bind_eq_some_iff, Option.map_eq_some_iff] at hl
    obtain ⟨X, hX, L', hL', rfl⟩ := hl
    obtain ⟨v, vs', h1, h2, rfl⟩ := evs_cons hv
    obtain ⟨a1, a2⟩ := lR hX ht h1
    obtain ⟨b1, b2⟩ := ahz hL' ht h2
    exact ⟨by simp [ug, a1, b1], by simp [okL, a2, b2]⟩
end
section
variable {P : Program} {w : World} {t : TypeId}
theorem VD {i : TypeInfo} (h : P.info? t = some i) : (typeInfo t).run P w = .ok i w := by simp [typeInfo, h]
theorem nT {n : Nat} (h : szT P t = some n) : (sizeOf t).run P w = .ok n w := by
  unfold szT at h
  obtain ⟨i, hi, rfl⟩ := Option.map_eq_some_iff.1 h
  simp [sizeOf, typeInfo, hi]
theorem CW {a : AV} {M : Mp} (h : A1 P t = some a) : (zeroValue t).run P w = .ok (bh M a) w := by
  unfold A1 at h
  simp only [Option.bind_eq_some_iff] at h
  obtain ⟨v, ⟨i, hi, hz⟩, ha⟩ := h
  obtain ⟨h1, _⟩ := ako (M := M) (D := fun _ => False) ha
  simp [zeroValue, typeInfo, hi, hz, h1]
theorem af4 {g : Bool} (h : Kl P t = some g) : (isAgg t).run P w = .ok g w := by
  unfold Kl at h
  cases hu : P.underlying t with
  | none => rw [hu] at h; cases h
  | some d =>
    rw [hu] at h
    simp only [isAgg, Sem.run_bind, run_underlying hu, Result.andThen_ok]
    cases d <;> simp_all
theorem yP {a : AV} {M : Mp} {D : Nat → Prop} (h : A1 P t = some a) : (∀ u ∈ a.cells, okv D u ∧ u.isCell = true) ∧ okv D a ∧ (bh M a).cells = (a.cells.map (bh M)).toArray := by
  unfold A1 at h
  simp only [Option.bind_eq_some_iff] at h
  obtain ⟨v, ⟨i, hi, hz⟩, ha⟩ := h
  obtain ⟨h1, h2⟩ := ako (M := M) (D := D) ha
  obtain ⟨h3, h4⟩ := aoz (M := M) (D := D) ha
  exact ⟨h4, h2, by rw [h1]; exact h3⟩
end
def Yield (r : Next) (v : Value) : Prop := r = .value v ∨ (r = .skip ∧ v = undef)
def Sound1 (P : Program) (w : World) (M : Mp) (D : Nat → Prop) (H : Heap) (s : Sem Next) (v : AV) (H' : Heap) : Prop :=
  ∃ M' D' w' r, s.run P w = .ok r w' ∧ Yield r (bh M' v) ∧ Rel M' D' H' w' ∧ Ext M D H w M' D' H' w' ∧ okv D' v
theorem Sound1.same {P : Program} {w : World} {M : Mp} {D : Nat → Prop} {H : Heap} {s : Sem Next} {v : AV} (hr : Rel M D H w) (h : s.run P w = .ok (.value (bh M v)) w) (hv : okv D v) : Sound1 P w M D H s v H :=
  ⟨M, D, w, _, h, .inl rfl, hr, .refl, hv⟩
theorem rY (M : Mp) : bh M AV.undef = undef := by simp [AV.undef, bh, ug, undef]
theorem uS (D : Nat → Prop) : okv D AV.undef := by simp [AV.undef, okv, okL]
theorem Kd {H : Heap} {b : Nat} {l : List AV} (h : nN H b = some l) : ∃ rw g, H.get b = some (.cells l rw g) := by
  have h' : Option.casesOn (motive := fun _ => Option (List AV)) (H.get b) none (fun x => Blk.casesOn (motive := fun _ => Option (List AV)) x (fun l _ _ => some l) (fun _ => none) none) = some l := h
  obtain ⟨x, hx, h'⟩ := cE h'
  cases x with
  | cells l' rw g => have : l' = l := by simpa using h'
                     subst this; exact ⟨rw, g, hx⟩
  | mp _ => cases h'
  | dead => cases h'
theorem RV {H : Heap} {b : Nat} {l : List (AV × AV)} (h : I3 H b = some l) : H.get b = some (.mp l) := by
  have h' : Option.casesOn (motive := fun _ => Option (List (AV × AV))) (H.get b) none (fun x => Blk.casesOn (motive := fun _ => Option (List (AV × AV))) x (fun _ _ _ => none) (fun es => some es) none) = some l := h
  obtain ⟨x, hx, h'⟩ := cE h'
  cases x with
  | cells _ _ _ => cases h'
  | mp es => have : es = l := by simpa using h'
             subst this; exact hx
  | dead => cases h'
theorem PA {β : Type} {H : Heap} {b : Nat} {k : List AV → Nat → Option β} {r : β} (h : Xy H b none k = some r) : ∃ l g, H.get b = some (.cells l true g) ∧ H.ro ≤ b ∧ k l g = some r := by
  have h' : Bool.casesOn (motive := fun _ => Option β) (Nat.blt b H.ro)
    (Option.casesOn (motive := fun _ => Option β) (H.get b) none fun x => Blk.casesOn (motive := fun _ => Option β) x (fun l rw g => Bool.casesOn (motive := fun _ => Option β) rw none (k l g)) (fun _ => none) none) none = some r := h
  obtain ⟨hb, h'⟩ := R2 h'
  obtain ⟨x, hx, h'⟩ := cE h'
  cases x with
  | cells l rw g =>
    obtain ⟨hrw, h'⟩ := oF h'
    subst hrw
    refine ⟨l, g, hx, ?_, h'⟩
    rw [blt_eq] at hb; simpa using hb
  | mp _ => cases h'
  | dead => cases h'
end Go.Ai
