/- The model's code turned into the interpreter's: a function of the program's tables; 'none' where a construct is not taken. -/
import Derived.Test.YtpoobhhdgjgdgaaGreatAiDefs
import Derived.Test.YtpoobhhdgjgdgaaGreatAiRelNum
set_option linter.all false
namespace Go.Ai
def posC:Nat→Nat→P
  | 0,_=>.h
  | f+1,n=>if n≤1 then .h else if n%2=0 then .o (posC f (n/2)) else .i (posC f (n/2))
def keyC (n:Nat):P:=posC (n+1) (n+1)
def alI:Value→Option AV
  | .bool b=>some (.bool b)
  | .int k n=>some (.int k n)
  | .string s=>some (.str s.data.toList)
  | .pointer none=>some .nilptr
  | .slice none 0 0=>some .nilslice
  | .map none=>some .nilmap
  | .nilFunc=>some .nilfunc
  | .nilIface=>some .niliface
  | _=>none
def agI:List Value→Option (List AV)
  | []=>some []
  | v::l=>(alI v).bind fun a=>(agI l).map (a::·)
def toAV:Value→Option AV
  | .agg cs=>(agI cs.toList).map .agg
  | v=>alI v
def P.eqb:Ai.P→Ai.P→Bool
  | .h,.h=>true
  | .o p,.o q=>P.eqb p q
  | .i p,.i q=>P.eqb p q
  | _,_=>false
def P.mem (p:Ai.P):List Ai.P→Bool
  | []=>false
  | q::l=>P.eqb p q||P.mem p l
def Opd.ps:Opd→List Ai.P
  | .t p=>[p]
  | .c _=>[]
def Opd.psL:List Opd→List Ai.P
  | []=>[]
  | x::l=>x.ps++psL l
def Opd.psO:Option Opd→List Ai.P
  | none=>[]
  | some x=>x.ps
def Opd.psP:List (Nat × Nat × Opd)→List Ai.P
  | []=>[]
  | x::l=>x.2.2.ps++psP l
def AOp.ps:AOp→List Ai.P
  | .mov x=>x.ps
  | .pick c a b=>c.ps++(a.ps++b.ps)
  | .not x=>x.ps
  | .bin _ x y=>x.ps++y.ps
  | .eq _ _ x y=>x.ps++y.ps
  | .conv _ x=>x.ps
  | .alloc _=>[]
  | .box x=>x.ps
  | .build _ l=>Opd.psP l
  | .buildSlice _ _ l=>Opd.psP l
  | .load _ _ x=>x.ps
  | .store _ a x=>a.ps++x.ps
  | .nilchk x=>x.ps
  | .fa _ x=>x.ps
  | .iaS _ x i=>x.ps++i.ps
  | .iaA _ _ x i=>x.ps++i.ps
  | .idxA _ _ _ x i=>x.ps++i.ps
  | .idxS x i=>x.ps++i.ps
  | .sl _ x lo hi mx=>x.ps++(Opd.psO lo++(Opd.psO hi++Opd.psO mx))
  | .ext _ x=>x.ps
  | .mkfunc _ a c=>Opd.psL a++Opd.psL c
  | .mkmap=>[]
  | .mk _ l c=>l.ps++c.ps
  | .lookup _ _ _ m k=>m.ps++k.ps
  | .mapset _ m k x=>m.ps++(k.ps++x.ps)
  | .mapdel _ m k=>m.ps++k.ps
  | .len _ x=>x.ps
  | .minmax _ xs=>Opd.psL xs
  | .append _ s x=>s.ps++x.ps
  | .copy _ d x=>d.ps++x.ps
  | .clear _ x=>x.ps
def Gd.ps:Gd→List Ai.P
  | .always=>[]
  | .on p _=>[p]
def Ins.reads:Ins→List Ai.P
  | .op g _ o=>g.ps++o.ps
  | .call g _ _ f args=>g.ps++(f.ps++Opd.psL args)
def SY (x y:Ins):Bool:=
  (match x.dst with | some d=>P.mem d y.reads||(match y.dst with | some e=>P.eqb d e | none=>false) | none=>false)||
  (match y.dst with | some d=>P.mem d x.reads | none=>false)
section
variable (P:Program) (nt:Nat)
def opd:Operand→Option Opd
  | .tmp t=>if t<nt then some (.t (keyC t)) else none
  | .const v=>(toAV v).map .c
  | .func f=>some (.c (.func f [] []))
  | .global _=>none
def afH:List Operand→Option (List Opd)
  | []=>some []
  | x::l=>(opd nt x).bind fun a=>(afH l).map (a::·)
def abe:Option Operand→Option (Option Opd)
  | none=>some none
  | some x=>(opd nt x).map some
def szT (t:TypeId):Option Nat:=(P.info? t).map (·.size)
def zn (t:TypeId):Option AV:=((P.info? t).bind (·.zero)).bind toAV
def HS (t:TypeId):Option Bool:=
  match P.underlying t with
  | some (.struct _) | some (.array _ _)=>some true
  | some _=>some false
  | none=>none
def Wl (t:TypeId):Option (Nat × Bool):=
  (szT P t).bind fun n=>(HS P t).bind fun g=>if g||n==1 then some (n,g) else none
def abf (r:TypeId→Option (List CK)):List Field→Nat→Option (List CK)
  | [],_=>some []
  | f::fs,off=>if f.name != "_" && f.offset==off then (r f.type).bind fun ks=>if szT P f.type==some ks.length then (abf r fs (off+ks.length)).map (ks++·) else none else none
def Cd:Nat→TypeId→Option (List CK)
  | 0,_=>none
  | d+1,t=>
    match P.underlying t with
    | some (.int _)=>if szT P t==some 1 then some [.int] else none
    | some .string=>if szT P t==some 1 then some [.str] else none
    | some .bool=>if szT P t==some 1 then some [.bool] else none
    | some (.struct fs)=>if P.stoodInHeld t then none else (abf P (Cd d) fs.toList 0).bind fun ks=>if szT P t==some ks.length then some ks else none
    | some (.array n e)=>(Cd d e).bind fun ks=>if szT P e==some ks.length&&szT P t==some (n*ks.length) then some (List.replicate n ks).flatten else none
    | _=>none
def keyT (t:TypeId):Option dh:=
  match P.underlying t with
  | some (.int _)=>some (.cell .int)
  | some .string=>some (.cell .str)
  | some .bool=>some (.cell .bool)
  | some (.array n e)=>match P.underlying e with
    | some (.int _)=>(Cd P 8 t).bind fun ks=>if ks.length==n&&szT P e==some 1 then some (.agg ks) else none
    | _=>none
  | _=>none
def abo (fs:List Field):Option (List (Nat × Nat)):=
  match fs with
  | []=>some []
  | f::fs=>(szT P f.type).bind fun s=>(abo fs).map ((f.offset,s)::·)
def aiZ (ps:List (Nat × Nat)):List (Nat × Operand)→Option (List (Nat × Nat × Opd))
  | []=>some []
  | (i,x)::l=>ps[i]?.bind fun p=>(opd nt x).bind fun a=>(aiZ ps l).map ((p.1,p.2,a)::·)
def Zf (s:Nat):List (Nat × Operand)→Option (List (Nat × Nat × Opd))
  | []=>some []
  | (i,x)::l=>(opd nt x).bind fun a=>(Zf s l).map ((i*s,s,a)::·)
def ant (z:List AV):Nat→List AV
  | 0=>[]
  | n+1=>z++ant z n
def al2 (op:BinOp) (t:TypeId) (a b:Opd):Option AOp:=
  match P.underlying t with
  | some (.int _) | some .string=>some (.bin op a b)
  | some .bool=>match op with | .eql=>some (.eq .bool false a b) | .neq=>some (.eq .bool true a b) | _=>none
  | some (.pointer _)=>match op with | .eql=>some (.eq (.nil .ptr) false a b) | .neq=>some (.eq (.nil .ptr) true a b) | _=>none
  | some (.slice _)=>match op with | .eql=>some (.eq (.nil .sl) false a b) | .neq=>some (.eq (.nil .sl) true a b) | _=>none
  | some (.map _ _)=>match op with | .eql=>some (.eq (.nil .mp) false a b) | .neq=>some (.eq (.nil .mp) true a b) | _=>none
  | some (.func _ _ _)=>match op with | .eql=>some (.eq (.nil .fn) false a b) | .neq=>some (.eq (.nil .fn) true a b) | _=>none
  | some (.struct _) | some (.array _ _)=>
    if P.eqGuardType P.depth t then none else (Cd P 8 t).bind fun ks=>
      match op with | .eql=>some (.eq (.plain ks) false a b) | .neq=>some (.eq (.plain ks) true a b) | _=>none
  | _=>none
def EQ (t:TypeId):Option TypeId:=match P.underlying t with | some (.slice e)=>some e | _=>none
def srcT (t:TypeId) (s:Nat):Bool:=
  match P.underlying t with
  | some (.slice _)=>true
  | some .string=>s==1
  | _=>false
def WM (b:Builtin) (ats:List TypeId) (args:List Operand):Option AOp:=
  match b,ats,args with
  | .len,[t],[x]=>(opd nt x).bind fun a=>match P.underlying t with
    | some .string=>some (.len .str a)
    | some (.array n _)=>some (.len (.arr n) a)
    | some (.slice _)=>some (.len .sl a)
    | some (.map _ _)=>some (.len .mp a)
    | _=>none
  | .append,[t,u],[x,y]=>(EQ P t).bind fun e=>(P.info? e).bind fun i=>(zn P e).bind fun z=>(opd nt x).bind fun a=>(opd nt y).bind fun b=>
    if 0<i.size&&i.bytes≤65536&&z.cells.length==i.size&&srcT P u i.size then some (.append i.size a b) else none
  | .copy,[t,u],[x,y]=>(EQ P t).bind fun e=>(szT P e).bind fun s=>(opd nt x).bind fun a=>(opd nt y).bind fun b=>if 0<s&&srcT P u s then some (.copy s a b) else none
  | .clear,[t],[x]=>(EQ P t).bind fun e=>(zn P e).bind fun z=>(opd nt x).bind fun a=>if 0<z.cells.length then some (.clear z.cells a) else none
  | .delete,[t,_],[x,y]=>(opd nt x).bind fun a=>(opd nt y).bind fun b=>match P.underlying t with
    | some (.map k _)=>(keyT P k).bind fun kk=>some (.mapdel kk a b)
    | _=>none
  | .max,_,xs=>(afH nt xs).bind fun as=>some (.minmax true as)
  | .min,_,xs=>(afH nt xs).bind fun as=>some (.minmax false as)
  | _,_,_=>none
def aoN (op:Op):Option AOp:=
  match op with
  | .move x | .assign x=>(opd nt x).map .mov
  | .pick c x y=>(opd nt c).bind fun c=>(opd nt x).bind fun a=>(opd nt y).bind fun b=>some (.pick c a b)
  | .alloc t=>(zn P t).bind fun z=>some (.alloc z.cells)
  | .box _ x=>(opd nt x).bind fun a=>some (.box a)
  | .build t parts=>(zn P t).bind fun z=>match P.underlying t,z with
    | some (.struct fs),.agg z=>(abo P fs.toList).bind fun ps=>(aiZ nt ps parts.toList).bind fun l=>some (.build z l)
    | some (.array _ e),.agg z=>(szT P e).bind fun s=>(Zf nt s parts.toList).bind fun l=>some (.build z l)
    | _,_=>none
  | .buildSlice t len parts=>(EQ P t).bind fun e=>(szT P e).bind fun s=>(zn P e).bind fun z=>
    if z.cells.length==s&&len*s≤16777216 then (Zf nt s parts.toList).bind fun l=>some (.buildSlice len (ant z.cells len) l) else none
  | .load t x=>(Wl P t).bind fun s=>(opd nt x).bind fun a=>some (.load s.1 s.2 a)
  | .store t x y=>(szT P t).bind fun n=>(opd nt x).bind fun a=>(opd nt y).bind fun b=>some (.store n a b)
  | .nilCheck x=>(opd nt x).bind fun a=>some (.nilchk a)
  | .binOp op t x y _=>(opd nt x).bind fun a=>(opd nt y).bind fun b=>al2 P op t a b
  | .unOp .not _ x=>(opd nt x).bind fun a=>some (.not a)
  | .convert s d x=>match P.underlying s,P.underlying d with
    | some _,some (.int k)=>(opd nt x).bind fun a=>some (.conv k a)
    | _,_=>none
  | .makeFunc (.func f) first cap=>(afH nt first.toList).bind fun a=>(afH nt cap.toList).bind fun c=>some (.mkfunc f a c)
  | .makeMap t r=>match P.underlying t,r with
    | some (.map _ _),none=>some .mkmap
    | some (.map _ _),some (.const (.int _ _))=>some .mkmap
    | _,_=>none
  | .makeSlice t l c=>(EQ P t).bind fun e=>(P.info? e).bind fun i=>(zn P e).bind fun z=>(opd nt l).bind fun a=>(opd nt c).bind fun b=>
    if z.cells.length==i.size&&0<i.size&&i.bytes≤65536 then some (.mk z.cells a b) else none
  | .slice t x lo hi mx=>(opd nt x).bind fun a=>(abe nt lo).bind fun l=>(abe nt hi).bind fun h=>(abe nt mx).bind fun m=>match P.underlying t with
    | some (.array n e)=>(szT P e).bind fun s=>some (.sl (.arr n s) a l h m)
    | some (.slice e)=>(szT P e).bind fun s=>some (.sl (.sl s) a l h m)
    | some .string=>some (.sl .str a l h m)
    | _=>none
  | .fieldAddr t x i=>(opd nt x).bind fun a=>match P.underlying t with
    | some (.struct fs)=>fs[i]?.bind fun f=>(szT P f.type).bind fun s=>if 0<s then some (.fa f.offset a) else none
    | _=>none
  | .indexAddr t x i=>(opd nt x).bind fun a=>(opd nt i).bind fun b=>match P.underlying t with
    | some (.array n e)=>(szT P e).bind fun s=>some (.iaA s n a b)
    | some (.slice e)=>(szT P e).bind fun s=>some (.iaS s a b)
    | _=>none
  | .index t x i=>(opd nt x).bind fun a=>(opd nt i).bind fun b=>match P.underlying t with
    | some (.array n e)=>(Wl P e).bind fun s=>some (.idxA s.1 n s.2 a b)
    | some .string=>some (.idxS a b)
    | _=>none
  | .extract x i=>(opd nt x).bind fun a=>some (.ext i a)
  | .lookup t x k ok=>(opd nt x).bind fun a=>(opd nt k).bind fun b=>match P.underlying t with
    | some (.map kt e)=>(keyT P kt).bind fun kk=>(zn P e).bind fun z=>some (.lookup kk z ok a b)
    | _=>none
  | .mapUpdate t m k x=>(opd nt m).bind fun a=>(opd nt k).bind fun b=>(opd nt x).bind fun c=>match P.underlying t with
    | some (.map kt _)=>(keyT P kt).bind fun kk=>some (.mapset kk a b c)
    | _=>none
  | .call { callee:=.builtin b,args,argTypes }=>WM P nt b argTypes.toList args.toList
  | _=>none
def aoT (ops:Array Oper) (g:Option (Nat × Bool)):Option Gd:=
  match g with
  | none=>some .always
  | some (j,want)=>match (ops[j]?).bind (·.dst) with
    | some t=>if t<nt then some (.on (keyC t) want) else none
    | none=>none
def WV (d:Option Tmp):Option (Option Ai.P):=
  match d with
  | none=>some none
  | some t=>if t<nt then some (some (keyC t)) else none
def xl (ops:Array Oper) (q:Bool) (o:Oper):Option Ins:=
  (aoT nt ops o.guard).bind fun g=>(WV nt o.dst).bind fun d=>
  match o.op with
  | .call { callee:=.value f,args,.. }=>(opd nt f).bind fun f=>(afH nt args.toList).bind fun as=>some (.call g d q f as)
  | op=>(aoN P nt op).bind fun a=>some (.op g d a)
inductive Cl where
  | pure | alloc | load | eff
  deriving DecidableEq
def agw:AOp→Cl
  | .mov _ | .pick .. | .not _ | .bin .. | .eq .. | .conv .. | .build .. | .nilchk _ | .fa .. | .iaS .. | .iaA .. | .idxA .. | .idxS .. | .sl .. | .ext .. | .mkfunc .. | .minmax .. => .pure
  | .len .mp _=>.load
  | .len _ _=>.pure
  | .alloc _ | .box _ | .buildSlice .. | .mkmap | .mk .. => .alloc
  | .load .. | .lookup .. => .load
  | .store .. | .mapset .. | .mapdel .. | .append .. | .copy .. | .clear .. => .eff
def mw:Ins→Cl
  | .op _ _ o=>agw o
  | .call _ _ q _ _=>if q then .alloc else .eff
def Jr:Ins→Bool
  | .op _ _ o=>match agw o with | .alloc=>true | _=>false
  | .call .. => false
def U7:Cl→Cl→Bool
  | .pure,_ | _,.pure=>false
  | .eff,_ | _,.eff=>true
  | _,_=>false
def Ea (ops:List Oper):List (List Nat):=
  ops.foldl (fun acc o=>acc++[o.after.toList.flatMap fun e=>if Region.binds .any e then e.on::acc.getD e.on [] else []]) []
def alB (ops:Array Oper) (l:List Ins):Bool:=
  let b:=Ea ops.toList
  (List.range ops.size).all fun j=>(List.range j).all fun i=>
    (b.getD j []).contains i||match l[i]?,l[j]? with
      | some p,some q=>!SY p q&&!U7 (mw p) (mw q)
      | _,_=>false
def besides (ops:Array Oper) (i:Nat) (l:List Ins):Bool:=
  let b:=Ea ops.toList
  (List.range ops.size).any fun j=>j != i&&!((b.getD j []).contains i||(b.getD i []).contains j)&&(match l[j]? with | some p=>mw p != .pure | none=>true)
def Bu (ops:Array Oper) (q:Nat→Bool):Nat→List Oper→Option (List Ins)
  | _,[]=>some []
  | i,o::l=>(xl P nt ops (q i) o).bind fun x=>(Bu ops q (i+1) l).map (x::·)
def adI (us:List UI) (i j:Nat):Bool:=
  match us[i]?,us[j]? with
  | some p,some q=>(match mw p.x,mw q.x with
    | .load,.eff=>q.again.contains i
    | .eff,.load=>q.back.contains i
    | _,_=>false)
  | _,_=>false
def aoX (p q:Ins):Bool:=!U7 (mw p) (mw q)||(Jr p&&(match mw q with | .eff=>true | _=>false))
def inN (r:Nat):List Nat→Bool
  | []=>false
  | x::l=>Nat.beq x r||inN r l
def distN:List Nat→Bool
  | []=>true
  | x::l=>!inN x l&&distN l
def amd (n:Nat) (π:List Nat):Bool:=Nat.beq π.length n&&((List.range n).all (fun r=>inN r π)&&(distN π&&π.all fun r=>Nat.blt r n))
def agC (l₀:List Ins):List Nat→Option (List Ins)
  | []=>some []
  | r::rs=>(l₀[r]?).bind fun x=>(agC l₀ rs).map (x::·)
def Co (m i:Nat):Bool:=Nat.beq (Nat.mod (Nat.div m (Nat.pow 2 i)) 2) 1
def bitM (i:Nat):Nat:=Nat.pow 2 i
def TN:List Nat→Nat→Nat
  | [],_=>0
  | x::_,0=>x
  | _::l,n+1=>TN l n
def aot (acc:List Nat):List Edge→Nat→Nat
  | [],m=>m
  | e::l,m=>if Region.binds .any e then aot acc l (Nat.lor m (Nat.lor (bitM e.on) (TN acc e.on))) else aot acc l m
def amF:List Oper→List Nat→List Nat
  | [],acc=>acc
  | o::l,acc=>amF l (acc++[aot acc o.after.toList 0])
def ad4 (ops:List Oper):List Nat:=amF ops []
def numP:Ai.P→Nat
  | .h=>1
  | .o p=>Nat.mul 2 (numP p)
  | .i p=>Nat.succ (Nat.mul 2 (numP p))
def Ku:List Ai.P→Nat→Nat
  | [],m=>m
  | p::l,m=>Ku l (Nat.lor m (bitM (numP p)))
def DS:Option Ai.P→Nat
  | none=>0
  | some p=>bitM (numP p)
def subM (b d:Nat):Bool:=Nat.beq (Nat.land b d) b
def anG (b:List Nat) (eff:Nat→Bool):Nat→List Nat→Nat→List Nat→List Nat
  | 0,_,_,d=>d.reverse
  | f+1,todo,m,d=>
    match (todo.find? fun r=>!eff r&&subM (TN b r) m) with
    | some r=>anG b eff f (todo.filter fun x=>!Nat.beq x r) (Nat.lor m (bitM r)) (r::d)
    | none=>match (todo.find? fun r=>subM (TN b r) m) with
      | some r=>anG b eff f (todo.filter fun x=>!Nat.beq x r) (Nat.lor m (bitM r)) (r::d)
      | none=>d.reverse
def effB (l:List Ins) (r:Nat):Bool:=match l[r]? with | some x=>(match mw x with | .eff=>true | _=>false) | none=>true
def Zw (l:List Ins):List UI:=l.map fun x=>⟨x,false,false,[],[]⟩
structure MI where
  r:Nat
  b:Nat
  d:Nat
  rd:Nat
def miOf (b:List Nat) (r:Nat) (x:Ins):MI:=⟨r,TN b r,DS x.dst,Ku x.reads 0⟩
def Z5 (p q:MI):Bool:=Nat.beq (Nat.lor (Nat.land p.d (Nat.lor q.rd q.d)) (Nat.land q.d p.rd)) 0
def alE (cl:Nat→Nat→Ins→Ins→Bool) (x:Ins) (m:MI) (j:Nat):List (Ins × MI)→Nat→Bool
  | [],_=>true
  | (y,n)::l,i=>(Co m.b n.r||(Z5 n m&&cl i j y x))&&alE cl x m j l (i+1)
def allF (cl:Nat→Nat→Ins→Ins→Bool) (all:List (Ins × MI)):List (Ins × MI)→Nat→Bool
  | [],_=>true
  | (x,m)::l,j=>alE cl x m j (all.take j) 0&&allF cl all l (j+1)
def WA (b:List Nat):List Nat→List Ins→List (Ins × MI)
  | r::π,x::l=>(x,miOf b r x)::WA b π l
  | _,_=>[]
def ZR (ops:Array Oper) (l:List Ins):Bool:=
  let a:=WA (ad4 ops.toList) (List.range ops.size) l
  Nat.beq l.length ops.size&&allF (fun _ _ p q=>!U7 (mw p) (mw q)) a a 0
def W8 (b:List Nat) (π:List Nat) (us:List UI):Bool:=
  let a:=WA b π (us.map UI.x)
  Nat.beq us.length π.length&&allF (fun i j p q=>aoX p q||adI us i j) a a 0
def looseM (p q:MI):Bool:=!(Co q.b p.r||Co p.b q.r)
def ald (t:Cl) (m:MI) (lo hi:Nat):List (Ins × MI)→Nat→List Nat
  | [],_=>[]
  | (y,n)::l,j=>if Nat.ble lo j&&Nat.blt j hi&&(match mw y,t with | .load,.load=>true | .eff,.eff=>true | _,_=>false)&&looseM n m then j::ald t m lo hi l (j+1) else ald t m lo hi l (j+1)
def mkUF (n:Nat) (all:List (Ins × MI)):List (Ins × MI)→Nat→List UI
  | [],_=>[]
  | (x,m)::l,i=>(match mw x with
    | .load=>⟨x,false,!(ald .eff m i n all 0).isEmpty,ald .eff m 0 i all 0,[]⟩
    | .eff=>⟨x,!(ald .load m i n all 0).isEmpty,false,[],ald .load m 0 i all 0⟩
    | _=>⟨x,false,false,[],[]⟩)::mkUF n all l (i+1)
def mkU (b:List Nat) (π:List Nat) (l:List Ins):List UI:=mkUF l.length (WA b π l) (WA b π l) 0
def compU (ops:Array Oper) (l₀:List Ins):Option AC:=
  let b:=ad4 ops.toList
  let π:=anG b (effB l₀) ops.size (List.range ops.size) 0 []
  if amd ops.size π then
    (agC l₀ π).bind fun l=>
    if W8 b π (Zw l) then some (.reg l) else
    let us:=mkU b π l
    if W8 b π us then some (.regU us) else none
  else none
def aml (m:Bool) (ops:Array Oper) (draw:Bool):Option AC:=
  if draw then
    if ops.toList.zipIdx.all (fun (o,i)=>o.after.toList.all fun e=>!Region.binds .any e||e.on<i) then
      (Bu P nt ops (fun _=>false) 0 ops.toList).bind fun l₀=>
      if ZR ops l₀ then some (.reg l₀) else
      match if m then none else compU ops l₀ with
      | some c=>some c
      | none=>(Bu P nt ops (fun i=>besides ops i l₀) 0 ops.toList).bind fun l=>
        if alB ops l then some (.reg l) else none
    else none
  else (Bu P nt ops (fun _=>false) 0 ops.toList).map .reg
def Zk (m:Bool):Code→Option AC
  | .skip=>some .skip
  | .region _ ops draw=>aml P nt m ops draw
  | .seq a b=>(Zk m a).bind fun a=>(Zk m b).bind fun b=>some (.seq a b)
  | .cond c a b=>(opd nt c).bind fun c=>(Zk m a).bind fun a=>(Zk m b).bind fun b=>some (.cond c a b)
  | .block id a=>(Zk m a).map (.block id)
  | .loop a=>(Zk m a).map .loop
  | .scope a=>Zk m a
  | .label _=>some .skip
  | .exit id=>some (.exit id)
  | .ret=>some .ret
  | _=>none
def amL:ResultVar→Option Rv
  | .tmp t=>if t<nt then some (.t (keyC t)) else none
  | .cell a t=>(Wl P t).bind fun s=>if a<nt then some (.cell (keyC a) s.1 s.2) else none
def abP:List ResultVar→Option (List Rv)
  | []=>some []
  | r::l=>(amL P nt r).bind fun a=>(abP l).map (a::·)
end
def abA (P:Program) (f:Func) (m:Bool:=false):Option AFn:=
  f.body.bind fun c=>(Zk P f.ntmps m c).bind fun body=>(abP P f.ntmps f.results.toList).bind fun rs=>
    if f.params.size+f.nfree≤f.ntmps then some (.code ((List.range (f.params.size+f.nfree)).map keyC) body rs) else none
end Go.Ai
/- The groundwork for 'an operation of the interpreter is the model's': temporaries, operands, constants, and what stands in the tables. -/
namespace Go.Ai
theorem aqk:∀ (f n:Nat),posC f n=pos f n
  | 0,_=>rfl
  | f+1,n=>by rw [anm,posC,aqk f]
theorem Li (n:Nat):keyC n=key n:=aqk _ _
section
variable {α β:Type}
theorem iW {x:Option α} {k:α→Option β} {r:β} (h:Option.casesOn (motive:=fun _=>Option β) x none k=some r):∃ a,x=some a∧k a=some r:=by
  cases x with
  | none=>cases h
  | some a=>exact ⟨a,rfl,h⟩
theorem uy {b:Bool} {k:Option β} {r:β} (h:Bool.casesOn (motive:=fun _=>Option β) b none k=some r):b=true∧k=some r:=by
  cases b with
  | false=>cases h
  | true=>exact ⟨rfl,h⟩
theorem ZE {b:Bool} {k:Option β} {r:β} (h:Bool.casesOn (motive:=fun _=>Option β) b k none=some r):b=false∧k=some r:=by
  cases b with
  | true=>cases h
  | false=>exact ⟨rfl,h⟩
end
structure bX (M:Mp) (D:Nat→Prop) (nt:Nat) (tm:Tr AV) (a:Act):Prop where
  size:nt≤a.tmps.size
  at_:∀ t v,t<nt→tm.get (key t)=some v→a.tmps.getD t undef=im M v∧okv D v
theorem bX.mono {M M':Mp} {D D':Nat→Prop} {nt:Nat} {tm:Tr AV} {a:Act} (h:bX M D nt tm a) (hd:∀ b,D b→D' b) (ha:∀ b,D b→M' b=M b):bX M' D' nt tm a:=
  ⟨h.size,fun t v ht hv=>by
    obtain ⟨e,o⟩:=h.at_ t v ht hv
    exact ⟨by rw [o0 ha _ o]; exact e,lh hd _ o⟩⟩
theorem bX.put {M:Mp} {D:Nat→Prop} {nt:Nat} {tm:Tr AV} {a:Act} (h:bX M D nt tm a) {d:Nat} (hd:d<nt) {v:AV} (hv:okv D v) :
    bX M D nt (tm.set (key d) v) (a.put (some d) (im M v)):=by
  refine ⟨by simp [Act.put]; exact h.size,fun t u ht hu=>?_⟩
  by_cases e:d=t
  · subst e
    rw [Tr.ft] at hu; cases hu
    refine ⟨?_,hv⟩
    have:=fW hd h.size
    simp [Act.put,this]
  · rw [Tr.fq (fun k=>e (CC k))] at hu
    obtain ⟨x,y⟩:=h.at_ t u ht hu
    refine ⟨?_,y⟩
    simp only [Act.put]
    rw [← x]
    simp [Array.getElem?_setIfInBounds_ne e]
theorem adP {M:Mp} {D:Nat→Prop} {v:Value} {a:AV} (h:alI v=some a):im M a=v∧okv D a∧a.fD=true:=by
  unfold alI at h
  split at h<;>first | (cases h; done) | (cases h; refine ⟨?_,?_,rfl⟩<;>simp [im,okv]) | skip
theorem Zv {M:Mp} {D:Nat→Prop}:∀ {l:List Value} {r:List AV},agI l=some r→pQ M r=l∧okL D r∧∀ v∈r,v.fD=true
  | [],r,h=>by cases h; simp [pQ,okL]
  | v::l,r,h=>by
    simp only [agI,fT,fF] at h
    obtain ⟨a,ha,t,ht,rfl⟩:=h
    obtain ⟨h1,h2,h3⟩:=adP (M:=M) (D:=D) ha
    obtain ⟨k1,k2,k3⟩:=Zv (M:=M) (D:=D) ht
    refine ⟨by simp [pQ,h1,k1],by simp [okL,h2,k2],fun u hu=>?_⟩
    rcases gk.1 hu with rfl | hu
    · exact h3
    · exact k3 _ hu
theorem aly {M:Mp} {D:Nat→Prop} {v:Value} {a:AV} (h:toAV v=some a):im M a=v∧okv D a:=by
  unfold toAV at h
  split at h
  · rename_i cs
    simp only [fF] at h
    obtain ⟨l,hl,rfl⟩:=h
    obtain ⟨h1,h2,h3⟩:=Zv (M:=M) (D:=D) hl
    exact ⟨by simp [im,h1],by simp only [okv]; exact ⟨h2,h3⟩⟩
  · obtain ⟨h1,h2,_⟩:=adP (M:=M) (D:=D) h
    exact ⟨h1,h2⟩
theorem aoW {M:Mp} {D:Nat→Prop} {v:Value} {a:AV} (h:toAV v=some a):v.cells=(a.cells.map (im M)).toArray∧∀ u∈a.cells,okv D u∧u.fD=true:=by
  unfold toAV at h
  split at h
  · rename_i cs
    simp only [fF] at h
    obtain ⟨l,hl,rfl⟩:=h
    obtain ⟨h1,h2,h3⟩:=Zv (M:=M) (D:=D) hl
    rw [mY] at h1
    refine ⟨by simp [Value.cells,AV.cells,h1],fun u hu=>⟨(nL D l).1 h2 u hu,h3 u hu⟩⟩
  · rename_i hna
    obtain ⟨h1,h2,h3⟩:=adP (M:=M) (D:=D) h
    have ha:a.cells = [a]:=by cases a<;>simp_all [AV.cells,AV.fD]
    rw [ha]
    refine ⟨?_,fun u hu=>?_⟩
    · rw [← h1]; cases a<;>simp_all [im,Value.cells,AV.fD]
    · simp at hu; subst hu; exact ⟨h2,h3⟩
section
variable {P:Program} {nt:Nat} {M:Mp} {D:Nat→Prop} {tm:Tr AV} {a:Act}
theorem mK {x:Operand} {X:Opd} {v:AV} (hx:opd nt x=some X) (ht:bX M D nt tm a) (hv:ev tm X=some v):a.eval x=im M v∧okv D v:=by
  cases x with
  | tmp t=>
    simp only [opd] at hx
    split at hx
    · rename_i hlt
      cases hx
      have hv':tm.get (key t)=some v:=by rw [← Li]; exact hv
      exact ht.at_ t v hlt hv'
    · cases hx
  | const c=>
    simp only [opd,fF] at hx
    obtain ⟨b,hb,rfl⟩:=hx
    have:b=v:=by have h:some b=some v:=hv; simpa using h
    subst this
    obtain ⟨h1,h2⟩:=aly (M:=M) (D:=D) hb
    exact ⟨h1.symm,h2⟩
  | func f=>
    simp only [opd,Option.some.injEq] at hx
    subst hx
    have:AV.func f [] []=v:=by have h:some (AV.func f [] [])=some v:=hv; simpa using h
    subst this
    exact ⟨by simp [Act.eval,im,pQ],by simp [okv,okL]⟩
  | global g=>cases hx
theorem evs_cons {X:Opd} {L:List Opd} {r:List AV} (h:evs tm (X::L)=some r):∃ v vs,ev tm X=some v∧evs tm L=some vs∧r=v::vs:=by
  have h':Option.casesOn (motive:=fun _=>Option (List AV)) (ev tm X) none (fun v=>Option.casesOn (motive:=fun _=>Option (List AV)) (evs tm L) none fun vs=>some (v::vs))=some r:=h
  obtain ⟨v,hv,h'⟩:=iW h'
  obtain ⟨vs,hvs,h'⟩:=iW h'
  exact ⟨v,vs,hv,hvs,by simpa using h'.symm⟩
theorem agQ:∀ {l:List Operand} {L:List Opd} {vs:List AV},afH nt l=some L→bX M D nt tm a→evs tm L=some vs→l.map a.eval=pQ M vs∧okL D vs
  | [],L,vs,hl,_,hv=>by
    cases hl
    have:([]:List AV)=vs:=by have h:some []=some vs:=hv; simpa using h
    subst this; simp [pQ,okL]
  | x::l,L,vs,hl,ht,hv=>by
    simp only [afH,fT,fF] at hl
    obtain ⟨X,hX,L',hL',rfl⟩:=hl
    obtain ⟨v,vs',h1,h2,rfl⟩:=evs_cons hv
    obtain ⟨a1,a2⟩:=mK hX ht h1
    obtain ⟨b1,b2⟩:=agQ hL' ht h2
    exact ⟨by simp [pQ,a1,b1],by simp [okL,a2,b2]⟩
end
section
variable {P:Program} {w:World} {t:TypeId}
theorem UW {i:TypeInfo} (h:P.info? t=some i):(typeInfo t).run P w = .ok i w:=by simp [typeInfo,h]
theorem nY {n:Nat} (h:szT P t=some n):(sizeOf t).run P w = .ok n w:=by
  unfold szT at h
  obtain ⟨i,hi,rfl⟩:=fF.1 h
  simp [sizeOf,typeInfo,hi]
theorem zQ {a:AV} {M:Mp} (h:zn P t=some a):(zeroValue t).run P w = .ok (im M a) w:=by
  unfold zn at h
  simp only [fT] at h
  obtain ⟨v,⟨i,hi,hz⟩,ha⟩:=h
  obtain ⟨h1,_⟩:=aly (M:=M) (D:=fun _=>False) ha
  simp [zeroValue,typeInfo,hi,hz,h1]
theorem agJ {g:Bool} (h:HS P t=some g):(isAgg t).run P w = .ok g w:=by
  unfold HS at h
  cases hu:P.underlying t with
  | none=>rw [hu] at h; cases h
  | some d=>
    rw [hu] at h
    simp only [isAgg,Sem.run_bind,run_underlying hu,Result.andThen_ok]
    cases d<;>simp_all
theorem xJ {a:AV} {M:Mp} {D:Nat→Prop} (h:zn P t=some a):(∀ u∈a.cells,okv D u∧u.fD=true)∧okv D a∧(im M a).cells=(a.cells.map (im M)).toArray:=by
  unfold zn at h
  simp only [fT] at h
  obtain ⟨v,⟨i,hi,hz⟩,ha⟩:=h
  obtain ⟨h1,h2⟩:=aly (M:=M) (D:=D) ha
  obtain ⟨h3,h4⟩:=aoW (M:=M) (D:=D) ha
  exact ⟨h4,h2,by rw [h1]; exact h3⟩
end
def Yield (r:Next) (v:Value):Prop:=r = .value v∨(r = .skip∧v=undef)
def bm (P:Program) (w:World) (M:Mp) (D:Nat→Prop) (H:Heap) (s:Sem Next) (v:AV) (H':Heap):Prop:=
  ∃ M' D' w' r,s.run P w = .ok r w'∧Yield r (im M' v)∧Rel M' D' H' w'∧Ext M D H w M' D' H' w'∧okv D' v
theorem bm.same {P:Program} {w:World} {M:Mp} {D:Nat→Prop} {H:Heap} {s:Sem Next} {v:AV} (hr:Rel M D H w) (h:s.run P w = .ok (.value (im M v)) w) (hv:okv D v):bm P w M D H s v H:=
  ⟨M,D,w,_,h,.inl rfl,hr,.refl,hv⟩
theorem rh (M:Mp):im M AV.undef=undef:=by simp [AV.undef,im,pQ,undef]
theorem ub (D:Nat→Prop):okv D AV.undef:=by simp [AV.undef,okv,okL]
theorem CS {H:Heap} {b:Nat} {l:List AV} (h:sm H b=some l):∃ rw g,H.get b=some (.cells l rw g):=by
  have h':Option.casesOn (motive:=fun _=>Option (List AV)) (H.get b) none (fun x=>Blk.casesOn (motive:=fun _=>Option (List AV)) x (fun l _ _=>some l) (fun _=>none) none)=some l:=h
  obtain ⟨x,hx,h'⟩:=iW h'
  cases x with
  | cells l' rw g=>have:l'=l:=by simpa using h'
                   subst this; exact ⟨rw,g,hx⟩
  | mp _=>cases h'
  | dead=>cases h'
theorem Jo {H:Heap} {b:Nat} {l:List (AV × AV)} (h:Jg H b=some l):H.get b=some (.mp l):=by
  have h':Option.casesOn (motive:=fun _=>Option (List (AV × AV))) (H.get b) none (fun x=>Blk.casesOn (motive:=fun _=>Option (List (AV × AV))) x (fun _ _ _=>none) (fun es=>some es) none)=some l:=h
  obtain ⟨x,hx,h'⟩:=iW h'
  cases x with
  | cells _ _ _=>cases h'
  | mp es=>have:es=l:=by simpa using h'
           subst this; exact hx
  | dead=>cases h'
theorem Ny {β:Type} {H:Heap} {b:Nat} {k:List AV→Nat→Option β} {r:β} (h:afi H b none k=some r):∃ l g,H.get b=some (.cells l true g)∧H.ro≤b∧k l g=some r:=by
  have h':Bool.casesOn (motive:=fun _=>Option β) (Nat.blt b H.ro)
    (Option.casesOn (motive:=fun _=>Option β) (H.get b) none fun x=>Blk.casesOn (motive:=fun _=>Option β) x (fun l rw g=>Bool.casesOn (motive:=fun _=>Option β) rw none (k l g)) (fun _=>none) none) none=some r:=h
  obtain ⟨hb,h'⟩:=ZE h'
  obtain ⟨x,hx,h'⟩:=iW h'
  cases x with
  | cells l rw g=>
    obtain ⟨hrw,h'⟩:=uy h'
    subst hrw
    refine ⟨l,g,hx,?_,h'⟩
    rw [blt_eq] at hb; simpa using hb
  | mp _=>cases h'
  | dead=>cases h'
end Go.Ai
