/- The model's code turned into the interpreter's: a function of the program's tables; 'none' where a construct is not taken. -/
import Derived.Test.YtnlbfbiogfilfaaGreatAiDefs
import Derived.Test.YtnlbfbiogfilfaaGreatAiRelNum
set_option linter.all false
namespace Go.Ai
def posC:Nat→Nat→P
  | 0,_=>.h
  | f+1,n=>if n≤1 then .h else if n%2=0 then .o (posC f (n/2)) else .i (posC f (n/2))
def keyC (n:Nat):P:=posC (n+1) (n+1)
def aB6:Value→Option AV
  | .bool b=>some (.bool b)
  | .int k n=>some (.int k n)
  | .string s=>some (.str s.data.toList)
  | .pointer none=>some .nilptr
  | .slice none 0 0=>some .nilslice
  | .map none=>some .nilmap
  | .nilFunc=>some .nilfunc
  | .nilIface=>some .niliface
  | _=>none
def axE:List Value→Option (List AV)
  | []=>some []
  | v::l=>(aB6 v).bind fun a=>(axE l).map (a::·)
def toAV:Value→Option AV
  | .agg cs=>(axE cs.toList).map .agg
  | v=>aB6 v
def P.eqb:Ai.P→Ai.P→Bool
  | .h,.h=>true
  | .o p,.o q=>P.eqb p q
  | .i p,.i q=>P.eqb p q
  | _,_=>false
def P.mem (p:Ai.P):List Ai.P→Bool
  | []=>false
  | q::l=>P.eqb p q||P.mem p l
def Opd.ps:Opd→List Ai.P
  | .t p=>[p]
  | .c _=>[]
def Opd.psL:List Opd→List Ai.P
  | []=>[]
  | x::l=>x.ps++psL l
def Opd.psO:Option Opd→List Ai.P
  | none=>[]
  | some x=>x.ps
def Opd.psP:List (Nat × Nat × Opd)→List Ai.P
  | []=>[]
  | x::l=>x.2.2.ps++psP l
def AOp.ps:AOp→List Ai.P
  | .mov x=>x.ps
  | .pick c a b=>c.ps++(a.ps++b.ps)
  | .not x=>x.ps
  | .bin _ x y=>x.ps++y.ps
  | .eq _ _ x y=>x.ps++y.ps
  | .conv _ x=>x.ps
  | .alloc _=>[]
  | .box x=>x.ps
  | .build _ l=>Opd.psP l
  | .buildSlice _ _ l=>Opd.psP l
  | .load _ _ x=>x.ps
  | .store _ a x=>a.ps++x.ps
  | .nilchk x=>x.ps
  | .fa _ x=>x.ps
  | .iaS _ x i=>x.ps++i.ps
  | .iaA _ _ x i=>x.ps++i.ps
  | .idxA _ _ _ x i=>x.ps++i.ps
  | .idxS x i=>x.ps++i.ps
  | .sl _ x lo hi mx=>x.ps++(Opd.psO lo++(Opd.psO hi++Opd.psO mx))
  | .ext _ x=>x.ps
  | .mkfunc _ a c=>Opd.psL a++Opd.psL c
  | .mkmap=>[]
  | .mk _ l c=>l.ps++c.ps
  | .lookup _ _ _ m k=>m.ps++k.ps
  | .mapset _ m k x=>m.ps++(k.ps++x.ps)
  | .mapdel _ m k=>m.ps++k.ps
  | .len _ x=>x.ps
  | .minmax _ xs=>Opd.psL xs
  | .append _ s x=>s.ps++x.ps
  | .copy _ d x=>d.ps++x.ps
  | .clear _ x=>x.ps
def Gd.ps:Gd→List Ai.P
  | .always=>[]
  | .on p _=>[p]
def Ins.reads:Ins→List Ai.P
  | .op g _ o=>g.ps++o.ps
  | .call g _ _ f args=>g.ps++(f.ps++Opd.psL args)
def ane (x y:Ins):Bool:=
  (match x.dst with | some d=>P.mem d y.reads||(match y.dst with | some e=>P.eqb d e | none=>false) | none=>false)||
  (match y.dst with | some d=>P.mem d x.reads | none=>false)
section
variable (P:Program) (nt:Nat)
def opd:Operand→Option Opd
  | .tmp t=>if t<nt then some (.t (keyC t)) else none
  | .const v=>(toAV v).map .c
  | .func f=>some (.c (.func f [] []))
  | .global _=>none
def awW:List Operand→Option (List Opd)
  | []=>some []
  | x::l=>(opd nt x).bind fun a=>(awW l).map (a::·)
def atU:Option Operand→Option (Option Opd)
  | none=>some none
  | some x=>(opd nt x).map some
def szT (t:TypeId):Option Nat:=(P.info? t).map (·.size)
def TY (t:TypeId):Option AV:=((P.info? t).bind (·.zero)).bind toAV
def aeR (t:TypeId):Option Bool:=
  match P.underlying t with
  | some (.struct _) | some (.array _ _)=>some true
  | some _=>some false
  | none=>none
def aqk (t:TypeId):Option (Nat × Bool):=
  (szT P t).bind fun n=>(aeR P t).bind fun g=>if g||n==1 then some (n,g) else none
def atE (r:TypeId→Option (List CK)):List Field→Nat→Option (List CK)
  | [],_=>some []
  | f::fs,off=>if f.name != "_" && f.offset==off then (r f.type).bind fun ks=>if szT P f.type==some ks.length then (atE r fs (off+ks.length)).map (ks++·) else none else none
def Wf:Nat→TypeId→Option (List CK)
  | 0,_=>none
  | d+1,t=>
    match P.underlying t with
    | some (.int _)=>if szT P t==some 1 then some [.int] else none
    | some .string=>if szT P t==some 1 then some [.str] else none
    | some .bool=>if szT P t==some 1 then some [.bool] else none
    | some (.struct fs)=>if P.stoodInHeld t then none else (atE P (Wf d) fs.toList 0).bind fun ks=>if szT P t==some ks.length then some ks else none
    | some (.array n e)=>(Wf d e).bind fun ks=>if szT P e==some ks.length&&szT P t==some (n*ks.length) then some (List.replicate n ks).flatten else none
    | _=>none
def keyT (t:TypeId):Option fB:=
  match P.underlying t with
  | some (.int _)=>some (.cell .int)
  | some .string=>some (.cell .str)
  | some .bool=>some (.cell .bool)
  | some (.array n e)=>match P.underlying e with
    | some (.int _)=>(Wf P 8 t).bind fun ks=>if ks.length==n&&szT P e==some 1 then some (.agg ks) else none
    | _=>none
  | _=>none
def aur (fs:List Field):Option (List (Nat × Nat)):=
  match fs with
  | []=>some []
  | f::fs=>(szT P f.type).bind fun s=>(aur fs).map ((f.offset,s)::·)
def azO (ps:List (Nat × Nat)):List (Nat × Operand)→Option (List (Nat × Nat × Opd))
  | []=>some []
  | (i,x)::l=>ps[i]?.bind fun p=>(opd nt x).bind fun a=>(azO ps l).map ((p.1,p.2,a)::·)
def asT (s:Nat):List (Nat × Operand)→Option (List (Nat × Nat × Opd))
  | []=>some []
  | (i,x)::l=>(opd nt x).bind fun a=>(asT s l).map ((i*s,s,a)::·)
def aD8 (z:List AV):Nat→List AV
  | 0=>[]
  | n+1=>z++aD8 z n
def aCB (op:BinOp) (t:TypeId) (a b:Opd):Option AOp:=
  match P.underlying t with
  | some (.int _) | some .string=>some (.bin op a b)
  | some .bool=>match op with | .eql=>some (.eq .bool false a b) | .neq=>some (.eq .bool true a b) | _=>none
  | some (.pointer _)=>match op with | .eql=>some (.eq (.nil .ptr) false a b) | .neq=>some (.eq (.nil .ptr) true a b) | _=>none
  | some (.slice _)=>match op with | .eql=>some (.eq (.nil .sl) false a b) | .neq=>some (.eq (.nil .sl) true a b) | _=>none
  | some (.map _ _)=>match op with | .eql=>some (.eq (.nil .mp) false a b) | .neq=>some (.eq (.nil .mp) true a b) | _=>none
  | some (.func _ _ _)=>match op with | .eql=>some (.eq (.nil .fn) false a b) | .neq=>some (.eq (.nil .fn) true a b) | _=>none
  | some (.struct _) | some (.array _ _)=>
    if P.eqGuardType P.depth t then none else (Wf P 8 t).bind fun ks=>
      match op with | .eql=>some (.eq (.plain ks) false a b) | .neq=>some (.eq (.plain ks) true a b) | _=>none
  | _=>none
def aab (t:TypeId):Option TypeId:=match P.underlying t with | some (.slice e)=>some e | _=>none
def srcT (t:TypeId) (s:Nat):Bool:=
  match P.underlying t with
  | some (.slice _)=>true
  | some .string=>s==1
  | _=>false
def apU (b:Builtin) (ats:List TypeId) (args:List Operand):Option AOp:=
  match b,ats,args with
  | .len,[t],[x]=>(opd nt x).bind fun a=>match P.underlying t with
    | some .string=>some (.len .str a)
    | some (.array n _)=>some (.len (.arr n) a)
    | some (.slice _)=>some (.len .sl a)
    | some (.map _ _)=>some (.len .mp a)
    | _=>none
  | .append,[t,u],[x,y]=>(aab P t).bind fun e=>(P.info? e).bind fun i=>(TY P e).bind fun z=>(opd nt x).bind fun a=>(opd nt y).bind fun b=>
    if 0<i.size&&i.bytes≤65536&&z.cells.length==i.size&&srcT P u i.size then some (.append i.size a b) else none
  | .copy,[t,u],[x,y]=>(aab P t).bind fun e=>(szT P e).bind fun s=>(opd nt x).bind fun a=>(opd nt y).bind fun b=>if 0<s&&srcT P u s then some (.copy s a b) else none
  | .clear,[t],[x]=>(aab P t).bind fun e=>(TY P e).bind fun z=>(opd nt x).bind fun a=>if 0<z.cells.length then some (.clear z.cells a) else none
  | .delete,[t,_],[x,y]=>(opd nt x).bind fun a=>(opd nt y).bind fun b=>match P.underlying t with
    | some (.map k _)=>(keyT P k).bind fun kk=>some (.mapdel kk a b)
    | _=>none
  | .max,_,xs=>(awW nt xs).bind fun as=>some (.minmax true as)
  | .min,_,xs=>(awW nt xs).bind fun as=>some (.minmax false as)
  | _,_,_=>none
def aEu (op:Op):Option AOp:=
  match op with
  | .move x | .assign x=>(opd nt x).map .mov
  | .pick c x y=>(opd nt c).bind fun c=>(opd nt x).bind fun a=>(opd nt y).bind fun b=>some (.pick c a b)
  | .alloc t=>(TY P t).bind fun z=>some (.alloc z.cells)
  | .box _ x=>(opd nt x).bind fun a=>some (.box a)
  | .build t parts=>(TY P t).bind fun z=>match P.underlying t,z with
    | some (.struct fs),.agg z=>(aur P fs.toList).bind fun ps=>(azO nt ps parts.toList).bind fun l=>some (.build z l)
    | some (.array _ e),.agg z=>(szT P e).bind fun s=>(asT nt s parts.toList).bind fun l=>some (.build z l)
    | _,_=>none
  | .buildSlice t len parts=>(aab P t).bind fun e=>(szT P e).bind fun s=>(TY P e).bind fun z=>
    if z.cells.length==s&&len*s≤16777216 then (asT nt s parts.toList).bind fun l=>some (.buildSlice len (aD8 z.cells len) l) else none
  | .load t x=>(aqk P t).bind fun s=>(opd nt x).bind fun a=>some (.load s.1 s.2 a)
  | .store t x y=>(szT P t).bind fun n=>(opd nt x).bind fun a=>(opd nt y).bind fun b=>some (.store n a b)
  | .nilCheck x=>(opd nt x).bind fun a=>some (.nilchk a)
  | .binOp op t x y _=>(opd nt x).bind fun a=>(opd nt y).bind fun b=>aCB P op t a b
  | .unOp .not _ x=>(opd nt x).bind fun a=>some (.not a)
  | .convert s d x=>match P.underlying s,P.underlying d with
    | some _,some (.int k)=>(opd nt x).bind fun a=>some (.conv k a)
    | _,_=>none
  | .makeFunc (.func f) first cap=>(awW nt first.toList).bind fun a=>(awW nt cap.toList).bind fun c=>some (.mkfunc f a c)
  | .makeMap t r=>match P.underlying t,r with
    | some (.map _ _),none=>some .mkmap
    | some (.map _ _),some (.const (.int _ _))=>some .mkmap
    | _,_=>none
  | .makeSlice t l c=>(aab P t).bind fun e=>(P.info? e).bind fun i=>(TY P e).bind fun z=>(opd nt l).bind fun a=>(opd nt c).bind fun b=>
    if z.cells.length==i.size&&0<i.size&&i.bytes≤65536 then some (.mk z.cells a b) else none
  | .slice t x lo hi mx=>(opd nt x).bind fun a=>(atU nt lo).bind fun l=>(atU nt hi).bind fun h=>(atU nt mx).bind fun m=>match P.underlying t with
    | some (.array n e)=>(szT P e).bind fun s=>some (.sl (.arr n s) a l h m)
    | some (.slice e)=>(szT P e).bind fun s=>some (.sl (.sl s) a l h m)
    | some .string=>some (.sl .str a l h m)
    | _=>none
  | .fieldAddr t x i=>(opd nt x).bind fun a=>match P.underlying t with
    | some (.struct fs)=>fs[i]?.bind fun f=>(szT P f.type).bind fun s=>if 0<s then some (.fa f.offset a) else none
    | _=>none
  | .indexAddr t x i=>(opd nt x).bind fun a=>(opd nt i).bind fun b=>match P.underlying t with
    | some (.array n e)=>(szT P e).bind fun s=>some (.iaA s n a b)
    | some (.slice e)=>(szT P e).bind fun s=>some (.iaS s a b)
    | _=>none
  | .index t x i=>(opd nt x).bind fun a=>(opd nt i).bind fun b=>match P.underlying t with
    | some (.array n e)=>(aqk P e).bind fun s=>some (.idxA s.1 n s.2 a b)
    | some .string=>some (.idxS a b)
    | _=>none
  | .extract x i=>(opd nt x).bind fun a=>some (.ext i a)
  | .lookup t x k ok=>(opd nt x).bind fun a=>(opd nt k).bind fun b=>match P.underlying t with
    | some (.map kt e)=>(keyT P kt).bind fun kk=>(TY P e).bind fun z=>some (.lookup kk z ok a b)
    | _=>none
  | .mapUpdate t m k x=>(opd nt m).bind fun a=>(opd nt k).bind fun b=>(opd nt x).bind fun c=>match P.underlying t with
    | some (.map kt _)=>(keyT P kt).bind fun kk=>some (.mapset kk a b c)
    | _=>none
  | .call { callee:=.builtin b,args,argTypes }=>apU P nt b argTypes.toList args.toList
  | _=>none
def aEZ (ops:Array Oper) (g:Option (Nat × Bool)):Option Gd:=
  match g with
  | none=>some .always
  | some (j,want)=>match (ops[j]?).bind (·.dst) with
    | some t=>if t<nt then some (.on (keyC t) want) else none
    | none=>none
def aqy (d:Option Tmp):Option (Option Ai.P):=
  match d with
  | none=>some none
  | some t=>if t<nt then some (some (keyC t)) else none
def Qx (ops:Array Oper) (q:Bool) (o:Oper):Option Ins:=
  (aEZ nt ops o.guard).bind fun g=>(aqy nt o.dst).bind fun d=>
  match o.op with
  | .call { callee:=.value f,args,.. }=>(opd nt f).bind fun f=>(awW nt args.toList).bind fun as=>some (.call g d q f as)
  | op=>(aEu P nt op).bind fun a=>some (.op g d a)
inductive Cl where
  | pure | alloc | load | eff
  deriving DecidableEq
def axt:AOp→Cl
  | .mov _ | .pick .. | .not _ | .bin .. | .eq .. | .conv .. | .build .. | .nilchk _ | .fa .. | .iaS .. | .iaA .. | .idxA .. | .idxS .. | .sl .. | .ext .. | .mkfunc .. | .minmax .. => .pure
  | .len .mp _=>.load
  | .len _ _=>.pure
  | .alloc _ | .box _ | .buildSlice .. | .mkmap | .mk .. => .alloc
  | .load .. | .lookup .. => .load
  | .store .. | .mapset .. | .mapdel .. | .append .. | .copy .. | .clear .. => .eff
def vB:Ins→Cl
  | .op _ _ o=>axt o
  | .call _ _ q _ _=>if q then .alloc else .eff
def afP:Ins→Bool
  | .op _ _ o=>match axt o with | .alloc=>true | _=>false
  | .call .. => false
def apL:Cl→Cl→Bool
  | .pure,_ | _,.pure=>false
  | .eff,_ | _,.eff=>true
  | _,_=>false
def Zq (ops:List Oper):List (List Nat):=
  ops.foldl (fun acc o=>acc++[o.after.toList.flatMap fun e=>if Region.binds .any e then e.on::acc.getD e.on [] else []]) []
def aCk (ops:Array Oper) (l:List Ins):Bool:=
  let b:=Zq ops.toList
  (List.range ops.size).all fun j=>(List.range j).all fun i=>
    (b.getD j []).contains i||match l[i]?,l[j]? with
      | some p,some q=>!ane p q&&!apL (vB p) (vB q)
      | _,_=>false
def besides (ops:Array Oper) (i:Nat) (l:List Ins):Bool:=
  let b:=Zq ops.toList
  (List.range ops.size).any fun j=>j != i&&!((b.getD j []).contains i||(b.getD i []).contains j)&&(match l[j]? with | some p=>vB p != .pure | none=>true)
def Vf (ops:Array Oper) (q:Nat→Bool):Nat→List Oper→Option (List Ins)
  | _,[]=>some []
  | i,o::l=>(Qx P nt ops (q i) o).bind fun x=>(Vf ops q (i+1) l).map (x::·)
def avl (us:List UI) (i j:Nat):Bool:=
  match us[i]?,us[j]? with
  | some p,some q=>(match vB p.x,vB q.x with
    | .load,.eff=>q.again.contains i
    | .eff,.load=>q.back.contains i
    | _,_=>false)
  | _,_=>false
def aE6 (p q:Ins):Bool:=!apL (vB p) (vB q)||(afP p&&(match vB q with | .eff=>true | _=>false))
def inN (r:Nat):List Nat→Bool
  | []=>false
  | x::l=>Nat.beq x r||inN r l
def distN:List Nat→Bool
  | []=>true
  | x::l=>!inN x l&&distN l
def aBX (n:Nat) (π:List Nat):Bool:=Nat.beq π.length n&&((List.range n).all (fun r=>inN r π)&&(distN π&&π.all fun r=>Nat.blt r n))
def axJ (l₀:List Ins):List Nat→Option (List Ins)
  | []=>some []
  | r::rs=>(l₀[r]?).bind fun x=>(axJ l₀ rs).map (x::·)
def XF (m i:Nat):Bool:=Nat.beq (Nat.mod (Nat.div m (Nat.pow 2 i)) 2) 1
def bitM (i:Nat):Nat:=Nat.pow 2 i
def aqc:List Nat→Nat→Nat
  | [],_=>0
  | x::_,0=>x
  | _::l,n+1=>aqc l n
def aDQ (acc:List Nat):List Edge→Nat→Nat
  | [],m=>m
  | e::l,m=>if Region.binds .any e then aDQ acc l (Nat.lor m (Nat.lor (bitM e.on) (aqc acc e.on))) else aDQ acc l m
def aBK:List Oper→List Nat→List Nat
  | [],acc=>acc
  | o::l,acc=>aBK l (acc++[aDQ acc o.after.toList 0])
def awn (ops:List Oper):List Nat:=aBK ops []
def numP:Ai.P→Nat
  | .h=>1
  | .o p=>Nat.mul 2 (numP p)
  | .i p=>Nat.succ (Nat.mul 2 (numP p))
def ahO:List Ai.P→Nat→Nat
  | [],m=>m
  | p::l,m=>ahO l (Nat.lor m (bitM (numP p)))
def YM:Option Ai.P→Nat
  | none=>0
  | some p=>bitM (numP p)
def subM (b d:Nat):Bool:=Nat.beq (Nat.land b d) b
def aCK (b:List Nat) (eff:Nat→Bool):Nat→List Nat→Nat→List Nat→List Nat
  | 0,_,_,d=>d.reverse
  | f+1,todo,m,d=>
    match (todo.find? fun r=>!eff r&&subM (aqc b r) m) with
    | some r=>aCK b eff f (todo.filter fun x=>!Nat.beq x r) (Nat.lor m (bitM r)) (r::d)
    | none=>match (todo.find? fun r=>subM (aqc b r) m) with
      | some r=>aCK b eff f (todo.filter fun x=>!Nat.beq x r) (Nat.lor m (bitM r)) (r::d)
      | none=>d.reverse
def effB (l:List Ins) (r:Nat):Bool:=match l[r]? with | some x=>(match vB x with | .eff=>true | _=>false) | none=>true
def asV (l:List Ins):List UI:=l.map fun x=>⟨x,false,false,[],[]⟩
structure MI where
  r:Nat
  b:Nat
  d:Nat
  rd:Nat
def miOf (b:List Nat) (r:Nat) (x:Ins):MI:=⟨r,aqc b r,YM x.dst,ahO x.reads 0⟩
def aub (p q:MI):Bool:=Nat.beq (Nat.lor (Nat.land p.d (Nat.lor q.rd q.d)) (Nat.land q.d p.rd)) 0
def aBY (cl:Nat→Nat→Ins→Ins→Bool) (x:Ins) (m:MI) (j:Nat):List (Ins × MI)→Nat→Bool
  | [],_=>true
  | (y,n)::l,i=>(XF m.b n.r||(aub n m&&cl i j y x))&&aBY cl x m j l (i+1)
def allF (cl:Nat→Nat→Ins→Ins→Bool) (all:List (Ins × MI)):List (Ins × MI)→Nat→Bool
  | [],_=>true
  | (x,m)::l,j=>aBY cl x m j (all.take j) 0&&allF cl all l (j+1)
def apc (b:List Nat):List Nat→List Ins→List (Ins × MI)
  | r::π,x::l=>(x,miOf b r x)::apc b π l
  | _,_=>[]
def atq (ops:Array Oper) (l:List Ins):Bool:=
  let a:=apc (awn ops.toList) (List.range ops.size) l
  Nat.beq l.length ops.size&&allF (fun _ _ p q=>!apL (vB p) (vB q)) a a 0
def aqE (b:List Nat) (π:List Nat) (us:List UI):Bool:=
  let a:=apc b π (us.map UI.x)
  Nat.beq us.length π.length&&allF (fun i j p q=>aE6 p q||avl us i j) a a 0
def looseM (p q:MI):Bool:=!(XF q.b p.r||XF p.b q.r)
def aBd (t:Cl) (m:MI) (lo hi:Nat):List (Ins × MI)→Nat→List Nat
  | [],_=>[]
  | (y,n)::l,j=>if Nat.ble lo j&&Nat.blt j hi&&(match vB y,t with | .load,.load=>true | .eff,.eff=>true | _,_=>false)&&looseM n m then j::aBd t m lo hi l (j+1) else aBd t m lo hi l (j+1)
def mkUF (n:Nat) (all:List (Ins × MI)):List (Ins × MI)→Nat→List UI
  | [],_=>[]
  | (x,m)::l,i=>(match vB x with
    | .load=>⟨x,false,!(aBd .eff m i n all 0).isEmpty,aBd .eff m 0 i all 0,[]⟩
    | .eff=>⟨x,!(aBd .load m i n all 0).isEmpty,false,[],aBd .load m 0 i all 0⟩
    | _=>⟨x,false,false,[],[]⟩)::mkUF n all l (i+1)
def mkU (b:List Nat) (π:List Nat) (l:List Ins):List UI:=mkUF l.length (apc b π l) (apc b π l) 0
def compU (ops:Array Oper) (l₀:List Ins):Option AC:=
  let b:=awn ops.toList
  let π:=aCK b (effB l₀) ops.size (List.range ops.size) 0 []
  if aBX ops.size π then
    (axJ l₀ π).bind fun l=>
    if aqE b π (asV l) then some (.reg l) else
    let us:=mkU b π l
    if aqE b π us then some (.regU us) else none
  else none
def aBC (m:Bool) (ops:Array Oper) (draw:Bool):Option AC:=
  if draw then
    if ops.toList.zipIdx.all (fun (o,i)=>o.after.toList.all fun e=>!Region.binds .any e||e.on<i) then
      (Vf P nt ops (fun _=>false) 0 ops.toList).bind fun l₀=>
      if atq ops l₀ then some (.reg l₀) else
      match if m then none else compU ops l₀ with
      | some c=>some c
      | none=>(Vf P nt ops (fun i=>besides ops i l₀) 0 ops.toList).bind fun l=>
        if aCk ops l then some (.reg l) else none
    else none
  else (Vf P nt ops (fun _=>false) 0 ops.toList).map .reg
def as0 (m:Bool):Code→Option AC
  | .skip=>some .skip
  | .region _ ops draw=>aBC P nt m ops draw
  | .seq a b=>(as0 m a).bind fun a=>(as0 m b).bind fun b=>some (.seq a b)
  | .cond c a b=>(opd nt c).bind fun c=>(as0 m a).bind fun a=>(as0 m b).bind fun b=>some (.cond c a b)
  | .block id a=>(as0 m a).map (.block id)
  | .loop a=>(as0 m a).map .loop
  | .scope a=>as0 m a
  | .label _=>some .skip
  | .exit id=>some (.exit id)
  | .ret=>some .ret
  | _=>none
def aBp:ResultVar→Option Rv
  | .tmp t=>if t<nt then some (.t (keyC t)) else none
  | .cell a t=>(aqk P t).bind fun s=>if a<nt then some (.cell (keyC a) s.1 s.2) else none
def auQ:List ResultVar→Option (List Rv)
  | []=>some []
  | r::l=>(aBp P nt r).bind fun a=>(auQ l).map (a::·)
end
def auk (P:Program) (f:Func) (m:Bool:=false):Option AFn:=
  f.body.bind fun c=>(as0 P f.ntmps m c).bind fun body=>(auQ P f.ntmps f.results.toList).bind fun rs=>
    if f.params.size+f.nfree≤f.ntmps then some (.code ((List.range (f.params.size+f.nfree)).map keyC) body rs) else none
end Go.Ai
/- The groundwork for 'an operation of the interpreter is the model's': temporaries, operands, constants, and what stands in the tables. -/
namespace Go.Ai
theorem aFU:∀ (f n:Nat),posC f n=pos f n
  | 0,_=>rfl
  | f+1,n=>by rw [aDN,posC,aFU f]
theorem ahT (n:Nat):keyC n=key n:=aFU _ _
section
variable {α β:Type}
theorem lg {x:Option α} {k:α→Option β} {r:β} (h:Option.casesOn (motive:=fun _=>Option β) x none k=some r):∃ a,x=some a∧k a=some r:=by
  cases x with
  | none=>cases h
  | some a=>exact ⟨a,rfl,h⟩
theorem y7 {b:Bool} {k:Option β} {r:β} (h:Bool.casesOn (motive:=fun _=>Option β) b none k=some r):b=true∧k=some r:=by
  cases b with
  | false=>cases h
  | true=>exact ⟨rfl,h⟩
theorem alF {b:Bool} {k:Option β} {r:β} (h:Bool.casesOn (motive:=fun _=>Option β) b k none=some r):b=false∧k=some r:=by
  cases b with
  | true=>cases h
  | false=>exact ⟨rfl,h⟩
end
structure cV (M:Mp) (D:Nat→Prop) (nt:Nat) (tm:Tr AV) (a:Act):Prop where
  size:nt≤a.tmps.size
  at_:∀ t v,t<nt→tm.get (key t)=some v→a.tmps.getD t undef=ki M v∧okv D v
theorem cV.mono {M M':Mp} {D D':Nat→Prop} {nt:Nat} {tm:Tr AV} {a:Act} (h:cV M D nt tm a) (hd:∀ b,D b→D' b) (ha:∀ b,D b→M' b=M b):cV M' D' nt tm a:=
  ⟨h.size,fun t v ht hv=>by
    obtain ⟨e,o⟩:=h.at_ t v ht hv
    exact ⟨by rw [zQ ha _ o]; exact e,qP hd _ o⟩⟩
theorem cV.put {M:Mp} {D:Nat→Prop} {nt:Nat} {tm:Tr AV} {a:Act} (h:cV M D nt tm a) {d:Nat} (hd:d<nt) {v:AV} (hv:okv D v) :
    cV M D nt (tm.set (key d) v) (a.put (some d) (ki M v)):=by
  refine ⟨by simp [Act.put]; exact h.size,fun t u ht hu=>?_⟩
  by_cases e:d=t
  · subst e
    rw [Tr.gS] at hu; cases hu
    refine ⟨?_,hv⟩
    have:=iy hd h.size
    simp [Act.put,this]
  · rw [Tr.gR (fun k=>e (Mn k))] at hu
    obtain ⟨x,y⟩:=h.at_ t u ht hu
    refine ⟨?_,y⟩
    simp only [Act.put]
    rw [← x]
    simp [Array.getElem?_setIfInBounds_ne e]
theorem avS {M:Mp} {D:Nat→Prop} {v:Value} {a:AV} (h:aB6 v=some a):ki M a=v∧okv D a∧a.gY=true:=by
  unfold aB6 at h
  split at h<;>first | (cases h; done) | (cases h; refine ⟨?_,?_,rfl⟩<;>simp [ki,okv]) | skip
theorem asF {M:Mp} {D:Nat→Prop}:∀ {l:List Value} {r:List AV},axE l=some r→GV M r=l∧okL D r∧∀ v∈r,v.gY=true
  | [],r,h=>by cases h; simp [GV,okL]
  | v::l,r,h=>by
    simp only [axE,iu,g0] at h
    obtain ⟨a,ha,t,ht,rfl⟩:=h
    obtain ⟨h1,h2,h3⟩:=avS (M:=M) (D:=D) ha
    obtain ⟨k1,k2,k3⟩:=asF (M:=M) (D:=D) ht
    refine ⟨by simp [GV,h1,k1],by simp [okL,h2,k2],fun u hu=>?_⟩
    rcases iP.1 hu with rfl | hu
    · exact h3
    · exact k3 _ hu
theorem aB1 {M:Mp} {D:Nat→Prop} {v:Value} {a:AV} (h:toAV v=some a):ki M a=v∧okv D a:=by
  unfold toAV at h
  split at h
  · rename_i cs
    simp only [g0] at h
    obtain ⟨l,hl,rfl⟩:=h
    obtain ⟨h1,h2,h3⟩:=asF (M:=M) (D:=D) hl
    exact ⟨by simp [ki,h1],by simp only [okv]; exact ⟨h2,h3⟩⟩
  · obtain ⟨h1,h2,_⟩:=avS (M:=M) (D:=D) h
    exact ⟨h1,h2⟩
theorem aEq {M:Mp} {D:Nat→Prop} {v:Value} {a:AV} (h:toAV v=some a):v.cells=(a.cells.map (ki M)).toArray∧∀ u∈a.cells,okv D u∧u.gY=true:=by
  unfold toAV at h
  split at h
  · rename_i cs
    simp only [g0] at h
    obtain ⟨l,hl,rfl⟩:=h
    obtain ⟨h1,h2,h3⟩:=asF (M:=M) (D:=D) hl
    rw [wo] at h1
    refine ⟨by simp [Value.cells,AV.cells,h1],fun u hu=>⟨(A1 D l).1 h2 u hu,h3 u hu⟩⟩
  · rename_i hna
    obtain ⟨h1,h2,h3⟩:=avS (M:=M) (D:=D) h
    have ha:a.cells = [a]:=by cases a<;>simp_all [AV.cells,AV.gY]
    rw [ha]
    refine ⟨?_,fun u hu=>?_⟩
    · rw [← h1]; cases a<;>simp_all [ki,Value.cells,AV.gY]
    · simp at hu; subst hu; exact ⟨h2,h3⟩
section
variable {P:Program} {nt:Nat} {M:Mp} {D:Nat→Prop} {tm:Tr AV} {a:Act}
theorem vW {x:Operand} {X:Opd} {v:AV} (hx:opd nt x=some X) (ht:cV M D nt tm a) (hv:ev tm X=some v):a.eval x=ki M v∧okv D v:=by
  cases x with
  | tmp t=>
    simp only [opd] at hx
    split at hx
    · rename_i hlt
      cases hx
      have hv':tm.get (key t)=some v:=by rw [← ahT]; exact hv
      exact ht.at_ t v hlt hv'
    · cases hx
  | const c=>
    simp only [opd,g0] at hx
    obtain ⟨b,hb,rfl⟩:=hx
    have:b=v:=by have h:some b=some v:=hv; simpa using h
    subst this
    obtain ⟨h1,h2⟩:=aB1 (M:=M) (D:=D) hb
    exact ⟨h1.symm,h2⟩
  | func f=>
    simp only [opd,Option.some.injEq] at hx
    subst hx
    have:AV.func f [] []=v:=by have h:some (AV.func f [] [])=some v:=hv; simpa using h
    subst this
    exact ⟨by simp [Act.eval,ki,GV],by simp [okv,okL]⟩
  | global g=>cases hx
theorem evs_cons {X:Opd} {L:List Opd} {r:List AV} (h:evs tm (X::L)=some r):∃ v vs,ev tm X=some v∧evs tm L=some vs∧r=v::vs:=by
  have h':Option.casesOn (motive:=fun _=>Option (List AV)) (ev tm X) none (fun v=>Option.casesOn (motive:=fun _=>Option (List AV)) (evs tm L) none fun vs=>some (v::vs))=some r:=h
  obtain ⟨v,hv,h'⟩:=lg h'
  obtain ⟨vs,hvs,h'⟩:=lg h'
  exact ⟨v,vs,hv,hvs,by simpa using h'.symm⟩
theorem azr:∀ {l:List Operand} {L:List Opd} {vs:List AV},awW nt l=some L→cV M D nt tm a→evs tm L=some vs→l.map a.eval=GV M vs∧okL D vs
  | [],L,vs,hl,_,hv=>by
    cases hl
    have:([]:List AV)=vs:=by have h:some []=some vs:=hv; simpa using h
    subst this; simp [GV,okL]
  | x::l,L,vs,hl,ht,hv=>by
    simp only [awW,iu,g0] at hl
    obtain ⟨X,hX,L',hL',rfl⟩:=hl
    obtain ⟨v,vs',h1,h2,rfl⟩:=evs_cons hv
    obtain ⟨a1,a2⟩:=vW hX ht h1
    obtain ⟨b1,b2⟩:=azr hL' ht h2
    exact ⟨by simp [GV,a1,b1],by simp [okL,a2,b2]⟩
end
section
variable {P:Program} {w:World} {t:TypeId}
theorem apE {i:TypeInfo} (h:P.info? t=some i):(typeInfo t).run P w = .ok i w:=by simp [typeInfo,h]
theorem zl {n:Nat} (h:szT P t=some n):(sizeOf t).run P w = .ok n w:=by
  unfold szT at h
  obtain ⟨i,hi,rfl⟩:=g0.1 h
  simp [sizeOf,typeInfo,hi]
theorem XN {a:AV} {M:Mp} (h:TY P t=some a):(zeroValue t).run P w = .ok (ki M a) w:=by
  unfold TY at h
  simp only [iu] at h
  obtain ⟨v,⟨i,hi,hz⟩,ha⟩:=h
  obtain ⟨h1,_⟩:=aB1 (M:=M) (D:=fun _=>False) ha
  simp [zeroValue,typeInfo,hi,hz,h1]
theorem axI {g:Bool} (h:aeR P t=some g):(isAgg t).run P w = .ok g w:=by
  unfold aeR at h
  cases hu:P.underlying t with
  | none=>rw [hu] at h; cases h
  | some d=>
    rw [hu] at h
    simp only [isAgg,Sem.run_bind,run_underlying hu,Result.andThen_ok]
    cases d<;>simp_all
theorem Pl {a:AV} {M:Mp} {D:Nat→Prop} (h:TY P t=some a):(∀ u∈a.cells,okv D u∧u.gY=true)∧okv D a∧(ki M a).cells=(a.cells.map (ki M)).toArray:=by
  unfold TY at h
  simp only [iu] at h
  obtain ⟨v,⟨i,hi,hz⟩,ha⟩:=h
  obtain ⟨h1,h2⟩:=aB1 (M:=M) (D:=D) ha
  obtain ⟨h3,h4⟩:=aEq (M:=M) (D:=D) ha
  exact ⟨h4,h2,by rw [h1]; exact h3⟩
end
def Yield (r:Next) (v:Value):Prop:=r = .value v∨(r = .skip∧v=undef)
def bH (P:Program) (w:World) (M:Mp) (D:Nat→Prop) (H:ad) (s:Sem Next) (v:AV) (H':ad):Prop:=
  ∃ M' D' w' r,s.run P w = .ok r w'∧Yield r (ki M' v)∧Rel M' D' H' w'∧Ext M D H w M' D' H' w'∧okv D' v
theorem bH.same {P:Program} {w:World} {M:Mp} {D:Nat→Prop} {H:ad} {s:Sem Next} {v:AV} (hr:Rel M D H w) (h:s.run P w = .ok (.value (ki M v)) w) (hv:okv D v):bH P w M D H s v H:=
  ⟨M,D,w,_,h,.inl rfl,hr,.refl,hv⟩
theorem E7 (M:Mp):ki M AV.undef=undef:=by simp [AV.undef,ki,GV,undef]
theorem Jp (D:Nat→Prop):okv D AV.undef:=by simp [AV.undef,okv,okL]
theorem Xv {H:ad} {b:Nat} {l:List AV} (h:yV H b=some l):∃ rw g,H.get b=some (.cells l rw g):=by
  have h':Option.casesOn (motive:=fun _=>Option (List AV)) (H.get b) none (fun x=>Blk.casesOn (motive:=fun _=>Option (List AV)) x (fun l _ _=>some l) (fun _=>none) none)=some l:=h
  obtain ⟨x,hx,h'⟩:=lg h'
  cases x with
  | cells l' rw g=>have:l'=l:=by simpa using h'
                   subst this; exact ⟨rw,g,hx⟩
  | mp _=>cases h'
  | dead=>cases h'
theorem afr {H:ad} {b:Nat} {l:List (AV × AV)} (h:JA H b=some l):H.get b=some (.mp l):=by
  have h':Option.casesOn (motive:=fun _=>Option (List (AV × AV))) (H.get b) none (fun x=>Blk.casesOn (motive:=fun _=>Option (List (AV × AV))) x (fun _ _ _=>none) (fun es=>some es) none)=some l:=h
  obtain ⟨x,hx,h'⟩:=lg h'
  cases x with
  | cells _ _ _=>cases h'
  | mp es=>have:es=l:=by simpa using h'
           subst this; exact hx
  | dead=>cases h'
theorem akD {β:Type} {H:ad} {b:Nat} {k:List AV→Nat→Option β} {r:β} (h:avP H b none k=some r):∃ l g,H.get b=some (.cells l true g)∧H.ro≤b∧k l g=some r:=by
  have h':Bool.casesOn (motive:=fun _=>Option β) (Nat.blt b H.ro)
    (Option.casesOn (motive:=fun _=>Option β) (H.get b) none fun x=>Blk.casesOn (motive:=fun _=>Option β) x (fun l rw g=>Bool.casesOn (motive:=fun _=>Option β) rw none (k l g)) (fun _=>none) none) none=some r:=h
  obtain ⟨hb,h'⟩:=alF h'
  obtain ⟨x,hx,h'⟩:=lg h'
  cases x with
  | cells l rw g=>
    obtain ⟨hrw,h'⟩:=y7 h'
    subst hrw
    refine ⟨l,g,hx,?_,h'⟩
    rw [blt_eq] at hb; simpa using hb
  | mp _=>cases h'
  | dead=>cases h'
end Go.Ai
