/- How the interpreter's heap stands for a world of the model: values, blocks, temporaries; what a step may turn. -/
import Derived.Test.YtpoobhhdgjgdgaaGreatAiDefs
import Derived.Laws.IdiomCopy
import Derived.Maps.Own
import Derived.RowKit3
import Derived.Laws.Entries
import Derived.WalkLawsBesides
set_option linter.all false
namespace Go.Ai
structure Loc where
  blk:Nat
  base:Nat
  slack:Nat
  odd:Option Nat
def Loc.at (L:Loc) (k:Nat):Addr:=if k=0 then ⟨L.blk,L.base,L.odd⟩ else ⟨L.blk,L.base+k,none⟩
theorem Loc.at_plain {L:Loc} (h:L.odd=none) (k:Nat):L.at k=⟨L.blk,L.base+k,none⟩:=by
  unfold Loc.at
  split
  · rename_i e; rw [h,e]; rfl
  · rfl
@[simp] theorem Loc.at_mk (b o s k:Nat):Loc.at ⟨b,o,s,none⟩ k=⟨b,o+k,none⟩:=Loc.at_plain rfl k
theorem Loc.at_add (L:Loc) (k j:Nat):(L.at k).add j=L.at (k+j):=by
  unfold Loc.at Addr.add
  by_cases hj:j=0
  · simp [hj]
  · by_cases hk:k=0
    · simp [hk,hj]
    · simp [hk,hj]; omega
@[simp] theorem Loc.at_block (L:Loc) (k:Nat):(L.at k).block=L.blk:=by unfold Loc.at; split<;>rfl
abbrev Mp:=Nat→Loc
mutual
def im (M:Mp):AV→Value
  | .bool b=>.bool b
  | .int k n=>.int k n
  | .str s=>.string ⟨s.toArray⟩
  | .ptr b off=>.pointer (some ((M b).at off))
  | .nilptr=>.pointer none
  | .slice b off len ext opn=>.slice (some ((M b).at off)) len (len+ext+if opn then (M b).slack else 0)
  | .send b o₀ o₁=>.slice (some ((M b).at (if (M b).slack=0 then o₀ else o₁))) 0 (M b).slack
  | .nilslice=>.slice none 0 0
  | .map b=>.map (some (M b).blk)
  | .nilmap=>.map none
  | .func f x c=>.func (.func f) (pQ M x).toArray (pQ M c).toArray
  | .nilfunc=>.nilFunc
  | .iface t v=>.iface t (im M v)
  | .niliface=>.nilIface
  | .agg l=>.agg (pQ M l).toArray
  | .tuple l=>.tuple (pQ M l).toArray
def pQ (M:Mp):List AV→List Value
  | []=>[]
  | v::l=>im M v::pQ M l
end
theorem mY (M:Mp) (l:List AV):pQ M l=l.map (im M):=by
  induction l with
  | nil=>simp [pQ]
  | cons v l ih=>simp [pQ,ih]
mutual
def okv (D:Nat→Prop):AV→Prop
  | .ptr b _=>D b
  | .slice b _ _ _ _=>D b
  | .send b _ _=>D b
  | .map b=>D b
  | .func _ x c=>okL D x∧okL D c
  | .iface _ v=>okv D v
  | .agg l=>okL D l∧∀ v∈l,v.fD=true
  | .tuple l=>okL D l
  | _=>True
def okL (D:Nat→Prop):List AV→Prop
  | []=>True
  | v::l=>okv D v∧okL D l
end
theorem nL (D:Nat→Prop) (l:List AV):okL D l↔∀ v∈l,okv D v:=by
  induction l with
  | nil=>simp [okL]
  | cons v l ih=>simp [okL,ih]
mutual
theorem o0 {M M':Mp} {D:Nat→Prop} (h:∀ b,D b→M' b=M b):∀ v,okv D v→im M' v=im M v
  | .bool _,_ | .int _ _,_ | .str _,_ | .nilptr,_ | .nilslice,_ | .nilmap,_ | .nilfunc,_ | .niliface,_=>by simp [im]
  | .ptr b _,hv=>by simp only [okv] at hv; simp [im,h b hv]
  | .slice b _ _ _ _,hv=>by simp only [okv] at hv; simp [im,h b hv]
  | .send b _ _,hv=>by simp only [okv] at hv; simp [im,h b hv]
  | .map b,hv=>by simp only [okv] at hv; simp [im,h b hv]
  | .func _ x c,hv=>by simp only [okv] at hv; simp [im,Gq h x hv.1,Gq h c hv.2]
  | .iface _ v,hv=>by simp only [okv] at hv; simp [im,o0 h v hv]
  | .agg l,hv=>by simp only [okv] at hv; simp [im,Gq h l hv.1]
  | .tuple l,hv=>by simp only [okv] at hv; simp [im,Gq h l hv]
theorem Gq {M M':Mp} {D:Nat→Prop} (h:∀ b,D b→M' b=M b):∀ l,okL D l→pQ M' l=pQ M l
  | [],_=>by simp [pQ]
  | v::l,hl=>by simp only [okL] at hl; simp [pQ,o0 h v hl.1,Gq h l hl.2]
end
mutual
theorem lh {D D':Nat→Prop} (h:∀ b,D b→D' b):∀ v,okv D v→okv D' v
  | .bool _,_ | .int _ _,_ | .str _,_ | .nilptr,_ | .nilslice,_ | .nilmap,_ | .nilfunc,_ | .niliface,_=>by simp [okv]
  | .ptr b _,hv=>by simp only [okv] at hv ⊢; exact h b hv
  | .slice b _ _ _ _,hv=>by simp only [okv] at hv ⊢; exact h b hv
  | .send b _ _,hv=>by simp only [okv] at hv ⊢; exact h b hv
  | .map b,hv=>by simp only [okv] at hv ⊢; exact h b hv
  | .func _ x c,hv=>by simp only [okv] at hv ⊢; exact ⟨Wx h x hv.1,Wx h c hv.2⟩
  | .iface _ v,hv=>by simp only [okv] at hv ⊢; exact lh h v hv
  | .agg l,hv=>by simp only [okv] at hv ⊢; exact ⟨Wx h l hv.1,hv.2⟩
  | .tuple l,hv=>by simp only [okv] at hv ⊢; exact Wx h l hv
theorem Wx {D D':Nat→Prop} (h:∀ b,D b→D' b):∀ l,okL D l→okL D' l
  | [],_=>by simp [okL]
  | v::l,hl=>by simp only [okL] at hl ⊢; exact ⟨lh h v hl.1,Wx h l hl.2⟩
end
theorem abp {M:Mp} {v:AV} (h:v.fD=true):(im M v).oneCell'=true:=by
  cases v<;>simp_all [AV.fD,im,Value.oneCell']
theorem anm (f n:Nat):pos (f+1) n=if n≤1 then .h else if n%2=0 then .o (pos f (n/2)) else .i (pos f (n/2)):=by
  have e:pos (f+1) n=(match Nat.ble n 1 with | true=>P.h | false=>match Nat.beq (n%2) 0 with | true=>P.o (pos f (n/2)) | false=>P.i (pos f (n/2))):=by
    show Bool.casesOn (motive:=fun _=>P) (Nat.ble n 1) (Bool.casesOn (motive:=fun _=>P) (Nat.beq (Nat.mod n 2) 0) (.i (pos f (Nat.div n 2))) (.o (pos f (Nat.div n 2)))) P.h=_
    cases Nat.ble n 1 with
    | true=>rfl
    | false=>
      show Bool.casesOn (motive:=fun _=>P) (Nat.beq (n%2) 0) (.i (pos f (n/2))) (.o (pos f (n/2)))=_
      cases Nat.beq (n%2) 0<;>rfl
  rw [e]
  cases h:Nat.ble n 1 with
  | true=>rw [if_pos (fR h)]
  | false=>
    rw [if_neg (fun hh=>by rw [fG hh] at h; cases h)]
    cases h2:Nat.beq (n%2) 0 with
    | true=>rw [if_pos (gb h2)]
    | false=>rw [if_neg (Nat.ne_of_beq_eq_false h2)]
def P.num:P→Nat
  | .h=>1
  | .o p=>2*p.num
  | .i p=>2*p.num+1
theorem apW:∀ (f n:Nat),1≤n→n≤f→(pos f n).num=n:=by
  intro f
  induction f with
  | zero=>intro n h1 h2; omega
  | succ f ih=>
    intro n h1 h2
    rw [anm]
    by_cases h:n≤1
    · rw [if_pos h]; simp [P.num]; omega
    · rw [if_neg h]
      have hq:=ih (n/2) (by omega) (by omega)
      by_cases he:n%2=0
      · rw [if_pos he]; simp only [P.num,hq]; omega
      · rw [if_neg he]; simp only [P.num,hq]; omega
theorem CC {a b:Nat} (h:key a=key b):a=b:=by
  have ha:=apW (a+1) (a+1) (by omega) (by omega)
  have hb:=apW (b+1) (b+1) (by omega) (by omega)
  have:(pos (a+1) (a+1)).num=(pos (b+1) (b+1)).num:=congrArg P.num h
  omega
section
variable {α β:Type}
def Tr.put (x:α):P→Tr α→Tr α
  | .h,.leaf=>.node .leaf (some x) .leaf
  | .h,.node l _ r=>.node l (some x) r
  | .o p,.leaf=>.node (Tr.put x p .leaf) none .leaf
  | .o p,.node l v r=>.node (Tr.put x p l) v r
  | .i p,.leaf=>.node .leaf none (Tr.put x p .leaf)
  | .i p,.node l v r=>.node l v (Tr.put x p r)
theorem Tr.setK_put {γ:Type} (p:P) (x:α):∀ (t:Tr α) (k:Tr α→γ),t.setK p x k=k (Tr.put x p t):=by
  induction p with
  | h=>intro t k; cases t<;>rfl
  | o p ih=>intro t k; cases t<;>(rw [Tr.put]; exact ih _ _)
  | i p ih=>intro t k; cases t<;>(rw [Tr.put]; exact ih _ _)
theorem Tr.set_put (p:P) (x:α) (t:Tr α):t.set p x=Tr.put x p t:=Tr.setK_put p x t id
theorem Tr.fu (p:P) (x:α) (t:Tr α) (k:Tr α→β):t.setK p x k=k (t.set p x):=by rw [Tr.setK_put,Tr.set_put]
theorem Tr.set_h (x:α) (t:Tr α):t.set .h x=match t with | .leaf=>.node .leaf (some x) .leaf | .node l _ r=>.node l (some x) r:=by cases t<;>rfl
theorem Tr.set_o (p:P) (x:α) (t:Tr α):t.set (.o p) x=match t with | .leaf=>.node (Tr.leaf.set p x) none .leaf | .node l v r=>.node (l.set p x) v r:=by
  cases t<;>simp only [Tr.set_put,Tr.put]
theorem Tr.set_i (p:P) (x:α) (t:Tr α):t.set (.i p) x=match t with | .leaf=>.node .leaf none (Tr.leaf.set p x) | .node l v r=>.node l v (r.set p x):=by
  cases t<;>simp only [Tr.set_put,Tr.put]
theorem Tr.fC (p:P):(Tr.leaf:Tr α).get p=none:=by cases p<;>rfl
theorem Tr.ft (p:P) (x:α):∀ t:Tr α,(t.set p x).get p=some x:=by
  induction p with
  | h=>intro t; rw [Tr.set_h]; cases t<;>rfl
  | o p ih=>intro t; rw [Tr.set_o]; cases t<;>exact ih _
  | i p ih=>intro t; rw [Tr.set_i]; cases t<;>exact ih _
theorem Tr.fq {p q:P} (h:p≠q) (x:α):∀ t:Tr α,(t.set p x).get q=t.get q:=by
  induction p generalizing q with
  | h=>intro t; rw [Tr.set_h]; cases q<;>first | exact (h rfl).elim | (cases t<;>first | rfl | exact Tr.fC _)
  | o p ih=>
    intro t; rw [Tr.set_o]
    cases q with
    | o q=>
      cases t with
      | leaf=>show (Tr.set p x Tr.leaf).get q=none; rw [ih (fun e=>h (by rw [e]))]; exact Tr.fC _
      | node l v r=>exact ih (fun e=>h (by rw [e])) l
    | h=>cases t<;>rfl
    | i q=>cases t<;>first | rfl | exact Tr.fC _
  | i p ih=>
    intro t; rw [Tr.set_i]
    cases q with
    | i q=>
      cases t with
      | leaf=>show (Tr.set p x Tr.leaf).get q=none; rw [ih (fun e=>h (by rw [e]))]; exact Tr.fC _
      | node l v r=>exact ih (fun e=>h (by rw [e])) r
    | h=>cases t<;>rfl
    | o q=>cases t<;>first | rfl | exact Tr.fC _
end
section
variable {α β:Type}
theorem nth_eq (l:List α):∀ i,nth l i=l[i]?:=by
  induction l with
  | nil=>intro i; rfl
  | cons a l ih=>intro i; cases i with
    | zero=>rfl
    | succ i=>exact ih i
theorem fu (l:List α):∀ (i:Nat) (x:α) (k:List α→β),setK l i x k=k (l.set i x):=by
  induction l with
  | nil=>intro i x k; rfl
  | cons a l ih=>intro i x k; cases i with
    | zero=>rfl
    | succ i=>exact ih i x _
theorem skp_eq (l:List α):∀ i,skp l i=l.drop i:=by
  induction l with
  | nil=>intro i; simp [skp]
  | cons a l ih=>intro i; cases i with
    | zero=>rfl
    | succ i=>exact ih i
theorem tkK_eq (l:List α):∀ (n:Nat) (e:β) (k:List α→β),tkK l n e k=if n≤l.length then k (l.take n) else e:=by
  induction l with
  | nil=>intro n e k; cases n with
    | zero=>show k []=_; simp
    | succ n=>show e=_; simp
  | cons a l ih=>intro n e k; cases n with
    | zero=>show k []=_; simp
    | succ n=>
      show tkK l n e (fun t'=>k (a::t'))=_
      rw [ih]; simp
theorem nP (l:List α) (off n:Nat):sub l off n=if n≤(l.drop off).length then some ((l.drop off).take n) else none:=by
  unfold sub; rw [skp_eq,tkK_eq]
theorem rm (l:List α):sZ l=l.length:=by
  induction l with
  | nil=>rfl
  | cons a l ih=>show Nat.succ (sZ l)=_; rw [ih]; rfl
theorem th (a:List α):∀ (b:List α) (k:List α→β),ZK a b k=k (a++b):=by
  induction a with
  | nil=>intro b k; rfl
  | cons x a ih=>intro b k; exact ih b _
theorem mapK_eq (f:α→β) (l:List α):mapK f l=l.map f:=by
  induction l with
  | nil=>rfl
  | cons a l ih=>show f a::mapK f l=_; rw [ih]; rfl
def Bb:List α→List α→Nat→List α
  | [],l,_=>l
  | x::xs,l,off=>Bb xs (l.set off x) (off+1)
theorem vC (xs:List α):∀ (l:List α) (off:Nat) (k:List α→β),Ui xs l off k=k (Bb xs l off):=by
  induction xs with
  | nil=>intro l off k; rfl
  | cons x xs ih=>intro l off k; show setK l off x (fun l'=>Ui xs l' (off+1) k)=_; rw [fu,ih]; rfl
theorem aek (xs:List α):∀ (l:List α) (off:Nat),(Bb xs l off).length=l.length:=by
  induction xs with
  | nil=>intro l off; rfl
  | cons x xs ih=>intro l off; simp [Bb,ih]
theorem over_get (xs:List α):∀ (l:List α) (off i:Nat),off+xs.length≤l.length→
    (Bb xs l off)[i]?=if off≤i∧i<off+xs.length then xs[i-off]? else l[i]?:=by
  induction xs with
  | nil=>intro l off i _; simp [Bb]; omega
  | cons x xs ih=>
    intro l off i h
    simp only [List.length_cons] at h
    rw [Bb,ih _ _ _ (by simp; omega)]
    by_cases h1:off+1≤i∧i<off+1+xs.length
    · rw [if_pos h1,if_pos (by simp; omega)]
      rw [show i-off=(i-(off+1))+1 by omega]; simp
    · rw [if_neg h1]
      by_cases h2:i=off
      · subst h2
        rw [if_pos (by simp)]
        simp [List.getElem?_set_self (show i<l.length by omega)]
      · rw [if_neg (by simp; omega)]
        rw [List.getElem?_set_ne (by omega)]
theorem anN {l:List α} {off n:Nat} {r:List α} (h:sub l off n=some r):r.length=n∧off+n≤max l.length off∧∀ i v,r[i]?=some v→l[off+i]?=some v:=by
  rw [nP] at h
  split at h
  · rename_i hn
    cases h
    simp at hn ⊢
    refine ⟨by omega,by omega,?_⟩
    intro i v hi
    rw [List.getElem?_take] at hi
    split at hi
    · simpa using hi
    · cases hi
  · cases h
theorem Xe (z:List AV) (n:Nat):LW z (n+1)=z++LW z n:=by show ZK z (LW z n) id=_; rw [th]; rfl
end
theorem Heap.fu {β:Type} (H:Heap) (b:Nat) (x:Blk) (k:Heap→β):H.setK b x k=k (H.set b x):=by
  cases H; simp only [Heap.setK,Heap.set,Tr.fu]; rfl
theorem Heap.ft (H:Heap) (b:Nat) (x:Blk):(H.set b x).get b=some x:=by
  cases H; simp only [Heap.set,Heap.setK,Tr.fu,Heap.get]; exact Tr.ft _ _ _
theorem Heap.fq (H:Heap) {b c:Nat} (h:b≠c) (x:Blk):(H.set b x).get c=H.get c:=by
  cases H; simp only [Heap.set,Heap.setK,Tr.fu,Heap.get]; exact Tr.fq (fun e=>h (CC e)) _ _
@[simp] theorem Heap.nx_set (H:Heap) (b:Nat) (x:Blk):(H.set b x).nx=H.nx:=by cases H; simp only [Heap.set,Heap.setK,Tr.fu]; rfl
@[simp] theorem Heap.ro_set (H:Heap) (b:Nat) (x:Blk):(H.set b x).ro=H.ro:=by cases H; simp only [Heap.set,Heap.setK,Tr.fu]; rfl
noncomputable def Heap.add (H:Heap) (x:Blk):Heap:={ H.set H.nx x with nx:=H.nx+1 }
theorem Heap.fx {β:Type} (H:Heap) (x:Blk) (k:Nat→Heap→β):H.newK x k=k H.nx (H.add x):=by
  cases H; simp only [Heap.newK,Heap.add,Heap.set,Heap.setK,Tr.fu]; rfl
@[simp] theorem Heap.nx_add (H:Heap) (x:Blk):(H.add x).nx=H.nx+1:=rfl
@[simp] theorem Heap.ro_add (H:Heap) (x:Blk):(H.add x).ro=H.ro:=by simp [Heap.add]
theorem Heap.fy (H:Heap) (x:Blk) (c:Nat):(H.add x).get c=if c=H.nx then some x else H.get c:=by
  show (H.set H.nx x).get c=_
  by_cases h:c=H.nx
  · subst h; rw [if_pos rfl]; exact Heap.ft _ _ _
  · rw [if_neg h]; exact Heap.fq _ (fun e=>h e.symm) _
def wr:Option Blk→Prop
  | some (.cells _ rw _)=>rw=true
  | some (.mp _)=>True
  | _=>False
def live:Option Blk→Prop
  | some (.cells _ _ _)=>True
  | some (.mp _)=>True
  | _=>False
theorem xa {x:Option Blk} (h:wr x):live x:=by
  cases x with
  | none=>exact h
  | some x=>cases x<;>simp_all [wr,live]
structure en (M:Mp) (D:Nat→Prop) (w:World) (L:Loc) (l:List AV) (rw:Bool) (g:Nat):Prop where
  at_:∀ i v,l[i]?=some v→w.cell? ⟨L.blk,L.base+i,none⟩=some (im M v)∧v.fD=true∧okv D v
  own:rw=true→∀ i,i<l.length+L.slack*g→(w.cell? ⟨L.blk,L.base+i,none⟩).isSome=true∧w.frozen? ⟨L.blk,L.base+i,none⟩=false
  lt:L.blk<w.heap.size
  fz:rw=true→∃ c e,w.heap[L.blk]?=some (.cells c e (0,0))
  sl:g≠0→l.length+L.slack*g≤9223372036854775807*g
  plain:L.odd=none
theorem en.at_at {M:Mp} {D:Nat→Prop} {w:World} {L:Loc} {l:List AV} {rw:Bool} {g:Nat} (h:en M D w L l rw g) (k:Nat):L.at k=⟨L.blk,L.base+k,none⟩:=Loc.at_plain h.plain k
def entryOk (M:Mp) (D:Nat→Prop) (e:AV × AV) (m:MapEntry):Prop:=m.key=im M e.1∧m.val=im M e.2∧okv D e.1∧okv D e.2
def cZ (M:Mp) (D:Nat→Prop):List (AV × AV)→List MapEntry→Prop
  | [],[]=>True
  | e::es,m::ms=>entryOk M D e m∧cZ M D es ms
  | _,_=>False
def dR (ms:List MapEntry) (clock:Nat):Prop:=ms.Pairwise (fun a b=>a.born<b.born)∧∀ m∈ms,m.born<clock
structure MapOk (M:Mp) (D:Nat→Prop) (w:World) (L:Loc) (es:List (AV × AV)):Prop where
  at_:∃ (ms:Array MapEntry) (clock:Nat),w.heap[L.blk]?=some (.map ms clock)∧cZ M D es ms.toList∧dR ms.toList clock
def eG (M:Mp) (D:Nat→Prop) (w:World) (L:Loc):Option Blk→Prop
  | some (.cells l rw g)=>en M D w L l rw g
  | some (.mp es)=>MapOk M D w L es
  | _=>True
structure Rel (M:Mp) (D:Nat→Prop) (H:Heap) (w:World):Prop where
  dom:∀ b,D b→b<H.nx
  blk:∀ b,D b→eG M D w (M b) (H.get b)
  inj:∀ b c,D b→D c→b≠c→wr (H.get b)→live (H.get c)→(M b).blk≠(M c).blk
structure Ext (M:Mp) (D:Nat→Prop) (H:Heap) (w:World) (M':Mp) (D':Nat→Prop) (H':Heap) (w':World):Prop where
  keep:∀ b,D b→D' b
  agree:∀ b,D b→M' b=M b
  old:∀ b,D' b→b<H.nx→D b
  nx:H.nx≤H'.nx
  wrm:∀ b,D b→wr (H'.get b)→wr (H.get b)
  newb:∀ b,D' b→¬ D b→wr (H'.get b)→w.heap.size≤(M' b).blk∨∃ c,D c∧wr (H.get c)∧(M' b).blk=(M c).blk
  frame:∀ c,c<w.heap.size→(∀ b,D b→wr (H.get b)→(M b).blk≠c)→w'.heap[c]?=w.heap[c]?
  unm:∀ b,b<H.nx→¬ D b→H'.get b=H.get b
  size:w.heap.size≤w'.heap.size
  os:w'.os=w.os
  tape:w'.tape=w.tape
  output:w'.output=w.output
theorem Ext.refl {M:Mp} {D:Nat→Prop} {H:Heap} {w:World}:Ext M D H w M D H w:=
  ⟨fun _ h=>h,fun _ _=>rfl,fun _ h _=>h,fY _,fun _ _ h=>h,fun _ h hn=>(hn h).elim,fun _ _ _=>rfl,fun _ _ _=>rfl,fY _,rfl,rfl,rfl⟩
theorem Ext.trans {M:Mp} {D:Nat→Prop} {H:Heap} {w:World} {M':Mp} {D':Nat→Prop} {H':Heap} {w':World} {M'':Mp} {D'':Nat→Prop} {H'':Heap} {w'':World}
    (h:Ext M D H w M' D' H' w') (k:Ext M' D' H' w' M'' D'' H'' w''):Ext M D H w M'' D'' H'' w'':={
  keep b hb:=k.keep b (h.keep b hb)
  agree b hb:=(k.agree b (h.keep b hb)).trans (h.agree b hb)
  old b hb hn:=h.old b (k.old b hb (fW hn h.nx)) hn
  nx:=ga h.nx k.nx
  wrm b hb hw:=h.wrm b hb (k.wrm b (h.keep b hb) hw)
  newb b hb hnb hw:=by
    by_cases hd:D' b
    · have hw':=k.wrm b hd hw
      rcases h.newb b hd hnb hw' with hs | ⟨c,hc,hcw,he⟩
      · exact .inl (by rw [k.agree b hd]; exact hs)
      · exact .inr ⟨c,hc,hcw,by rw [k.agree b hd]; exact he⟩
    · rcases k.newb b hb hd hw with hs | ⟨c,hc,hcw,he⟩
      · exact .inl (ga h.size hs)
      · by_cases hdc:D c
        · exact .inr ⟨c,hdc,h.wrm c hdc hcw,by rw [he,h.agree c hdc]⟩
        · rcases h.newb c hc hdc hcw with hs | ⟨d,hd',hdw,hde⟩
          · exact .inl (by rw [he]; exact hs)
          · exact .inr ⟨d,hd',hdw,by rw [he,hde]⟩
  frame c hc hn:=by
    rw [k.frame c (fW hc h.size) ?_,h.frame c hc hn]
    intro b hb hw he
    by_cases hd:D b
    · exact hn b hd (h.wrm b hd hw) (by rw [← h.agree b hd]; exact he)
    · rcases h.newb b hb hd hw with hs | ⟨d,hd',hdw,hde⟩
      · omega
      · exact hn d hd' hdw (by rw [← hde]; exact he)
  unm b hb hn:=by
    rw [k.unm b (fW hb h.nx) (fun hd=>hn (h.old b hd hb)),h.unm b hb hn]
  size:=ga h.size k.size
  os:=k.os.trans h.os
  tape:=k.tape.trans h.tape
  output:=k.output.trans h.output }
end Go.Ai
/- What a new block, a store, an append in place, a map's update do to the relation. -/
namespace Go.Ai
open Go.RowKit
theorem cZ.keep {M M':Mp} {D D':Nat→Prop} (hd:∀ b,D b→D' b) (ha:∀ b,D b→M' b=M b):∀ {es:List (AV × AV)} {ms:List MapEntry},cZ M D es ms→cZ M' D' es ms
  | [],[],_=>trivial
  | e::es,m::ms,h=>by
    obtain ⟨⟨a,b,c,d⟩,h2⟩:=h
    exact ⟨⟨by rw [o0 ha _ c]; exact a,by rw [o0 ha _ d]; exact b,lh hd _ c,lh hd _ d⟩,cZ.keep hd ha h2⟩
  | [],_::_,h=>h.elim
  | _::_,[],h=>h.elim
theorem eG.keep {M M':Mp} {D D':Nat→Prop} {w w':World} {L:Loc} {x:Option Blk} (hd:∀ b,D b→D' b) (ha:∀ b,D b→M' b=M b)
    (hh:live x→w'.heap[L.blk]?=w.heap[L.blk]?) (hs:w.heap.size≤w'.heap.size) (h:eG M D w L x):eG M' D' w' L x:=by
  cases x with
  | none=>trivial
  | some x=>
    cases x with
    | dead=>trivial
    | mp es=>
      obtain ⟨⟨ms,clock,h1,h2,h3⟩⟩:=h
      exact ⟨⟨ms,clock,by rw [hh trivial]; exact h1,h2.keep hd ha,h3⟩⟩
    | cells l rw g=>
      have hb:w'.heap[L.blk]?=w.heap[L.blk]?:=hh trivial
      refine ⟨fun i v hv=>?_,fun hr i hi=>?_,fW h.lt hs,fun hr=>by rw [hb]; exact h.fz hr,h.sl,h.plain⟩
      · obtain ⟨a,b,c⟩:=h.at_ i v hv
        refine ⟨?_,b,lh hd _ c⟩
        rw [World.cell?_of_block (w:=w) (w':=w') (a:=⟨L.blk,L.base+i,none⟩) hb,o0 ha _ c]; exact a
      · obtain ⟨a,b⟩:=h.own hr i hi
        rw [World.cell?_of_block (w:=w) (w':=w') (a:=⟨L.blk,L.base+i,none⟩) hb,World.frozen?_of_block (w:=w) (w':=w') (a:=⟨L.blk,L.base+i,none⟩) hb]
        exact ⟨a,b⟩
theorem eG.lt {M:Mp} {D:Nat→Prop} {w:World} {L:Loc} {x:Option Blk} (h:eG M D w L x) (hl:live x):L.blk<w.heap.size:=by
  cases x with
  | none=>exact hl.elim
  | some x=>
    cases x with
    | dead=>exact hl.elim
    | mp es=>
      obtain ⟨⟨ms,clock,h1,_⟩⟩:=h
      rcases fQ L.blk w.heap.size with h' | h'
      · exact h'
      · rw [Array.getElem?_eq_none h'] at h1; cases h1
    | cells l rw g=>exact en.lt h
theorem Rel.same {M:Mp} {D:Nat→Prop} {H:Heap} {w w':World} (h:Rel M D H w) (e:w'.heap=w.heap):Rel M D H w':=
  ⟨h.dom,fun b hb=>(h.blk b hb).keep (fun _ h=>h) (fun _ _=>rfl) (fun _=>by rw [e]) (by rw [e]; exact fY _),h.inj⟩
theorem Ext.drew {M:Mp} {D:Nat→Prop} {H:Heap} {w:World}:Ext M D H w M D H w.drew:=
  ⟨fun _ h=>h,fun _ _=>rfl,fun _ h _=>h,fY _,fun _ _ h=>h,fun _ h hn=>(hn h).elim,fun _ _ _=>rfl,fun _ _ _=>rfl,fY _,rfl,rfl,rfl⟩
def Mp.put (M:Mp) (b:Nat) (L:Loc):Mp:=fun c=>if c=b then L else M c
theorem Mp.fB (M:Mp) (b:Nat) (L:Loc):M.put b L b=L:=by simp [Mp.put]
theorem Mp.put_other (M:Mp) {b c:Nat} (L:Loc) (h:c≠b):M.put b L c=M c:=by simp [Mp.put,h]
theorem UR (w:World) (o:Obj) {c:Nat} (h:c<w.heap.size):(w.alloc o).heap[c]?=w.heap[c]?:=by
  show (w.heap.push o)[c]?=_
  rw [Array.getElem?_push,if_neg (by omega)]
theorem Ue (w:World) (o:Obj):(w.alloc o).heap[w.heap.size]?=some o:=by
  show (w.heap.push o)[w.heap.size]?=_
  rw [Array.getElem?_push,if_pos rfl]
theorem Rel.alloc {M:Mp} {D:Nat→Prop} {H:Heap} {w:World} (h:Rel M D H w) (o:Obj) (x:Blk) (L:Loc) (hL:L.blk=w.heap.size)
    (hx:eG (M.put H.nx L) (fun b=>D b∨b=H.nx) (w.alloc o) L (some x)) :
    Rel (M.put H.nx L) (fun b=>D b∨b=H.nx) (H.add x) (w.alloc o)∧Ext M D H w (M.put H.nx L) (fun b=>D b∨b=H.nx) (H.add x) (w.alloc o):=by
  have hne:∀ b,D b→b≠H.nx:=fun b hb=>Nat.ne_of_lt (h.dom b hb)
  have hag:∀ b,D b→M.put H.nx L b=M b:=fun b hb=>Mp.put_other _ _ (hne b hb)
  have hget:∀ b,D b→(H.add x).get b=H.get b:=fun b hb=>by rw [Heap.fy,if_neg (hne b hb)]
  have hsz:w.heap.size≤(w.alloc o).heap.size:=by simp
  refine ⟨⟨?_,?_,?_⟩,⟨fun _ hb=>.inl hb,hag,?_,?_,?_,?_,?_,?_,hsz,rfl,rfl,rfl⟩⟩
  · rintro b (hb | rfl)
    · have:=h.dom b hb; simp; omega
    · simp
  · rintro b (hb | rfl)
    · rw [hget b hb,hag b hb]
      exact (h.blk b hb).keep (fun _ h=>.inl h) hag (fun hl=>UR _ _ ((h.blk b hb).lt hl)) hsz
    · rw [Heap.fy,if_pos rfl,Mp.fB]; exact hx
  · rintro b c (hb | rfl) (hc | rfl) hbc hw hl
    · rw [hget b hb] at hw; rw [hget c hc] at hl; rw [hag b hb,hag c hc]; exact h.inj b c hb hc hbc hw hl
    · rw [hget b hb] at hw; rw [hag b hb,Mp.fB,hL]
      exact Nat.ne_of_lt ((h.blk b hb).lt (xa hw))
    · rw [hget c hc] at hl; rw [hag c hc,Mp.fB,hL]
      exact Nat.ne_of_gt ((h.blk c hc).lt hl)
    · exact (hbc rfl).elim
  · rintro b (hb | rfl) hlt
    · exact hb
    · omega
  · simp
  · intro b hb hw; rw [hget b hb] at hw; exact hw
  · rintro b (hb | rfl) hnb _
    · exact (hnb hb).elim
    · exact .inl (by rw [Mp.fB,hL]; exact fY _)
  · intro c hc _; exact UR _ _ hc
  · intro b hb _; rw [Heap.fy,if_neg (by omega)]
theorem zh (b:Nat):∀ (vs:List Value) (o:Nat) (w:World) (c:Nat),c≠b→(w.setCells b o vs).heap[c]?=w.heap[c]?
  | [],_,_,_,_=>rfl
  | v::r,o,w,c,h=>by
    rw [World.setCells,zh b r (o+1) _ c h]
    simp only [World.setCell,Array.getElem?_modify]
    rw [if_neg (fun e=>h e.symm)]
theorem zw (b:Nat):∀ (vs:List Value) (o:Nat) (w:World),(w.setCells b o vs).heap.size=w.heap.size
  | [],_,_=>rfl
  | v::r,o,w=>by rw [World.setCells,zw b r]; simp
theorem wQ (b:Nat):∀ (vs:List Value) (o:Nat) (w:World),(w.setCells b o vs).os=w.os∧(w.setCells b o vs).tape=w.tape∧(w.setCells b o vs).output=w.output
  | [],_,_=>⟨rfl,rfl,rfl⟩
  | v::r,o,w=>by rw [World.setCells]; exact wQ b r (o+1) _
theorem VB (b:Nat):∀ (vs:List Value) (o:Nat) (w:World),(∃ c e,w.heap[b]?=some (.cells c e (0,0)))→∃ c e,(w.setCells b o vs).heap[b]?=some (.cells c e (0,0))
  | [],_,_,h=>h
  | v::r,o,w,⟨c,e,h⟩=>by
    rw [World.setCells]
    refine VB b r (o+1) _ ⟨c.setIfInBounds o v,e,?_⟩
    simp [World.setCell,Array.getElem?_modify,h]
theorem en.write {M:Mp} {D:Nat→Prop} {w:World} {L:Loc} {l:List AV} {g:Nat} (h:en M D w L l true g) (new:List AV) (off:Nat) (hb:off+new.length≤l.length)
    (hn:∀ v∈new,okv D v∧v.fD=true) :
    en M D (w.setCells L.blk (L.base+off) (new.map (im M))) L (Bb new l off) true g:=by
  have hsome:∀ j,j<(new.map (im M)).length→(w.cell? ⟨L.blk,(L.base+off)+j,none⟩).isSome=true:=fun j hj=>by
    have:=(h.own rfl (off+j) (by simp at hj; omega)).1
    rwa [show L.base+off+j=L.base+(off+j) by omega]
  refine ⟨fun i v hv=>?_,fun _ i hi=>?_,by rw [zw]; exact h.lt,fun _=>VB _ _ _ _ (h.fz rfl),by rw [aek]; exact h.sl,h.plain⟩
  · rw [over_get _ _ _ _ hb] at hv
    split at hv
    · rename_i hin
      have hm:=fS hv
      refine ⟨?_,(hn v hm).2,(hn v hm).1⟩
      have hlt:i-off<(new.map (im M)).length:=by simp; omega
      have:=World.cell?_setCells_in L.blk (new.map (im M)) (L.base+off) w hsome (i-off) hlt
      rw [show L.base+i=L.base+off+(i-off) by omega,this]
      simp only [List.getElem_map]
      congr 2
      exact (fZ.1 hv).2
    · rename_i hout
      obtain ⟨a,b,c⟩:=h.at_ i v hv
      refine ⟨?_,b,c⟩
      rw [World.cell?_setCells_out _ _ _ _ _ (fun _ _=>by simp; omega)]
      exact a
  · rw [aek] at hi
    obtain ⟨a,b⟩:=h.own rfl i hi
    rw [World.frozen?_setCells]
    refine ⟨?_,b⟩
    by_cases hin:off≤i∧i<off+new.length
    · have hlt:i-off<(new.map (im M)).length:=by simp; omega
      have:=World.cell?_setCells_in L.blk (new.map (im M)) (L.base+off) w hsome (i-off) hlt
      rw [show L.base+i=L.base+off+(i-off) by omega,this]; rfl
    · rw [World.cell?_setCells_out _ _ _ _ _ (fun _ _=>by simp; omega)]; exact a
theorem Rel.turn {M:Mp} {D:Nat→Prop} {H:Heap} {w w':World} (h:Rel M D H w) {b:Nat} (hb:D b) (hw:wr (H.get b)) (x:Blk)
    (hx:eG M D w' (M b) (some x)) (hother:∀ c,c≠(M b).blk→w'.heap[c]?=w.heap[c]?) (hsize:w'.heap.size=w.heap.size)
    (hos:w'.os=w.os) (htape:w'.tape=w.tape) (hout:w'.output=w.output) :
    Rel M D (H.set b x) w'∧Ext M D H w M D (H.set b x) w':=by
  refine ⟨⟨fun c hc=>by simpa using h.dom c hc,fun c hc=>?_,fun c d hc hd hcd hcw hdl=>?_⟩,
    ⟨fun _ h=>h,fun _ _=>rfl,fun _ h _=>h,by simp,fun c hc hcw=>?_,fun _ h hn=>(hn h).elim,fun c _ hn=>?_,fun c _ hn=>?_,by rw [hsize]; exact fY _,hos,htape,hout⟩⟩
  · by_cases e:b=c
    · subst e; rw [Heap.ft]; exact hx
    · rw [Heap.fq _ e]
      exact (h.blk c hc).keep (fun _ h=>h) (fun _ _=>rfl) (fun hl=>hother _ (fun ee=>h.inj b c hb hc e hw hl ee.symm)) (by rw [hsize]; exact fY _)
  · have hcw':wr (H.get c):=by
      by_cases e:b=c
      · subst e; exact hw
      · rwa [Heap.fq _ e] at hcw
    have hdl':live (H.get d):=by
      by_cases e:b=d
      · subst e; exact xa hw
      · rwa [Heap.fq _ e] at hdl
    exact h.inj c d hc hd hcd hcw' hdl'
  · by_cases e:b=c
    · subst e; exact hw
    · rwa [Heap.fq _ e] at hcw
  · exact hother c (fun e=>hn b hb hw e.symm)
  · rw [Heap.fq _ (fun e=>hn (by rw [← e]; exact hb))]
theorem Rel.write {M:Mp} {D:Nat→Prop} {H:Heap} {w:World} (h:Rel M D H w) {b:Nat} (hb:D b) {l:List AV} {g:Nat} (hg:H.get b=some (.cells l true g))
    (new:List AV) (off:Nat) (hlen:off+new.length≤l.length) (hn:∀ v∈new,okv D v∧v.fD=true) :
    Rel M D (H.set b (.cells (Bb new l off) true g)) (w.setCells (M b).blk ((M b).base+off) (new.map (im M)))∧
    Ext M D H w M D (H.set b (.cells (Bb new l off) true g)) (w.setCells (M b).blk ((M b).base+off) (new.map (im M))):=by
  have hrow:en M D w (M b) l true g:=by have:=h.blk b hb; rwa [hg] at this
  exact h.turn hb (by rw [hg]; rfl) _ (hrow.write new off hlen hn) (fun c hc=>zh _ _ _ _ _ hc) (zw _ _ _ _)
    (wQ _ _ _ _).1 (wQ _ _ _ _).2.1 (wQ _ _ _ _).2.2
theorem Rel.move {M:Mp} {D:Nat→Prop} {H:Heap} {w w':World} (h:Rel M D H w) {b:Nat} (hb:D b) (hw:wr (H.get b)) (x:Blk) (L:Loc) (hL:L.blk=(M b).blk)
    (hx:eG (M.put H.nx L) (fun c=>D c∨c=H.nx) w' L (some x)) (hother:∀ c,c≠(M b).blk→w'.heap[c]?=w.heap[c]?) (hsize:w'.heap.size=w.heap.size)
    (hos:w'.os=w.os) (htape:w'.tape=w.tape) (hout:w'.output=w.output) :
    Rel (M.put H.nx L) (fun c=>D c∨c=H.nx) ((H.set b .dead).add x) w'∧Ext M D H w (M.put H.nx L) (fun c=>D c∨c=H.nx) ((H.set b .dead).add x) w':=by
  have hne:∀ c,D c→c≠H.nx:=fun c hc=>Nat.ne_of_lt (h.dom c hc)
  have hag:∀ c,D c→M.put H.nx L c=M c:=fun c hc=>Mp.put_other _ _ (hne c hc)
  have hgetb:((H.set b .dead).add x).get b=some .dead:=by rw [Heap.fy,if_neg (by simpa using hne b hb),Heap.ft]
  have hget:∀ c,D c→c≠b→((H.set b .dead).add x).get c=H.get c:=fun c hc hcb=>by
    rw [Heap.fy,if_neg (by simpa using hne c hc),Heap.fq _ (fun e=>hcb e.symm)]
  have hgetn:((H.set b .dead).add x).get H.nx=some x:=by rw [Heap.fy,if_pos (by simp)]
  refine ⟨⟨?_,?_,?_⟩,⟨fun _ hc=>.inl hc,hag,?_,by simp,?_,?_,?_,?_,by rw [hsize]; exact fY _,hos,htape,hout⟩⟩
  · rintro c (hc | rfl)
    · have:=h.dom c hc; simp; omega
    · simp
  · rintro c (hc | rfl)
    · by_cases e:c=b
      · subst e; rw [hgetb]; trivial
      · rw [hget c hc e,hag c hc]
        exact (h.blk c hc).keep (fun _ h=>.inl h) hag (fun hl=>hother _ (fun ee=>h.inj b c hb hc (fun e'=>e e'.symm) hw hl ee.symm)) (by rw [hsize]; exact fY _)
    · rw [hgetn,Mp.fB]; exact hx
  · rintro c d (hc | rfl) (hd | rfl) hcd hcw hdl
    · by_cases e:c=b
      · subst e; rw [hgetb] at hcw; exact hcw.elim
      · by_cases e':d=b
        · subst e'; rw [hgetb] at hdl; exact hdl.elim
        · rw [hget c hc e] at hcw; rw [hget d hd e'] at hdl; rw [hag c hc,hag d hd]; exact h.inj c d hc hd hcd hcw hdl
    · by_cases e:c=b
      · subst e; rw [hgetb] at hcw; exact hcw.elim
      · rw [hget c hc e] at hcw; rw [hag c hc,Mp.fB,hL]
        exact h.inj c b hc hb e hcw (xa hw)
    · by_cases e':d=b
      · subst e'; rw [hgetb] at hdl; exact hdl.elim
      · rw [hget d hd e'] at hdl; rw [hag d hd,Mp.fB,hL]
        exact h.inj b d hb hd (fun ee=>e' ee.symm) hw hdl
    · exact (hcd rfl).elim
  · rintro c (hc | rfl) hlt
    · exact hc
    · omega
  · intro c hc hcw
    by_cases e:c=b
    · subst e; exact hw
    · rwa [hget c hc e] at hcw
  · rintro c (hc | rfl) hnc _
    · exact (hnc hc).elim
    · exact .inr ⟨b,hb,hw,by rw [Mp.fB]; exact hL⟩
  · intro c _ hn; exact hother c (fun e=>hn b hb hw e.symm)
  · intro c hc hn; rw [Heap.fy,if_neg (by simp; omega),Heap.fq _ (fun e=>hn (by rw [← e]; exact hb))]
end Go.Ai
/- The interpreter's numbers and texts are the model's. -/
namespace Go.Ai
theorem anW (k:IntKind) (m:Nat) (h:m<IntKind.top k):k.wrap (Int.ofNat m)=Int.ofNat m:=by
  have e:(Int.ofNat m)=(m:Int):=rfl
  rw [e]
  cases k<;>simp only [IntKind.top] at h<;>simp only [IntKind.wrap,IntKind.signed,IntKind.bits]<;>simp<;>omega
theorem uA {β:Type} (k:IntKind) (n:Int) (c:Int→β):Sm k n c=c (k.wrap n):=by
  cases n with
  | ofNat m=>
    show Bool.casesOn (motive:=fun _=>β) (Nat.blt m (IntKind.top k)) (c (k.wrap (Int.ofNat m))) (c (Int.ofNat m))=_
    cases h:Nat.blt m (IntKind.top k) with
    | false=>rfl
    | true=>show c (Int.ofNat m)=_; rw [anW k m (by simp [Nat.blt] at h; omega)]
  | negSucc m=>rfl
theorem agL (a b:Int):Cw a b=a+b:=by cases a<;>cases b<;>rfl
theorem agE (a b:Int):mulF a b=a*b:=by cases a<;>cases b<;>rfl
theorem agD (a b:Int):subF a b=a-b:=by
  cases a with
  | negSucc x=>rfl
  | ofNat x=>cases b with
    | negSucc y=>rfl
    | ofNat y=>
      show Bool.casesOn (motive:=fun _=>Int) (Nat.ble y x) (Int.ofNat x-Int.ofNat y) (Int.ofNat (Nat.sub x y))=_
      cases h:Nat.ble y x with
      | false=>rfl
      | true=>
        have:=fR h
        show ((x-y:Nat):Int)=(x:Int)-(y:Int)
        omega
theorem aqo (a b:Int):divF a b=a.tdiv b:=by cases a<;>cases b<;>rfl
theorem apQ (a b:Int):modF a b=a.tmod b:=by cases a<;>cases b<;>rfl
theorem blt_eq (x y:Nat):Nat.blt x y=decide (x<y):=by
  rw [Bool.eq_iff_iff,Nat.blt_eq]; simp
theorem kg (a b:Int):ltF a b=decide (a<b):=by
  cases a with
  | ofNat x=>cases b with
    | ofNat y=>show Nat.blt x y=_; rw [blt_eq]; congr 1; exact propext Int.ofNat_lt.symm
    | negSucc y=>show false=_; symm; simp; have:=Int.negSucc_lt_zero y; show Int.negSucc y≤(x:Int); omega
  | negSucc x=>cases b with
    | ofNat y=>show true=_; symm; simp; have:=Int.negSucc_lt_zero x; show Int.negSucc x<(y:Int); omega
    | negSucc y=>show Nat.blt y x=_; rw [blt_eq]; congr 1; exact propext (by rw [Int.negSucc_eq,Int.negSucc_eq]; omega)
theorem beqN (x y:Nat):Nat.beq x y=decide (x=y):=by
  cases h:Nat.beq x y with
  | true=>symm; simpa using gb h
  | false=>symm; simpa using Nat.ne_of_beq_eq_false h
theorem JQ (a b:Int):eqF a b=(a==b):=by
  cases a with
  | ofNat x=>cases b with
    | ofNat y=>show Nat.beq x y=_; rw [beqN,Bool.eq_iff_iff]; simp; exact Int.ofNat_inj.symm
    | negSucc y=>rfl
  | negSucc x=>cases b with
    | ofNat y=>rfl
    | negSucc y=>show Nat.beq x y=_; rw [beqN,Bool.eq_iff_iff]; simp
theorem al5 (a:Int):isZ a=decide (a=0):=by unfold isZ; rw [JQ]; rfl
theorem natF_eq {β:Type} (a:Int) (e:β) (k:Nat→β):LG a e k=if 0≤a then k a.toNat else e:=by
  cases a with
  | ofNat x=>rw [if_pos (show 0≤Int.ofNat x from fP x)]; rfl
  | negSucc x=>rw [if_neg (by have:=Int.negSucc_lt_zero x; omega)]; rfl
theorem yv {α:Type} {a:Int} {k:Nat→Option α} {r:α} (h:LG a none k=some r):0≤a∧k a.toNat=some r:=by
  rw [natF_eq] at h; split at h
  · exact ⟨by assumption,h⟩
  · cases h
theorem alQ (k:IntKind) (x:Int) (y:Nat):shrF k x y=x.fdiv (2^(min y k.bits)):=by
  cases x with
  | negSucc a=>rfl
  | ofNat a=>
    show Int.ofNat (Nat.div a (Nat.pow 2 (min y k.bits)))=_
    have:((2:Int)^(min y k.bits))=Int.ofNat (Nat.pow 2 (min y k.bits)):=by
      show _=((2^(min y k.bits):Nat):Int); simp
    have h2:=Int.fdiv_eq_ediv_of_nonneg (Int.ofNat a) (show 0≤Int.ofNat (Nat.pow 2 (min y k.bits)) from fP _)
    rw [this,h2]
    rfl
theorem PT (a:List UInt8):∀ b,Ii a b=(a==b):=by
  induction a with
  | nil=>intro b; cases b<;>rfl
  | cons x a ih=>
    intro b
    cases b with
    | nil=>rfl
    | cons y b=>
      show Bool.casesOn (motive:=fun _=>Bool) (Nat.beq x.toNat y.toNat) false (Ii a b)=_
      rw [beqN]
      have e:(decide (x.toNat=y.toNat))=(x==y):=by
        rw [Bool.eq_iff_iff]; simp [UInt8.toNat_inj]
      rw [e]
      cases h:(x==y) with
      | true=>simp only [List.cons_beq_cons,h,Bool.true_and]; exact ih b
      | false=>simp only [List.cons_beq_cons,h,Bool.false_and]
section
variable {P:Program} {w:World} {t:TypeId}
theorem apw (a b:List UInt8):((⟨a.toArray⟩:ByteArray).toList==(⟨b.toArray⟩:ByteArray).toList)=(a==b):=by
  rw [ByteArray.toList_mk,ByteArray.toList_mk]
end
end Go.Ai
