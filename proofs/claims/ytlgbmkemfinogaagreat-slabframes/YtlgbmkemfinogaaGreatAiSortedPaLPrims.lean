/- The sorted keys of a map, for the interpreter, however many: what the library's slices.Sorted makes of what maps.Keys hands back. -/
import Derived.Test.YtlgbmkemfinogaaGreatAiInsertMemoS
import Derived.Lib.SlKeysI
import Derived.Test.YtlgbmkemfinogaaGreatAiCallSym
import Derived.RangeFuncSeq
import Derived.Maps.RangeWalk
import Derived.Test.YtlgbmkemfinogaaGreatPaLCode
set_option linter.all false
namespace Go.Ai
abbrev ahK (x:Int):AV:=.int .i64 x
def Kg (x:Int):Prop := -9223372036854775808≤x∧x≤9223372036854775807
noncomputable def amw (x:Int) (l:List Int):List Int:=List.rec (motive:=fun _=>List Int) [x] (fun a t ih=>Bool.casesOn (ltF a x) (x::a::t) (a::ih)) l
noncomputable def om (l:List Int):List Int:=List.rec (motive:=fun _=>List Int) [] (fun a _ ih=>amw a ih) l
noncomputable def X9 (l:List Int):Bool:=List.rec (motive:=fun _=>Bool) true (fun a t ih=>List.casesOn t true fun b _=>Bool.casesOn (ltF a b) false ih) l
theorem aie (x:Int) (l:List Int):(amw x l).Perm (x::l):=by
  induction l with
  | nil=>exact .refl _
  | cons a t ih=>
    show (Bool.casesOn (ltF a x) (x::a::t) (a::amw x t):List Int).Perm _
    cases ltF a x
    · exact .refl _
    · exact (List.Perm.cons a ih).trans (List.Perm.swap x a t)
theorem qv (l:List Int):(om l).Perm l:=by
  induction l with
  | nil=>exact .refl _
  | cons a t ih=>exact (aie a (om t)).trans (List.Perm.cons a ih)
theorem Uq:∀ {l:List Int},X9 l=true→l.Pairwise (· < ·)
  | [],_=>.nil
  | [a],_=>by simp
  | a::b::t,h=>by
    have h':(Bool.casesOn (ltF a b) false (X9 (b::t)):Bool)=true:=h
    rw [nw] at h'
    by_cases hab:a<b
    · rw [show decide (a<b)=true by simpa using hab] at h'
      have ih:=Uq (l:=b::t) h'
      refine fX.2 ⟨fun c hc=>?_,ih⟩
      rcases gG.1 hc with rfl | hc
      · exact hab
      · exact Int.lt_trans hab ((fX.1 ih).1 c hc)
    · rw [show decide (a<b)=false by simpa using hab] at h'
      cases h'
noncomputable def L1 (es:List (AV × AV)):Option (List Int):=List.rec (motive:=fun _=>Option (List Int)) (some [])
  (fun e _ ih=>match e.1 with
    | .int .i64 x=>match ltF x (-9223372036854775808),ltF 9223372036854775807 x with
      | false,false=>Option.casesOn ih none fun l=>some (x::l)
      | _,_=>none
    | _=>none) es
theorem aeW:∀ {es:List (AV × AV)} {zs:List Int},L1 es=some zs→es.map (·.1)=zs.map ahK∧∀ x∈zs,Kg x
  | [],zs,h=>by
    have h':some []=some zs:=h
    cases h'; simp
  | e::es,zs,h=>by
    have h':(match e.1 with
      | .int .i64 x=>match ltF x (-9223372036854775808),ltF 9223372036854775807 x with
        | false,false=>Option.casesOn (L1 es) none fun l=>some (x::l)
        | _,_=>none
      | _=>none:Option (List Int))=some zs:=h
    split at h'
    · rename_i x hx
      split at h'
      · rename_i h1 h2
        obtain ⟨l,hl,h3⟩:=jj h'
        cases h3
        obtain ⟨i1,i2⟩:=aeW hl
        rw [nw] at h1 h2
        refine ⟨by simp [hx,i1],fun y hy=>?_⟩
        rcases gG.1 hy with rfl | hy
        · unfold Kg; simp at h1 h2; omega
        · exact i2 y hy
      · cases h'
    · cases h'
noncomputable def KD (keysF:Nat) (args:List AV) (H:Heap):Option (AV × Heap):=match args with
  | [.func f [] [.ptr b off]]=>Bool.casesOn (Nat.beq f keysF) none
    (Option.casesOn (nU H b) none fun l=>Option.casesOn (nth l off) none fun v=>match v with
      | .map m=>Option.casesOn (uw H m) none fun es=>Option.casesOn (L1 es) none fun zs=>
        Bool.casesOn (Nat.beq (qh zs) 0) (Bool.casesOn (X9 (om zs)&&Nat.ble (qh zs) 1000000) none
          (H.newK (.cells (mapK ahK (om zs)) true 1) fun c H'=>some (.slice c 0 (qh zs) 0 true,H'))) (some (.nilslice,H))
      | _=>none)
  | _=>none
noncomputable def D7 (keysF:Nat) (args:List AV) (H:Heap):ab:=match KD keysF args H with
  | some r=>.ret r.1 r.2
  | none=>.err
theorem QW {keysF:Nat} {args:List AV} {H H':Heap} {v:AV} (h:D7 keysF args H = .ret v H'):∃ b off l m es zs,args = [.func keysF [] [.ptr b off]]∧nU H b=some l∧l[off]?=some (.map m)∧uw H m=some es∧L1 es=some zs∧
    ((zs = []∧v = .nilslice∧H'=H)∨((om zs).Pairwise (· < ·)∧zs.length≤1000000∧1≤zs.length∧v = .slice H.nx 0 zs.length 0 true∧H'=H.add (.cells ((om zs).map ahK) true 1))):=by
  unfold D7 at h
  split at h
  · rename_i r hr
    cases h
    unfold KD at hr
    split at hr
    · rename_i f b off
      obtain ⟨hf,h1⟩:=qK hr
      obtain ⟨l,hl,h2⟩:=jj h1
      obtain ⟨u,hu,h3⟩:=jj h2
      clear hr h1 h2
      split at h3
      · rename_i m
        obtain ⟨es,hes,h4⟩:=jj h3
        obtain ⟨zs,hzs,h5⟩:=jj h4
        rw [anw] at hu
        have hf:=gw hf
        subst hf
        refine ⟨b,off,l,m,es,zs,rfl,hl,hu,hes,hzs,?_⟩
        cases h0:Nat.beq (qh zs) 0 with
        | true=>
          rw [h0] at h5
          cases h5
          have:=gw h0
          rw [mU] at this
          exact .inl ⟨gh this,rfl,rfl⟩
        | false=>
          rw [h0] at h5
          obtain ⟨hb,h6⟩:=qK h5
          rw [Heap.fP,agp,mU] at h6
          cases h6
          simp only [gl,Nat.ble_eq,mU] at hb
          refine .inr ⟨Uq hb.1,hb.2,?_,rfl,rfl⟩
          cases zs with
          | nil=>cases h0
          | cons z zs=>simp
      · cases h3
    · cases hr
  · cases h
theorem ZM {keysF:Nat} {args:List AV} {H H':Heap} {v:AV} (hr:H.ro≤H.nx) (h:D7 keysF args H = .ret v H'):eo H H':=by
  obtain ⟨b,off,l,m,es,zs,_,_,_,_,_,hor⟩:=QW h
  rcases hor with ⟨_,_,rfl⟩ | ⟨_,_,_,_,rfl⟩
  · exact .refl
  · exact eo.add hr (rP _ _)
theorem acv {x:Int}:∀ {l:List Int},l.Pairwise (· < ·)→x∉l→(amw x l).Pairwise (· < ·)
  | [],_,_=>by show [x].Pairwise _; simp
  | a::t,h,hx=>by
    show (Bool.casesOn (ltF a x) (x::a::t) (a::amw x t):List Int).Pairwise _
    rw [nw]
    by_cases e:a<x
    · rw [show decide (a<x)=true by simpa using e]
      obtain ⟨h1,h2⟩:=fX.1 h
      refine fX.2 ⟨fun y hy=>?_,acv h2 fun hm=>hx (f0 _ hm)⟩
      rcases gG.1 ((aie x t).mem_iff.1 hy) with rfl | hy
      · exact e
      · exact h1 y hy
    · rw [show decide (a<x)=false by simpa using e]
      have hne:a≠x:=fun e'=>hx (by rw [e']; exact gM ..)
      refine fX.2 ⟨fun y hy=>?_,h⟩
      rcases gG.1 hy with rfl | hy
      · omega
      · have:=(fX.1 h).1 y hy; omega
theorem Ei:∀ {l:List Int},l.Nodup→(om l).Pairwise (· < ·)
  | [],_=>by show ([]:List Int).Pairwise _; exact .nil
  | a::t,h=>by
    obtain ⟨h1,h2⟩:=List.nodup_cons.1 h
    exact acv (Ei h2) fun hm=>h1 ((qv t).mem_iff.1 hm)
theorem Qi:∀ {l:List Int},l.Pairwise (· < ·)→X9 l=true
  | [],_=>rfl
  | [a],_=>rfl
  | a::b::t,h=>by
    obtain ⟨h1,h2⟩:=fX.1 h
    show (Bool.casesOn (ltF a b) false (X9 (b::t)):Bool)=true
    rw [nw,show decide (a<b)=true by simpa using h1 b (gM ..)]
    exact Qi h2
end Go.Ai
/- The sorted keys of a map, for the interpreter: what the library's slices.Sorted makes of what maps.Keys hands back. -/
namespace Go.Ai
abbrev I64 (x:Int):AV:=.int .i64 x
def in64 (n:Int):Prop := -9223372036854775808≤n∧n≤9223372036854775807
noncomputable def insZ (x:Int) (l:List Int):List Int:=List.rec (motive:=fun _=>List Int) [x] (fun a t ih=>Bool.casesOn (ltF a x) (x::a::t) (a::ih)) l
noncomputable def am8 (l:List Int):List Int:=List.rec (motive:=fun _=>List Int) [] (fun a _ ih=>insZ a ih) l
noncomputable def amb (l:List Int):Bool:=List.rec (motive:=fun _=>Bool) true (fun a t ih=>List.casesOn t true fun b _=>Bool.casesOn (ltF a b) false ih) l
theorem ao8 (x:Int) (l:List Int):(insZ x l).Perm (x::l):=by
  induction l with
  | nil=>exact .refl _
  | cons a t ih=>
    show (Bool.casesOn (ltF a x) (x::a::t) (a::insZ x t):List Int).Perm _
    cases ltF a x
    · exact .refl _
    · exact (List.Perm.cons a ih).trans (List.Perm.swap x a t)
theorem anU (l:List Int):(am8 l).Perm l:=by
  induction l with
  | nil=>exact .refl _
  | cons a t ih=>exact (ao8 a (am8 t)).trans (List.Perm.cons a ih)
theorem WV:∀ {l:List Int},amb l=true→l.Pairwise (· < ·)
  | [],_=>.nil
  | [a],_=>by simp
  | a::b::t,h=>by
    have h':(Bool.casesOn (ltF a b) false (amb (b::t)):Bool)=true:=h
    rw [nw] at h'
    by_cases hab:a<b
    · rw [show decide (a<b)=true by simpa using hab] at h'
      have ih:=WV (l:=b::t) h'
      refine fX.2 ⟨fun c hc=>?_,ih⟩
      rcases gG.1 hc with rfl | hc
      · exact hab
      · exact Int.lt_trans hab ((fX.1 ih).1 c hc)
    · rw [show decide (a<b)=false by simpa using hab] at h'
      cases h'
noncomputable def ahY (es:List (AV × AV)):Option (List Int):=List.rec (motive:=fun _=>Option (List Int)) (some [])
  (fun e _ ih=>match e.1 with
    | .int .i64 x=>match ltF x (-9223372036854775808),ltF 9223372036854775807 x with
      | false,false=>Option.casesOn ih none fun l=>some (x::l)
      | _,_=>none
    | _=>none) es
theorem aay:∀ {es:List (AV × AV)} {zs:List Int},ahY es=some zs→es.map (·.1)=zs.map I64∧∀ x∈zs,in64 x
  | [],zs,h=>by
    have h':some []=some zs:=h
    cases h'; simp
  | e::es,zs,h=>by
    have h':(match e.1 with
      | .int .i64 x=>match ltF x (-9223372036854775808),ltF 9223372036854775807 x with
        | false,false=>Option.casesOn (ahY es) none fun l=>some (x::l)
        | _,_=>none
      | _=>none:Option (List Int))=some zs:=h
    split at h'
    · rename_i x hx
      split at h'
      · rename_i h1 h2
        obtain ⟨l,hl,h3⟩:=jj h'
        cases h3
        obtain ⟨i1,i2⟩:=aay hl
        rw [nw] at h1 h2
        refine ⟨by simp [hx,i1],fun y hy=>?_⟩
        rcases gG.1 hy with rfl | hy
        · unfold in64; simp at h1 h2; omega
        · exact i2 y hy
      · cases h'
    · cases h'
end Go.Ai
/- The least key of a map of rows of bools of which a function says yes: what the interpreter does for it, and what its proof at a program needs. -/
namespace Go.Ai
open Classical in
noncomputable def aiu (tbl:Tr AFn):bO:=fun fv vs H=>if h:∃ n v H',call tbl n fv vs H = .ret v H' then call tbl (Classical.choose h) fv vs H else .err
theorem callW_of {tbl:Tr AFn} {n:Nat} {fv:AV} {vs:List AV} {H H':Heap} {v:AV} (h:call tbl n fv vs H = .ret v H'):aiu tbl fv vs H = .ret v H':=by
  have he:∃ n v H',call tbl n fv vs H = .ret v H':=⟨n,v,H',h⟩
  unfold aiu
  rw [dif_pos he]
  obtain ⟨u,K,hu⟩:=Classical.choose_spec he
  have h1:=NQ (tbl:=tbl) (Nat.le_max_left n (Classical.choose he)) _ _ _ _ _ h
  have h2:=NQ (tbl:=tbl) (Nat.le_max_right n (Classical.choose he)) _ _ _ _ _ hu
  rw [h1] at h2
  cases h2
  exact hu
theorem ajA {tbl:Tr AFn} {fv:AV} {vs:List AV} {H H':Heap} {v:AV} (h:aiu tbl fv vs H = .ret v H'):∃ n,call tbl n fv vs H = .ret v H':=by
  unfold aiu at h
  split at h
  · exact ⟨_,h⟩
  · cases h
theorem callW_ok {P:Program} {tbl:Tr AFn} (T:fq P tbl):eJ P (aiu tbl):=fun fv args H v H' h=>by
  obtain ⟨n,h⟩:=ajA h
  exact akC T n fv args H v H' h
theorem anY {P:Program} {tbl:Tr AFn} (T:fq P tbl):cT (aiu tbl):=fun fv args H v H' hr h=>by
  obtain ⟨n,h⟩:=ajA h
  exact ady T.mono n fv args H v H' hr h
noncomputable def Bp:List Int→List Bool→Int→Bool→Int × Bool
  | x::xs,t::ts,b,s=>match t&&(!s||ltF x b) with
    | true=>Bp xs ts x true
    | false=>Bp xs ts b s
  | _,_,b,s=>(b,s)
def Least (S:Int→Prop) (b:Int) (s:Bool):Prop:=(s=false∧b=0∧∀ x,¬ S x)∨(s=true∧S b∧∀ x,S x→b≤x)
theorem Least.eq {S:Int→Prop} {b b':Int} {s s':Bool} (h:Least S b s) (h':Least S b' s'):b=b'∧s=s':=by
  rcases h with ⟨rfl,rfl,h⟩ | ⟨rfl,h1,h2⟩<;>rcases h' with ⟨rfl,rfl,h'⟩ | ⟨rfl,h3,h4⟩
  · exact ⟨rfl,rfl⟩
  · exact (h _ h3).elim
  · exact (h' _ h1).elim
  · exact ⟨Int.le_antisymm (h2 _ h3) (h4 _ h1),rfl⟩
theorem Least.step {S S':Int→Prop} {b x:Int} {s t:Bool} (h:Least S b s) (hS:∀ y,S' y↔S y∨(y=x∧t=true)):Least S' (if t&&(!s||decide (x<b)) then x else b) (if t&&(!s||decide (x<b)) then true else s):=by
  cases t with
  | false=>
    simp only [Bool.false_and,fZ,if_false]
    have e:∀ y,S' y↔S y:=fun y=>by rw [hS]; simp
    rcases h with ⟨rfl,rfl,h⟩ | ⟨rfl,h1,h2⟩
    · exact .inl ⟨rfl,rfl,fun y hy=>h y ((e y).1 hy)⟩
    · exact .inr ⟨rfl,(e b).2 h1,fun y hy=>h2 y ((e y).1 hy)⟩
  | true=>
    simp only [Bool.true_and]
    rcases h with ⟨rfl,rfl,h⟩ | ⟨rfl,h1,h2⟩
    · simp only [Bool.not_false,Bool.true_or,if_true]
      refine .inr ⟨rfl,(hS x).2 (.inr ⟨rfl,rfl⟩),fun y hy=>?_⟩
      rcases (hS y).1 hy with h3 | ⟨rfl,_⟩
      · exact (h y h3).elim
      · exact gJ _
    · simp only [Bool.not_true,Bool.false_or,gn]
      by_cases hxb:x<b
      · simp only [hxb,if_true]
        refine .inr ⟨rfl,(hS x).2 (.inr ⟨rfl,rfl⟩),fun y hy=>?_⟩
        rcases (hS y).1 hy with h3 | ⟨rfl,_⟩
        · have:=h2 y h3; omega
        · exact gJ _
      · simp only [hxb,if_false]
        refine .inr ⟨rfl,(hS b).2 (.inl h1),fun y hy=>?_⟩
        rcases (hS y).1 hy with h3 | ⟨rfl,_⟩
        · exact h2 y h3
        · omega
theorem adT:∀ (xs:List Int) (ts:List Bool) (S:Int→Prop) (b:Int) (s:Bool),xs.length=ts.length→Least S b s→Least (fun y=>S y∨(y,true)∈xs.zip ts) (Bp xs ts b s).1 (Bp xs ts b s).2
  | [],[],S,b,s,_,h=>by
    have:(fun y=>S y∨(y,true)∈([]:List Int).zip ([]:List Bool))=S:=by funext y; simp
    rw [this]; exact h
  | x::xs,t::ts,S,b,s,hl,h=>by
    have h1:=h.step (x:=x) (t:=t) (S':=fun y=>S y∨(y=x∧t=true)) fun y=>.rfl
    have h2:=adT xs ts _ _ _ (by simpa using hl) h1
    have e:(fun y=>(S y∨(y=x∧t=true))∨(y,true)∈xs.zip ts)=fun y=>S y∨(y,true)∈(x::xs).zip (t::ts):=by
      funext y
      simp only [List.zip_cons_cons,gG,Prod.mk.injEq,eq_iff_iff,or_assoc]
      constructor
      · rintro (h | ⟨h,h'⟩ | h)
        · exact .inl h
        · exact .inr (.inl ⟨h,h'.symm⟩)
        · exact .inr (.inr h)
      · rintro (h | ⟨h,h'⟩ | h)
        · exact .inl h
        · exact .inr (.inl ⟨h,h'.symm⟩)
        · exact .inr (.inr h)
    rw [e] at h2
    have e3:Bp (x::xs) (t::ts) b s=Bp xs ts (if t&&(!s||decide (x<b)) then x else b) (if t&&(!s||decide (x<b)) then true else s):=by
      simp only [Bp,nw]
      cases hc:(t&&(!s||decide (x<b)))<;>rfl
    rw [e3]; exact h2
  | [],_::_,_,_,_,hl,_=>by simp at hl
  | _::_,[],_,_,_,hl,_=>by simp at hl
noncomputable def aib (cf:bO) (f:Nat) (H:Heap) (v:AV):Option Bool:=match v with
  | .slice b off len ext opn=>Option.casesOn (H.get b) none fun x=>Blk.casesOn x (fun l _ _=>match VC QS l with
      | true=>(match cf (.func f [] []) [.slice b off len ext opn] (H.shut true) with
        | .ret (.bool t) _=>some t
        | _=>none)
      | false=>none) (fun _=>none) none
  | _=>none
noncomputable def agu (cf:bO) (f:Nat) (H:Heap):List (AV × AV)→Option (List Bool)
  | []=>some []
  | e::es=>match aib cf f H e.2 with
    | some t=>(match agu cf f H es with
      | some ts=>some (t::ts)
      | none=>none)
    | none=>none
noncomputable def ako (cf:bO) (args:List AV) (H:Heap):Option AV:=match args with
  | [.map m,.func f [] []]=>match uw H m with
    | some es=>(match ahY es with
      | some zs=>(match amb (am8 zs)&&Nat.ble (qh zs) 1000000 with
        | true=>(match agu cf f H es with
          | some ts=>some (.tuple [.int .i64 (Bp zs ts 0 false).1,.bool (Bp zs ts 0 false).2])
          | none=>none)
        | false=>none)
      | none=>none)
    | none=>none
  | _=>none
noncomputable def agW (cf:bO) (args:List AV) (H:Heap):ab:=match ako cf args H with
  | some v=>.ret v H
  | none=>.err
theorem anV {cf:bO} {args:List AV} {H H':Heap} {v:AV} (h:agW cf args H = .ret v H'):H'=H∧∃ m f es zs ts,args = [.map m,.func f [] []]∧uw H m=some es∧ahY es=some zs∧zs.Nodup∧zs.length≤1000000∧
    agu cf f H es=some ts∧v = .tuple [.int .i64 (Bp zs ts 0 false).1,.bool (Bp zs ts 0 false).2]:=by
  unfold agW at h
  split at h
  · rename_i u hu
    cases h
    refine ⟨rfl,?_⟩
    unfold ako at hu
    split at hu
    · rename_i m f
      split at hu
      · rename_i es hes
        split at hu
        · rename_i zs hzs
          split at hu
          · rename_i hi
            split at hu
            · rename_i ts hts
              cases hu
              rw [gl,mU] at hi
              exact ⟨m,f,es,zs,ts,rfl,hes,hzs,(anU zs).nodup_iff.1 ((WV hi.1).imp fun h=>Int.ne_of_lt h),gf hi.2,hts,rfl⟩
            · cases hu
          · cases hu
        · cases hu
      · cases hu
    · cases hu
  · cases h
theorem amT {cf:bO} {f:Nat} {H:Heap}:∀ {es:List (AV × AV)} {ts:List Bool},agu cf f H es=some ts→ts.length=es.length∧∀ (i:Nat) (e:AV × AV),es[i]?=some e→∃ t,ts[i]?=some t∧aib cf f H e.2=some t
  | [],ts,h=>by cases h; exact ⟨rfl,fun i e he=>by simp at he⟩
  | e::es,ts,h=>by
    simp only [agu] at h
    split at h
    · rename_i t ht
      split at h
      · rename_i ts' hts
        cases h
        obtain ⟨h1,h2⟩:=amT hts
        refine ⟨by simp [h1],fun i x hx=>?_⟩
        cases i with
        | zero=>simp at hx; subst hx; exact ⟨t,rfl,ht⟩
        | succ i=>simpa using h2 i x (by simpa using hx)
      · cases h
    · cases h
theorem OkB.plain {D:Nat→Prop} {l:List AV} {rw_:Bool} {g:Nat} (h:VC QS l=true):OkB D (some (.cells l rw_ g)):=fun v hv=>aeG (PT h v hv) D
theorem anp {P:Program} {cf:bO} (hk:eJ P cf) (hm:cT cf) {f:Nat} {H:Heap} {v:AV} {t:Bool} (h:aib cf f H v=some t) {M:Mp} {D:Nat→Prop} {w:World} (hp:HpOk H) (hr:Rel M D H w) (hv:okv D v) :
    Enters P f∧Calls P f #[iP M v] w fun e w'=>e = .returned (.bool t)∧Rel M D H w'∧Ext M D H w M D H w'∧KeepsWalks w w':=by
  unfold aib at h
  split at h
  · rename_i b off len ext opn
    obtain ⟨x,hg,h1⟩:=jj h
    cases x with
    | mp es=>cases h1
    | dead=>cases h1
    | cells l rw_ g=>
      dsimp only at h1
      split at h1
      · rename_i hpl
        split at h1
        · rename_i u H' hcall
          cases h1
          have hb:D b:=by simpa [okv] using hv
          have hlt:=hr.dom b hb
          have hr1:Rel M (fun c=>c=b) (H.shut true) w:=by
            refine ⟨fun c hc=>by rw [hc]; exact hlt,fun c hc=>?_,fun c d hc hd e=>(e (hc.trans hd.symm)).elim⟩
            rw [hc]
            show eE M _ w (M b) (H.get b)
            have:=hr.blk b hb
            rw [hg] at this ⊢
            exact this.cut (OkB.plain hpl)
          obtain ⟨f',first,cap,hfv,hc⟩:=hk _ _ _ _ _ hcall
          cases hfv
          have hblk:=hr.blk b hb
          rw [hg] at hblk
          have hmono:=hm _ _ _ _ _ (by simp [Heap.shut]) hcall
          obtain ⟨he,hcalls⟩:=hc M _ w ⟨by simp [Heap.shut],fun c hc=>hp.wf c hc⟩ hr1 (by simp [okL,okv])
          refine ⟨he,Calls.mono (by simpa using hcalls) fun e w' hpost=>?_⟩
          obtain ⟨M',D',he',hr',hx',_⟩:=hpost
          have hlow:∀ c,c<H.nx→H'.get c=H.get c:=fun c hc=>hmono.low c hc
          have hag:M' b=M b:=hx'.agree b rfl
          have hfr:∀ c,c<w.heap.size→(wr (H.get b)→(M b).blk≠c)→w'.heap[c]?=w.heap[c]?:=fun c hc hn=>hx'.frame c hc fun d hd hw=>by
            rw [hd] at hw ⊢; exact hn hw
          have hDb':D' b:=hx'.keep b rfl
          have hnew:eE M D w' (M b) (H.get b):=by
            have h2:=hr'.blk b hDb'
            rw [hlow b hlt,hag] at h2
            rw [hg] at h2 ⊢
            have h3:eE M' (fun _=>False) w' (M b) (some (.cells l rw_ g)):=h2.cut (OkB.plain hpl)
            exact h3.keep (fun _ h=>h.elim) (fun _ h=>h.elim) (fun _=>rfl) (gp _)
          have hsame:∀ c,D c→c≠b→ahi (H.get c)→w'.heap[(M c).blk]?=w.heap[(M c).blk]?:=fun c hc hne hl=>
            hfr _ ((hr.blk c hc).lt hl) fun hw=>hr.inj b c hb hc (fun e=>hne e.symm) hw hl
          have hrel:Rel M D H w':=⟨hr.dom,fun c hc=>by
            by_cases e:c=b
            · subst e; exact hnew
            · exact (hr.blk c hc).keep (fun _ h=>h) (fun _ _=>rfl) (hsame c hc e) hx'.size,hr.inj⟩
          refine ⟨by rw [he']; rfl,hrel,?_,hx'.size,fun c o hc ho=>?_⟩
          · have h0:Ext M D H w M D H w:=.refl
            exact { h0 with
              frame:=fun c hc hn=>hfr c hc fun hw=>hn b hb hw
              size:=hx'.size
              os:=hx'.os
              tape:=hx'.tape
              output:=hx'.output }
          · have hclt:c<w.heap.size:=(f8.1 hc).1
            rw [hfr c hclt fun hw e=>?_]
            · exact hc
            · have hrow:=hr.blk b hb
              rw [hg] at hrow hw
              obtain ⟨cs,ty,hcs⟩:=hrow.fz hw
              rw [e,hc] at hcs
              cases hcs
              cases ho
        · cases h1
      · cases h1
  · cases h
end Go.Ai
/- slab.least with 'has it a place that is not taken?': what it answers, plainly. -/
namespace Go.Ai
noncomputable def aa6:List AV→Option (List Bool)
  | []=>some []
  | .bool b::l=>match aa6 l with
    | some r=>some (b::r)
    | none=>none
  | _::_=>none
noncomputable def anyF:List Bool→Bool
  | []=>false
  | b::l=>match b with
    | true=>anyF l
    | false=>true
noncomputable def aca (H:Heap) (v:AV):Option Bool:=match v with
  | .slice b off len ext opn=>match Nat.blt b H.nx&&(Nat.beq off 0&&(Nat.beq ext 0&&(!opn&&Nat.ble len 1000000))),nU H b with
    | true,some l=>match Nat.beq len (qh l),aa6 l with
      | true,some bs=>some (anyF bs)
      | _,_=>none
    | _,_=>none
  | _=>none
noncomputable def adB (H:Heap):List (AV × AV)→Option (List Bool)
  | []=>some []
  | e::es=>match aca H e.2,adB H es with
    | some t,some ts=>some (t::ts)
    | _,_=>none
noncomputable def agf (f:Nat) (args:List AV) (H:Heap):Option AV:=match args with
  | [.map m,.func g [] []]=>match Nat.beq f g,uw H m with
    | true,some es=>match ahY es,adB H es with
      | some zs,some ts=>match amb (am8 zs)&&Nat.ble (qh zs) 1000000 with
        | true=>some (.tuple [.int .i64 (Bp zs ts 0 false).1,.bool (Bp zs ts 0 false).2])
        | false=>none
      | _,_=>none
    | _,_=>none
  | _=>none
noncomputable def Tv (f:Nat) (args:List AV) (H:Heap):ab:=match agf f args H with
  | some v=>.ret v H
  | none=>.err
theorem akY:∀ l:List Bool,anyF l=decide (false∈l)
  | []=>rfl
  | true::l=>by simp [anyF,akY l]
  | false::l=>by simp [anyF]
theorem VZ:∀ {l:List AV} {bs:List Bool},aa6 l=some bs→l=bs.map AV.bool
  | [],_,h=>by cases h; rfl
  | x::l,bs,h=>by
    unfold aa6 at h
    split at h
    · rename_i heq; cases heq
    · rename_i b l' heq
      cases heq
      split at h
      · rename_i r hr
        cases h
        rw [VZ hr]; rfl
      · cases h
    · cases h
theorem akc:∀ bs:List Bool,aa6 (bs.map AV.bool)=some bs
  | []=>rfl
  | b::bs=>by simp [aa6,akc bs]
theorem ans {H:Heap} {v:AV} {t:Bool} (h:aca H v=some t):∃ (b:Nat) (l:List Bool),v = .slice b 0 l.length 0 false∧b<H.nx∧nU H b=some (l.map AV.bool)∧l.length≤1000000∧t=decide (false∈l):=by
  unfold aca at h
  split at h
  · rename_i b off len ext opn
    split at h
    · rename_i l hc hl
      split at h
      · rename_i bs hb hbs
        cases h
        simp only [gl,Bool.not_eq_true'] at hc
        obtain ⟨e0,e1,e2,e3,e4⟩:=hc
        rw [blt_eq,gn] at e0
        have e1:=gw e1
        have e2:=gw e2
        have e5:=gw hb
        rw [mU,VZ hbs,gR] at e5
        subst e1 e2 e3 e5
        exact ⟨b,bs,rfl,e0,by rw [hl,VZ hbs],gf e4,akY bs⟩
      · cases h
    · cases h
  · cases h
theorem openO_of {H:Heap} {b:Nat} {l:List Bool} (h0:b<H.nx) (h:nU H b=some (l.map AV.bool)) (hl:l.length≤1000000):aca H (.slice b 0 l.length 0 false)=some (decide (false∈l)):=by
  unfold aca
  dsimp only
  rw [h,show (Nat.blt b H.nx&&(Nat.beq 0 0&&(Nat.beq 0 0&&(!false&&Nat.ble l.length 1000000))))=true by rw [fW hl,blt_eq,gF h0]; rfl]
  show (match Nat.beq l.length (qh (l.map AV.bool)),aa6 (l.map AV.bool) with
      | true,some bs=>some (anyF bs)
      | _,_=>none)=_
  rw [mU,gR,akc,show Nat.beq l.length l.length=true from Nat.beq_refl _]
  show some (anyF l)=_
  rw [akY]
theorem leastB_G {cf:bO} {f:Nat} {args:List AV} {H H':Heap} {v:AV} (hs:∀ v t,aca H v=some t→aib cf f H v=some t) (h:Tv f args H = .ret v H'):agW cf args H = .ret v H':=by
  have hl:∀ (es:List (AV × AV)) (ts:List Bool),adB H es=some ts→agu cf f H es=some ts:=by
    intro es
    induction es with
    | nil=>intro ts h; exact h
    | cons e es ih=>
      intro ts h
      unfold adB at h
      split at h
      · rename_i t ts' h1 h2
        cases h
        unfold agu
        rw [hs _ _ h1,ih _ h2]
      · cases h
  unfold Tv at h
  split at h
  · rename_i u hu
    cases h
    unfold agW
    have:ako cf args H=some v:=by
      unfold agf at hu
      split at hu
      · rename_i m g
        split at hu
        · rename_i es hb hes
          have:=gw hb
          subst this
          split at hu
          · rename_i zs ts hzs hts
            split at hu
            · rename_i hi
              unfold ako
              dsimp only
              rw [hes]
              dsimp only
              rw [hzs]
              dsimp only
              rw [hi]
              dsimp only
              rw [hl _ _ hts]
              exact hu
            · cases hu
          · cases hu
        · cases hu
      · cases hu
    rw [this]
  · cases h
theorem ang {f:Nat} {args:List AV} {H H':Heap} {v:AV} (h:Tv f args H = .ret v H'):H'=H:=by
  unfold Tv at h
  split at h
  · cases h; rfl
  · cases h
theorem amp {f:Nat} {args:List AV} {H H':Heap} {v:AV} (h:Tv f args H = .ret v H'):eo H H':=by
  rw [ang h]; exact .refl
end Go.Ai
/- The functions that the printed text does not reach into. -/
namespace Go.Proofs.YtlgbmkemfinogaaGreat.Sh
open Go.Ai
abbrev Bw:Nat:=53
abbrev Bi:Nat:=100
abbrev Ep:Nat:=46
noncomputable abbrev dw:List AV→Heap→ab:=Ns
noncomputable abbrev bh:List AV→Heap→ab:=fun vs H=>match D7 89 vs H with
  | .ret v H'=>.ret v H'
  | _=>D7 83 vs H
noncomputable abbrev cU:List AV→Heap→ab:=Tv 47
noncomputable abbrev be:List AV→Heap→ab:=aiq [] (.bool true)
end Go.Proofs.YtlgbmkemfinogaaGreat.Sh
