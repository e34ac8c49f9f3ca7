/- Rows of numbers in memory of their own, that are appended to, inserted into and cut out of; maps of numbers. -/
import Derived.Test.YtnlbfbiogfilfaaGreatZUPlan4ZUCol
import Derived.Test.YtnlbfbiogfilfaaGreatAiInsert
set_option linter.all false
namespace Go.Ai
def ju (l:List Int):List AV:=l.map (.int .i64)
theorem iI (l:List Int):(ju l).length=l.length:=by simp [ju]
def Lst (h:Heap) (v:AV) (l:List Int):Prop:=(v = .nilslice∧l = [])∨∃ b ext rest,v = .slice b 0 l.length ext true∧Own h b (ju l++rest) 1∧rest.length=ext∧0<l.length+ext∧l.length+ext≤1048576
theorem Lst.nil {h:Heap}:Lst h .nilslice []:=.inl ⟨rfl,rfl⟩
theorem Lst.small {h:Heap} {v:AV} {l:List Int} (s:Lst h v l):l.length≤1048576:=by
  rcases s with ⟨_,rfl⟩ | ⟨b,ext,rest,_,_,_,_,h1⟩
  · simp
  · omega
theorem Lst.chg {F:Nat→Prop} {h h':Heap} {v:AV} {l:List Int} (a:Lst h v l) (c:Chg F h h') (hf:∀ b,v.blk=some b→¬ F b):Lst h' v l:=by
  rcases a with a | ⟨b,ext,rest,rfl,o,h1⟩
  · exact .inl a
  · exact .inr ⟨b,ext,rest,rfl,c.own o (hf b rfl),h1⟩
theorem Lst.grow {h h':Heap} {v:AV} {l:List Int} (a:Lst h v l) (g:Grow h h'):Lst h' v l:=a.chg (g.chg fun _=>False) fun _ _ h=>h
theorem Lst.lt {h:Heap} {v:AV} {l:List Int} (a:Lst h v l) {b:Nat} (hb:v.blk=some b):b<h.nx∧h.ro≤b:=by
  rcases a with ⟨rfl,_⟩ | ⟨c,ext,rest,rfl,o,_⟩
  · cases hb
  · cases hb; exact ⟨o.lt,o.ro⟩
theorem Lst.ints {h:Heap} {v:AV} {l:List Int} (a:Lst h v l):Ints h .i64 v l:=by
  refine ⟨by have:=a.small; omega,?_⟩
  rcases a with ⟨rfl,rfl⟩ | ⟨b,ext,rest,rfl,o,h1,h2,h3⟩
  · exact .inl ⟨rfl,rfl⟩
  · refine .inr ⟨b,0,ext,true,rfl,fun _=>⟨_,o.cl,fun i hi=>⟨by simp [ju]; omega,?_⟩⟩⟩
    simp only [Nat.zero_add,Nat.mul_one]
    rw [List.drop_append_of_le_length (by simp [ju]; omega)]
    rw [List.drop_eq_getElem_cons (by simp [ju]; omega)]
    simp [ju,kC hi]
theorem Lst.len {h:Heap} {v:AV} {l:List Int} (a:Lst h v l) (k:Int→CRes):fH v k=k l.length:=a.ints.len k
theorem Lst.of_app {h:Heap} {v:AV} {l:List Int} (a:App h v 1 l.length (ju l)) (hm:l.length≤1048576):Lst h v l:=by
  rcases a with ⟨rfl,h1,_⟩ | ⟨b,rfl,o,h1,h2⟩
  · exact .inl ⟨rfl,List.eq_nil_of_length_eq_zero h1⟩
  · exact .inr ⟨b,0,[],rfl,by simpa using o,rfl,by omega,by omega⟩
theorem aBo {l:List Int} {rest:List AV} {i:Nat} (hi:i<l.length) :
    (zP (ju (l.drop (i+1))) (ju l++rest) i).set (l.length-1) (.int .i64 0)=ju (l.eraseIdx i)++(.int .i64 0::rest):=by
  apply List.ext_getElem?
  intro j
  have hlen:(ju l++rest).length=l.length+rest.length:=by simp [ju]
  have hle:(l.eraseIdx i).length=l.length-1:=List.length_eraseIdx_of_lt hi
  have hov:=ayh (ju (l.drop (i+1))) (ju l++rest) i j (by simp [ju]; omega)
  rw [List.getElem?_set,Xo,hov,hlen,List.getElem?_append (l₁:=ju (l.eraseIdx i))]
  simp only [iI,hle,List.length_drop]
  by_cases h1:j<l.length-1
  · rw [if_neg (by omega),if_pos h1]
    by_cases h2:i≤j
    · rw [if_pos (by omega)]
      simp only [ju,List.getElem?_map,List.getElem?_drop]
      rw [List.getElem?_eraseIdx,if_neg (by omega)]
      congr 2; omega
    · rw [if_neg (by omega),List.getElem?_append,if_pos (by rw [iI]; omega)]
      simp only [ju,List.getElem?_map]
      rw [List.getElem?_eraseIdx,if_pos (by omega)]
  · rw [if_neg h1]
    by_cases h2:l.length-1=j
    · rw [if_pos h2,if_pos (by omega)]
      rw [show j-(l.length-1)=0 by omega]; rfl
    · rw [if_neg h2,if_neg (by omega),List.getElem?_append,if_neg (by rw [iI]; omega),iI]
      rw [show j-(l.length-1)=(j-l.length)+1 by omega,List.getElem?_cons_succ]
theorem az3 {b len ext i:Nat} (hi:i≤len) (h0:0<len+ext):slV (.sl 1) (.slice b 0 len ext true) none (some (.int .i64 (i:Int))) none=some (.slice b 0 i (len+ext-i) true):=by
  have e1:Lv (some (.int .i64 (i:Int))) len (len+ext)=some i:=by
    show Bool.casesOn (motive:=fun _=>Option Nat) (Nat.ble i (len+ext)) none (some i)=_
    rw [Nat.ble_eq_true_of_le (by omega)]
  simp only [slV]
  have e0:Lv none (len+ext) (len+ext)=some (len+ext):=rfl
  have e2:Lv none 0 i=some 0:=rfl
  rw [e0]; dsimp only; rw [e1]; dsimp only; rw [e2]; dsimp only
  rw [if_pos trivial,if_neg (by omega)]; simp
theorem slV_hi {b len ext i:Nat} (hi:i≤len):slV (.sl 1) (.slice b 0 len ext true) (some (.int .i64 (i:Int))) none none=some (if len+ext=i then .send b 0 i else .slice b i (len-i) ext true):=by
  have e1:Lv (some (.int .i64 (i:Int))) 0 len=some i:=by
    show Bool.casesOn (motive:=fun _=>Option Nat) (Nat.ble i len) none (some i)=_
    rw [Nat.ble_eq_true_of_le (by omega)]
  simp only [slV]
  have e0:Lv none (len+ext) (len+ext)=some (len+ext):=rfl
  have e2:Lv none len (len+ext)=some len:=rfl
  rw [e0]; dsimp only; rw [e2]; dsimp only; rw [e1]; dsimp only
  rw [if_pos trivial]
  split<;>simp
theorem slV_mid {b len ext i j:Nat} (hi:i≤j) (hj:j≤len+ext) (hn:i<len+ext):slV (.sl 1) (.slice b 0 len ext true) (some (.int .i64 (i:Int))) (some (.int .i64 (j:Int))) none=some (.slice b i (j-i) (len+ext-j) true):=by
  have e1:Lv (some (.int .i64 (i:Int))) 0 j=some i:=by
    show Bool.casesOn (motive:=fun _=>Option Nat) (Nat.ble i j) none (some i)=_
    rw [Nat.ble_eq_true_of_le (by omega)]
  have e2:Lv (some (.int .i64 (j:Int))) len (len+ext)=some j:=by
    show Bool.casesOn (motive:=fun _=>Option Nat) (Nat.ble j (len+ext)) none (some j)=_
    rw [Nat.ble_eq_true_of_le (by omega)]
  simp only [slV]
  have e0:Lv none (len+ext) (len+ext)=some (len+ext):=rfl
  rw [e0]; dsimp only; rw [e2]; dsimp only; rw [e1]; dsimp only
  rw [if_pos trivial,if_neg (by omega)]; simp
theorem slV_chk {b len ext i j:Nat} (hi:i≤j) (hj:j≤len):∃ r,slV (.sl 1) (.slice b 0 len ext true) (some (.int .i64 (i:Int))) (some (.int .i64 (j:Int))) (some (.int .i64 (len:Int)))=some r:=by
  have e1:Lv (some (.int .i64 (i:Int))) 0 j=some i:=by
    show Bool.casesOn (motive:=fun _=>Option Nat) (Nat.ble i j) none (some i)=_
    rw [Nat.ble_eq_true_of_le (by omega)]
  have e2:Lv (some (.int .i64 (j:Int))) len len=some j:=by
    show Bool.casesOn (motive:=fun _=>Option Nat) (Nat.ble j len) none (some j)=_
    rw [Nat.ble_eq_true_of_le (by omega)]
  have e0:Lv (some (.int .i64 (len:Int))) (len+ext) (len+ext)=some len:=by
    show Bool.casesOn (motive:=fun _=>Option Nat) (Nat.ble len (len+ext)) none (some len)=_
    rw [Nat.ble_eq_true_of_le (by omega)]
  simp only [slV]
  rw [e0]; dsimp only; rw [e2]; dsimp only; rw [e1]; dsimp only
  exact ⟨_,rfl⟩
theorem aoX {sk:SlK} {v r:AV} {lo hi mx:Option AV} (h:slV sk v lo hi mx=some r) (c:AV→CRes):slK sk v lo hi mx c=c r:=by unfold slK; rw [h,sN,pQ]
theorem arS {h:Heap} (hro:h.ro≤h.nx) {len:Nat} {z l:List AV} {parts:List (Nat × Nat × AV)} (hf:∀ k,ap6 parts z k=k l):Run1 (pG h len z parts) fun v h'=>v = .slice h.nx 0 len 0 false∧Own h' h.nx l 0∧Grow h h':=by
  refine ⟨(.slice h.nx 0 len 0 false,h.add (.cells l true 0)),⟨rfl,⟨by simp,by simpa using hro,by rw [Heap.get_add,if_pos rfl]⟩,Grow.add⟩,fun k=>?_⟩
  unfold pG
  rw [hf,uE]; rfl
def Dz (l:List Int) (i:Nat) (x:Int):List Int:=l.take i++x::l.drop i
theorem r_insert {h:Heap} (hro:h.ro≤h.nx) {v:AV} {l:List Int} (hl:Lst h v l) {i vb:Nat} (hi:i≤l.length) {x:Int} (hb:Own h vb [.int .i64 x] 0) (hm:l.length+1≤1048576) :
    Run1 (GF O0 [v,.int .i64 (i:Int),.slice vb 0 1 0 false] h) fun v' h'=>Lst h' v' (Dz l i x)∧v'.blk=some h.nx∧Chg (fun c=>v.blk=some c) h h':=by
  have hlen:(Dz l i x).length=l.length+1:=by simp [Dz]; omega
  have run:∀ {v':AV} {h':Heap},aiF [v,.int .i64 (i:Int),.slice vb 0 1 0 false] h=some (v',h')→∀ k,GF O0 [v,.int .i64 (i:Int),.slice vb 0 1 0 false] h k=k v' h':=by
    intro v' h' e k
    unfold GF O0
    rw [e]
  have hs:sub ([AV.int .i64 x]) 0 1=some [.int .i64 x]:=by rw [oB]; rfl
  rcases hl with ⟨rfl,rfl⟩ | ⟨b,ext,rest,rfl,ow,hr,h0,hm'⟩
  · have i0:i=0:=by simpa using hi
    subst i0
    refine ⟨(.slice h.nx 0 1 0 true,h.add (.cells [.int .i64 x] true 1)),⟨.inr ⟨h.nx,0,[],rfl,⟨by simp,by simpa using hro,by rw [Heap.get_add,if_pos rfl]; rfl⟩,rfl,by simp [Dz],by simp [Dz]⟩,rfl,(Grow.add).chg _⟩,run ?_⟩
    simp only [aiF]
    rw [wh,hb.get]
    dsimp only
    rw [hs]
    dsimp only
    rw [show Nat.beq 1 0=false from rfl]
    dsimp only
    rw [show (Nat.beq 0 0&&Nat.ble 1 TI)=true from rfl]
    dsimp only
    rw [Heap.newK_eq]
  · refine ⟨(.slice h.nx 0 (l.length+1) 0 true,(h.set b .dead).add (.cells (ju (Dz l i x)) true 1)),⟨.inr ⟨h.nx,0,[],by rw [hlen],⟨by simp,by simpa using hro,?_⟩,rfl,by omega,by omega⟩,rfl,⟨by simp,by simp,fun c hc hf=>?_⟩⟩,run ?_⟩
    · show ((h.set b .dead).add _).get h.nx=_
      rw [Heap.get_add,if_pos (by simp)]; simp
    · have hf':b≠c:=fun e=>hf (by rw [e]; rfl)
      show ((h.set b .dead).add _).get c=_
      rw [Heap.get_add,if_neg (by simp; omega),Heap.get_set_other _ hf']
    · have hvb:vb≠b:=by
        rintro rfl
        have:=hb.get.symm.trans ow.get
        simp at this
      have hall:(ju l++rest).length=l.length+ext:=by simp [ju,hr]
      simp only [aiF]
      rw [wh,hb.get]
      dsimp only
      rw [hs]
      dsimp only
      rw [show Nat.beq 1 0=false from rfl]
      dsimp only
      rw [ahS ow]
      have c1:(Nat.beq 1 1&&Nat.ble (0+(l.length+ext)) (mv (ju l++rest))&&Nat.ble i l.length&&Nat.ble (l.length+1) TI&&!Nat.beq vb b)=true:=by
        rw [jC,hall]
        have:Nat.beq vb b=false:=by cases hq:Nat.beq vb b with
          | false=>rfl
          | true=>exact (hvb (Nat.eq_of_beq_eq_true hq)).elim
        rw [this]
        simp only [Bool.and_eq_true]
        exact ⟨⟨⟨⟨rfl,Nat.ble_eq_true_of_le (by omega)⟩,Nat.ble_eq_true_of_le hi⟩,Nat.ble_eq_true_of_le (by unfold TI; omega)⟩,rfl⟩
      rw [c1]
      dsimp only
      have c2:sub (ju l++rest) 0 l.length=some (ju l):=by
        rw [oB,List.drop_zero,if_pos (by omega),List.take_append_of_le_length (by rw [iI]; omega),List.take_of_length_le (by rw [iI]; omega)]
      rw [c2]
      dsimp only
      rw [aoZ,if_pos (by rw [iI]; exact hi),Heap.setK_eq,jz,jz,Heap.newK_eq,ar5]
      have:(ju l).take i++([AV.int .i64 x]++(ju l).drop i)=ju (Dz l i x):=by simp [ju,Dz,List.map_take,List.map_drop]
      rw [this]
      simp
structure MapI (h:Heap) (b:Nat) (q:IntKind) (kv:List (Int × Int)):Prop where
  lt:b<h.nx
  ro:h.ro≤b
  get:h.get b=some (.mp (kv.map fun e=>(.int .i64 e.1,.int q e.2)))
theorem MapI.chg {F:Nat→Prop} {h h':Heap} {b:Nat} {q:IntKind} {kv:List (Int × Int)} (a:MapI h b q kv) (c:Chg F h h') (hf:¬ F b):MapI h' b q kv:=
  ⟨Nat.lt_of_lt_of_le a.lt c.nx,by rw [c.ro]; exact a.ro,(c.old b a.lt hf).trans a.get⟩
theorem MapI.ne {h:Heap} {b c:Nat} {q:IntKind} {kv:List (Int × Int)} {l:List AV} {g:Nat} (a:MapI h b q kv) (o:Own h c l g):b≠c:=by
  rintro rfl
  have:=a.get.symm.trans o.get
  cases this
def Wl (k x:Int):List (Int × Int)→List (Int × Int)
  | []=>[(k,x)]
  | e::t=>if k=e.1 then (k,x)::t else e::Wl k x t
theorem aBa (q:IntKind) (k x:Int):∀ kv:List (Int × Int),putF (.cell .int) (.int .i64 k) (.int q x) (kv.map fun e=>(AV.int .i64 e.1,AV.int q e.2))=some ((Wl k x kv).map fun e=>(AV.int .i64 e.1,AV.int q e.2)):=by
  intro kv
  induction kv with
  | nil=>rfl
  | cons e t ih=>
    show (Option.casesOn (oQ (.cell .int) (.int .i64 k) (.int .i64 e.1)) none fun b=>Bool.casesOn b (Option.casesOn (putF (.cell .int) (.int .i64 k) (.int q x) (t.map fun e=>(AV.int .i64 e.1,AV.int q e.2))) none fun t'=>some ((AV.int .i64 e.1,AV.int q e.2)::t')) (some ((.int .i64 k,.int q x)::t.map fun e=>(AV.int .i64 e.1,AV.int q e.2))):Option _)=_
    have hk:oQ (.cell .int) (.int .i64 k) (.int .i64 e.1)=some (k==e.1):=by
      show some (eqF k e.1)=_
      rw [zj]
    rw [hk,ih]
    dsimp only
    by_cases h:k=e.1
    · have:(k==e.1)=true:=by simp [h]
      rw [this]
      simp [Wl,h]
    · have:(k==e.1)=false:=by simp [h]
      rw [this]
      simp [Wl,h]
theorem ax1 {h:Heap} {b:Nat} {q:IntKind} {kv:List (Int × Int)} (a:MapI h b q kv) (k x:Int) :
    Run0 (aiP h (.cell .int) (.map b) (.int .i64 k) (.int q x)) fun h'=>MapI h' b q (Wl k x kv)∧Chg (· = b) h h':=by
  refine ⟨h.set b (.mp ((Wl k x kv).map fun e=>(AV.int .i64 e.1,AV.int q e.2))),⟨⟨by simpa using a.lt,by simpa using a.ro,Heap.get_set_same ..⟩,⟨by simp,by simp,fun c _ hc=>Heap.get_set_other _ (fun e=>hc e.symm) _⟩⟩,fun c=>?_⟩
  unfold aiP
  rw [avD]
  have h1:Nat.blt b h.ro=false:=by rw [blt_eq]; simp; exact a.ro
  rw [h1,yH]
  have h2:vc h b=some (kv.map fun e=>(AV.int .i64 e.1,AV.int q e.2)):=by unfold vc; rw [a.get]
  have h3:oQ (.cell .int) (.int .i64 k) (.int .i64 k)=some true:=by
    show some (eqF k k)=_
    rw [zj]; simp
  rw [h2,sN,h3,sN,aBa,sN,O6]; rfl
structure BudZ where
  n:Int
  free:Nat→List Int
  taken:List (Int × Int)
def upd {α:Type} (f:Nat→α) (k:Nat) (x:α):Nat→α:=fun j=>if j=k then x else f j
theorem dC {α:Type} (f:Nat→α) (k:Nat) (x:α):upd f k x k=x:=by simp [upd]
theorem dh {α:Type} (f:Nat→α) {k j:Nat} (x:α) (h:j≠k):upd f k x j=f j:=by simp [upd,h]
def ahz (n:Int) (v:Nat→AV) (m:Nat):List AV:=[.bool true,.int .i64 n,v 0,v 1,v 2,v 3,v 4,v 5,v 6,.map m]
theorem aiB (n:Int) (v:Nat→AV) (m:Nat) {k:Nat} (hk:k<7):(ahz n v m)[2+k]?=some (v k):=by
  match k,hk with
  | 0,_=>rfl | 1,_=>rfl | 2,_=>rfl | 3,_=>rfl | 4,_=>rfl | 5,_=>rfl | 6,_=>rfl
theorem bud_set (n:Int) (v:Nat→AV) (m:Nat) (x:AV) {k:Nat} (hk:k<7):(ahz n v m).set (2+k) x=ahz n (upd v k x) m:=by
  match k,hk with
  | 0,_=>rfl | 1,_=>rfl | 2,_=>rfl | 3,_=>rfl | 4,_=>rfl | 5,_=>rfl | 6,_=>rfl
theorem bud_sub (n:Int) (v:Nat→AV) (m:Nat):sub (ahz n v m) 2 7=some [v 0,v 1,v 2,v 3,v 4,v 5,v 6]:=by rw [oB]; rfl
theorem bud_0 (n:Int) (v:Nat→AV) (m:Nat):(ahz n v m)[0]?=some (.bool true):=rfl
theorem bud_9 (n:Int) (v:Nat→AV) (m:Nat):(ahz n v m)[9]?=some (.map m):=rfl
structure BudIn (h:Heap) (p m:Nat) (v:Nat→AV) (s:BudZ):Prop where
  own:Own h p (ahz s.n v m) 0
  map:MapI h m .i64 s.taken
  lst:∀ k,k<7→Lst h (v k) (s.free k)
  dis:∀ j k,j<7→k<7→j≠k→∀ c,(v j).blk=some c→(v k).blk≠some c
def fpB (p m:Nat) (v:Nat→AV) (c:Nat):Prop:=c=p∨c=m∨∃ k,k<7∧(v k).blk=some c
theorem Lst.ne {h:Heap} {v:AV} {l:List Int} (s:Lst h v l) {p:Nat} {cs:List AV} (o:Own h p cs 0) {b:Nat} (hb:v.blk=some b):b≠p:=by
  rintro rfl
  rcases s with ⟨rfl,_⟩ | ⟨c,ext,rest,rfl,ow,_⟩
  · cases hb
  · cases hb
    have:=o.get.symm.trans ow.get
    simp at this
theorem Lst.neM {h:Heap} {v:AV} {l:List Int} (s:Lst h v l) {m:Nat} {q:IntKind} {kv:List (Int × Int)} (o:MapI h m q kv) {b:Nat} (hb:v.blk=some b):b≠m:=by
  rintro rfl
  rcases s with ⟨rfl,_⟩ | ⟨c,ext,rest,rfl,ow,_⟩
  · cases hb
  · cases hb
    exact o.ne ow rfl
theorem BudIn.lt {h:Heap} {p m:Nat} {v:Nat→AV} {s:BudZ} (b:BudIn h p m v s) {c:Nat} (hc:fpB p m v c):c<h.nx:=by
  rcases hc with rfl | rfl | ⟨k,hk,e⟩
  · exact b.own.lt
  · exact b.map.lt
  · exact ((b.lst k hk).lt e).1
theorem BudIn.chg {F:Nat→Prop} {h h':Heap} {p m:Nat} {v:Nat→AV} {s:BudZ} (b:BudIn h p m v s) (c:Chg F h h') (hf:∀ c,fpB p m v c→¬ F c):BudIn h' p m v s:=
  ⟨c.own b.own (hf p (.inl rfl)),b.map.chg c (hf m (.inr (.inl rfl))),fun k hk=>(b.lst k hk).chg c fun c' e=>hf c' (.inr (.inr ⟨k,hk,e⟩)),b.dis⟩
theorem BudIn.grow {h h':Heap} {p m:Nat} {v:Nat→AV} {s:BudZ} (b:BudIn h p m v s) (g:Grow h h'):BudIn h' p m v s:=b.chg (g.chg fun _=>False) fun _ _ h=>h
theorem BudIn.row {h h' h'':Heap} {p m:Nat} {v:Nat→AV} {s:BudZ} (b:BudIn h p m v s) {k:Nat} (hk:k<7) {x:AV} {l:List Int}
    (c:Chg (fun c=>(v k).blk=some c) h h') (hx:Lst h' x l) (hb:∀ c,x.blk=some c→(v k).blk=some c∨h.nx≤c) (hp:Put h' p ((ahz s.n v m).set (2+k) x) 0 h'') :
    BudIn h'' p m (upd v k x) { s with free:=upd s.free k l }∧Chg (fpB p m v) h h'':=by
  have hpk:∀ c,(v k).blk=some c→c≠p:=fun c e=>(b.lst k hk).ne b.own e
  have hmk:∀ c,(v k).blk=some c→c≠m:=fun c e=>(b.lst k hk).neM b.map e
  have hmp:m≠p:=b.map.ne b.own
  have hm':MapI h' m .i64 s.taken:=b.map.chg c fun e=>hmk m e rfl
  refine ⟨⟨?_,hm'.chg hp.chg hmp,fun j hj=>?_,fun i j hi hj hij d e=>?_⟩,(c.mono fun d _ e=>.inr (.inr ⟨k,hk,e⟩)).trans (hp.chg.mono fun d _ e=>.inl e)⟩
  · have:=hp.own
    rw [bud_set _ _ _ _ hk] at this
    exact this
  · by_cases e:j=k
    · subst e
      show Lst h'' (upd v j x j) (upd s.free j l j)
      rw [dC,dC]
      refine hx.chg hp.chg fun d e1 e2=>?_
      rcases hb d e1 with e3 | e3
      · exact hpk d e3 e2
      · have:=b.own.lt; omega
    · show Lst h'' (upd v k x j) (upd s.free k l j)
      rw [dh _ _ e,dh _ _ e]
      exact ((b.lst j hj).chg c fun d e1 e2=>b.dis j k hj hk e d e1 e2).chg hp.chg fun d e1 e2=>(b.lst j hj).ne b.own e1 e2
  · by_cases ei:i=k
    · subst ei
      rw [dC] at e
      rw [dh _ _ (fun e=>hij e.symm)]
      rcases hb d e with e3 | e3
      · exact b.dis i j hi hj hij d e3
      · intro e4
        have:=((b.lst j hj).lt e4).1
        omega
    · rw [dh _ _ ei] at e
      by_cases ej:j=k
      · subst ej
        rw [dC]
        intro e4
        rcases hb d e4 with e3 | e3
        · exact b.dis i j hi hj hij d e e3
        · have:=((b.lst i hi).lt e).1
          omega
      · rw [dh _ _ ej]
        exact b.dis i j hi hj hij d e
theorem KO {n p o k:Nat} (hk:k<n) (c:AV→CRes):Fw 1 n (.ptr p o) (k:Int) c=c (.ptr p (o+k)):=by
  unfold Fw
  rw [IK,ama]
  have h1:Nat.blt k n=true:=by rw [blt_eq]; simpa using hk
  rw [h1,xN,gw]
  simp
theorem aiJ {h:Heap} (hro:h.ro≤h.nx) {v:AV} {l:List Int} (hl:Lst h v l) {vb:Nat} {x:Int} (hb:h.cl vb [.int .i64 x]) (hm:l.length+1≤1048576) {e:Nat} {o:Bool} :
    Run1 (mQ h 1 v (.slice vb 0 1 e o)) fun v' h'=>Lst h' v' (l++[x])∧(∀ c,v'.blk=some c→v.blk=some c∨h.nx≤c)∧Chg (fun c=>v.blk=some c) h h':=by
  have hs:sub ([AV.int .i64 x]) 0 (1*1)=some [.int .i64 x]:=by rw [oB]; rfl
  have fin:App h v 1 l.length (ju l)→Run1 (mQ h 1 v (.slice vb 0 1 e o)) fun v' h'=>Lst h' v' (l++[x])∧(∀ c,v'.blk=some c→v.blk=some c∨h.nx≤c)∧Chg (fun c=>v.blk=some c) h h':=by
    intro ha
    refine (agS hro ha (by omega) hb hs hm).mono fun v' h' ⟨h1,h2,h3⟩=>⟨?_,fun c hc=>.inr (by rw [h2] at hc; cases hc; exact Nat.le_refl _),h3⟩
    refine Lst.of_app ?_ (by simpa using hm)
    have e1:ju (l++[x])=ju l++[.int .i64 x]:=by simp [ju]
    rw [e1]
    simpa using h1
  rcases hl with ⟨rfl,rfl⟩ | ⟨b,ext,rest,rfl,ow,hr,h0,hm'⟩
  · exact fin .nil
  · by_cases h1:ext=0
    · subst h1
      have:rest = []:=List.eq_nil_of_length_eq_zero hr
      subst this
      exact fin (.inr ⟨b,rfl,by simpa using ow,by simp [ju],by omega⟩)
    · obtain ⟨r0,rest,rfl⟩:∃ r0 t,rest=r0::t:=by
        cases rest with
        | nil=>simp at hr; omega
        | cons a t=>exact ⟨a,t,rfl⟩
      have hall:(ju l++r0::rest).length=l.length+ext:=by simp [ju, ← hr]
      have p:=al6 ow (ju (l++[x])++rest)
      have hset:(ju l++r0::rest).set l.length (.int .i64 x)=ju (l++[x])++rest:=by
        rw [List.set_append,if_neg (by rw [iI]; omega),iI,Nat.sub_self]
        simp [ju]
      refine ⟨(.slice b 0 (l.length+1) (ext-1) true,h.set b (.cells (ju (l++[x])++rest) true 1)),⟨.inr ⟨b,ext-1,rest,by simp,p.own,by simp at hr; omega,by simp only [List.length_append,List.length_singleton]; omega,by simp only [List.length_append,List.length_singleton]; omega⟩,fun c hc=>.inl hc,p.chg.mono fun c _ e=>by rw [e]; rfl⟩,fun k=>?_⟩
      unfold mQ
      have:sB h 1 (.slice b 0 l.length ext true) (.slice vb 0 1 e o)=some (.slice b 0 (l.length+1) (ext-1) true,h.set b (.cells (ju (l++[x])++rest) true 1)):=by
        simp only [sB,lenF]
        rw [if_neg (by omega),if_pos (by omega)]
        have hsh:VB h 1 1 (.slice vb 0 1 e o)=some [.int .i64 x]:=by
          show (Option.casesOn (ol h vb) none fun l=>sub l 0 (1*1):Option (List AV))=_
          rw [abx hb]; exact hs
        rw [hsh]
        dsimp only
        rw [ahS ow]
        have h3:Nat.ble (0+(l.length+1)*1) (mv (ju l++r0::rest))=true:=by rw [jC,hall]; exact Nat.ble_eq_true_of_le (by omega)
        rw [h3]
        dsimp only
        rw [qQ,Heap.setK_eq,Nat.zero_add,Nat.mul_one]
        show some (_,h.set b (.cells ((ju l++r0::rest).set l.length (.int .i64 x)) true 1))=_
        rw [hset]
      rw [this,Ih,pQ,yq]; rfl
end Go.Ai
