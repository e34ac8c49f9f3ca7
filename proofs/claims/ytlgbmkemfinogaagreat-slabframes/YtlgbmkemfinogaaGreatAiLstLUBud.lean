/- Rows of numbers in memory of their own, that are appended to, inserted into and cut out of; maps of numbers. -/
import Derived.Test.YtlgbmkemfinogaaGreatLUPlan5LUCol
import Derived.Test.YtlgbmkemfinogaaGreatAiInsertMemoS
set_option linter.all false
namespace Go.Ai
def cH (l:List Int):List AV:=l.map (.int .i64)
theorem nW (l:List Int):(cH l).length=l.length:=by simp [cH]
def Lst (h:Heap) (v:AV) (l:List Int):Prop:=(v = .nilslice∧l = [])∨∃ b ext rest,v = .slice b 0 l.length ext true∧Own h b (cH l++rest) 1∧rest.length=ext∧0<l.length+ext∧l.length+ext≤1048576
theorem Lst.nil {h:Heap}:Lst h .nilslice []:=.inl ⟨rfl,rfl⟩
theorem Lst.small {h:Heap} {v:AV} {l:List Int} (s:Lst h v l):l.length≤1048576:=by
  rcases s with ⟨_,rfl⟩ | ⟨b,ext,rest,_,_,_,_,h1⟩
  · simp
  · omega
theorem Lst.chg {F:Nat→Prop} {h h':Heap} {v:AV} {l:List Int} (a:Lst h v l) (c:Chg F h h') (hf:∀ b,v.blk=some b→¬ F b):Lst h' v l:=by
  rcases a with a | ⟨b,ext,rest,rfl,o,h1⟩
  · exact .inl a
  · exact .inr ⟨b,ext,rest,rfl,c.own o (hf b rfl),h1⟩
theorem Lst.grow {h h':Heap} {v:AV} {l:List Int} (a:Lst h v l) (g:bo h h'):Lst h' v l:=a.chg (g.chg fun _=>False) fun _ _ h=>h
theorem Lst.lt {h:Heap} {v:AV} {l:List Int} (a:Lst h v l) {b:Nat} (hb:v.blk=some b):b<h.nx∧h.ro≤b:=by
  rcases a with ⟨rfl,_⟩ | ⟨c,ext,rest,rfl,o,_⟩
  · cases hb
  · cases hb; exact ⟨o.lt,o.ro⟩
theorem Lst.ints {h:Heap} {v:AV} {l:List Int} (a:Lst h v l):dh h .i64 v l:=by
  refine ⟨by have:=a.small; omega,?_⟩
  rcases a with ⟨rfl,rfl⟩ | ⟨b,ext,rest,rfl,o,h1,h2,h3⟩
  · exact .inl ⟨rfl,rfl⟩
  · refine .inr ⟨b,0,ext,true,rfl,fun _=>⟨_,o.cl,fun i hi=>⟨by simp [cH]; omega,?_⟩⟩⟩
    simp only [Nat.zero_add,Nat.mul_one]
    rw [List.drop_append_of_le_length (by simp [cH]; omega)]
    rw [gx (by simp [cH]; omega)]
    simp [cH,nQ hi]
theorem Lst.len {h:Heap} {v:AV} {l:List Int} (a:Lst h v l) (k:Int→ab):lz v k=k l.length:=a.ints.len k
theorem Lst.of_app {h:Heap} {v:AV} {l:List Int} (a:App h v 1 l.length (cH l)) (hm:l.length≤1048576):Lst h v l:=by
  rcases a with ⟨rfl,h1,_⟩ | ⟨b,rfl,o,h1,h2⟩
  · exact .inl ⟨rfl,gh h1⟩
  · exact .inr ⟨b,0,[],rfl,by simpa using o,rfl,by omega,by omega⟩
theorem apN {l:List Int} {rest:List AV} {i:Nat} (hi:i<l.length) :
    (Aq (cH (l.drop (i+1))) (cH l++rest) i).set (l.length-1) (.int .i64 0)=cH (l.eraseIdx i)++(.int .i64 0::rest):=by
  apply List.ext_getElem?
  intro j
  have hlen:(cH l++rest).length=l.length+rest.length:=by simp [cH]
  have hle:(l.eraseIdx i).length=l.length-1:=List.length_eraseIdx_of_lt hi
  have hov:=amK (cH (l.drop (i+1))) (cH l++rest) i j (by simp [cH]; omega)
  rw [List.getElem?_set,P3,hov,hlen,List.getElem?_append (l₁:=cH (l.eraseIdx i))]
  simp only [nW,hle,List.length_drop]
  by_cases h1:j<l.length-1
  · rw [if_neg (by omega),if_pos h1]
    by_cases h2:i≤j
    · rw [if_pos (by omega)]
      simp only [cH,gV,List.getElem?_drop]
      rw [List.getElem?_eraseIdx,if_neg (by omega)]
      congr 2; omega
    · rw [if_neg (by omega),List.getElem?_append,if_pos (by rw [nW]; omega)]
      simp only [cH,gV]
      rw [List.getElem?_eraseIdx,if_pos (by omega)]
  · rw [if_neg h1]
    by_cases h2:l.length-1=j
    · rw [if_pos h2,if_pos (by omega)]
      rw [show j-(l.length-1)=0 by omega]; rfl
    · rw [if_neg h2,if_neg (by omega),List.getElem?_append,if_neg (by rw [nW]; omega),nW]
      rw [show j-(l.length-1)=(j-l.length)+1 by omega,List.getElem?_cons_succ]
theorem aoJ {b len ext i:Nat} (hi:i≤len) (h0:0<len+ext):slV (.sl 1) (.slice b 0 len ext true) none (some (.int .i64 (i:Int))) none=some (.slice b 0 i (len+ext-i) true):=by
  have e1:HP (some (.int .i64 (i:Int))) len (len+ext)=some i:=by
    show Bool.casesOn (motive:=fun _=>Option Nat) (Nat.ble i (len+ext)) none (some i)=_
    rw [fW (by omega)]
  simp only [slV]
  have e0:HP none (len+ext) (len+ext)=some (len+ext):=rfl
  have e2:HP none 0 i=some 0:=rfl
  rw [e0]; dsimp only; rw [e1]; dsimp only; rw [e2]; dsimp only
  rw [if_pos trivial,if_neg (by omega)]; simp
theorem slV_hi {b len ext i:Nat} (hi:i≤len):slV (.sl 1) (.slice b 0 len ext true) (some (.int .i64 (i:Int))) none none=some (if len+ext=i then .send b 0 i else .slice b i (len-i) ext true):=by
  have e1:HP (some (.int .i64 (i:Int))) 0 len=some i:=by
    show Bool.casesOn (motive:=fun _=>Option Nat) (Nat.ble i len) none (some i)=_
    rw [fW (by omega)]
  simp only [slV]
  have e0:HP none (len+ext) (len+ext)=some (len+ext):=rfl
  have e2:HP none len (len+ext)=some len:=rfl
  rw [e0]; dsimp only; rw [e2]; dsimp only; rw [e1]; dsimp only
  rw [if_pos trivial]
  split<;>simp
theorem slV_mid {b len ext i j:Nat} (hi:i≤j) (hj:j≤len+ext) (hn:i<len+ext):slV (.sl 1) (.slice b 0 len ext true) (some (.int .i64 (i:Int))) (some (.int .i64 (j:Int))) none=some (.slice b i (j-i) (len+ext-j) true):=by
  have e1:HP (some (.int .i64 (i:Int))) 0 j=some i:=by
    show Bool.casesOn (motive:=fun _=>Option Nat) (Nat.ble i j) none (some i)=_
    rw [fW (by omega)]
  have e2:HP (some (.int .i64 (j:Int))) len (len+ext)=some j:=by
    show Bool.casesOn (motive:=fun _=>Option Nat) (Nat.ble j (len+ext)) none (some j)=_
    rw [fW (by omega)]
  simp only [slV]
  have e0:HP none (len+ext) (len+ext)=some (len+ext):=rfl
  rw [e0]; dsimp only; rw [e2]; dsimp only; rw [e1]; dsimp only
  rw [if_pos trivial,if_neg (by omega)]; simp
theorem slV_chk {b len ext i j:Nat} (hi:i≤j) (hj:j≤len):∃ r,slV (.sl 1) (.slice b 0 len ext true) (some (.int .i64 (i:Int))) (some (.int .i64 (j:Int))) (some (.int .i64 (len:Int)))=some r:=by
  have e1:HP (some (.int .i64 (i:Int))) 0 j=some i:=by
    show Bool.casesOn (motive:=fun _=>Option Nat) (Nat.ble i j) none (some i)=_
    rw [fW (by omega)]
  have e2:HP (some (.int .i64 (j:Int))) len len=some j:=by
    show Bool.casesOn (motive:=fun _=>Option Nat) (Nat.ble j len) none (some j)=_
    rw [fW (by omega)]
  have e0:HP (some (.int .i64 (len:Int))) (len+ext) (len+ext)=some len:=by
    show Bool.casesOn (motive:=fun _=>Option Nat) (Nat.ble len (len+ext)) none (some len)=_
    rw [fW (by omega)]
  simp only [slV]
  rw [e0]; dsimp only; rw [e2]; dsimp only; rw [e1]; dsimp only
  exact ⟨_,rfl⟩
theorem aeJ {sk:SlK} {v r:AV} {lo hi mx:Option AV} (h:slV sk v lo hi mx=some r) (c:AV→ab):slK sk v lo hi mx c=c r:=by unfold slK; rw [h,pX,tf]
theorem aat {h:Heap} (hro:h.ro≤h.nx) {len:Nat} {z l:List AV} {parts:List (Nat × Nat × AV)} (hf:∀ k,afb parts z k=k l):aJ (nS h len z parts) fun v h'=>v = .slice h.nx 0 len 0 false∧Own h' h.nx l 0∧bo h h':=by
  refine ⟨(.slice h.nx 0 len 0 false,h.add (.cells l true 0)),⟨rfl,⟨by simp,by simpa using hro,by rw [Heap.fQ,if_pos rfl]⟩,bo.add⟩,fun k=>?_⟩
  unfold nS
  rw [hf,AJ]; rfl
def BK (l:List Int) (i:Nat) (x:Int):List Int:=l.take i++x::l.drop i
theorem r_insert {h:Heap} (hro:h.ro≤h.nx) {v:AV} {l:List Int} (hl:Lst h v l) {i vb:Nat} (hi:i≤l.length) {x:Int} (hb:Own h vb [.int .i64 x] 0) (hm:l.length+1≤1048576) :
    aJ (qY Ns [v,.int .i64 (i:Int),.slice vb 0 1 0 false] h) fun v' h'=>Lst h' v' (BK l i x)∧v'.blk=some h.nx∧Chg (fun c=>v.blk=some c) h h':=by
  have hlen:(BK l i x).length=l.length+1:=by simp [BK]; omega
  have run:∀ {v':AV} {h':Heap},Yr [v,.int .i64 (i:Int),.slice vb 0 1 0 false] h=some (v',h')→∀ k,qY Ns [v,.int .i64 (i:Int),.slice vb 0 1 0 false] h k=k v' h':=by
    intro v' h' e k
    unfold qY Ns
    rw [e]
  have hs:sub ([AV.int .i64 x]) 0 1=some [.int .i64 x]:=by rw [pN]; rfl
  rcases hl with ⟨rfl,rfl⟩ | ⟨b,ext,rest,rfl,ow,hr,h0,hm'⟩
  · have i0:i=0:=by simpa using hi
    subst i0
    refine ⟨(.slice h.nx 0 1 0 true,h.add (.cells [.int .i64 x] true 1)),⟨.inr ⟨h.nx,0,[],rfl,⟨by simp,by simpa using hro,by rw [Heap.fQ,if_pos rfl]; rfl⟩,rfl,by simp [BK],by simp [BK]⟩,rfl,(bo.add).chg _⟩,run ?_⟩
    simp only [Yr]
    rw [KQ,hb.get]
    dsimp only
    rw [hs]
    dsimp only
    rw [show Nat.beq 1 0=false from rfl]
    dsimp only
    rw [show (Nat.beq 0 0&&Nat.ble 1 I8)=true from rfl]
    dsimp only
    rw [Heap.fP]
  · refine ⟨(.slice h.nx 0 (l.length+1) 0 true,(h.set b .dead).add (.cells (cH (BK l i x)) true 1)),⟨.inr ⟨h.nx,0,[],by rw [hlen],⟨by simp,by simpa using hro,?_⟩,rfl,by omega,by omega⟩,rfl,⟨by simp,by simp,fun c hc hf=>?_⟩⟩,run ?_⟩
    · show ((h.set b .dead).add _).get h.nx=_
      rw [Heap.fQ,if_pos (by simp)]; simp
    · have hf':b≠c:=fun e=>hf (by rw [e]; rfl)
      show ((h.set b .dead).add _).get c=_
      rw [Heap.fQ,if_neg (by simp; omega),Heap.fM _ hf']
    · have hvb:vb≠b:=by
        rintro rfl
        have:=hb.get.symm.trans ow.get
        simp at this
      have hall:(cH l++rest).length=l.length+ext:=by simp [cH,hr]
      simp only [Yr]
      rw [KQ,hb.get]
      dsimp only
      rw [hs]
      dsimp only
      rw [show Nat.beq 1 0=false from rfl]
      dsimp only
      rw [XZ ow]
      have c1:(Nat.beq 1 1&&Nat.ble (0+(l.length+ext)) (qh (cH l++rest))&&Nat.ble i l.length&&Nat.ble (l.length+1) I8&&!Nat.beq vb b)=true:=by
        rw [mU,hall]
        have:Nat.beq vb b=false:=by cases hq:Nat.beq vb b with
          | false=>rfl
          | true=>exact (hvb (gw hq)).elim
        rw [this]
        simp only [gl]
        exact ⟨⟨⟨⟨rfl,fW (by omega)⟩,fW hi⟩,fW (by unfold I8; omega)⟩,rfl⟩
      rw [c1]
      dsimp only
      have c2:sub (cH l++rest) 0 l.length=some (cH l):=by
        rw [pN,List.drop_zero,if_pos (by omega),List.take_append_of_le_length (by rw [nW]; omega),List.take_of_length_le (by rw [nW]; omega)]
      rw [c2]
      dsimp only
      rw [aeF,if_pos (by rw [nW]; exact hi),Heap.fO,ou,ou,Heap.fP,aig]
      have:(cH l).take i++([AV.int .i64 x]++(cH l).drop i)=cH (BK l i x):=by simp [cH,BK,List.map_take,List.map_drop]
      rw [this]
      simp
structure ft (h:Heap) (b:Nat) (q:IntKind) (kv:List (Int × Int)):Prop where
  lt:b<h.nx
  ro:h.ro≤b
  get:h.get b=some (.mp (kv.map fun e=>(.int .i64 e.1,.int q e.2)))
theorem ft.chg {F:Nat→Prop} {h h':Heap} {b:Nat} {q:IntKind} {kv:List (Int × Int)} (a:ft h b q kv) (c:Chg F h h') (hf:¬ F b):ft h' b q kv:=
  ⟨gm a.lt c.nx,by rw [c.ro]; exact a.ro,(c.old b a.lt hf).trans a.get⟩
theorem ft.ne {h:Heap} {b c:Nat} {q:IntKind} {kv:List (Int × Int)} {l:List AV} {g:Nat} (a:ft h b q kv) (o:Own h c l g):b≠c:=by
  rintro rfl
  have:=a.get.symm.trans o.get
  cases this
def LJ (k x:Int):List (Int × Int)→List (Int × Int)
  | []=>[(k,x)]
  | e::t=>if k=e.1 then (k,x)::t else e::LJ k x t
theorem apo (q:IntKind) (k x:Int):∀ kv:List (Int × Int),putF (.cell .int) (.int .i64 k) (.int q x) (kv.map fun e=>(AV.int .i64 e.1,AV.int q e.2))=some ((LJ k x kv).map fun e=>(AV.int .i64 e.1,AV.int q e.2)):=by
  intro kv
  induction kv with
  | nil=>rfl
  | cons e t ih=>
    show (Option.casesOn (qM (.cell .int) (.int .i64 k) (.int .i64 e.1)) none fun b=>Bool.casesOn b (Option.casesOn (putF (.cell .int) (.int .i64 k) (.int q x) (t.map fun e=>(AV.int .i64 e.1,AV.int q e.2))) none fun t'=>some ((AV.int .i64 e.1,AV.int q e.2)::t')) (some ((.int .i64 k,.int q x)::t.map fun e=>(AV.int .i64 e.1,AV.int q e.2))):Option _)=_
    have hk:qM (.cell .int) (.int .i64 k) (.int .i64 e.1)=some (k==e.1):=by
      show some (eqF k e.1)=_
      rw [wy]
    rw [hk,ih]
    dsimp only
    by_cases h:k=e.1
    · have:(k==e.1)=true:=by simp [h]
      rw [this]
      simp [LJ,h]
    · have:(k==e.1)=false:=by simp [h]
      rw [this]
      simp [LJ,h]
theorem amG {h:Heap} {b:Nat} {q:IntKind} {kv:List (Int × Int)} (a:ft h b q kv) (k x:Int) :
    dz (PV h (.cell .int) (.map b) (.int .i64 k) (.int q x)) fun h'=>ft h' b q (LJ k x kv)∧Chg (· = b) h h':=by
  refine ⟨h.set b (.mp ((LJ k x kv).map fun e=>(AV.int .i64 e.1,AV.int q e.2))),⟨⟨by simpa using a.lt,by simpa using a.ro,Heap.fN ..⟩,⟨by simp,by simp,fun c _ hc=>Heap.fM _ (fun e=>hc e.symm) _⟩⟩,fun c=>?_⟩
  unfold PV
  rw [aef]
  have h1:Nat.blt b h.ro=false:=by rw [blt_eq]; simp; exact a.ro
  rw [h1,B6]
  have h2:uw h b=some (kv.map fun e=>(AV.int .i64 e.1,AV.int q e.2)):=by unfold uw; rw [a.get]
  have h3:qM (.cell .int) (.int .i64 k) (.int .i64 k)=some true:=by
    show some (eqF k k)=_
    rw [wy]; simp
  rw [h2,pX,h3,pX,apo,pX,P0]; rfl
structure cw where
  n:Int
  free:Nat→List Int
  fG:List (Int × Int)
def upd {α:Type} (f:Nat→α) (k:Nat) (x:α):Nat→α:=fun j=>if j=k then x else f j
theorem jY {α:Type} (f:Nat→α) (k:Nat) (x:α):upd f k x k=x:=by simp [upd]
theorem jL {α:Type} (f:Nat→α) {k j:Nat} (x:α) (h:j≠k):upd f k x j=f j:=by simp [upd,h]
def VS (n:Int) (v:Nat→AV) (m:Nat):List AV:=[.bool true,.int .i64 n,v 0,v 1,v 2,v 3,v 4,v 5,v 6,.map m]
theorem Yj (n:Int) (v:Nat→AV) (m:Nat) {k:Nat} (hk:k<7):(VS n v m)[2+k]?=some (v k):=by
  match k,hk with
  | 0,_=>rfl | 1,_=>rfl | 2,_=>rfl | 3,_=>rfl | 4,_=>rfl | 5,_=>rfl | 6,_=>rfl
theorem bud_set (n:Int) (v:Nat→AV) (m:Nat) (x:AV) {k:Nat} (hk:k<7):(VS n v m).set (2+k) x=VS n (upd v k x) m:=by
  match k,hk with
  | 0,_=>rfl | 1,_=>rfl | 2,_=>rfl | 3,_=>rfl | 4,_=>rfl | 5,_=>rfl | 6,_=>rfl
theorem bud_sub (n:Int) (v:Nat→AV) (m:Nat):sub (VS n v m) 2 7=some [v 0,v 1,v 2,v 3,v 4,v 5,v 6]:=by rw [pN]; rfl
theorem bud_0 (n:Int) (v:Nat→AV) (m:Nat):(VS n v m)[0]?=some (.bool true):=rfl
theorem bud_9 (n:Int) (v:Nat→AV) (m:Nat):(VS n v m)[9]?=some (.map m):=rfl
structure dk (h:Heap) (p m:Nat) (v:Nat→AV) (s:cw):Prop where
  own:Own h p (VS s.n v m) 0
  map:ft h m .i64 s.fG
  lst:∀ k,k<7→Lst h (v k) (s.free k)
  dis:∀ j k,j<7→k<7→j≠k→∀ c,(v j).blk=some c→(v k).blk≠some c
def fpB (p m:Nat) (v:Nat→AV) (c:Nat):Prop:=c=p∨c=m∨∃ k,k<7∧(v k).blk=some c
theorem Lst.ne {h:Heap} {v:AV} {l:List Int} (s:Lst h v l) {p:Nat} {cs:List AV} (o:Own h p cs 0) {b:Nat} (hb:v.blk=some b):b≠p:=by
  rintro rfl
  rcases s with ⟨rfl,_⟩ | ⟨c,ext,rest,rfl,ow,_⟩
  · cases hb
  · cases hb
    have:=o.get.symm.trans ow.get
    simp at this
theorem Lst.neM {h:Heap} {v:AV} {l:List Int} (s:Lst h v l) {m:Nat} {q:IntKind} {kv:List (Int × Int)} (o:ft h m q kv) {b:Nat} (hb:v.blk=some b):b≠m:=by
  rintro rfl
  rcases s with ⟨rfl,_⟩ | ⟨c,ext,rest,rfl,ow,_⟩
  · cases hb
  · cases hb
    exact o.ne ow rfl
theorem dk.lt {h:Heap} {p m:Nat} {v:Nat→AV} {s:cw} (b:dk h p m v s) {c:Nat} (hc:fpB p m v c):c<h.nx:=by
  rcases hc with rfl | rfl | ⟨k,hk,e⟩
  · exact b.own.lt
  · exact b.map.lt
  · exact ((b.lst k hk).lt e).1
theorem dk.chg {F:Nat→Prop} {h h':Heap} {p m:Nat} {v:Nat→AV} {s:cw} (b:dk h p m v s) (c:Chg F h h') (hf:∀ c,fpB p m v c→¬ F c):dk h' p m v s:=
  ⟨c.own b.own (hf p (.inl rfl)),b.map.chg c (hf m (.inr (.inl rfl))),fun k hk=>(b.lst k hk).chg c fun c' e=>hf c' (.inr (.inr ⟨k,hk,e⟩)),b.dis⟩
theorem dk.grow {h h':Heap} {p m:Nat} {v:Nat→AV} {s:cw} (b:dk h p m v s) (g:bo h h'):dk h' p m v s:=b.chg (g.chg fun _=>False) fun _ _ h=>h
theorem dk.row {h h' h'':Heap} {p m:Nat} {v:Nat→AV} {s:cw} (b:dk h p m v s) {k:Nat} (hk:k<7) {x:AV} {l:List Int}
    (c:Chg (fun c=>(v k).blk=some c) h h') (hx:Lst h' x l) (hb:∀ c,x.blk=some c→(v k).blk=some c∨h.nx≤c) (hp:Put h' p ((VS s.n v m).set (2+k) x) 0 h'') :
    dk h'' p m (upd v k x) { s with free:=upd s.free k l }∧Chg (fpB p m v) h h'':=by
  have hpk:∀ c,(v k).blk=some c→c≠p:=fun c e=>(b.lst k hk).ne b.own e
  have hmk:∀ c,(v k).blk=some c→c≠m:=fun c e=>(b.lst k hk).neM b.map e
  have hmp:m≠p:=b.map.ne b.own
  have hm':ft h' m .i64 s.fG:=b.map.chg c fun e=>hmk m e rfl
  refine ⟨⟨?_,hm'.chg hp.chg hmp,fun j hj=>?_,fun i j hi hj hij d e=>?_⟩,(c.mono fun d _ e=>.inr (.inr ⟨k,hk,e⟩)).trans (hp.chg.mono fun d _ e=>.inl e)⟩
  · have:=hp.own
    rw [bud_set _ _ _ _ hk] at this
    exact this
  · by_cases e:j=k
    · subst e
      show Lst h'' (upd v j x j) (upd s.free j l j)
      rw [jY,jY]
      refine hx.chg hp.chg fun d e1 e2=>?_
      rcases hb d e1 with e3 | e3
      · exact hpk d e3 e2
      · have:=b.own.lt; omega
    · show Lst h'' (upd v k x j) (upd s.free k l j)
      rw [jL _ _ e,jL _ _ e]
      exact ((b.lst j hj).chg c fun d e1 e2=>b.dis j k hj hk e d e1 e2).chg hp.chg fun d e1 e2=>(b.lst j hj).ne b.own e1 e2
  · by_cases ei:i=k
    · subst ei
      rw [jY] at e
      rw [jL _ _ (fun e=>hij e.symm)]
      rcases hb d e with e3 | e3
      · exact b.dis i j hi hj hij d e3
      · intro e4
        have:=((b.lst j hj).lt e4).1
        omega
    · rw [jL _ _ ei] at e
      by_cases ej:j=k
      · subst ej
        rw [jY]
        intro e4
        rcases hb d e4 with e3 | e3
        · exact b.dis i j hi hj hij d e e3
        · have:=((b.lst i hi).lt e).1
          omega
      · rw [jL _ _ ej]
        exact b.dis i j hi hj hij d e
theorem DC {n p o k:Nat} (hk:k<n) (c:AV→ab):FY 1 n (.ptr p o) (k:Int) c=c (.ptr p (o+k)):=by
  unfold FY
  rw [FS,NL]
  have h1:Nat.blt k n=true:=by rw [blt_eq]; simpa using hk
  rw [h1,tO,nd]
  simp
theorem aee {h:Heap} (hro:h.ro≤h.nx) {v:AV} {l:List Int} (hl:Lst h v l) {vb:Nat} {x:Int} (hb:h.cl vb [.int .i64 x]) (hm:l.length+1≤1048576) {e:Nat} {o:Bool} :
    aJ (px h 1 v (.slice vb 0 1 e o)) fun v' h'=>Lst h' v' (l++[x])∧(∀ c,v'.blk=some c→v.blk=some c∨h.nx≤c)∧Chg (fun c=>v.blk=some c) h h':=by
  have hs:sub ([AV.int .i64 x]) 0 (1*1)=some [.int .i64 x]:=by rw [pN]; rfl
  have fin:App h v 1 l.length (cH l)→aJ (px h 1 v (.slice vb 0 1 e o)) fun v' h'=>Lst h' v' (l++[x])∧(∀ c,v'.blk=some c→v.blk=some c∨h.nx≤c)∧Chg (fun c=>v.blk=some c) h h':=by
    intro ha
    refine (SU hro ha (by omega) hb hs hm).mono fun v' h' ⟨h1,h2,h3⟩=>⟨?_,fun c hc=>.inr (by rw [h2] at hc; cases hc; exact gp _),h3⟩
    refine Lst.of_app ?_ (by simpa using hm)
    have e1:cH (l++[x])=cH l++[.int .i64 x]:=by simp [cH]
    rw [e1]
    simpa using h1
  rcases hl with ⟨rfl,rfl⟩ | ⟨b,ext,rest,rfl,ow,hr,h0,hm'⟩
  · exact fin .nil
  · by_cases h1:ext=0
    · subst h1
      have:rest = []:=gh hr
      subst this
      exact fin (.inr ⟨b,rfl,by simpa using ow,by simp [cH],by omega⟩)
    · obtain ⟨r0,rest,rfl⟩:∃ r0 t,rest=r0::t:=by
        cases rest with
        | nil=>simp at hr; omega
        | cons a t=>exact ⟨a,t,rfl⟩
      have hall:(cH l++r0::rest).length=l.length+ext:=by simp [cH, ← hr]
      have p:=acx ow (cH (l++[x])++rest)
      have hset:(cH l++r0::rest).set l.length (.int .i64 x)=cH (l++[x])++rest:=by
        rw [List.set_append,if_neg (by rw [nW]; omega),nW,Nat.sub_self]
        simp [cH]
      refine ⟨(.slice b 0 (l.length+1) (ext-1) true,h.set b (.cells (cH (l++[x])++rest) true 1)),⟨.inr ⟨b,ext-1,rest,by simp,p.own,by simp at hr; omega,by simp only [gQ,List.length_singleton]; omega,by simp only [gQ,List.length_singleton]; omega⟩,fun c hc=>.inl hc,p.chg.mono fun c _ e=>by rw [e]; rfl⟩,fun k=>?_⟩
      unfold px
      have:tq h 1 (.slice b 0 l.length ext true) (.slice vb 0 1 e o)=some (.slice b 0 (l.length+1) (ext-1) true,h.set b (.cells (cH (l++[x])++rest) true 1)):=by
        simp only [tq,lenF]
        rw [if_neg (by omega),if_pos (by omega)]
        have hsh:LX h 1 1 (.slice vb 0 1 e o)=some [.int .i64 x]:=by
          show (Option.casesOn (nU h vb) none fun l=>sub l 0 (1*1):Option (List AV))=_
          rw [IR hb]; exact hs
        rw [hsh]
        dsimp only
        rw [XZ ow]
        have h3:Nat.ble (0+(l.length+1)*1) (qh (cH l++r0::rest))=true:=by rw [mU,hall]; exact fW (by omega)
        rw [h3]
        dsimp only
        rw [uQ,Heap.fO,Nat.zero_add,Nat.mul_one]
        show some (_,h.set b (.cells ((cH l++r0::rest).set l.length (.int .i64 x)) true 1))=_
        rw [hset]
      rw [this,Cy,tf,xK]; rfl
end Go.Ai
/- Buddies, by the code. -/
namespace Go.Proofs.YtlgbmkemfinogaaGreat.Sh
open Go.Ai
theorem al8 {n:Nat} {h:Heap} {v:AV} {l:List Int} (hl:Lst h v l) {i:Nat} (hi:i<l.length) :
    aJ (bC n v (i:Int) ((i+1:Nat):Int) h) fun v' h'=>Lst h' v' (l.eraseIdx i)∧v'.blk=v.blk∧Chg (fun c=>v.blk=some c) h h':=by
  rcases hl with ⟨rfl,rfl⟩ | ⟨b,ext,rest,rfl,ow,hr,h0,hm⟩
  · simp at hi
  unfold bC uY qV
  obtain ⟨r,hr1⟩:=slV_chk (b:=b) (len:=l.length) (ext:=ext) (i:=i) (j:=i+1) (by omega) (by omega)
  have e1:((i:Int)==((i+1:Nat):Int))=false:=by rw [gK]; omega
  have hle:(l.eraseIdx i).length=l.length-1:=List.length_eraseIdx_of_lt hi
  have hcl:(cH l++rest).length=l.length+ext:=by simp [cH,hr]
  simp only [au,aeJ hr1,e1,aeJ (aoJ (b:=b) (len:=l.length) (ext:=ext) (i:=i) (by omega) h0),aeJ (slV_hi (b:=b) (len:=l.length) (ext:=ext) (i:=i+1) (by omega))]
  have key:∃ h1,Own h1 b (Aq (cH (l.drop (i+1))) (cH l++rest) i) 1∧Chg (fun c=>(AV.slice b 0 l.length ext true).blk=some c) h h1∧∀ c,px h 1 (.slice b 0 i (l.length+ext-i) true) (if l.length+ext=i+1 then .send b 0 (i+1) else .slice b (i+1) (l.length-(i+1)) ext true) c=c (.slice b 0 (l.length-1) (ext+1) true) h1:=by
    by_cases hlast:l.length=i+1
    · refine ⟨h,?_,⟨gp _,rfl,fun _ _ _=>rfl⟩,fun c=>?_⟩
      · have:l.drop (i+1) = []:=List.drop_eq_nil_of_le (by omega)
        rw [this]; exact ow
      · unfold px
        have:tq h 1 (.slice b 0 i (l.length+ext-i) true) (if l.length+ext=i+1 then .send b 0 (i+1) else .slice b (i+1) (l.length-(i+1)) ext true)=some (.slice b 0 (l.length-1) (ext+1) true,h):=by
          have:(AV.slice b 0 i (l.length+ext-i) true) = .slice b 0 (l.length-1) (ext+1) true:=by congr 1<;>omega
          rw [this]
          split
          · rfl
          · rw [show l.length-(i+1)=0 by omega]; rfl
        rw [this,Cy,tf,xK]
    · have p:=acx ow (Aq (cH (l.drop (i+1))) (cH l++rest) i)
      refine ⟨_,p.own,p.chg.mono fun c _ e=>by rw [e]; rfl,fun c=>?_⟩
      rw [if_neg (by omega)]
      unfold px
      have hsh:LX h 1 (l.length-(i+1)) (.slice b (i+1) (l.length-(i+1)) ext true)=some (cH (l.drop (i+1))):=by
        show (Option.casesOn (nU h b) none fun l'=>sub l' (i+1) ((l.length-(i+1))*1):Option (List AV))=_
        rw [Lf ow]
        show sub (cH l++rest) (i+1) ((l.length-(i+1))*1)=_
        rw [pN,if_pos (by rw [List.length_drop,hcl]; omega)]
        congr 1
        rw [List.drop_append_of_le_length (by rw [nW]; omega),List.take_append_of_le_length (by rw [List.length_drop,nW]; omega)]
        rw [List.take_of_length_le (by rw [List.length_drop,nW]; omega)]
        simp [cH,List.map_drop]
      have:tq h 1 (.slice b 0 i (l.length+ext-i) true) (.slice b (i+1) (l.length-(i+1)) ext true)=some (.slice b 0 (l.length-1) (ext+1) true,h.set b (.cells (Aq (cH (l.drop (i+1))) (cH l++rest) i) true 1)):=by
        simp only [tq,lenF]
        rw [if_neg (by omega),if_pos (by omega),hsh]
        dsimp only
        rw [XZ ow]
        have h3:Nat.ble (0+(i+(l.length-(i+1)))*1) (qh (cH l++rest))=true:=by rw [mU,hcl]; exact fW (by omega)
        rw [h3]
        dsimp only
        rw [uQ,Heap.fO,Nat.zero_add,Nat.mul_one]
        have:(AV.slice b 0 (i+(l.length-(i+1))) (l.length+ext-i-(l.length-(i+1))) true) = .slice b 0 (l.length-1) (ext+1) true:=by congr 1<;>omega
        rw [this]
      rw [this,Cy,tf,xK]
  obtain ⟨h1,ow1,c1,ek⟩:=key
  have e2:slV (.sl 1) (.slice b 0 (l.length-1) (ext+1) true) (some (.int .i64 ((l.length-1:Nat):Int))) (some (.int .i64 (l.length:Int))) none=some (.slice b (l.length-1) 1 ext true):=by
    rw [slV_mid (by omega) (by omega) (by omega)]
    congr 2<;>omega
  simp only [au,ek,aeJ e2]
  have p:=acx ow1 (cH (l.eraseIdx i)++(.int .i64 0::rest))
  have e3:∀ c,akt h1 [.int .i64 0] (.slice b (l.length-1) 1 ext true) c=c (h1.set b (.cells (cH (l.eraseIdx i)++(.int .i64 0::rest)) true 1)):=by
    intro c
    unfold akt
    have:Yb h1 [.int .i64 0] (.slice b (l.length-1) 1 ext true)=some (.undef,h1.set b (.cells (cH (l.eraseIdx i)++(.int .i64 0::rest)) true 1)):=by
      simp only [Yb]
      rw [if_neg (by omega),XZ ow1]
      have h3:Nat.ble (l.length-1+1*qh [AV.int .i64 0]) (qh (Aq (cH (l.drop (i+1))) (cH l++rest) i))=true:=by
        rw [mU,mU,P3,hcl]; exact fW (by simp; omega)
      rw [h3]
      dsimp only
      rw [uQ,Heap.fO]
      show some (AV.undef,h1.set b (.cells ((Aq (cH (l.drop (i+1))) (cH l++rest) i).set (l.length-1) (.int .i64 0)) true 1))=_
      rw [apN hi]
    rw [this,Cy]
  simp only [au,e3]
  refine mQ ⟨.inr ⟨b,ext+1,.int .i64 0::rest,?_,p.own,by simp [hr],by omega,by omega⟩,rfl,c1.trans (p.chg.mono fun c _ e=>by rw [e]; rfl)⟩
  rw [hle]
theorem aly {p m:Nat} {v v':Nat→AV} {h:Heap} (hv:∀ k,k<7→∀ c,(v' k).blk=some c→(v k).blk=some c∨h.nx≤c) {c:Nat} (hc:fpB p m v' c):fpB p m v c∨h.nx≤c:=by
  rcases hc with e | e | ⟨k,hk,e⟩
  · exact .inl (.inl e)
  · exact .inl (.inr (.inl e))
  · rcases hv k hk c e with e | e
    · exact .inl (.inr (.inr ⟨k,hk,e⟩))
    · exact .inr e
theorem v_put {n:Nat} {h:Heap} (hro:h.ro≤h.nx) {p m:Nat} {v:Nat→AV} {s:cw} (b:dk h p m v s) {k:Nat} (hk:k<7) (hn:(s.free k).length<n) (hm:(s.free k).length+1≤1048576) (x:Int) :
    dz (bR n (.ptr p 0) x (k:Int) h) fun h'=>∃ y i,aaX (s.free k) x i∧dk h' p m (upd v k y) { s with free:=upd s.free k (BK (s.free k) i x) }∧(∀ c,y.blk=some c→h.nx≤c)∧Chg (fpB p m v) h h':=by
  unfold bR FF yS
  simp only [au,DC hk,iR b.own.cl,Yj _ _ _ hk]
  refine dY.bind (v_BS (b.lst k hk).ints (by have:=(b.lst k hk).small; omega) hn x) ?_
  rintro _ _ _ ⟨rfl,i,rfl,hi,_⟩
  simp only [au,DC hk,iR b.own.cl,Yj _ _ _ hk]
  refine aJ.bind (aat hro (fun k=>by rfl)) ?_
  rintro _ h2 ⟨rfl,o2,g2⟩
  refine aJ.bind (r_insert (g2.le hro) ((b.lst k hk).grow g2) hi.1 o2 hm) ?_
  rintro y h3 ⟨l3,b3,c3⟩
  have n2:=g2.nx
  have o3:Own h3 p (VS s.n v m) 0:=c3.own (b.own.grow g2) fun e=>(b.lst k hk).ne b.own e rfl
  refine dz.bind (wd o3 (by show 2+k<10; omega) (by rcases l3 with ⟨rfl,_⟩ | ⟨d,e,r,rfl,_⟩<;>rfl)) ?_
  intro h4 p4
  have c13:=(g2.chg (fun c=>(v k).blk=some c)).trans c3
  obtain ⟨q1,q2⟩:=b.row hk c13 l3 (fun c e=>.inr (by rw [b3] at e; cases e; exact n2)) p4
  exact ret0 ⟨y,i,hi,q1,fun c e=>by rw [b3] at e; cases e; exact n2,q2⟩
theorem ac8 (b o:Nat) (c:Bool→ab):Tt (.nil .ptr) (.ptr b o) .nilptr c=c false:=rfl
structure BudRd (h:Heap) (p m:Nat) (v:Nat→AV) (s:cw):Prop where
  cl:h.cl p (VS s.n v m)
  len:∀ k,k<7→∀ K,lz (v k) K=K (s.free k).length
  small:∀ k,k<7→(s.free k).length≤1048576
theorem _root_.Go.Ai.dk.rd {h:Heap} {p m:Nat} {v:Nat→AV} {s:cw} (b:dk h p m v s):BudRd h p m v s:=⟨b.own.cl,fun k hk=>(b.lst k hk).len,fun k hk=>(b.lst k hk).small⟩
theorem BudRd.shut {h:Heap} {p m:Nat} {v:Nat→AV} {s:cw} (b:BudRd h p m v s):BudRd (h.shut true) p m v s:=⟨b.cl,b.len,b.small⟩
theorem anh {n:Nat} {h:Heap} {p m:Nat} {v:Nat→AV} {s:cw} (b:BudRd h p m v s) (k:Bool→Heap→ab):bV n (.ptr p 0) h k=k false h:=by
  unfold bV DQ xi rA
  simp only [au,ac8,Bool.xor_false,iR b.cl,bud_0,Bool.not_true]
def lR (s:cw):Nat→Nat
  | 0=>0
  | i+1=>lR s i+(s.free i).length*2^i
theorem al7 {s:cw} (hs:∀ k,k<7→(s.free k).length≤1048576):∀ i,i≤7→lR s i≤1048576*2^i
  | 0,_=>by simp [lR]
  | i+1,hi=>by
    have h1:=al7 hs i (by omega)
    have h2:=Nat.mul_le_mul_right (2^i) (hs i (by omega))
    rw [lR,Nat.pow_succ]
    omega
theorem v_Free_1 {n:Nat} {h:Heap} {p m:Nat} {v:Nat→AV} {s:cw} (b:BudRd h p m v s) (f1):∀ (q i:Nat),i≤7→7-i<q→
    aJ (fun k=>rI n f1 k q (lR s i) (.agg [v 0,v 1,v 2,v 3,v 4,v 5,v 6]) i h) fun r h'=>r=lR s 7∧h'=h:=by
  have hs:=b.small
  intro q
  induction q with
  | zero=>omega
  | succ q ih=>
    intro i hi hq
    simp only [Vv]
    unfold ry vc
    refine aR.ifB (fun e=>?_) fun e=>?_
    · simp at e
      have hv:[v 0,v 1,v 2,v 3,v 4,v 5,v 6][i]'(by simpa using (by omega:i<7))=v i:=by
        match i,(show i<7 by omega) with
        | 0,_=>rfl | 1,_=>rfl | 2,_=>rfl | 3,_=>rfl | 4,_=>rfl | 5,_=>rfl | 6,_=>rfl
      have hp:2^i≤2^6:=Nat.pow_le_pow_right (by omega) (by omega)
      have hp7:2^i*2≤2^7:=by rw [← Nat.pow_succ]; exact Nat.pow_le_pow_right (by omega) (by omega)
      have h1:=al7 hs i (by omega)
      have h2:=Nat.mul_le_mul (hs i (by omega)) hp
      have h3:=Nat.mul_le_mul_left 1048576 hp
      have e1:IntKind.i64.wrap (YO .i64 ((s.free i).length:Int) ((i:Int)).toNat)=(((s.free i).length*2^i:Nat):Int):=by
        have:YO .i64 ((s.free i).length:Int) ((i:Int)).toNat=(((s.free i).length*2^i:Nat):Int):=by
          unfold YO
          rw [gy,show min i IntKind.i64.bits=i by show min i 64=i; omega]
          simp
        rw [this,mP (by omega) (by omega)]
      have e2:IntKind.i64.wrap ((lR s i:Int)+(((s.free i).length*2^i:Nat):Int))=((lR s (i+1):Nat):Int):=by
        rw [mP (by omega) (by omega),lR]; omega
      simp only [au,aoF (l:=[v 0,v 1,v 2,v 3,v 4,v 5,v 6]) (n:=7) (i:=i) rfl (by omega),hv,b.len i (by omega),ND (gd i),e1,e2,kP (show i≤9223372036854775806 by omega)]
      exact ih (i+1) (by omega) (by omega)
    · simp at e
      have:i=7:=by omega
      subst this
      exact mQ ⟨rfl,rfl⟩
theorem anJ {n:Nat} (hn:10<n) {h:Heap} {p m:Nat} {v:Nat→AV} {s:cw} (b:BudRd h p m v s):aJ (bT n (.ptr p 0) h) fun r h'=>r=lR s 7∧h'=h:=by
  unfold bT DJ xd
  simp only [au,anh b,iR b.cl,bud_sub]
  exact v_Free_1 b _ n 0 (by omega) (by omega)
def uv (s:cw) (o k kk:Nat) (at_:Int) (rest:List Int):cw:={ s with free:=fun j=>if j=k then rest else if kk≤j∧j<k then [at_+2^j] else s.free j }
theorem apv {i:Nat} {x:Int} (h:aaX [] x i):BK [] i x = [x]:=by
  have:i=0:=by have:=h.1; simpa using this
  subst this; rfl
theorem Yz {j:Nat} (hj:j<7):IntKind.i64.wrap (YO .i64 1 ((j:Int)).toNat)=(2:Int)^j∧(2:Int)^j≤64∧1≤(2:Int)^j:=by
  match j,hj with
  | 0,_=>decide | 1,_=>decide | 2,_=>decide | 3,_=>decide | 4,_=>decide | 5,_=>decide | 6,_=>decide
theorem v_Take_1 {n:Nat} (hn:10<n) {p m o k:Nat} {s:cw} {at_:Int} {rest:List Int} (ha:0≤at_∧at_≤100000) (hk:k<7) (hemp:∀ j,o≤j→j<k→s.free j = []) (f1 f2) :
    ∀ (q kk:Nat) (h:Heap) (v:Nat→AV),h.ro≤h.nx→o≤kk→kk≤k→kk-o<q→dk h p m v (uv s o k kk at_ rest)→
    dY (fun K=>rB n f1 f2 (bR n) K q (.ptr p 0) (o:Int) (kk:Int) at_ h) fun r e h'=>r=at_∧e=0∧∃ v',dk h' p m v' { uv s o k o at_ rest with fG:=LJ at_ o s.fG }∧
      (∀ j,j<7→∀ c,(v' j).blk=some c→(v j).blk=some c∨h.nx≤c)∧Chg (fpB p m v) h h':=by
  intro q
  induction q with
  | zero=>omega
  | succ q ih=>
    intro kk h v hro h1 h2 h3 b
    simp only [VA]
    unfold rK vq
    refine aR.ifB (fun e=>?_) fun e=>?_
    · simp at e
      have hw:IntKind.i64.wrap ((kk:Int)-1)=((kk-1:Nat):Int):=by rw [mP (by omega) (by omega)]; omega
      obtain ⟨p1,p2,p3⟩:=Yz (show kk-1<7 by omega)
      have p4:IntKind.i64.wrap (at_+(2:Int)^(kk-1))=at_+(2:Int)^(kk-1):=mP (by omega) (by omega)
      simp only [au,hw,ND (gd (kk-1)),p1,p4]
      have hfr:(uv s o k kk at_ rest).free (kk-1) = []:=by
        simp only [uv]
        rw [if_neg (by omega),if_neg (by omega)]
        exact hemp _ (by omega) (by omega)
      refine dz.bind (v_put hro b (k:=kk-1) (by omega) (by rw [hfr]; simp; omega) (by rw [hfr]; simp) (at_+2^(kk-1))) ?_
      rintro h4 ⟨y,i,hi,b4,hy,c4⟩
      rw [hfr] at hi
      rw [hfr,apv hi] at b4
      have hst:({ uv s o k kk at_ rest with free:=upd (uv s o k kk at_ rest).free (kk-1) [at_+2^(kk-1)] }:cw)=uv s o k (kk-1) at_ rest:=by
        simp only [uv,cw.mk.injEq,true_and,and_true]
        funext j
        by_cases ej:j=kk-1
        · subst ej
          rw [jY,if_neg (by omega),if_pos (by omega)]
        · rw [jL _ _ ej]
          by_cases e1:j=k
          · rw [if_pos e1,if_pos e1]
          · rw [if_neg e1,if_neg e1]
            by_cases e2:kk≤j∧j<k
            · rw [if_pos e2,if_pos (by omega)]
            · rw [if_neg e2,if_neg (by omega)]
      rw [hst] at b4
      refine aR.mono (ih (kk-1) h4 (upd v (kk-1) y) (c4.le hro) (by omega) (by omega) (by omega) b4) ?_
      rintro ⟨r,e',h'⟩ ⟨q1,q2,v',q3,q4,q5⟩
      have hsub:∀ j,j<7→∀ c,(upd v (kk-1) y j).blk=some c→(v j).blk=some c∨h.nx≤c:=by
        intro j hj c e1
        by_cases ej:j=kk-1
        · subst ej; rw [jY] at e1; exact .inr (hy c e1)
        · rw [jL _ _ ej] at e1; exact .inl e1
      refine ⟨q1,q2,v',q3,fun j hj c e1=>?_,?_⟩
      · rcases q4 j hj c e1 with e2 | e2
        · exact hsub j hj c e2
        · exact .inr (gu c4.nx e2)
      · refine ⟨gu c4.nx q5.nx,q5.ro.trans c4.ro,fun c hc hf=>?_⟩
        rw [q5.old c (gm hc c4.nx) fun e1=>?_,c4.old c hc hf]
        rcases aly hsub e1 with e2 | e2
        · exact hf e2
        · omega
    · simp at e
      have:kk=o:=by omega
      subst this
      simp only [au,iR b.own.cl,bud_9]
      refine dz.bind (amG b.map at_ (kk:Int)) ?_
      rintro h4 ⟨m4,c4⟩
      refine K6 ⟨rfl,rfl,v,⟨c4.own b.own (fun e=>b.map.ne b.own e.symm),m4,fun j hj=>(b.lst j hj).chg c4 fun c e1=>(b.lst j hj).neM b.map e1,b.dis⟩,fun j hj c e1=>.inl e1,c4.mono fun c _ e1=>.inr (.inl e1)⟩
def Takes (h:Heap) (p m:Nat) (v:Nat→AV) (s:cw) (o:Nat) (r e:Int) (h':Heap):Prop:=
  (r=0∧e=90∧h'=h∧∀ j,o≤j→j<7→s.free j = [])∨
  (e=0∧∃ k rest v',o≤k∧k<7∧s.free k=r::rest∧(∀ j,o≤j→j<k→s.free j = [])∧dk h' p m v' { uv s o k o r rest with fG:=LJ r o s.fG }∧
    (∀ j,j<7→∀ c,(v' j).blk=some c→(v j).blk=some c∨h.nx≤c)∧Chg (fpB p m v) h h')
def ahW (s:cw):Prop:=∀ k,k<7→∀ x∈s.free k,0≤x∧x≤100000
theorem v_Take_3 {n:Nat} (hn:10<n) {h:Heap} (hro:h.ro≤h.nx) {p m o:Nat} {v:Nat→AV} {s:cw} (hs:ahW s) (b:dk h p m v s) (f1) :
    ∀ (q k:Nat),o≤k→k≤7→7-k<q→(∀ j,o≤j→j<k→s.free j = [])→
    dY (fun K=>rq n f1 (bC n) (bR n) K q (.ptr p 0) (o:Int) (k:Int) h) (Takes h p m v s o):=by
  intro q
  induction q with
  | zero=>omega
  | succ q ih=>
    intro k h1 h2 h3 hemp
    simp only [Vz]
    unfold rC rJ vh
    refine aR.ifB (fun e=>?_) fun e=>?_
    · simp at e
      have hk:k<7:=by omega
      have e6:decide ((6:Int)<(k:Int))=false:=by simp; omega
      simp only [au,DC hk,iR b.own.cl,Yj _ _ _ hk,(b.lst k hk).len,e6,kP (show k≤9223372036854775806 by omega)]
      refine aR.ifB (fun e1=>?_) fun e1=>?_
      · simp at e1
        refine ih (k+1) (by omega) (by omega) (by omega) fun j hj hj'=>?_
        by_cases ej:j=k
        · subst ej; exact e1
        · exact hemp j hj (by omega)
      · simp at e1
        obtain ⟨x,rest,hx⟩:∃ x rest,s.free k=x::rest:=by
          cases hq:s.free k with
          | nil=>exact (e1 hq).elim
          | cons x rest=>exact ⟨x,rest,rfl⟩
        have hpos:0<(s.free k).length:=by rw [hx]; simp
        have hnz:nz (s.free k) 0=x:=by rw [hx]; rfl
        have hel:=(b.lst k hk).ints.elN (i:=0) hpos
        rw [hnz] at hel
        have hel':∀ K,EE .i64 1 h (v k) 0 K=K (elP (v k) 1 0) x:=hel
        simp only [au,hel']
        refine aJ.bind (al8 (n:=n) (b.lst k hk) (i:=0) hpos) ?_
        rintro y h4 ⟨l4,b4,c4⟩
        have o4:Own h4 p (VS s.n v m) 0:=c4.own b.own fun e=>(b.lst k hk).ne b.own e rfl
        refine dz.bind (wd o4 (by show 2+k<10; omega) (by rcases l4 with ⟨rfl,_⟩ | ⟨d,e,r,rfl,_⟩<;>rfl)) ?_
        intro h5 p5
        obtain ⟨q1,q2⟩:=b.row hk c4 l4 (fun c e=>.inl (by rw [b4] at e; exact e)) p5
        have hd:(s.free k).eraseIdx 0=rest:=by rw [hx]; rfl
        rw [hd] at q1
        have hst:({ s with free:=upd s.free k rest }:cw)=uv s o k k x rest:=by
          simp only [uv,cw.mk.injEq,true_and,and_true]
          funext j
          by_cases ej:j=k
          · subst ej; rw [jY,if_pos rfl]
          · rw [jL _ _ ej,if_neg ej,if_neg (by omega)]
        rw [hst] at q1
        have hxs:=hs k hk x (by rw [hx]; simp)
        refine aR.mono (v_Take_1 hn (o:=o) (k:=k) hxs hk hemp f1 (bC n) n k h5 _ (q2.le hro) h1 (gp _) (by omega) q1) ?_
        rintro ⟨r,e',h'⟩ ⟨r1,r2,v',r3,r4,r5⟩
        have hsub:∀ j,j<7→∀ c,(upd v k y j).blk=some c→(v j).blk=some c∨h.nx≤c:=by
          intro j hj c e1
          by_cases ej:j=k
          · subst ej; rw [jY,b4] at e1; exact .inl e1
          · rw [jL _ _ ej] at e1; exact .inl e1
        dsimp only at r1 r2
        subst r1 r2
        refine .inr ⟨rfl,k,rest,v',h1,hk,hx,hemp,r3,fun j hj c e1=>?_,?_⟩
        · rcases r4 j hj c e1 with e2 | e2
          · exact hsub j hj c e2
          · exact .inr (gu q2.nx e2)
        · refine ⟨gu q2.nx r5.nx,r5.ro.trans q2.ro,fun c hc hf=>?_⟩
          rw [r5.old c (gm hc q2.nx) fun e1=>?_,q2.old c hc hf]
          rcases aly hsub e1 with e2 | e2
          · exact hf e2
          · omega
    · simp at e
      have:k=7:=by omega
      subst this
      simp only [au]
      exact K6 (.inl ⟨rfl,rfl,rfl,hemp⟩)
theorem v_Take {n:Nat} (hn:10<n) {h:Heap} (hro:h.ro≤h.nx) {p m o:Nat} {v:Nat→AV} {s:cw} (hs:ahW s) (b:dk h p m v s) (ho:o<7):dY (dc n (.ptr p 0) (o:Int) h) (Takes h p m v s o):=by
  unfold dc DF w5 rH
  have e1:decide ((o:Int)<0)=false:=by simp
  have e2:decide ((6:Int)<(o:Int))=false:=by simp; omega
  simp only [au,anh b.rd,e1,e2]
  exact v_Take_3 hn hro hs b _ n o (by omega) (by omega) (by omega) fun j h1 h2=>by omega
end Go.Proofs.YtlgbmkemfinogaaGreat.Sh
