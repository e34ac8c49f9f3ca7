/- Rows of numbers in memory of their own, that are appended to, inserted into and cut out of; maps of numbers. -/
import Derived.Test.YtnlbfbiogfilfaaGreatPUPlan5PUCol
import Derived.Test.YtnlbfbiogfilfaaGreatAiInsertMemoS
set_option linter.all false
namespace Go.Ai
def dl (l:List Int):List AV:=l.map (.int .i64)
theorem sX (l:List Int):(dl l).length=l.length:=by simp [dl]
def Lst (h:ad) (v:AV) (l:List Int):Prop:=(v = .nilslice∧l = [])∨∃ b ext rest,v = .slice b 0 l.length ext true∧Own h b (dl l++rest) 1∧rest.length=ext∧0<l.length+ext∧l.length+ext≤1048576
theorem Lst.nil {h:ad}:Lst h .nilslice []:=.inl ⟨rfl,rfl⟩
theorem Lst.small {h:ad} {v:AV} {l:List Int} (s:Lst h v l):l.length≤1048576:=by
  rcases s with ⟨_,rfl⟩ | ⟨b,ext,rest,_,_,_,_,h1⟩
  · simp
  · omega
theorem Lst.chg {F:Nat→Prop} {h h':ad} {v:AV} {l:List Int} (a:Lst h v l) (c:Chg F h h') (hf:∀ b,v.blk=some b→¬ F b):Lst h' v l:=by
  rcases a with a | ⟨b,ext,rest,rfl,o,h1⟩
  · exact .inl a
  · exact .inr ⟨b,ext,rest,rfl,c.own o (hf b rfl),h1⟩
theorem Lst.grow {h h':ad} {v:AV} {l:List Int} (a:Lst h v l) (g:be h h'):Lst h' v l:=a.chg (g.chg fun _=>False) fun _ _ h=>h
theorem Lst.lt {h:ad} {v:AV} {l:List Int} (a:Lst h v l) {b:Nat} (hb:v.blk=some b):b<h.nx∧h.ro≤b:=by
  rcases a with ⟨rfl,_⟩ | ⟨c,ext,rest,rfl,o,_⟩
  · cases hb
  · cases hb; exact ⟨o.lt,o.ro⟩
theorem Lst.ints {h:ad} {v:AV} {l:List Int} (a:Lst h v l):dP h .i64 v l:=by
  refine ⟨by have:=a.small; omega,?_⟩
  rcases a with ⟨rfl,rfl⟩ | ⟨b,ext,rest,rfl,o,h1,h2,h3⟩
  · exact .inl ⟨rfl,rfl⟩
  · refine .inr ⟨b,0,ext,true,rfl,fun _=>⟨_,o.cl,fun i hi=>⟨by simp [dl]; omega,?_⟩⟩⟩
    simp only [Nat.zero_add,Nat.mul_one]
    rw [List.drop_append_of_le_length (by simp [dl]; omega)]
    rw [iH (by simp [dl]; omega)]
    simp [dl,un hi]
theorem Lst.len {h:ad} {v:AV} {l:List Int} (a:Lst h v l) (k:Int→ah):mX v k=k l.length:=a.ints.len k
theorem Lst.of_app {h:ad} {v:AV} {l:List Int} (a:App h v 1 l.length (dl l)) (hm:l.length≤1048576):Lst h v l:=by
  rcases a with ⟨rfl,h1,_⟩ | ⟨b,rfl,o,h1,h2⟩
  · exact .inl ⟨rfl,iq h1⟩
  · exact .inr ⟨b,0,[],rfl,by simpa using o,rfl,by omega,by omega⟩
theorem aGi {l:List Int} {rest:List AV} {i:Nat} (hi:i<l.length) :
    (L1 (dl (l.drop (i+1))) (dl l++rest) i).set (l.length-1) (.int .i64 0)=dl (l.eraseIdx i)++(.int .i64 0::rest):=by
  apply List.ext_getElem?
  intro j
  have hlen:(dl l++rest).length=l.length+rest.length:=by simp [dl]
  have hle:(l.eraseIdx i).length=l.length-1:=List.length_eraseIdx_of_lt hi
  have hov:=aC0 (dl (l.drop (i+1))) (dl l++rest) i j (by simp [dl]; omega)
  rw [List.getElem?_set,ahZ,hov,hlen,List.getElem?_append (l₁:=dl (l.eraseIdx i))]
  simp only [sX,hle,List.length_drop]
  by_cases h1:j<l.length-1
  · rw [if_neg (by omega),if_pos h1]
    by_cases h2:i≤j
    · rw [if_pos (by omega)]
      simp only [dl,ja,List.getElem?_drop]
      rw [List.getElem?_eraseIdx,if_neg (by omega)]
      congr 2; omega
    · rw [if_neg (by omega),List.getElem?_append,if_pos (by rw [sX]; omega)]
      simp only [dl,ja]
      rw [List.getElem?_eraseIdx,if_pos (by omega)]
  · rw [if_neg h1]
    by_cases h2:l.length-1=j
    · rw [if_pos h2,if_pos (by omega)]
      rw [show j-(l.length-1)=0 by omega]; rfl
    · rw [if_neg h2,if_neg (by omega),List.getElem?_append,if_neg (by rw [sX]; omega),sX]
      rw [show j-(l.length-1)=(j-l.length)+1 by omega,List.getElem?_cons_succ]
theorem slV_lo0 {b len ext i:Nat} (hi:i≤len) (h0:0<len+ext):slV (.sl 1) (.slice b 0 len ext true) none (some (.int .i64 (i:Int))) none=some (.slice b 0 i (len+ext-i) true):=by
  have e1:Yt (some (.int .i64 (i:Int))) len (len+ext)=some i:=by
    show Bool.casesOn (motive:=fun _=>Option Nat) (Nat.ble i (len+ext)) none (some i)=_
    rw [hO (by omega)]
  simp only [slV]
  have e0:Yt none (len+ext) (len+ext)=some (len+ext):=rfl
  have e2:Yt none 0 i=some 0:=rfl
  rw [e0]; dsimp only; rw [e1]; dsimp only; rw [e2]; dsimp only
  rw [if_pos trivial,if_neg (by omega)]; simp
theorem slV_hi {b len ext i:Nat} (hi:i≤len):slV (.sl 1) (.slice b 0 len ext true) (some (.int .i64 (i:Int))) none none=some (if len+ext=i then .send b 0 i else .slice b i (len-i) ext true):=by
  have e1:Yt (some (.int .i64 (i:Int))) 0 len=some i:=by
    show Bool.casesOn (motive:=fun _=>Option Nat) (Nat.ble i len) none (some i)=_
    rw [hO (by omega)]
  simp only [slV]
  have e0:Yt none (len+ext) (len+ext)=some (len+ext):=rfl
  have e2:Yt none len (len+ext)=some len:=rfl
  rw [e0]; dsimp only; rw [e2]; dsimp only; rw [e1]; dsimp only
  rw [if_pos trivial]
  split<;>simp
theorem slV_mid {b len ext i j:Nat} (hi:i≤j) (hj:j≤len+ext) (hn:i<len+ext):slV (.sl 1) (.slice b 0 len ext true) (some (.int .i64 (i:Int))) (some (.int .i64 (j:Int))) none=some (.slice b i (j-i) (len+ext-j) true):=by
  have e1:Yt (some (.int .i64 (i:Int))) 0 j=some i:=by
    show Bool.casesOn (motive:=fun _=>Option Nat) (Nat.ble i j) none (some i)=_
    rw [hO (by omega)]
  have e2:Yt (some (.int .i64 (j:Int))) len (len+ext)=some j:=by
    show Bool.casesOn (motive:=fun _=>Option Nat) (Nat.ble j (len+ext)) none (some j)=_
    rw [hO (by omega)]
  simp only [slV]
  have e0:Yt none (len+ext) (len+ext)=some (len+ext):=rfl
  rw [e0]; dsimp only; rw [e2]; dsimp only; rw [e1]; dsimp only
  rw [if_pos trivial,if_neg (by omega)]; simp
theorem slV_chk {b len ext i j:Nat} (hi:i≤j) (hj:j≤len):∃ r,slV (.sl 1) (.slice b 0 len ext true) (some (.int .i64 (i:Int))) (some (.int .i64 (j:Int))) (some (.int .i64 (len:Int)))=some r:=by
  have e1:Yt (some (.int .i64 (i:Int))) 0 j=some i:=by
    show Bool.casesOn (motive:=fun _=>Option Nat) (Nat.ble i j) none (some i)=_
    rw [hO (by omega)]
  have e2:Yt (some (.int .i64 (j:Int))) len len=some j:=by
    show Bool.casesOn (motive:=fun _=>Option Nat) (Nat.ble j len) none (some j)=_
    rw [hO (by omega)]
  have e0:Yt (some (.int .i64 (len:Int))) (len+ext) (len+ext)=some len:=by
    show Bool.casesOn (motive:=fun _=>Option Nat) (Nat.ble len (len+ext)) none (some len)=_
    rw [hO (by omega)]
  simp only [slV]
  rw [e0]; dsimp only; rw [e2]; dsimp only; rw [e1]; dsimp only
  exact ⟨_,rfl⟩
theorem aBk {sk:SlK} {v r:AV} {lo hi mx:Option AV} (h:slV sk v lo hi mx=some r) (c:AV→ah):slK sk v lo hi mx c=c r:=by unfold slK; rw [h,Aa,EW]
theorem as6 {h:ad} (hro:h.ro≤h.nx) {len:Nat} {z l:List AV} {parts:List (Nat × Nat × AV)} (hf:∀ k,awC parts z k=k l):aF (pZ h len z parts) fun v h'=>v = .slice h.nx 0 len 0 false∧Own h' h.nx l 0∧be h h':=by
  refine ⟨(.slice h.nx 0 len 0 false,h.add (.cells l true 0)),⟨rfl,⟨by simp,by simpa using hro,by rw [ad.gV,if_pos rfl]⟩,be.add⟩,fun k=>?_⟩
  unfold pZ
  rw [hf,QN]; rfl
def Pf (l:List Int) (i:Nat) (x:Int):List Int:=l.take i++x::l.drop i
theorem r_insert {h:ad} (hro:h.ro≤h.nx) {v:AV} {l:List Int} (hl:Lst h v l) {i vb:Nat} (hi:i≤l.length) {x:Int} (hb:Own h vb [.int .i64 x] 0) (hm:l.length+1≤1048576) :
    aF (Eb aex [v,.int .i64 (i:Int),.slice vb 0 1 0 false] h) fun v' h'=>Lst h' v' (Pf l i x)∧v'.blk=some h.nx∧Chg (fun c=>v.blk=some c) h h':=by
  have hlen:(Pf l i x).length=l.length+1:=by simp [Pf]; omega
  have run:∀ {v':AV} {h':ad},aqr [v,.int .i64 (i:Int),.slice vb 0 1 0 false] h=some (v',h')→∀ k,Eb aex [v,.int .i64 (i:Int),.slice vb 0 1 0 false] h k=k v' h':=by
    intro v' h' e k
    unfold Eb aex
    rw [e]
  have hs:sub ([AV.int .i64 x]) 0 1=some [.int .i64 x]:=by rw [zj]; rfl
  rcases hl with ⟨rfl,rfl⟩ | ⟨b,ext,rest,rfl,ow,hr,h0,hm'⟩
  · have i0:i=0:=by simpa using hi
    subst i0
    refine ⟨(.slice h.nx 0 1 0 true,h.add (.cells [.int .i64 x] true 1)),⟨.inr ⟨h.nx,0,[],rfl,⟨by simp,by simpa using hro,by rw [ad.gV,if_pos rfl]; rfl⟩,rfl,by simp [Pf],by simp [Pf]⟩,rfl,(be.add).chg _⟩,run ?_⟩
    simp only [aqr]
    rw [acv,hb.get]
    dsimp only
    rw [hs]
    dsimp only
    rw [show Nat.beq 1 0=false from rfl]
    dsimp only
    rw [show (Nat.beq 0 0&&Nat.ble 1 UH)=true from rfl]
    dsimp only
    rw [ad.gU]
  · refine ⟨(.slice h.nx 0 (l.length+1) 0 true,(h.set b .dead).add (.cells (dl (Pf l i x)) true 1)),⟨.inr ⟨h.nx,0,[],by rw [hlen],⟨by simp,by simpa using hro,?_⟩,rfl,by omega,by omega⟩,rfl,⟨by simp,by simp,fun c hc hf=>?_⟩⟩,run ?_⟩
    · show ((h.set b .dead).add _).get h.nx=_
      rw [ad.gV,if_pos (by simp)]; simp
    · have hf':b≠c:=fun e=>hf (by rw [e]; rfl)
      show ((h.set b .dead).add _).get c=_
      rw [ad.gV,if_neg (by simp; omega),ad.gR _ hf']
    · have hvb:vb≠b:=by
        rintro rfl
        have:=hb.get.symm.trans ow.get
        simp at this
      have hall:(dl l++rest).length=l.length+ext:=by simp [dl,hr]
      simp only [aqr]
      rw [acv,hb.get]
      dsimp only
      rw [hs]
      dsimp only
      rw [show Nat.beq 1 0=false from rfl]
      dsimp only
      rw [apv ow]
      have c1:(Nat.beq 1 1&&Nat.ble (0+(l.length+ext)) (Ao (dl l++rest))&&Nat.ble i l.length&&Nat.ble (l.length+1) UH&&!Nat.beq vb b)=true:=by
        rw [uP,hall]
        have:Nat.beq vb b=false:=by cases hq:Nat.beq vb b with
          | false=>rfl
          | true=>exact (hvb (iG hq)).elim
        rw [this]
        simp only [iw]
        exact ⟨⟨⟨⟨rfl,hO (by omega)⟩,hO hi⟩,hO (by unfold UH; omega)⟩,rfl⟩
      rw [c1]
      dsimp only
      have c2:sub (dl l++rest) 0 l.length=some (dl l):=by
        rw [zj,List.drop_zero,if_pos (by omega),List.take_append_of_le_length (by rw [sX]; omega),List.take_of_length_le (by rw [sX]; omega)]
      rw [c2]
      dsimp only
      rw [av6,if_pos (by rw [sX]; exact hi),ad.gT,vJ,vJ,ad.gU,axW]
      have:(dl l).take i++([AV.int .i64 x]++(dl l).drop i)=dl (Pf l i x):=by simp [dl,Pf,List.map_take,List.map_drop]
      rw [this]
      simp
structure gn (h:ad) (b:Nat) (q:IntKind) (kv:List (Int × Int)):Prop where
  lt:b<h.nx
  ro:h.ro≤b
  get:h.get b=some (.mp (kv.map fun e=>(.int .i64 e.1,.int q e.2)))
theorem gn.chg {F:Nat→Prop} {h h':ad} {b:Nat} {q:IntKind} {kv:List (Int × Int)} (a:gn h b q kv) (c:Chg F h h') (hf:¬ F b):gn h' b q kv:=
  ⟨iy a.lt c.nx,by rw [c.ro]; exact a.ro,(c.old b a.lt hf).trans a.get⟩
theorem gn.ne {h:ad} {b c:Nat} {q:IntKind} {kv:List (Int × Int)} {l:List AV} {g:Nat} (a:gn h b q kv) (o:Own h c l g):b≠c:=by
  rintro rfl
  have:=a.get.symm.trans o.get
  cases this
def aeI (k x:Int):List (Int × Int)→List (Int × Int)
  | []=>[(k,x)]
  | e::t=>if k=e.1 then (k,x)::t else e::aeI k x t
theorem aF1 (q:IntKind) (k x:Int):∀ kv:List (Int × Int),putF (.cell .int) (.int .i64 k) (.int q x) (kv.map fun e=>(AV.int .i64 e.1,AV.int q e.2))=some ((aeI k x kv).map fun e=>(AV.int .i64 e.1,AV.int q e.2)):=by
  intro kv
  induction kv with
  | nil=>rfl
  | cons e t ih=>
    show (Option.casesOn (zM (.cell .int) (.int .i64 k) (.int .i64 e.1)) none fun b=>Bool.casesOn b (Option.casesOn (putF (.cell .int) (.int .i64 k) (.int q x) (t.map fun e=>(AV.int .i64 e.1,AV.int q e.2))) none fun t'=>some ((AV.int .i64 e.1,AV.int q e.2)::t')) (some ((.int .i64 k,.int q x)::t.map fun e=>(AV.int .i64 e.1,AV.int q e.2))):Option _)=_
    have hk:zM (.cell .int) (.int .i64 k) (.int .i64 e.1)=some (k==e.1):=by
      show some (eqF k e.1)=_
      rw [Mr]
    rw [hk,ih]
    dsimp only
    by_cases h:k=e.1
    · have:(k==e.1)=true:=by simp [h]
      rw [this]
      simp [aeI,h]
    · have:(k==e.1)=false:=by simp [h]
      rw [this]
      simp [aeI,h]
theorem aCW {h:ad} {b:Nat} {q:IntKind} {kv:List (Int × Int)} (a:gn h b q kv) (k x:Int) :
    ed (auj h (.cell .int) (.map b) (.int .i64 k) (.int q x)) fun h'=>gn h' b q (aeI k x kv)∧Chg (· = b) h h':=by
  refine ⟨h.set b (.mp ((aeI k x kv).map fun e=>(AV.int .i64 e.1,AV.int q e.2))),⟨⟨by simpa using a.lt,by simpa using a.ro,ad.gS ..⟩,⟨by simp,by simp,fun c _ hc=>ad.gR _ (fun e=>hc e.symm) _⟩⟩,fun c=>?_⟩
  unfold auj
  rw [aA9]
  have h1:Nat.blt b h.ro=false:=by rw [blt_eq]; simp; exact a.ro
  rw [h1,Bw]
  have h2:JA h b=some (kv.map fun e=>(AV.int .i64 e.1,AV.int q e.2)):=by unfold JA; rw [a.get]
  have h3:zM (.cell .int) (.int .i64 k) (.int .i64 k)=some true:=by
    show some (eqF k k)=_
    rw [Mr]; simp
  rw [h2,Aa,h3,Aa,aF1,Aa,alr]; rfl
structure cw where
  n:Int
  free:Nat→List Int
  gL:List (Int × Int)
def upd {α:Type} (f:Nat→α) (k:Nat) (x:α):Nat→α:=fun j=>if j=k then x else f j
theorem lm {α:Type} (f:Nat→α) (k:Nat) (x:α):upd f k x k=x:=by simp [upd]
theorem kX {α:Type} (f:Nat→α) {k j:Nat} (x:α) (h:j≠k):upd f k x j=f j:=by simp [upd,h]
def apD (n:Int) (v:Nat→AV) (m:Nat):List AV:=[.bool true,.int .i64 n,v 0,v 1,v 2,v 3,v 4,v 5,v 6,.map m]
theorem aqv (n:Int) (v:Nat→AV) (m:Nat) {k:Nat} (hk:k<7):(apD n v m)[2+k]?=some (v k):=by
  match k,hk with
  | 0,_=>rfl | 1,_=>rfl | 2,_=>rfl | 3,_=>rfl | 4,_=>rfl | 5,_=>rfl | 6,_=>rfl
theorem bud_set (n:Int) (v:Nat→AV) (m:Nat) (x:AV) {k:Nat} (hk:k<7):(apD n v m).set (2+k) x=apD n (upd v k x) m:=by
  match k,hk with
  | 0,_=>rfl | 1,_=>rfl | 2,_=>rfl | 3,_=>rfl | 4,_=>rfl | 5,_=>rfl | 6,_=>rfl
theorem bud_sub (n:Int) (v:Nat→AV) (m:Nat):sub (apD n v m) 2 7=some [v 0,v 1,v 2,v 3,v 4,v 5,v 6]:=by rw [zj]; rfl
theorem bud_0 (n:Int) (v:Nat→AV) (m:Nat):(apD n v m)[0]?=some (.bool true):=rfl
theorem bud_9 (n:Int) (v:Nat→AV) (m:Nat):(apD n v m)[9]?=some (.map m):=rfl
structure d9 (h:ad) (p m:Nat) (v:Nat→AV) (s:cw):Prop where
  own:Own h p (apD s.n v m) 0
  map:gn h m .i64 s.gL
  lst:∀ k,k<7→Lst h (v k) (s.free k)
  dis:∀ j k,j<7→k<7→j≠k→∀ c,(v j).blk=some c→(v k).blk≠some c
def fpB (p m:Nat) (v:Nat→AV) (c:Nat):Prop:=c=p∨c=m∨∃ k,k<7∧(v k).blk=some c
theorem Lst.ne {h:ad} {v:AV} {l:List Int} (s:Lst h v l) {p:Nat} {cs:List AV} (o:Own h p cs 0) {b:Nat} (hb:v.blk=some b):b≠p:=by
  rintro rfl
  rcases s with ⟨rfl,_⟩ | ⟨c,ext,rest,rfl,ow,_⟩
  · cases hb
  · cases hb
    have:=o.get.symm.trans ow.get
    simp at this
theorem Lst.neM {h:ad} {v:AV} {l:List Int} (s:Lst h v l) {m:Nat} {q:IntKind} {kv:List (Int × Int)} (o:gn h m q kv) {b:Nat} (hb:v.blk=some b):b≠m:=by
  rintro rfl
  rcases s with ⟨rfl,_⟩ | ⟨c,ext,rest,rfl,ow,_⟩
  · cases hb
  · cases hb
    exact o.ne ow rfl
theorem d9.lt {h:ad} {p m:Nat} {v:Nat→AV} {s:cw} (b:d9 h p m v s) {c:Nat} (hc:fpB p m v c):c<h.nx:=by
  rcases hc with rfl | rfl | ⟨k,hk,e⟩
  · exact b.own.lt
  · exact b.map.lt
  · exact ((b.lst k hk).lt e).1
theorem d9.chg {F:Nat→Prop} {h h':ad} {p m:Nat} {v:Nat→AV} {s:cw} (b:d9 h p m v s) (c:Chg F h h') (hf:∀ c,fpB p m v c→¬ F c):d9 h' p m v s:=
  ⟨c.own b.own (hf p (.inl rfl)),b.map.chg c (hf m (.inr (.inl rfl))),fun k hk=>(b.lst k hk).chg c fun c' e=>hf c' (.inr (.inr ⟨k,hk,e⟩)),b.dis⟩
theorem d9.grow {h h':ad} {p m:Nat} {v:Nat→AV} {s:cw} (b:d9 h p m v s) (g:be h h'):d9 h' p m v s:=b.chg (g.chg fun _=>False) fun _ _ h=>h
theorem d9.row {h h' h'':ad} {p m:Nat} {v:Nat→AV} {s:cw} (b:d9 h p m v s) {k:Nat} (hk:k<7) {x:AV} {l:List Int}
    (c:Chg (fun c=>(v k).blk=some c) h h') (hx:Lst h' x l) (hb:∀ c,x.blk=some c→(v k).blk=some c∨h.nx≤c) (hp:Put h' p ((apD s.n v m).set (2+k) x) 0 h'') :
    d9 h'' p m (upd v k x) { s with free:=upd s.free k l }∧Chg (fpB p m v) h h'':=by
  have hpk:∀ c,(v k).blk=some c→c≠p:=fun c e=>(b.lst k hk).ne b.own e
  have hmk:∀ c,(v k).blk=some c→c≠m:=fun c e=>(b.lst k hk).neM b.map e
  have hmp:m≠p:=b.map.ne b.own
  have hm':gn h' m .i64 s.gL:=b.map.chg c fun e=>hmk m e rfl
  refine ⟨⟨?_,hm'.chg hp.chg hmp,fun j hj=>?_,fun i j hi hj hij d e=>?_⟩,(c.mono fun d _ e=>.inr (.inr ⟨k,hk,e⟩)).trans (hp.chg.mono fun d _ e=>.inl e)⟩
  · have:=hp.own
    rw [bud_set _ _ _ _ hk] at this
    exact this
  · by_cases e:j=k
    · subst e
      show Lst h'' (upd v j x j) (upd s.free j l j)
      rw [lm,lm]
      refine hx.chg hp.chg fun d e1 e2=>?_
      rcases hb d e1 with e3 | e3
      · exact hpk d e3 e2
      · have:=b.own.lt; omega
    · show Lst h'' (upd v k x j) (upd s.free k l j)
      rw [kX _ _ e,kX _ _ e]
      exact ((b.lst j hj).chg c fun d e1 e2=>b.dis j k hj hk e d e1 e2).chg hp.chg fun d e1 e2=>(b.lst j hj).ne b.own e1 e2
  · by_cases ei:i=k
    · subst ei
      rw [lm] at e
      rw [kX _ _ (fun e=>hij e.symm)]
      rcases hb d e with e3 | e3
      · exact b.dis i j hi hj hij d e3
      · intro e4
        have:=((b.lst j hj).lt e4).1
        omega
    · rw [kX _ _ ei] at e
      by_cases ej:j=k
      · subst ej
        rw [lm]
        intro e4
        rcases hb d e4 with e3 | e3
        · exact b.dis i j hi hj hij d e e3
        · have:=((b.lst i hi).lt e).1
          omega
      · rw [kX _ _ ej]
        exact b.dis i j hi hj hij d e
theorem UR {n p o k:Nat} (hk:k<n) (c:AV→ah):SA 1 n (.ptr p o) (k:Int) c=c (.ptr p (o+k)):=by
  unfold SA
  rw [VB,aaZ]
  have h1:Nat.blt k n=true:=by rw [blt_eq]; simpa using hk
  rw [h1,zw,rV]
  simp
theorem aaA {h:ad} (hro:h.ro≤h.nx) {v:AV} {l:List Int} (hl:Lst h v l) {vb:Nat} {x:Int} (hb:h.cl vb [.int .i64 x]) (hm:l.length+1≤1048576) {e:Nat} {o:Bool} :
    aF (sI h 1 v (.slice vb 0 1 e o)) fun v' h'=>Lst h' v' (l++[x])∧(∀ c,v'.blk=some c→v.blk=some c∨h.nx≤c)∧Chg (fun c=>v.blk=some c) h h':=by
  have hs:sub ([AV.int .i64 x]) 0 (1*1)=some [.int .i64 x]:=by rw [zj]; rfl
  have fin:App h v 1 l.length (dl l)→aF (sI h 1 v (.slice vb 0 1 e o)) fun v' h'=>Lst h' v' (l++[x])∧(∀ c,v'.blk=some c→v.blk=some c∨h.nx≤c)∧Chg (fun c=>v.blk=some c) h h':=by
    intro ha
    refine (afw hro ha (by omega) hb hs hm).mono fun v' h' ⟨h1,h2,h3⟩=>⟨?_,fun c hc=>.inr (by rw [h2] at hc; cases hc; exact iA _),h3⟩
    refine Lst.of_app ?_ (by simpa using hm)
    have e1:dl (l++[x])=dl l++[.int .i64 x]:=by simp [dl]
    rw [e1]
    simpa using h1
  rcases hl with ⟨rfl,rfl⟩ | ⟨b,ext,rest,rfl,ow,hr,h0,hm'⟩
  · exact fin .nil
  · by_cases h1:ext=0
    · subst h1
      have:rest = []:=iq hr
      subst this
      exact fin (.inr ⟨b,rfl,by simpa using ow,by simp [dl],by omega⟩)
    · obtain ⟨r0,rest,rfl⟩:∃ r0 t,rest=r0::t:=by
        cases rest with
        | nil=>simp at hr; omega
        | cons a t=>exact ⟨a,t,rfl⟩
      have hall:(dl l++r0::rest).length=l.length+ext:=by simp [dl, ← hr]
      have p:=aup ow (dl (l++[x])++rest)
      have hset:(dl l++r0::rest).set l.length (.int .i64 x)=dl (l++[x])++rest:=by
        rw [List.set_append,if_neg (by rw [sX]; omega),sX,Nat.sub_self]
        simp [dl]
      refine ⟨(.slice b 0 (l.length+1) (ext-1) true,h.set b (.cells (dl (l++[x])++rest) true 1)),⟨.inr ⟨b,ext-1,rest,by simp,p.own,by simp at hr; omega,by simp only [iZ,List.length_singleton]; omega,by simp only [iZ,List.length_singleton]; omega⟩,fun c hc=>.inl hc,p.chg.mono fun c _ e=>by rw [e]; rfl⟩,fun k=>?_⟩
      unfold sI
      have:FY h 1 (.slice b 0 l.length ext true) (.slice vb 0 1 e o)=some (.slice b 0 (l.length+1) (ext-1) true,h.set b (.cells (dl (l++[x])++rest) true 1)):=by
        simp only [FY,aq6]
        rw [if_neg (by omega),if_pos (by omega)]
        have hsh:acX h 1 1 (.slice vb 0 1 e o)=some [.int .i64 x]:=by
          show (Option.casesOn (yV h vb) none fun l=>sub l 0 (1*1):Option (List AV))=_
          rw [age hb]; exact hs
        rw [hsh]
        dsimp only
        rw [apv ow]
        have h3:Nat.ble (0+(l.length+1)*1) (Ao (dl l++r0::rest))=true:=by rw [uP,hall]; exact hO (by omega)
        rw [h3]
        dsimp only
        rw [Fr,ad.gT,Nat.zero_add,Nat.mul_one]
        show some (_,h.set b (.cells ((dl l++r0::rest).set l.length (.int .i64 x)) true 1))=_
        rw [hset]
      rw [this,Vv,EW,N6]; rfl
end Go.Ai
/- Buddies, by the code. -/
namespace Go.Proofs.YtnlbfbiogfilfaaGreat.Sh
open Go.Ai
theorem aEb {n:Nat} {h:ad} {v:AV} {l:List Int} (hl:Lst h v l) {i:Nat} (hi:i<l.length) :
    aF (b8 n v (i:Int) ((i+1:Nat):Int) h) fun v' h'=>Lst h' v' (l.eraseIdx i)∧v'.blk=v.blk∧Chg (fun c=>v.blk=some c) h h':=by
  rcases hl with ⟨rfl,rfl⟩ | ⟨b,ext,rest,rfl,ow,hr,h0,hm⟩
  · simp at hi
  unfold b8 Fg zn
  obtain ⟨r,hr1⟩:=slV_chk (b:=b) (len:=l.length) (ext:=ext) (i:=i) (j:=i+1) (by omega) (by omega)
  have e1:((i:Int)==((i+1:Nat):Int))=false:=by rw [iT]; omega
  have hle:(l.eraseIdx i).length=l.length-1:=List.length_eraseIdx_of_lt hi
  have hcl:(dl l++rest).length=l.length+ext:=by simp [dl,hr]
  simp only [au,aBk hr1,e1,aBk (slV_lo0 (b:=b) (len:=l.length) (ext:=ext) (i:=i) (by omega) h0),aBk (slV_hi (b:=b) (len:=l.length) (ext:=ext) (i:=i+1) (by omega))]
  have key:∃ h1,Own h1 b (L1 (dl (l.drop (i+1))) (dl l++rest) i) 1∧Chg (fun c=>(AV.slice b 0 l.length ext true).blk=some c) h h1∧∀ c,sI h 1 (.slice b 0 i (l.length+ext-i) true) (if l.length+ext=i+1 then .send b 0 (i+1) else .slice b (i+1) (l.length-(i+1)) ext true) c=c (.slice b 0 (l.length-1) (ext+1) true) h1:=by
    by_cases hlast:l.length=i+1
    · refine ⟨h,?_,⟨iA _,rfl,fun _ _ _=>rfl⟩,fun c=>?_⟩
      · have:l.drop (i+1) = []:=List.drop_eq_nil_of_le (by omega)
        rw [this]; exact ow
      · unfold sI
        have:FY h 1 (.slice b 0 i (l.length+ext-i) true) (if l.length+ext=i+1 then .send b 0 (i+1) else .slice b (i+1) (l.length-(i+1)) ext true)=some (.slice b 0 (l.length-1) (ext+1) true,h):=by
          have:(AV.slice b 0 i (l.length+ext-i) true) = .slice b 0 (l.length-1) (ext+1) true:=by congr 1<;>omega
          rw [this]
          split
          · rfl
          · rw [show l.length-(i+1)=0 by omega]; rfl
        rw [this,Vv,EW,N6]
    · have p:=aup ow (L1 (dl (l.drop (i+1))) (dl l++rest) i)
      refine ⟨_,p.own,p.chg.mono fun c _ e=>by rw [e]; rfl,fun c=>?_⟩
      rw [if_neg (by omega)]
      unfold sI
      have hsh:acX h 1 (l.length-(i+1)) (.slice b (i+1) (l.length-(i+1)) ext true)=some (dl (l.drop (i+1))):=by
        show (Option.casesOn (yV h b) none fun l'=>sub l' (i+1) ((l.length-(i+1))*1):Option (List AV))=_
        rw [ahz ow]
        show sub (dl l++rest) (i+1) ((l.length-(i+1))*1)=_
        rw [zj,if_pos (by rw [List.length_drop,hcl]; omega)]
        congr 1
        rw [List.drop_append_of_le_length (by rw [sX]; omega),List.take_append_of_le_length (by rw [List.length_drop,sX]; omega)]
        rw [List.take_of_length_le (by rw [List.length_drop,sX]; omega)]
        simp [dl,List.map_drop]
      have:FY h 1 (.slice b 0 i (l.length+ext-i) true) (.slice b (i+1) (l.length-(i+1)) ext true)=some (.slice b 0 (l.length-1) (ext+1) true,h.set b (.cells (L1 (dl (l.drop (i+1))) (dl l++rest) i) true 1)):=by
        simp only [FY,aq6]
        rw [if_neg (by omega),if_pos (by omega),hsh]
        dsimp only
        rw [apv ow]
        have h3:Nat.ble (0+(i+(l.length-(i+1)))*1) (Ao (dl l++rest))=true:=by rw [uP,hcl]; exact hO (by omega)
        rw [h3]
        dsimp only
        rw [Fr,ad.gT,Nat.zero_add,Nat.mul_one]
        have:(AV.slice b 0 (i+(l.length-(i+1))) (l.length+ext-i-(l.length-(i+1))) true) = .slice b 0 (l.length-1) (ext+1) true:=by congr 1<;>omega
        rw [this]
      rw [this,Vv,EW,N6]
  obtain ⟨h1,ow1,c1,ek⟩:=key
  have e2:slV (.sl 1) (.slice b 0 (l.length-1) (ext+1) true) (some (.int .i64 ((l.length-1:Nat):Int))) (some (.int .i64 (l.length:Int))) none=some (.slice b (l.length-1) 1 ext true):=by
    rw [slV_mid (by omega) (by omega) (by omega)]
    congr 2<;>omega
  simp only [au,ek,aBk e2]
  have p:=aup ow1 (dl (l.eraseIdx i)++(.int .i64 0::rest))
  have e3:∀ c,aBE h1 [.int .i64 0] (.slice b (l.length-1) 1 ext true) c=c (h1.set b (.cells (dl (l.eraseIdx i)++(.int .i64 0::rest)) true 1)):=by
    intro c
    unfold aBE
    have:aod h1 [.int .i64 0] (.slice b (l.length-1) 1 ext true)=some (.undef,h1.set b (.cells (dl (l.eraseIdx i)++(.int .i64 0::rest)) true 1)):=by
      simp only [aod]
      rw [if_neg (by omega),apv ow1]
      have h3:Nat.ble (l.length-1+1*Ao [AV.int .i64 0]) (Ao (L1 (dl (l.drop (i+1))) (dl l++rest) i))=true:=by
        rw [uP,uP,ahZ,hcl]; exact hO (by simp; omega)
      rw [h3]
      dsimp only
      rw [Fr,ad.gT]
      show some (AV.undef,h1.set b (.cells ((L1 (dl (l.drop (i+1))) (dl l++rest) i).set (l.length-1) (.int .i64 0)) true 1))=_
      rw [aGi hi]
    rw [this,Vv]
  simp only [au,e3]
  refine nT ⟨.inr ⟨b,ext+1,.int .i64 0::rest,?_,p.own,by simp [hr],by omega,by omega⟩,rfl,c1.trans (p.chg.mono fun c _ e=>by rw [e]; rfl)⟩
  rw [hle]
theorem aBo {p m:Nat} {v v':Nat→AV} {h:ad} (hv:∀ k,k<7→∀ c,(v' k).blk=some c→(v k).blk=some c∨h.nx≤c) {c:Nat} (hc:fpB p m v' c):fpB p m v c∨h.nx≤c:=by
  rcases hc with e | e | ⟨k,hk,e⟩
  · exact .inl (.inl e)
  · exact .inl (.inr (.inl e))
  · rcases hv k hk c e with e | e
    · exact .inl (.inr (.inr ⟨k,hk,e⟩))
    · exact .inr e
theorem v_put {n:Nat} {h:ad} (hro:h.ro≤h.nx) {p m:Nat} {v:Nat→AV} {s:cw} (b:d9 h p m v s) {k:Nat} (hk:k<7) (hn:(s.free k).length<n) (hm:(s.free k).length+1≤1048576) (x:Int) :
    ed (cF n (.ptr p 0) x (k:Int) h) fun h'=>∃ y i,as7 (s.free k) x i∧d9 h' p m (upd v k y) { s with free:=upd s.free k (Pf (s.free k) i x) }∧(∀ c,y.blk=some c→h.nx≤c)∧Chg (fpB p m v) h h':=by
  unfold cF UF LW
  simp only [au,UR hk,jC b.own.cl,aqv _ _ _ hk]
  refine dM.bind (v_BS (b.lst k hk).ints (by have:=(b.lst k hk).small; omega) hn x) ?_
  rintro _ _ _ ⟨rfl,i,rfl,hi,_⟩
  simp only [au,UR hk,jC b.own.cl,aqv _ _ _ hk]
  refine aF.bind (as6 hro (fun k=>by rfl)) ?_
  rintro _ h2 ⟨rfl,o2,g2⟩
  refine aF.bind (r_insert (g2.le hro) ((b.lst k hk).grow g2) hi.1 o2 hm) ?_
  rintro y h3 ⟨l3,b3,c3⟩
  have n2:=g2.nx
  have o3:Own h3 p (apD s.n v m) 0:=c3.own (b.own.grow g2) fun e=>(b.lst k hk).ne b.own e rfl
  refine ed.bind (uI o3 (by show 2+k<10; omega) (by rcases l3 with ⟨rfl,_⟩ | ⟨d,e,r,rfl,_⟩<;>rfl)) ?_
  intro h4 p4
  have c13:=(g2.chg (fun c=>(v k).blk=some c)).trans c3
  obtain ⟨q1,q2⟩:=b.row hk c13 l3 (fun c e=>.inr (by rw [b3] at e; cases e; exact n2)) p4
  exact ret0 ⟨y,i,hi,q1,fun c e=>by rw [b3] at e; cases e; exact n2,q2⟩
theorem axR (b o:Nat) (c:Bool→ah):aha (.nil .ptr) (.ptr b o) .nilptr c=c false:=rfl
structure BudRd (h:ad) (p m:Nat) (v:Nat→AV) (s:cw):Prop where
  cl:h.cl p (apD s.n v m)
  len:∀ k,k<7→∀ K,mX (v k) K=K (s.free k).length
  small:∀ k,k<7→(s.free k).length≤1048576
theorem _root_.Go.Ai.d9.rd {h:ad} {p m:Nat} {v:Nat→AV} {s:cw} (b:d9 h p m v s):BudRd h p m v s:=⟨b.own.cl,fun k hk=>(b.lst k hk).len,fun k hk=>(b.lst k hk).small⟩
theorem BudRd.shut {h:ad} {p m:Nat} {v:Nat→AV} {s:cw} (b:BudRd h p m v s):BudRd (h.shut true) p m v s:=⟨b.cl,b.len,b.small⟩
theorem aER {n:Nat} {h:ad} {p m:Nat} {v:Nat→AV} {s:cw} (b:BudRd h p m v s) (k:Bool→ad→ah):cH n (.ptr p 0) h k=k false h:=by
  unfold cH SI IT A6
  simp only [au,axR,Bool.xor_false,jC b.cl,bud_0,Bool.not_true]
def pW (s:cw):Nat→Nat
  | 0=>0
  | i+1=>pW s i+(s.free i).length*2^i
theorem aCP {s:cw} (hs:∀ k,k<7→(s.free k).length≤1048576):∀ i,i≤7→pW s i≤1048576*2^i
  | 0,_=>by simp [pW]
  | i+1,hi=>by
    have h1:=aCP hs i (by omega)
    have h2:=Nat.mul_le_mul_right (2^i) (hs i (by omega))
    rw [pW,Nat.pow_succ]
    omega
theorem v_Free_1 {n:Nat} {h:ad} {p m:Nat} {v:Nat→AV} {s:cw} (b:BudRd h p m v s) (f1):∀ (q i:Nat),i≤7→7-i<q→
    aF (fun k=>A3 n f1 k q (pW s i) (.agg [v 0,v 1,v 2,v 3,v 4,v 5,v 6]) i h) fun r h'=>r=pW s 7∧h'=h:=by
  have hs:=b.small
  intro q
  induction q with
  | zero=>omega
  | succ q ih=>
    intro i hi hq
    simp only [anO]
    unfold Bg F4
    refine aL.ifB (fun e=>?_) fun e=>?_
    · simp at e
      have hv:[v 0,v 1,v 2,v 3,v 4,v 5,v 6][i]'(by simpa using (by omega:i<7))=v i:=by
        match i,(show i<7 by omega) with
        | 0,_=>rfl | 1,_=>rfl | 2,_=>rfl | 3,_=>rfl | 4,_=>rfl | 5,_=>rfl | 6,_=>rfl
      have hp:2^i≤2^6:=Nat.pow_le_pow_right (by omega) (by omega)
      have hp7:2^i*2≤2^7:=by rw [← Nat.pow_succ]; exact Nat.pow_le_pow_right (by omega) (by omega)
      have h1:=aCP hs i (by omega)
      have h2:=Nat.mul_le_mul (hs i (by omega)) hp
      have h3:=Nat.mul_le_mul_left 1048576 hp
      have e1:IntKind.i64.wrap (an4 .i64 ((s.free i).length:Int) ((i:Int)).toNat)=(((s.free i).length*2^i:Nat):Int):=by
        have:an4 .i64 ((s.free i).length:Int) ((i:Int)).toNat=(((s.free i).length*2^i:Nat):Int):=by
          unfold an4
          rw [iI,show min i IntKind.i64.bits=i by show min i 64=i; omega]
          simp
        rw [this,rK (by omega) (by omega)]
      have e2:IntKind.i64.wrap ((pW s i:Int)+(((s.free i).length*2^i:Nat):Int))=((pW s (i+1):Nat):Int):=by
        rw [rK (by omega) (by omega),pW]; omega
      simp only [au,aCq (l:=[v 0,v 1,v 2,v 3,v 4,v 5,v 6]) (n:=7) (i:=i) rfl (by omega),hv,b.len i (by omega),IL (il i),e1,e2,mt (show i≤9223372036854775806 by omega)]
      exact ih (i+1) (by omega) (by omega)
    · simp at e
      have:i=7:=by omega
      subst this
      exact nT ⟨rfl,rfl⟩
theorem aET {n:Nat} (hn:10<n) {h:ad} {p m:Nat} {v:Nat→AV} {s:cw} (b:BudRd h p m v s):aF (cG n (.ptr p 0) h) fun r h'=>r=pW s 7∧h'=h:=by
  unfold cG Sz I4
  simp only [au,aER b,jC b.cl,bud_sub]
  exact v_Free_1 b _ n 0 (by omega) (by omega)
def Dq (s:cw) (o k kk:Nat) (at_:Int) (rest:List Int):cw:={ s with free:=fun j=>if j=k then rest else if kk≤j∧j<k then [at_+2^j] else s.free j }
theorem aHc {i:Nat} {x:Int} (h:as7 [] x i):Pf [] i x = [x]:=by
  have:i=0:=by have:=h.1; simpa using this
  subst this; rfl
theorem aaQ {j:Nat} (hj:j<7):IntKind.i64.wrap (an4 .i64 1 ((j:Int)).toNat)=(2:Int)^j∧(2:Int)^j≤64∧1≤(2:Int)^j:=by
  match j,hj with
  | 0,_=>decide | 1,_=>decide | 2,_=>decide | 3,_=>decide | 4,_=>decide | 5,_=>decide | 6,_=>decide
theorem v_Take_1 {n:Nat} (hn:10<n) {p m o k:Nat} {s:cw} {at_:Int} {rest:List Int} (ha:0≤at_∧at_≤100000) (hk:k<7) (hemp:∀ j,o≤j→j<k→s.free j = []) (f1 f2) :
    ∀ (q kk:Nat) (h:ad) (v:Nat→AV),h.ro≤h.nx→o≤kk→kk≤k→kk-o<q→d9 h p m v (Dq s o k kk at_ rest)→
    dM (fun K=>A8 n f1 f2 (cF n) K q (.ptr p 0) (o:Int) (kk:Int) at_ h) fun r e h'=>r=at_∧e=0∧∃ v',d9 h' p m v' { Dq s o k o at_ rest with gL:=aeI at_ o s.gL }∧
      (∀ j,j<7→∀ c,(v' j).blk=some c→(v j).blk=some c∨h.nx≤c)∧Chg (fpB p m v) h h':=by
  intro q
  induction q with
  | zero=>omega
  | succ q ih=>
    intro kk h v hro h1 h2 h3 b
    simp only [anK]
    unfold Bc F0
    refine aL.ifB (fun e=>?_) fun e=>?_
    · simp at e
      have hw:IntKind.i64.wrap ((kk:Int)-1)=((kk-1:Nat):Int):=by rw [rK (by omega) (by omega)]; omega
      obtain ⟨p1,p2,p3⟩:=aaQ (show kk-1<7 by omega)
      have p4:IntKind.i64.wrap (at_+(2:Int)^(kk-1))=at_+(2:Int)^(kk-1):=rK (by omega) (by omega)
      simp only [au,hw,IL (il (kk-1)),p1,p4]
      have hfr:(Dq s o k kk at_ rest).free (kk-1) = []:=by
        simp only [Dq]
        rw [if_neg (by omega),if_neg (by omega)]
        exact hemp _ (by omega) (by omega)
      refine ed.bind (v_put hro b (k:=kk-1) (by omega) (by rw [hfr]; simp; omega) (by rw [hfr]; simp) (at_+2^(kk-1))) ?_
      rintro h4 ⟨y,i,hi,b4,hy,c4⟩
      rw [hfr] at hi
      rw [hfr,aHc hi] at b4
      have hst:({ Dq s o k kk at_ rest with free:=upd (Dq s o k kk at_ rest).free (kk-1) [at_+2^(kk-1)] }:cw)=Dq s o k (kk-1) at_ rest:=by
        simp only [Dq,cw.mk.injEq,true_and,and_true]
        funext j
        by_cases ej:j=kk-1
        · subst ej
          rw [lm,if_neg (by omega),if_pos (by omega)]
        · rw [kX _ _ ej]
          by_cases e1:j=k
          · rw [if_pos e1,if_pos e1]
          · rw [if_neg e1,if_neg e1]
            by_cases e2:kk≤j∧j<k
            · rw [if_pos e2,if_pos (by omega)]
            · rw [if_neg e2,if_neg (by omega)]
      rw [hst] at b4
      refine aL.mono (ih (kk-1) h4 (upd v (kk-1) y) (c4.le hro) (by omega) (by omega) (by omega) b4) ?_
      rintro ⟨r,e',h'⟩ ⟨q1,q2,v',q3,q4,q5⟩
      have hsub:∀ j,j<7→∀ c,(upd v (kk-1) y j).blk=some c→(v j).blk=some c∨h.nx≤c:=by
        intro j hj c e1
        by_cases ej:j=kk-1
        · subst ej; rw [lm] at e1; exact .inr (hy c e1)
        · rw [kX _ _ ej] at e1; exact .inl e1
      refine ⟨q1,q2,v',q3,fun j hj c e1=>?_,?_⟩
      · rcases q4 j hj c e1 with e2 | e2
        · exact hsub j hj c e2
        · exact .inr (iE c4.nx e2)
      · refine ⟨iE c4.nx q5.nx,q5.ro.trans c4.ro,fun c hc hf=>?_⟩
        rw [q5.old c (iy hc c4.nx) fun e1=>?_,c4.old c hc hf]
        rcases aBo hsub e1 with e2 | e2
        · exact hf e2
        · omega
    · simp at e
      have:kk=o:=by omega
      subst this
      simp only [au,jC b.own.cl,bud_9]
      refine ed.bind (aCW b.map at_ (kk:Int)) ?_
      rintro h4 ⟨m4,c4⟩
      refine KS ⟨rfl,rfl,v,⟨c4.own b.own (fun e=>b.map.ne b.own e.symm),m4,fun j hj=>(b.lst j hj).chg c4 fun c e1=>(b.lst j hj).neM b.map e1,b.dis⟩,fun j hj c e1=>.inl e1,c4.mono fun c _ e1=>.inr (.inl e1)⟩
def Takes (h:ad) (p m:Nat) (v:Nat→AV) (s:cw) (o:Nat) (r e:Int) (h':ad):Prop:=
  (r=0∧e=90∧h'=h∧∀ j,o≤j→j<7→s.free j = [])∨
  (e=0∧∃ k rest v',o≤k∧k<7∧s.free k=r::rest∧(∀ j,o≤j→j<k→s.free j = [])∧d9 h' p m v' { Dq s o k o r rest with gL:=aeI r o s.gL }∧
    (∀ j,j<7→∀ c,(v' j).blk=some c→(v j).blk=some c∨h.nx≤c)∧Chg (fpB p m v) h h')
def ayo (s:cw):Prop:=∀ k,k<7→∀ x∈s.free k,0≤x∧x≤100000
theorem v_Take_3 {n:Nat} (hn:10<n) {h:ad} (hro:h.ro≤h.nx) {p m o:Nat} {v:Nat→AV} {s:cw} (hs:ayo s) (b:d9 h p m v s) (f1) :
    ∀ (q k:Nat),o≤k→k≤7→7-k<q→(∀ j,o≤j→j<k→s.free j = [])→
    dM (fun K=>Bi n f1 (b8 n) (cF n) K q (.ptr p 0) (o:Int) (k:Int) h) (Takes h p m v s o):=by
  intro q
  induction q with
  | zero=>omega
  | succ q ih=>
    intro k h1 h2 h3 hemp
    simp only [anS]
    unfold Bh Be F6
    refine aL.ifB (fun e=>?_) fun e=>?_
    · simp at e
      have hk:k<7:=by omega
      have e6:decide ((6:Int)<(k:Int))=false:=by simp; omega
      simp only [au,UR hk,jC b.own.cl,aqv _ _ _ hk,(b.lst k hk).len,e6,mt (show k≤9223372036854775806 by omega)]
      refine aL.ifB (fun e1=>?_) fun e1=>?_
      · simp at e1
        refine ih (k+1) (by omega) (by omega) (by omega) fun j hj hj'=>?_
        by_cases ej:j=k
        · subst ej; exact e1
        · exact hemp j hj (by omega)
      · simp at e1
        obtain ⟨x,rest,hx⟩:∃ x rest,s.free k=x::rest:=by
          cases hq:s.free k with
          | nil=>exact (e1 hq).elim
          | cons x rest=>exact ⟨x,rest,rfl⟩
        have hpos:0<(s.free k).length:=by rw [hx]; simp
        have hnz:nz (s.free k) 0=x:=by rw [hx]; rfl
        have hel:=(b.lst k hk).ints.elN (i:=0) hpos
        rw [hnz] at hel
        have hel':∀ K,Ga .i64 1 h (v k) 0 K=K (elP (v k) 1 0) x:=hel
        simp only [au,hel']
        refine aF.bind (aEb (n:=n) (b.lst k hk) (i:=0) hpos) ?_
        rintro y h4 ⟨l4,b4,c4⟩
        have o4:Own h4 p (apD s.n v m) 0:=c4.own b.own fun e=>(b.lst k hk).ne b.own e rfl
        refine ed.bind (uI o4 (by show 2+k<10; omega) (by rcases l4 with ⟨rfl,_⟩ | ⟨d,e,r,rfl,_⟩<;>rfl)) ?_
        intro h5 p5
        obtain ⟨q1,q2⟩:=b.row hk c4 l4 (fun c e=>.inl (by rw [b4] at e; exact e)) p5
        have hd:(s.free k).eraseIdx 0=rest:=by rw [hx]; rfl
        rw [hd] at q1
        have hst:({ s with free:=upd s.free k rest }:cw)=Dq s o k k x rest:=by
          simp only [Dq,cw.mk.injEq,true_and,and_true]
          funext j
          by_cases ej:j=k
          · subst ej; rw [lm,if_pos rfl]
          · rw [kX _ _ ej,if_neg ej,if_neg (by omega)]
        rw [hst] at q1
        have hxs:=hs k hk x (by rw [hx]; simp)
        refine aL.mono (v_Take_1 hn (o:=o) (k:=k) hxs hk hemp f1 (b8 n) n k h5 _ (q2.le hro) h1 (iA _) (by omega) q1) ?_
        rintro ⟨r,e',h'⟩ ⟨r1,r2,v',r3,r4,r5⟩
        have hsub:∀ j,j<7→∀ c,(upd v k y j).blk=some c→(v j).blk=some c∨h.nx≤c:=by
          intro j hj c e1
          by_cases ej:j=k
          · subst ej; rw [lm,b4] at e1; exact .inl e1
          · rw [kX _ _ ej] at e1; exact .inl e1
        dsimp only at r1 r2
        subst r1 r2
        refine .inr ⟨rfl,k,rest,v',h1,hk,hx,hemp,r3,fun j hj c e1=>?_,?_⟩
        · rcases r4 j hj c e1 with e2 | e2
          · exact hsub j hj c e2
          · exact .inr (iE q2.nx e2)
        · refine ⟨iE q2.nx r5.nx,r5.ro.trans q2.ro,fun c hc hf=>?_⟩
          rw [r5.old c (iy hc q2.nx) fun e1=>?_,q2.old c hc hf]
          rcases aBo hsub e1 with e2 | e2
          · exact hf e2
          · omega
    · simp at e
      have:k=7:=by omega
      subst this
      simp only [au]
      exact KS (.inl ⟨rfl,rfl,rfl,hemp⟩)
theorem v_Take {n:Nat} (hn:10<n) {h:ad} (hro:h.ro≤h.nx) {p m o:Nat} {v:Nat→AV} {s:cw} (hs:ayo s) (b:d9 h p m v s) (ho:o<7):dM (dW n (.ptr p 0) (o:Int) h) (Takes h p m v s o):=by
  unfold dW Sq IU A5
  have e1:decide ((o:Int)<0)=false:=by simp
  have e2:decide ((6:Int)<(o:Int))=false:=by simp; omega
  simp only [au,aER b.rd,e1,e2]
  exact v_Take_3 hn hro hs b _ n o (by omega) (by omega) (by omega) fun j h1 h2=>by omega
end Go.Proofs.YtnlbfbiogfilfaaGreat.Sh
