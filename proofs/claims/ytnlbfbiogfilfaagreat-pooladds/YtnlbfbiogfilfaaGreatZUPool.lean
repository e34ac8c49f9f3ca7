/- Pools, by the code. -/
import Derived.Test.YtnlbfbiogfilfaaGreatZUBudZUNew
set_option linter.all false
namespace Go.Proofs.YtnlbfbiogfilfaaGreat.Sh
open Go.Ai
theorem Ints.slice {h:Heap} {v:AV} {l:List Int} (hv:Ints h .i64 v l) (hne:l≠[]):∃ b off ext o cl,v = .slice b off l.length ext o∧h.cl b cl∧sub cl off l.length=some (ju l):=by
  obtain ⟨_,⟨rfl,h0⟩ | ⟨b,off,ext,o,rfl,hx⟩⟩:=hv
  · exact (hne (List.eq_nil_of_length_eq_zero h0)).elim
  have hpos:0<l.length:=List.length_pos_iff.2 hne
  obtain ⟨cl,hc,hi⟩:=hx hpos
  refine ⟨b,off,ext,o,cl,rfl,hc,?_⟩
  have hend:=(hi (l.length-1) (by omega)).1
  rw [oB,if_pos (by rw [List.length_drop]; omega)]
  congr 1
  apply List.ext_getElem?
  intro j
  by_cases hj:j<l.length
  · have h2:=congrArg (·[0]?) (hi j hj).2
    simp only [Nat.mul_one,List.getElem?_cons_zero] at h2
    rw [List.getElem?_take,if_pos (by omega),List.getElem?_drop] at h2
    rw [List.getElem?_take,if_pos hj,List.getElem?_drop]
    simp only [ju,List.getElem?_map,List.getElem?_eq_getElem hj,Option.map_some]
    rw [kC hj] at h2
    simpa using h2
  · rw [List.getElem?_take,if_neg hj,List.getElem?_eq_none (by rw [iI]; omega)]
theorem v_Clone {n:Nat} {h:Heap} (hro:h.ro≤h.nx) {v:AV} {l:List Int} (hv:Ints h .i64 v l) (hne:l≠[]) (hm:l.length≤1048576) :
    Run1 (jL n v h) fun v' h'=>Lst h' v' l∧(∀ c,v'.blk=some c→h.nx≤c)∧Grow h h':=by
  unfold jL vz vn
  obtain ⟨b,off,ext,o,cl,rfl,hc,hs⟩:=Ints.slice hv hne
  have hpos:0<l.length:=List.length_pos_iff.2 hne
  have e1:∀ c,ajj (.nil .sl) (.slice b off l.length ext o) .nilslice c=c false:=fun c=>rfl
  simp only [cJ,Nat.reduceAdd,e1,Bool.xor_false]
  refine Run1.bind (arS (l:=[]) hro (fun k=>by rfl)) ?_
  rintro _ h2 ⟨rfl,o2,g2⟩
  have hro2:=g2.le hro
  have hc2:=g2.cl hc
  refine ⟨(.slice h2.nx 0 l.length 0 true,h2.add (.cells (ju l) true 1)),⟨.inr ⟨h2.nx,0,[],rfl,⟨by simp,by simpa using hro2,by rw [Heap.get_add,if_pos rfl]; simp⟩,rfl,by omega,by omega⟩,fun c e=>by cases e; exact g2.nx,g2.trans Grow.add⟩,fun k=>?_⟩
  unfold mQ
  have:sB h2 1 (.slice h.nx 0 0 0 false) (.slice b off l.length ext o)=some (.slice h2.nx 0 l.length 0 true,h2.add (.cells (ju l) true 1)):=by
    have hsh:VB h2 1 l.length (.slice b off l.length ext o)=some (ju l):=by
      show (Option.casesOn (ol h2 b) none fun l'=>sub l' off (l.length*1):Option (List AV))=_
      rw [abx hc2,Nat.mul_one]; exact hs
    simp only [sB,lenF]
    rw [if_neg (by omega),if_neg (by omega),if_neg (by unfold TI; omega),agn o2]
    dsimp only
    rw [show sub ([]:List AV) 0 (0*1)=some [] from rfl]
    dsimp only
    rw [hsh]
    dsimp only
    rw [if_neg (by simp),jz,Heap.newK_eq,Nat.zero_add]
    rfl
  rw [this]
  dsimp only
  rw [Ih,pQ,yq]; rfl
structure PoolZ where
  colours:Int
  order:Int
  total:Int
  mine:List Int
  quota:Nat→Int
  counts:Nat→Int
  uses:List (Int × Int)
  buds:Nat→BudZ
def AW (z:PoolZ) (vm vb:AV) (mu:Nat):List AV:=[.int .i64 z.colours,vm,.int .i64 z.order,.int .i64 (z.quota 0),.int .i64 (z.quota 1),.int .i64 (z.quota 2),.int .i64 (z.quota 3),.int .i64 (z.quota 4),.int .i64 (z.quota 5),.int .i64 (z.quota 6),
  .int .i64 z.total,vb,.map mu,.int .i64 (z.counts 0),.int .i64 (z.counts 1),.int .i64 (z.counts 2),.int .i64 (z.counts 3),.int .i64 (z.counts 4),.int .i64 (z.counts 5),.int .i64 (z.counts 6)]
theorem pool_0 (z:PoolZ) (vm vb:AV) (mu:Nat):(AW z vm vb mu)[0]?=some (.int .i64 z.colours):=rfl
theorem azr (z:PoolZ) (vm vb:AV) (mu:Nat):(AW z vm vb mu)[1]?=some vm:=rfl
theorem pool_2 (z:PoolZ) (vm vb:AV) (mu:Nat):(AW z vm vb mu)[2]?=some (.int .i64 z.order):=rfl
theorem pool_10 (z:PoolZ) (vm vb:AV) (mu:Nat):(AW z vm vb mu)[10]?=some (.int .i64 z.total):=rfl
theorem aiq (z:PoolZ) (vm vb:AV) (mu:Nat):(AW z vm vb mu)[11]?=some vb:=rfl
theorem aiz (z:PoolZ) (vm vb:AV) (mu:Nat):(AW z vm vb mu)[12]?=some (.map mu):=rfl
theorem pool_q (z:PoolZ) (vm vb:AV) (mu:Nat) {k:Nat} (hk:k<7):(AW z vm vb mu)[3+k]?=some (.int .i64 (z.quota k)):=by
  match k,hk with
  | 0,_=>rfl | 1,_=>rfl | 2,_=>rfl | 3,_=>rfl | 4,_=>rfl | 5,_=>rfl | 6,_=>rfl
theorem ay5 (z:PoolZ) (vm vb:AV) (mu:Nat) {k:Nat} (hk:k<7):(AW z vm vb mu)[13+k]?=some (.int .i64 (z.counts k)):=by
  match k,hk with
  | 0,_=>rfl | 1,_=>rfl | 2,_=>rfl | 3,_=>rfl | 4,_=>rfl | 5,_=>rfl | 6,_=>rfl
theorem aAt (z:PoolZ) (vm vb:AV) (mu:Nat) (x:Int) {k:Nat} (hk:k<7):(AW z vm vb mu).set (13+k) (.int .i64 x)=AW { z with counts:=upd z.counts k x } vm vb mu:=by
  match k,hk with
  | 0,_=>rfl | 1,_=>rfl | 2,_=>rfl | 3,_=>rfl | 4,_=>rfl | 5,_=>rfl | 6,_=>rfl
structure PoolP where
  p:Nat
  vm:AV
  vb:AV
  mu:Nat
  bp:Nat→Nat
  bm:Nat→Nat
  bv:Nat→Nat→AV
def fpI (w:PoolP) (i:Nat):Nat→Prop:=fpB (w.bp i) (w.bm i) (w.bv i)
structure PoolIn (h:Heap) (w:PoolP) (z:PoolZ):Prop where
  own:Own h w.p (AW z w.vm w.vb w.mu) 0
  mine:Lst h w.vm z.mine
  buds:App h w.vb 1 z.mine.length ((List.range z.mine.length).map fun i=>.ptr (w.bp i) 0)
  uses:MapI h w.mu .u8 z.uses
  each:∀ i,i<z.mine.length→BudIn h (w.bp i) (w.bm i) (w.bv i) (z.buds i)
  disj:∀ i j,i<z.mine.length→j<z.mine.length→i≠j→∀ c,fpI w i c→¬ fpI w j c
  apart:∀ i,i<z.mine.length→∀ c,fpI w i c→c≠w.p∧c≠w.mu∧w.vm.blk≠some c∧w.vb.blk≠some c
  two:∀ c,w.vm.blk=some c→w.vb.blk≠some c
def fpP (w:PoolP) (L:Nat) (c:Nat):Prop:=c=w.p∨c=w.mu∨w.vm.blk=some c∨w.vb.blk=some c∨∃ i,i<L∧fpI w i c
theorem PoolIn.chg {F:Nat→Prop} {h h':Heap} {w:PoolP} {z:PoolZ} (b:PoolIn h w z) (c:Chg F h h') (hf:∀ d,fpP w z.mine.length d→¬ F d):PoolIn h' w z:=
  ⟨c.own b.own (hf _ (.inl rfl)),b.mine.chg c fun d e=>hf d (.inr (.inr (.inl e))),b.buds.chg c fun d e=>hf d (.inr (.inr (.inr (.inl e)))),b.uses.chg c (hf _ (.inr (.inl rfl))),
    fun i hi=>(b.each i hi).chg c fun d e=>hf d (.inr (.inr (.inr (.inr ⟨i,hi,e⟩)))),b.disj,b.apart,b.two⟩
theorem PoolIn.grow {h h':Heap} {w:PoolP} {z:PoolZ} (b:PoolIn h w z) (g:Grow h h'):PoolIn h' w z:=b.chg (g.chg fun _=>False) fun _ _ h=>h
theorem PoolIn.bud {h:Heap} {w:PoolP} {z:PoolZ} (b:PoolIn h w z) {i:Nat} (hi:i<z.mine.length):∀ k:AV→AV→CRes,eld 1 h w.vb (i:Int) 1 false k=k (elP w.vb 1 i) (.ptr (w.bp i) 0):=by
  intro k
  rcases b.buds with ⟨e1,e2,_⟩ | ⟨c,e1,o,_,_⟩
  · omega
  · rw [e1]
    unfold eld LC
    rw [agW,ama]
    have:Nat.blt i z.mine.length=true:=by rw [blt_eq]; simpa using hi
    rw [this,xN,gw]
    dsimp only
    rw [atL,bM o.cl]
    have:((List.range z.mine.length).map fun i=>AV.ptr (w.bp i) 0)[Nat.add 0 (Nat.mul i 1)]?=some (.ptr (w.bp i) 0):=by
      rw [show Nat.add 0 (Nat.mul i 1)=i by simp]
      simp [List.getElem?_map,List.getElem?_range hi]
    rw [this,sN]
    simp [elP]
theorem PoolIn.blen {h:Heap} {w:PoolP} {z:PoolZ} (b:PoolIn h w z) (k:Int→CRes):fH w.vb k=k z.mine.length:=b.buds.len k
theorem Ps {n:Nat} {h:Heap} {w:PoolP} {z:PoolZ} (b:PoolIn h w z) (k:Bool→Heap→CRes):dn n (.ptr w.p 0) h k=k true h:=by
  unfold dn HS H0 DA DU
  have e1:∀ c,ajj (.nil .mp) (.map w.mu) .nilmap c=c false:=fun c=>rfl
  have t1:(false ^^ true)=true:=rfl
  simp only [cJ,Nat.reduceAdd,ayb,t1,bM b.own.cl,aiz,e1]
theorem PoolIn.mup {h:Heap} {w:PoolP} {z:PoolZ} (b:PoolIn h w z):w.mu≠w.p:=b.uses.ne b.own
theorem PoolIn.vmp {h:Heap} {w:PoolP} {z:PoolZ} (b:PoolIn h w z) {c:Nat} (e:w.vm.blk=some c):c≠w.p∧c≠w.mu:=⟨b.mine.ne b.own e,b.mine.neM b.uses e⟩
theorem PoolIn.vbp {h:Heap} {w:PoolP} {z:PoolZ} (b:PoolIn h w z) {c:Nat} (e:w.vb.blk=some c):c≠w.p∧c≠w.mu:=by
  rcases b.buds with ⟨e1,_,_⟩ | ⟨d,e1,o,_,_⟩
  · rw [e1] at e; cases e
  · rw [e1] at e
    cases e
    refine ⟨?_,fun e2=>?_⟩
    · rintro rfl
      have:=b.own.get.symm.trans o.get
      simp at this
    · rw [e2] at o
      exact b.uses.ne o rfl
theorem PoolIn.setUses {h h':Heap} {w:PoolP} {z:PoolZ} (b:PoolIn h w z) {kv:List (Int × Int)} (c:Chg (· = w.mu) h h') (hm:MapI h' w.mu .u8 kv):PoolIn h' w { z with uses:=kv }:=
  ⟨c.own b.own (fun e=>b.mup e.symm),b.mine.chg c fun d e=>(b.vmp e).2,b.buds.chg c fun d e=>(b.vbp e).2,hm,fun i hi=>(b.each i hi).chg c fun d e=>(b.apart i hi d e).2.1,b.disj,b.apart,b.two⟩
theorem PoolIn.setCount {h h':Heap} {w:PoolP} {z:PoolZ} (b:PoolIn h w z) {k:Nat} (hk:k<7) {x:Int} (p:Put h w.p ((AW z w.vm w.vb w.mu).set (13+k) (.int .i64 x)) 0 h'):PoolIn h' w { z with counts:=upd z.counts k x }:=by
  have o:=p.own
  rw [aAt _ _ _ _ _ hk] at o
  exact ⟨o,b.mine.chg p.chg fun d e=>(b.vmp e).1,b.buds.chg p.chg fun d e=>(b.vbp e).1,b.uses.chg p.chg b.mup,fun i hi=>(b.each i hi).chg p.chg fun d e=>(b.apart i hi d e).1,b.disj,b.apart,b.two⟩
theorem PoolIn.lt {h:Heap} {w:PoolP} {z:PoolZ} (b:PoolIn h w z) {c:Nat} (hc:fpP w z.mine.length c):c<h.nx:=by
  rcases hc with e | e | e | e | ⟨i,hi,e⟩
  · subst e; exact b.own.lt
  · subst e; exact b.uses.lt
  · exact (b.mine.lt e).1
  · exact b.buds.lt e
  · exact (b.each i hi).lt e
def jc (co c at_:Int) (j:Nat):List Int:=(List.range j).map fun (i:Nat)=>(at_+(i:Int))*co+c
theorem ame (co c at_:Int) (j:Nat):jc co c at_ (j+1)=jc co c at_ j++[(at_+(j:Int))*co+c]:=by simp [jc,List.range_succ]
theorem qE (co c at_:Int) (j:Nat):(jc co c at_ j).length=j:=by simp [jc]
def avA (u:Int) (l:List Int) (kv:List (Int × Int)):List (Int × Int):=l.foldl (fun kv f=>Wl f u kv) kv
theorem aBj {n:Nat} {w:PoolP} {L i u N:Nat} {at_ c:Int} (hu:u<7) (hN:N≤100) (hat:0≤at_) (f1):∀ (q j:Nat) (h:Heap) (z:PoolZ) (v:AV),h.ro≤h.nx→PoolIn h w z→z.mine.length=L→i<L→nz z.mine i=c→0≤c→c<z.colours→cR z.colours 1 16=true→
    (at_+(N:Int)-1)*z.colours+c≤4095→0≤z.counts u→z.counts u+(N:Int)≤1000000000+(j:Int)→Lst h v (jc z.colours c at_ j)→(∀ d,v.blk=some d→¬ fpP w L d)→j≤N→N-j<q→
    Run2 (fun k=>qL n f1 (uD n) k q (.ptr w.p 0) (i:Int) (u:Int) at_ v (N:Int) (j:Int) h) fun r e h'=>e=0∧Lst h' r (jc z.colours c at_ N)∧(∀ d,r.blk=some d→v.blk=some d∨h.nx≤d)∧
      PoolIn h' w { z with uses:=avA u ((jc z.colours c at_ N).drop j) z.uses,counts:=upd z.counts u (z.counts u+((N-j:Nat):Int)) }∧Chg (fun d=>fpP w L d∨v.blk=some d) h h':=by
  intro q
  induction q with
  | zero=>omega
  | succ q ih=>
    intro j h z v hro b hL hi hc hc0 hc1 hco hmax hcnt hcnt2 hv hvf hj hq
    simp only [ag8]
    unfold vX wA DH
    refine RunG.ifB (fun e=>?_) fun e=>?_
    · simp at e
      have hco':=hco
      simp [cR] at hco'
      have m1:(at_+(j:Int))*z.colours≤(at_+(N:Int)-1)*z.colours:=Int.mul_le_mul_of_nonneg_right (by omega) (by omega)
      have m2:(at_+(j:Int))*1≤(at_+(j:Int))*z.colours:=Int.mul_le_mul_of_nonneg_left (by omega) (by omega)
      have e1:IntKind.i64.wrap (at_+(j:Int))=at_+(j:Int):=jU (by omega) (by omega)
      have e2:IntKind.i64.wrap (z.counts u+1)=z.counts u+1:=jU (by omega) (by omega)
      have hel:=b.mine.ints.elN (i:=i) (by omega)
      rw [hc] at hel
      simp only [cJ,Nat.reduceAdd,bM b.own.cl,pool_0,azr,aiz,hel,e1,u_Frame n hco hc0 hc1 (show 0≤at_+(j:Int) by omega) (show (at_+(j:Int))*z.colours+c≤4095 by omega)]
      have t0:∀ (A B:CRes),ifB (!((0:Int)==0)) A B=B:=fun _ _=>rfl
      simp only [t0]
      refine Run0.bind (ax1 b.uses _ _) ?_
      rintro h2 ⟨m2',c2⟩
      have b2:=b.setUses c2 m2'
      simp only [cJ,Nat.reduceAdd,KO hu,bM b2.own.cl,ay5 _ _ _ _ hu,e2]
      refine Run0.bind (G1 b2.own (by show 13+u<20; omega) rfl) ?_
      intro h3 p3
      have b3:=b2.setCount hu p3
      have hro3:h3.ro≤h3.nx:=p3.chg.le (c2.le hro)
      refine Run1.bind (Ip (fun k=>by rfl)) ?_
      rintro _ h4 ⟨rfl,c4,g4⟩
      have b4:=b3.grow g4
      have hfv:=hvf
      have hv2:=hv.chg c2 fun d e1 e2=>hvf d e1 (.inr (.inl e2))
      have hv3:=hv2.chg p3.chg fun d e1 e2=>hvf d e1 (.inl e2)
      have hv4:=hv3.grow g4
      have hlen:(jc z.colours c at_ j).length=j:=qE ..
      refine Run1.bind (aiJ (g4.le hro3) hv4 c4 (by omega)) ?_
      rintro v' h5 ⟨l5,hb5,c5⟩
      rw [← ame] at l5
      have n4:h.nx≤h4.nx:=Nat.le_trans (Nat.le_trans c2.nx p3.chg.nx) g4.nx
      have b5:=b4.chg c5 fun d e1 e2=>hvf d e2 (by rw [← hL]; exact e1)
      simp only [cJ,Nat.reduceAdd,fW (show j≤9223372036854775806 by omega)]
      have hz':((z.counts u+1)+((N-(j+1):Nat):Int))=z.counts u+((N-j:Nat):Int):=by omega
      refine RunG.mono (ih (j+1) h5 _ v' (c5.le (g4.le hro3)) b5 hL hi hc hc0 hc1 hco hmax (by show 0≤upd _ _ _ _; rw [dC]; omega) (by show upd _ _ _ _+_≤_; rw [dC]; omega) l5 (fun d e1 e2=>?_) (by omega) (by omega)) ?_
      · rcases hb5 d e1 with e3 | e3
        · exact hvf d e3 e2
        · have:=b.lt (by rw [hL]; exact e2)
          omega
      · rintro ⟨r,er,h'⟩ ⟨q1,q2,q3,q4,q5⟩
        refine ⟨q1,q2,fun d e1=>?_,?_,?_⟩
        · rcases q3 d e1 with e3 | e3
          · rcases hb5 d e3 with e4 | e4
            · exact .inl e4
            · exact .inr (by omega)
          · exact .inr (by have:=c5.nx; omega)
        · have hd:(jc z.colours c at_ N).drop j=((at_+(j:Int))*z.colours+c)::(jc z.colours c at_ N).drop (j+1):=by
            rw [List.drop_eq_getElem_cons (by rw [qE]; omega)]
            congr 1
            simp [jc]
          have hu2:upd (upd z.counts u (z.counts u+1)) u ((upd z.counts u (z.counts u+1)) u+((N-(j+1):Nat):Int))=upd z.counts u (z.counts u+((N-j:Nat):Int)):=by
            funext k
            rw [dC,hz']
            unfold upd
            split<;>rfl
          dsimp only at q4 ⊢
          rw [hu2] at q4
          rw [hd]
          exact q4
        · have a1:Chg (fun d=>fpP w L d∨v.blk=some d) h h5:=(c2.mono fun d _ e=>.inl (.inr (.inl e))).trans ((p3.chg.mono fun d _ e=>.inl (.inl e)).trans ((g4.chg _).trans (c5.mono fun d _ e=>.inr e)))
          refine ⟨Nat.le_trans a1.nx q5.nx,q5.ro.trans a1.ro,fun d hd hf=>?_⟩
          rw [q5.old d (Nat.lt_of_lt_of_le hd a1.nx) fun e1=>?_,a1.old d hd hf]
          rcases e1 with e1 | e1
          · exact hf (.inl e1)
          · rcases hb5 d e1 with e3 | e3
            · exact hf (.inr e3)
            · omega
    · simp at e
      have:j=N:=by omega
      subst this
      refine XA ⟨rfl,hv,fun d e=>.inl e,?_,⟨Nat.le_refl _,rfl,fun _ _ _=>rfl⟩⟩
      have e1:(jc z.colours c at_ j).drop j = []:=List.drop_eq_nil_of_le (by rw [qE]; omega)
      have e2:upd z.counts u (z.counts u+((j-j:Nat):Int))=z.counts:=by
        funext k
        unfold upd
        split
        · rename_i hk; subst hk; simp
        · rfl
      dsimp only
      rw [e1,e2]
      exact b
theorem PoolIn.setBud {h h':Heap} {w:PoolP} {z:PoolZ} (b:PoolIn h w z) {i:Nat} (hi:i<z.mine.length) {v':Nat→AV} {s':BudZ} (bn:BudIn h' (w.bp i) (w.bm i) v' s')
    (hsub:∀ j,j<7→∀ c,(v' j).blk=some c→(w.bv i j).blk=some c∨h.nx≤c) (c:Chg (fpI w i) h h') :
    PoolIn h' { w with bv:=upd w.bv i v' } { z with buds:=upd z.buds i s' }∧∀ d,fpP { w with bv:=upd w.bv i v' } z.mine.length d→fpP w z.mine.length d∨h.nx≤d:=by
  have fi:∀ d,fpI { w with bv:=upd w.bv i v' } i d→fpI w i d∨h.nx≤d:=by
    intro d hd
    unfold fpI at hd ⊢
    dsimp only at hd
    rw [dC] at hd
    exact avV hsub hd
  have fo:∀ j,j≠i→fpI { w with bv:=upd w.bv i v' } j=fpI w j:=by
    intro j hj
    unfold fpI
    dsimp only
    rw [dh _ _ hj]
  refine ⟨⟨c.own b.own fun e=>(b.apart i hi _ e).1 rfl,b.mine.chg c fun d e1 e2=>(b.apart i hi d e2).2.2.1 e1,b.buds.chg c fun d e1 e2=>(b.apart i hi d e2).2.2.2 e1,b.uses.chg c fun e=>(b.apart i hi _ e).2.1 rfl,fun j hj=>?_,fun j k hj hk hjk d e1 e2=>?_,fun j hj d e1=>?_,b.two⟩,fun d hd=>?_⟩
  · by_cases e:j=i
    · subst e
      show BudIn h' (w.bp j) (w.bm j) (upd w.bv j v' j) (upd z.buds j s' j)
      rw [dC,dC]; exact bn
    · show BudIn h' (w.bp j) (w.bm j) (upd w.bv i v' j) (upd z.buds i s' j)
      rw [dh _ _ e,dh _ _ e]
      exact (b.each j hj).chg c fun d e1 e2=>b.disj j i hj hi e d e1 e2
  · by_cases ej:j=i
    · subst ej
      rw [fo k (fun e=>hjk e.symm)] at e2
      rcases fi d e1 with e3 | e3
      · exact b.disj j k hj hk hjk d e3 e2
      · have:=(b.each k hk).lt e2
        omega
    · rw [fo j ej] at e1
      by_cases ek:k=i
      · subst ek
        rcases fi d e2 with e3 | e3
        · exact b.disj j k hj hk hjk d e1 e3
        · have:=(b.each j hj).lt e1
          omega
      · rw [fo k ek] at e2
        exact b.disj j k hj hk hjk d e1 e2
  · by_cases ej:j=i
    · subst ej
      rcases fi d e1 with e3 | e3
      · exact b.apart j hj d e3
      · refine ⟨?_,?_,fun e4=>?_,fun e4=>?_⟩
        · intro e4
          have e5:d=w.p:=e4
          have:=b.own.lt
          omega
        · intro e4
          have e5:d=w.mu:=e4
          have:=b.uses.lt
          omega
        · have:=(b.mine.lt e4).1; omega
        · have:=b.buds.lt e4; omega
    · rw [fo j ej] at e1
      exact b.apart j hj d e1
  · rcases hd with e | e | e | e | ⟨j,hj,e⟩
    · exact .inl (.inl e)
    · exact .inl (.inr (.inl e))
    · exact .inl (.inr (.inr (.inl e)))
    · exact .inl (.inr (.inr (.inr (.inl e))))
    · by_cases ej:j=i
      · subst ej
        rcases fi d e with e3 | e3
        · exact .inl (.inr (.inr (.inr (.inr ⟨j,hj,e3⟩))))
        · exact .inr e3
      · rw [fo j ej] at e
        exact .inl (.inr (.inr (.inr (.inr ⟨j,hj,e⟩))))
structure PoolOk (z:PoolZ):Prop where
  co:cR z.colours 1 16=true
  ne:0<z.mine.length
  ln:z.mine.length≤16
  mine:∀ i,i<z.mine.length→0≤nz z.mine i∧nz z.mine i<z.colours
  room:∀ i,i<z.mine.length→∀ k,k<7→∀ a∈(z.buds i).free k,0≤a∧(a+2^k-1)*z.colours+nz z.mine i≤4095
  cnt:∀ k,0≤z.counts k∧z.counts k≤900000000
theorem PoolOk.small {z:PoolZ} (o:PoolOk z) {i:Nat} (hi:i<z.mine.length):ar6 (z.buds i):=by
  intro k hk x hx
  obtain ⟨h1,h2⟩:=o.room i hi k hk x hx
  have h3:=(o.mine i hi).1
  have hco:=o.co
  simp [cR] at hco
  obtain ⟨p1,p2,p3⟩:=abE hk
  have m1:(x+2^k-1)*1≤(x+2^k-1)*z.colours:=Int.mul_le_mul_of_nonneg_left (by omega) (by omega)
  omega
def K5 (z:PoolZ) (i o u k:Nat) (a:Int) (rest:List Int):PoolZ:=
  { z with buds:=upd z.buds i { tL (z.buds i) o k o a rest with taken:=Wl a o (z.buds i).taken },uses:=avA u (jc z.colours (nz z.mine i) a (2^o)) z.uses,counts:=upd z.counts u (z.counts u+((2^o:Nat):Int)) }
def Taken (h:Heap) (w:PoolP) (z:PoolZ) (i o u:Nat) (r:AV) (e:Int) (h':Heap):Prop:=
  (e=4∧r = .nilslice∧h'=h∧∀ j,o≤j→j<7→(z.buds i).free j = [])∨
  (e=0∧∃ k a rest bv',o≤k∧k<7∧(z.buds i).free k=a::rest∧(∀ j,o≤j→j<k→(z.buds i).free j = [])∧Lst h' r (jc z.colours (nz z.mine i) a (2^o))∧(∀ d,r.blk=some d→h.nx≤d∧¬ fpP { w with bv:=bv' } z.mine.length d)∧
    PoolIn h' { w with bv:=bv' } (K5 z i o u k a rest)∧(∀ d,fpP { w with bv:=bv' } z.mine.length d→fpP w z.mine.length d∨h.nx≤d)∧Chg (fpP w z.mine.length) h h')
theorem aAj {n:Nat} (hn:100<n) {h:Heap} (hro:h.ro≤h.nx) {w:PoolP} {z:PoolZ} (b:PoolIn h w z) (ok:PoolOk z) {i o u:Nat} (hi:i<z.mine.length) (ho:o<7) (hu:u<7) :
    Run2 (kj n (.ptr w.p 0) (i:Int) (o:Int) (u:Int) h) (Taken h w z i o u):=by
  unfold kj HK HH
  simp only [cJ,Nat.reduceAdd,bM b.own.cl,aiq,b.bud hi]
  refine Run2.bind (v_Take (by omega) hro (ok.small hi) (b.each i hi) ho) ?_
  rintro a er h2 (⟨rfl,rfl,rfl,hemp⟩ | ⟨rfl,k,rest,v',h1,hk,hx,hemp,bn,hsub,c2⟩)
  · exact XA (.inl ⟨rfl,rfl,rfl,hemp⟩)
  · obtain ⟨p0,p1,p2⟩:=aca ho
    obtain ⟨q1,q2,q3⟩:=abE ho
    obtain ⟨b2,hf2⟩:=b.setBud hi bn hsub c2
    have t0:∀ (A B:CRes),ifB (!((0:Int)==0)) A B=B:=fun _ _=>rfl
    simp only [cJ,Nat.reduceAdd,t0,TZ (Int.natCast_nonneg o),q1]
    rw [← p0]
    obtain ⟨r1,r2⟩:=ok.room i hi k hk a (by rw [hx]; simp)
    have hco:=ok.co
    simp [cR] at hco
    have hpk:(2:Int)^o≤2^k:=by
      have:=Nat.pow_le_pow_right (show 0<2 by omega) h1
      have e1:=(aca hk).1
      omega
    have m1:(a+((2^o:Nat):Int)-1)*z.colours≤(a+2^k-1)*z.colours:=Int.mul_le_mul_of_nonneg_right (by omega) (by omega)
    have hcnt:=ok.cnt u
    refine RunG.mono (aBj (w:={ w with bv:=upd w.bv i v' }) (L:=z.mine.length) (c:=nz z.mine i) hu (by omega) r1 (me n) n 0 h2 _ .nilslice (c2.le hro) b2 rfl hi rfl (ok.mine i hi).1 (ok.mine i hi).2 ok.co (by show (a+((2^o:Nat):Int)-1)*z.colours+nz z.mine i≤4095; omega) hcnt.1 (by show z.counts u+_≤_; omega) (by simpa [jc] using Lst.nil) (fun d e=>by cases e) (by omega) (by omega)) ?_
    rintro ⟨r,er,h'⟩ ⟨s1,s2,s3,s4,s5⟩
    refine .inr ⟨s1,k,a,rest,_,h1,hk,hx,hemp,s2,fun d e=>?_,s4,hf2,?_⟩
    · rcases s3 d e with e1 | e1
      · cases e1
      · exact ⟨Nat.le_trans c2.nx e1,fun e2=>by have:=b2.lt e2; omega⟩
    · refine ⟨Nat.le_trans c2.nx s5.nx,s5.ro.trans c2.ro,fun d hd hf=>?_⟩
      rw [s5.old d (Nat.lt_of_lt_of_le hd c2.nx) fun e1=>?_,c2.old d hd fun e1=>hf (.inr (.inr (.inr (.inr ⟨i,hi,e1⟩))))]
      rcases e1 with e1 | e1
      · rcases hf2 d e1 with e2 | e2
        · exact hf e2
        · omega
      · cases e1
theorem v_Image {n:Nat} (hn:100<n) {h:Heap} (hro:h.ro≤h.nx) {w:PoolP} {z:PoolZ} (b:PoolIn h w z) (ok:PoolOk z) {o:Nat} (ho:o<7) (hz:z.order=(o:Int)) (hc:z.counts 1=0) :
    Run2 (ec n (.ptr w.p 0) h) (Taken h w z 0 o 1):=by
  unfold ec Ig HE
  have i1:∀ c,Fw 1 7 (.ptr w.p 13) 1 c=c (.ptr w.p 14):=fun c=>KO (n:=7) (k:=1) (by omega) c
  have e1:(AW z w.vm w.vb w.mu)[14]?=some (.int .i64 (z.counts 1)):=rfl
  have e2:decide ((0:Int)<0)=false:=rfl
  simp only [cJ,Nat.reduceAdd,Ps b,Bool.not_true,i1,bM b.own.cl,e1,hc,e2,pool_2,hz]
  exact aAj hn hro b ok ok.ne ho (u:=1) (by omega)
def Best (f:Nat→Nat) (L b:Nat):Prop:=b<L∧(∀ j,j<L→f j≤f b)∧∀ j,j<b→f j<f b
abbrev frees (z:PoolZ) (i:Nat):Nat:=fU (z.buds i) 7
theorem avi (h:Heap):(h.shut true).back h.ro=h:=by cases h; rfl
theorem aBk {n:Nat} (hn:100<n) {R:Type} {ap:iV→R→CRes} {Q:R→Prop} {h:Heap} {w:PoolP} {z:PoolZ} (b:PoolIn h w z) {u:Int} (f1 f2) (hL:z.mine.length≤9223372036854775807)
    (hgo:∀ best,Best (frees z) z.mine.length best→RunG ap (fun k=>sf n f1 f2 (gc n) k (.ptr w.p 0) u (best:Int) h) Q) :
    ∀ (q i best:Nat),best<z.mine.length→best≤i→i≤z.mine.length→z.mine.length-i<q→(∀ j,j<i→frees z j≤frees z best)→(∀ j,j<best→frees z j<frees z best)→
    RunG ap (fun k=>r7 n f1 f2 (gc n) k q (.ptr w.p 0) u (best:Int) w.vb z.mine.length (i:Int) h) Q:=by
  intro q
  induction q with
  | zero=>omega
  | succ q ih=>
    intro i best hb hbi hi hq h1 h2
    simp only [ajx]
    unfold xg xh F5
    refine RunG.ifB (fun e=>?_) fun e=>?_
    · simp at e
      have t1:=fun K=>(b.bud (i:=i) e) K
      have t2:=fun K=>(b.bud (i:=best) hb) K
      simp only [cJ,Nat.reduceAdd,t1]
      refine Run1.bind (ayR (by omega) (b.each i e).rd.shut) ?_
      rintro _ _ ⟨rfl,rfl⟩
      rw [avi]
      simp only [cJ,Nat.reduceAdd,bM b.own.cl,aiq,t2]
      refine Run1.bind (ayR (by omega) (b.each best hb).rd) ?_
      rintro _ _ ⟨rfl,rfl⟩
      rw [fW (show i≤9223372036854775806 by omega)]
      refine RunG.ifB (fun e1=>?_) fun e1=>?_
      · simp at e1
        refine ih (i+1) i e (by omega) (by omega) (by omega) (fun j hj=>?_) (fun j hj=>?_)
        · by_cases ej:j=i
          · subst ej; exact Nat.le_refl _
          · have:=h1 j (by omega)
            show fU _ _≤fU _ _
            have h3:fU (z.buds j) 7≤fU (z.buds best) 7:=this
            omega
        · have h3:fU (z.buds j) 7≤fU (z.buds best) 7:=h1 j hj
          show fU _ _<fU _ _
          omega
      · simp at e1
        refine ih (i+1) best hb (by omega) (by omega) (by omega) (fun j hj=>?_) h2
        by_cases ej:j=i
        · subst ej; exact e1
        · exact h1 j (by omega)
    · simp at e
      have:i=z.mine.length:=by omega
      subst this
      exact hgo best ⟨hb,h1,h2⟩
def alD (h:Heap) (w:PoolP) (z:PoolZ) (u:Nat) (f e:Int) (h':Heap):Prop:=
  (z.quota u≤z.counts u∧f=0∧e=4∧h'=h)∨(z.counts u<z.quota u∧∃ best r,Best (frees z) z.mine.length best∧Taken h w z best 0 u r e h'∧
    (e≠0→f=0)∧(e=0→∀ k a rest,(∀ j,0≤j→j<k→(z.buds best).free j = [])→(z.buds best).free k=a::rest→f=a*z.colours+nz z.mine best))
theorem avX {n:Nat} (hn:100<n) {h:Heap} (hro:h.ro≤h.nx) {w:PoolP} {z:PoolZ} (b:PoolIn h w z) (ok:PoolOk z) {u:Nat} (hu2:2≤u) (hu:u<7) :
    Run2 (eN n (.ptr w.p 0) (u:Int) h) (alD h w z u):=by
  unfold eN Kc KB F3 FA
  have e1:decide ((u:Int)<2)=false:=by simp; omega
  have e2:decide ((6:Int)<(u:Int))=false:=by simp; omega
  simp only [cJ,Nat.reduceAdd,Ps b,Bool.not_true,e1,e2,KO hu,bM b.own.cl,ay5 _ _ _ _ hu,pool_q _ _ _ _ hu,aiq,b.blen]
  refine RunG.ifB (fun e=>?_) fun e=>?_
  · simp at e
    exact XA (.inl ⟨e,rfl,rfl,rfl⟩)
  simp at e
  have hln:=ok.ln
  refine aBk hn b _ _ (by omega) (fun best hbest=>?_) n 0 0 ok.ne (by omega) (by omega) (by omega) (fun j hj=>by omega) (fun j hj=>by omega)
  unfold sf Fu
  refine Run2.bind (aAj hn hro b ok hbest.1 (o:=0) (by omega) hu) ?_
  rintro r er h' ht
  refine RunG.ifB (fun e3=>?_) fun e3=>?_
  · simp at e3
    exact XA (.inr ⟨e,best,r,hbest,ht,fun _=>rfl,fun h0=>(e3 h0).elim⟩)
  · simp at e3
    subst e3
    have ht':=ht
    rcases ht' with ⟨h0,_⟩ | ⟨_,k,a,rest,bv',h1,hk,hx,hemp,hl,_⟩
    · cases h0
    have hf:jc z.colours (nz z.mine best) a (2^0) = [a*z.colours+nz z.mine best]:=by simp [jc]
    rw [hf] at hl
    have hel:=hl.ints.elN (i:=0) (by simp)
    have hel':∀ K,Lw .i64 1 h' r 0 K=K (elP r 1 0) (a*z.colours+nz z.mine best):=hel
    simp only [cJ,Nat.reduceAdd,hel']
    refine XA (.inr ⟨e,best,r,hbest,ht,fun h0=>(h0 rfl).elim,fun _ k' a' rest' hemp' hx'=>?_⟩)
    have hkk:k'=k:=by
      rcases Nat.lt_trichotomy k' k with h2 | h2 | h2
      · rw [hemp k' (by omega) h2] at hx'; cases hx'
      · exact h2
      · rw [hemp' k (by omega) h2] at hx; cases hx
    subst hkk
    rw [hx] at hx'
    cases hx'
    rfl
def lA (z:PoolZ):List Int:=(List.range z.mine.length).map fun i=>(frees z i:Int)
theorem aA6 {n:Nat} (hn:100<n) {w:PoolP} {z:PoolZ} (ok:PoolOk z) {h0:Heap} (hro:h0.ro≤h0.nx) (b0:PoolIn h0 w z) (f1):∀ (q i:Nat) (h:Heap) (v:AV),Grow h0 h→Lst h v ((List.range i).map fun i=>(frees z i:Int))→(∀ c,v.blk=some c→h0.nx≤c)→
    i≤z.mine.length→z.mine.length-i<q→
    Run1 (fun k=>sa n f1 (gc n) k q v w.vb z.mine.length (i:Int) h) fun r h'=>Lst h' r (lA z)∧(∀ c,r.blk=some c→h0.nx≤c)∧Grow h0 h':=by
  intro q
  induction q with
  | zero=>omega
  | succ q ih=>
    intro i h v g hv hf hi hq
    simp only [ajc]
    unfold xq xr Fl
    have b:=b0.grow g
    refine RunG.ifB (fun e=>?_) fun e=>?_
    · simp at e
      have t1:=fun K=>(b.bud (i:=i) e) K
      simp only [cJ,Nat.reduceAdd,t1]
      refine Run1.bind (ayR (by omega) (b.each i e).rd) ?_
      rintro _ _ ⟨rfl,rfl⟩
      refine Run1.bind (Ip (fun k=>by rfl)) ?_
      rintro _ h2 ⟨rfl,c2,g2⟩
      have hln:=ok.ln
      refine Run1.bind (aiJ ((g.trans g2).le hro) (hv.grow g2) c2 (by simp; omega)) ?_
      rintro v' h3 ⟨l3,b3,c3⟩
      rw [fW (show i≤9223372036854775806 by omega)]
      refine ih (i+1) h3 v' (c3.grow (g.trans g2) hf) ?_ (fun c e1=>?_) (by omega) (by omega)
      · rw [List.range_succ,List.map_append]
        exact l3
      · rcases b3 c e1 with e2 | e2
        · exact hf c e2
        · have:=(g.trans g2).nx; omega
    · simp at e
      have:i=z.mine.length:=by omega
      subst this
      exact je ⟨hv,hf,g⟩
theorem awZ {n:Nat} (hn:100<n) {h:Heap} (hro:h.ro≤h.nx) {w:PoolP} {z:PoolZ} (b:PoolIn h w z) (ok:PoolOk z) :
    Run1 (dB n (.ptr w.p 0) h) fun r h'=>Lst h' r (lA z)∧(∀ c,r.blk=some c→h.nx≤c)∧Grow h h':=by
  unfold dB Kb Jz
  simp only [cJ,Nat.reduceAdd,Ps b,Bool.not_true,bM b.own.cl,aiq,b.blen]
  exact aA6 hn ok hro b _ n 0 h .nilslice .refl .nil (fun c e=>by cases e) (by omega) (by have:=ok.ln; omega)
end Go.Proofs.YtnlbfbiogfilfaaGreat.Sh
