/- A new pool, by the code. -/
import Derived.Test.YtnlbfbiogfilfaaGreatZUPool
set_option linter.all false
namespace Go.Proofs.YtnlbfbiogfilfaaGreat.Sh
open Go.Ai
theorem ayH (d:Nat) (h:Heap) (b o n:Nat) (u:AV) (k:AV→Heap→CRes):nfst d h (.ptr b o) n u k=lS h (.ptr b (o+d)) n u fun H=>k (.ptr b (o+d)) H:=by
  unfold nfst Go.Ai.fst
  rw [apF,arw]
structure PoolMk (h0 h:Heap) (w:PoolP) (z:PoolZ) (L:Nat):Prop where
  own:Own h w.p (AW z w.vm w.vb w.mu) 0
  mine:Lst h w.vm z.mine
  buds:App h w.vb 1 L ((List.range L).map fun i=>.ptr (w.bp i) 0)
  uses:MapI h w.mu .u8 z.uses
  each:∀ i,i<L→BudIn h (w.bp i) (w.bm i) (w.bv i) (z.buds i)
  disj:∀ i j,i<L→j<L→i≠j→∀ c,fpI w i c→¬ fpI w j c
  apart:∀ i,i<L→∀ c,fpI w i c→c≠w.p∧c≠w.mu∧w.vm.blk≠some c∧w.vb.blk≠some c
  two:∀ c,w.vm.blk=some c→w.vb.blk≠some c
  low:∀ c,fpP w L c→h0.nx≤c
  g:Grow h0 h
theorem PoolMk.pool {h0 h:Heap} {w:PoolP} {z:PoolZ} (b:PoolMk h0 h w z z.mine.length):PoolIn h w z:=⟨b.own,b.mine,b.buds,b.uses,b.each,b.disj,b.apart,b.two⟩
theorem PoolMk.lt {h0 h:Heap} {w:PoolP} {z:PoolZ} {L:Nat} (b:PoolMk h0 h w z L) {c:Nat} (hc:fpP w L c):c<h.nx:=by
  rcases hc with e | e | e | e | ⟨i,hi,e⟩
  · subst e; exact b.own.lt
  · subst e; exact b.uses.lt
  · exact (b.mine.lt e).1
  · exact b.buds.lt e
  · exact (b.each i hi).lt e
theorem ayZ (z:PoolZ) (vm vb vb':AV) (mu:Nat):(AW z vm vb mu).set 11 vb'=AW z vm vb' mu:=rfl
theorem PoolMk.more {h0 h h2 h3 h4 h5:Heap} {w:PoolP} {z:PoolZ} {L:Nat} (b:PoolMk h0 h w z L) {p m:Nat} {v:Nat→AV} {s:BudZ} (bn:ak6 h h2 p m v s) (g3:Grow h2 h3) {vb:AV}
    (ha:App h4 vb 1 (L+1) (((List.range L).map fun i=>AV.ptr (w.bp i) 0)++[.ptr p 0])) (hb:vb.blk=some h3.nx) (c4:Chg (fun c=>w.vb.blk=some c) h3 h4) (p5:Put h4 w.p ((AW z w.vm w.vb w.mu).set 11 vb) 0 h5) :
    PoolMk h0 h5 { w with vb:=vb,bp:=upd w.bp L p,bm:=upd w.bm L m,bv:=upd w.bv L v } { z with buds:=upd z.buds L s } (L+1):=by
  obtain ⟨bi,hf,g2⟩:=bn
  have g23:=g2.trans g3
  have n2:=g2.nx
  have n3:=g3.nx
  have vbp:∀ c,w.vb.blk=some c→c≠w.p∧c≠w.mu:=by
    intro c e
    rcases b.buds with ⟨e1,_,_⟩ | ⟨d,e1,o,_,_⟩
    · rw [e1] at e; cases e
    · rw [e1] at e
      cases e
      refine ⟨?_,fun e2=>?_⟩
      · rintro rfl
        have:=b.own.get.symm.trans o.get
        simp at this
      · rw [e2] at o
        exact b.uses.ne o rfl
  have vmp:∀ c,w.vm.blk=some c→c≠w.p:=fun c e=>b.mine.ne b.own e
  have mup:w.mu≠w.p:=b.uses.ne b.own
  have fo:∀ j,j≠L→fpI { w with vb:=vb,bp:=upd w.bp L p,bm:=upd w.bm L m,bv:=upd w.bv L v } j=fpI w j:=by
    intro j hj
    unfold fpI
    dsimp only
    rw [dh _ _ hj,dh _ _ hj,dh _ _ hj]
  have fl:∀ c,fpI { w with vb:=vb,bp:=upd w.bp L p,bm:=upd w.bm L m,bv:=upd w.bv L v } L c→h.nx≤c∧c<h2.nx:=by
    intro c hc
    unfold fpI at hc
    dsimp only at hc
    rw [dC,dC,dC] at hc
    exact ⟨hf c hc,bi.lt hc⟩
  have o5:=p5.own
  rw [ayZ] at o5
  refine ⟨o5,?_,?_,?_,fun i hi=>?_,fun i j hi hj hij c e1 e2=>?_,fun i hi c e=>?_,fun c e1 e2=>?_,fun c hc=>?_,?_⟩
  · exact ((b.mine.grow g23).chg c4 fun d e1 e2=>b.two d e1 e2).chg p5.chg fun d e1 e2=>vmp d e1 e2
  · rw [List.range_succ,List.map_append]
    have:(List.range L).map (fun i=>AV.ptr (upd w.bp L p i) 0)=(List.range L).map fun i=>AV.ptr (w.bp i) 0:=by
      apply List.map_congr_left
      intro i hi
      rw [dh _ _ (by have:=List.mem_range.1 hi; omega)]
    show App h5 vb 1 (L+1) ((List.range L).map (fun i=>AV.ptr (upd w.bp L p i) 0)++[.ptr (upd w.bp L p L) 0])
    rw [this,dC]
    refine ha.chg p5.chg fun d e1 e2=>?_
    rw [hb] at e1
    cases e1
    have h1:h3.nx=w.p:=e2
    have:=b.own.lt
    omega
  · exact ((b.uses.chg (g23.chg fun _=>False) fun h=>h).chg c4 fun e=>(vbp _ e).2 rfl).chg p5.chg mup
  · by_cases e:i=L
    · subst e
      show BudIn h5 (upd w.bp i p i) (upd w.bm i m i) (upd w.bv i v i) (upd z.buds i s i)
      rw [dC,dC,dC,dC]
      refine ((bi.grow g3).chg c4 fun d e1 e2=>?_).chg p5.chg fun d e1 e2=>?_
      · have h1:=b.buds.lt e2
        have h2:=hf d e1
        omega
      · have h1:=b.own.lt
        have h2:=hf d e1
        have h3:d=w.p:=e2
        omega
    · show BudIn h5 (upd w.bp L p i) (upd w.bm L m i) (upd w.bv L v i) (upd z.buds L s i)
      rw [dh _ _ e,dh _ _ e,dh _ _ e,dh _ _ e]
      exact (((b.each i (by omega)).grow g23).chg c4 fun d e1 e2=>(b.apart i (by omega) d e1).2.2.2 e2).chg p5.chg fun d e1 e2=>(b.apart i (by omega) d e1).1 e2
  · by_cases ei:i=L
    · subst ei
      rw [fo j (fun e=>hij e.symm)] at e2
      have h1:=(b.each j (by omega)).lt e2
      have h2:=fl c e1
      omega
    · rw [fo i ei] at e1
      by_cases ej:j=L
      · subst ej
        have h1:=(b.each i (by omega)).lt e1
        have h2:=fl c e2
        omega
      · rw [fo j ej] at e2
        exact b.disj i j (by omega) (by omega) hij c e1 e2
  · by_cases ei:i=L
    · subst ei
      obtain ⟨h1,h2⟩:=fl c e
      refine ⟨fun e1=>?_,fun e1=>?_,fun e1=>?_,fun e1=>?_⟩
      · have e2:c=w.p:=e1
        have:=b.own.lt; omega
      · have e2:c=w.mu:=e1
        have:=b.uses.lt; omega
      · have:=(b.mine.lt e1).1; omega
      · have e2:vb.blk=some c:=e1
        rw [hb] at e2; cases e2; omega
    · rw [fo i ei] at e
      obtain ⟨h1,h2,h3,h4⟩:=b.apart i (by omega) c e
      refine ⟨h1,h2,h3,fun e1=>?_⟩
      have e2:vb.blk=some c:=e1
      rw [hb] at e2
      cases e2
      have:=(b.each i (by omega)).lt e
      omega
  · have e3:vb.blk=some c:=e2
    rw [hb] at e3
    cases e3
    have:=(b.mine.lt e1).1
    omega
  · have hn:=b.g.nx
    rcases hc with e | e | e | e | ⟨i,hi,e⟩
    · exact b.low c (.inl e)
    · exact b.low c (.inr (.inl e))
    · exact b.low c (.inr (.inr (.inl e)))
    · have e2:vb.blk=some c:=e
      rw [hb] at e2; cases e2; omega
    · by_cases ei:i=L
      · subst ei
        have:=(fl c e).1
        omega
      · rw [fo i ei] at e
        exact b.low c (.inr (.inr (.inr (.inr ⟨i,by omega,e⟩))))
  · exact p5.grow (c4.grow (b.g.trans g23) fun c e=>b.low c (.inr (.inr (.inr (.inl e))))) (b.low _ (.inl rfl))
def cntI (z:CfgZ) (c:Int):Int:=(z.frames-c+z.colours-1)/z.colours
def Db (z:CfgZ) (c:Int):Nat:=(cntI z c).toNat
theorem arK {z:CfgZ} (h1:cR z.frames 1 4096=true) (h2:cR z.colours 1 16=true) {c:Int} (h3:0≤c) (h4:c<z.colours):0≤cntI z c∧cntI z c≤4096∧(Db z c:Int)=cntI z c:=by
  simp [cR] at h1 h2
  have a1:0≤cntI z c:=Int.ediv_nonneg (by omega) (by omega)
  have a2:cntI z c≤(z.frames-1+1*z.colours)/z.colours:=Int.ediv_le_ediv (by omega) (by omega)
  rw [Int.add_mul_ediv_right _ _ (show z.colours≠0 by omega)] at a2
  have a3:=Int.ediv_le_self (a:=z.frames-1) z.colours (by omega)
  refine ⟨a1,by omega,?_⟩
  unfold Db
  omega
theorem v_PNew_1 {n:Nat} (hn:5000<n) {zc:CfgZ} {t pp:AV} {x:Nat} {h0:Heap} (hro0:h0.ro≤h0.nx) (hb0:h0.cl x (Es zc t pp)) (hfr:cR zc.frames 1 4096=true) (hco:cR zc.colours 1 16=true) (f1 f2) {P:Nat} {vm:AV} {l:List Int} (hl:∀ j,j<l.length→0≤nz l j∧nz l j<zc.colours) (hlen:l.length≤16) :
    ∀ (q i:Nat) (h:Heap) (w:PoolP) (z:PoolZ),PoolMk h0 h w z i→w.p=P→w.vm=vm→z.mine=l→(∀ j,j<i→∃ o,Making (Db zc (nz l j)) (Db zc (nz l j)) o (z.buds j))→i≤l.length→l.length-i<q→
    Run2 (fun k=>Ky n f1 f2 (ue n) (DC n) k q (.ptr x 0) (.ptr P 0) vm l.length (i:Int) h) fun r e h'=>r = .ptr P 0∧e=0∧∃ w' bs,w'.p=P∧PoolMk h0 h' w' { z with buds:=bs } l.length∧∀ j,j<l.length→∃ o,Making (Db zc (nz l j)) (Db zc (nz l j)) o (bs j):=by
  intro q
  induction q with
  | zero=>omega
  | succ q ih=>
    intro i h w z b hP hvm hz hmk hi hq
    simp only [av4]
    unfold Tz TN abO
    refine RunG.ifB (fun e=>?_) fun e=>?_
    · simp at e
      subst hP hvm hz
      have hb:=b.g.cl hb0
      have hel:=b.mine.ints.elN (i:=i) e
      obtain ⟨h3,h4⟩:=hl i e
      obtain ⟨c1,c2,c3⟩:=arK hfr hco h3 h4
      have t0:∀ (A B:CRes),ifB (!((0:Int)==0)) A B=B:=fun _ _=>rfl
      have hcnt:(zc.frames-nz z.mine i+zc.colours-1)/zc.colours=(Db zc (nz z.mine i):Int):=by rw [c3]; rfl
      simp only [cJ,Nat.reduceAdd,hel,bM hb,gL,u_Count n hfr hco h3 h4,hcnt,t0]
      refine Run2.bind (v_New (n:=n) (N:=Db zc (nz z.mine i)) (by omega) (by omega) (by omega) (b.g.le hro0)) ?_
      rintro _ _ h2 ⟨rfl,p,m,v,s,o,rfl,bn,mk⟩
      have g2:=bn.2.2
      have o2:=b.own.grow g2
      simp only [cJ,Nat.reduceAdd,t0,bM o2.cl,aiq]
      refine Run1.bind (Ip (fun k=>by rfl)) ?_
      rintro _ hh3 ⟨rfl,cc3,g3⟩
      have hro3:=(b.g.trans (g2.trans g3)).le hro0
      refine Run1.bind (agS hro3 (b.buds.grow (g2.trans g3)) (by omega) cc3 (by rw [oB]; rfl) (by omega)) ?_
      rintro vb h4' ⟨a4,vb4,c4⟩
      have o3:=b.own.grow (g2.trans g3)
      have o4:Own h4' w.p (AW z w.vm w.vb w.mu) 0:=c4.own o3 fun e1=>by
        rcases b.buds with ⟨e2,_,_⟩ | ⟨d,e2,od,_,_⟩
        · rw [e2] at e1; cases e1
        · rw [e2] at e1
          cases e1
          have:=b.own.get.symm.trans od.get
          simp at this
      simp only [cJ,Nat.reduceAdd,ayH]
      refine Run0.bind (G1 o4 (by show 11<20; omega) (by rcases a4 with ⟨rfl,_⟩ | ⟨d,rfl,_⟩<;>rfl)) ?_
      intro h5 p5
      have b5:=b.more bn g3 a4 vb4 c4 p5
      rw [fW (show i≤9223372036854775806 by omega)]
      refine RunG.mono (ih (i+1) h5 _ _ b5 rfl rfl rfl (fun j hj=>?_) (by omega) (by omega)) ?_
      · by_cases ej:j=i
        · subst ej
          refine ⟨o,?_⟩
          show Making _ _ o (upd z.buds j s j)
          rw [dC]; exact mk
        · obtain ⟨o',mk'⟩:=hmk j (by omega)
          refine ⟨o',?_⟩
          show Making _ _ o' (upd z.buds i s j)
          rw [dh _ _ ej]; exact mk'
      · rintro ⟨r,er,h'⟩ ⟨q1,q2,w',bs,q3,q4,q5⟩
        exact ⟨q1,q2,w',bs,q3,q4,q5⟩
    · simp at e
      have:i=l.length:=by omega
      subst this
      exact XA ⟨rfl,rfl,w,z.buds,hP,b,hmk⟩
theorem agu {z:CfgZ} {ps:List PartZ}:∀ {l:List Int} {last:Option Int},Gr z ps last l=true→(∀ x∈l,0≤x∧x<z.colours)∧l.Pairwise (· < ·)∧(∀ y,last=some y→∀ x∈l,y<x)∧∀ q∈ps,∀ x∈l,x∉q.cols
  | [],_,_=>⟨fun x h=>(nomatch h),.nil,fun _ _ x h=>(nomatch h),fun _ _ x h=>(nomatch h)⟩
  | x::l,last,h=>by
    rw [OO] at h
    simp only [Bool.and_eq_true,decide_eq_true_eq,List.all_eq_true,Bool.not_eq_true',decide_eq_false_iff_not] at h
    obtain ⟨h1,h2,h3,h4,h5⟩:=h
    obtain ⟨i1,i2,i3,i4⟩:=agu h5
    refine ⟨fun y hy=>?_,List.pairwise_cons.2 ⟨fun y hy=>i3 x rfl y hy,i2⟩,fun y hy w hw=>?_,fun q hq y hy=>?_⟩
    · rcases List.mem_cons.1 hy with e | e
      · subst e; exact ⟨h1,h2⟩
      · exact i1 y e
    · have hx:y<x:=by
        subst hy
        simpa [alc] using h3
      rcases List.mem_cons.1 hw with e | e
      · subst e; exact hx
      · have:=i3 x rfl w e; omega
    · rcases List.mem_cons.1 hy with e | e
      · subst e; exact h4 q hq
      · exact i4 q hq y e
theorem aqc:∀ {l:List Int} {a b:Int},l.Pairwise (· < ·)→(∀ x∈l,a≤x∧x<b)→(l.length:Int)≤max (b-a) 0
  | [],a,b,_,_=>by simp; omega
  | x::l,a,b,h,hx=>by
    obtain ⟨h1,h2⟩:=List.pairwise_cons.1 h
    have h3:=hx x (List.mem_cons_self ..)
    have:=aqc (a:=x+1) (b:=b) h2 fun y hy=>⟨by have:=h1 y hy; omega,(hx y (List.mem_cons_of_mem _ hy)).2⟩
    simp only [List.length_cons]
    omega
structure PartOk (z:CfgZ) (p:Nat):Prop where
  fr:cR z.frames 1 4096=true
  co:cR z.colours 1 16=true
  col:∀ x∈(cL z p).cols,0≤x∧x<z.colours
  up:(cL z p).cols.Pairwise (· < ·)
  other:∀ q,q<p→∀ x∈(cL z p).cols,x∉(cL z q).cols
  pos:0<(cL z p).cols.length
  few:(cL z p).cols.length≤16
  quota:sQ z p=true
theorem ayg {z:CfgZ} (h:Qm z=true) {p:Nat} (hp:p<z.parts.length):PartOk z p:=by
  simp only [Qm,Bool.and_eq_true] at h
  obtain ⟨h1,_,_,_,h5⟩:=h
  simp only [qG,Bool.and_eq_true] at h1
  obtain ⟨m1,m2,_,_,_,_,_,m8⟩:=h1
  have hco:cR z.colours 1 16=true:=by simp only [alx,Bool.and_eq_true] at m1; exact m1.1
  have hlen:z.parts.length≤8:=by simp [cR] at m8; omega
  rw [List.all_eq_true] at h5
  have h6:=h5 p (List.mem_range.2 (by omega))
  simp only [decide_eq_true_eq] at h6
  unfold ahM at h6
  split at h6
  · rename_i hc
    split at h6
    · rename_i hq
      simp only [ang,Bool.and_eq_true,decide_eq_true_eq] at hc
      obtain ⟨f1,f2,_,f4⟩:=agu hc.1
      refine ⟨m2,hco,f1,f2,fun q hqp x hx=>?_,hc.2,?_,hq⟩
      · refine f4 (cL z q) ?_ x hx
        unfold cL
        rw [amk (by omega)]
        rw [List.mem_take_iff_getElem]
        exact ⟨q,by omega,rfl⟩
      · have:=aqc (a:=0) (b:=16) f2 fun x hx=>by
          have:=f1 x hx
          simp [cR] at hco
          omega
        omega
    · cases h6
  · cases h6
def pk (x:PartZ):Nat→Int
  | 2=>x.user
  | 3=>x.tables
  | 4=>x.spaces
  | 5=>x.regions
  | 6=>x.records
  | _=>0
def Jn (z:CfgZ) (p:Nat) (bs:Nat→BudZ):PoolZ:=⟨z.colours,(cL z p).order,vj z p,(cL z p).cols,pk (cL z p),fun _=>0,[],bs⟩
theorem Own.back {h:Heap} {b:Nat} {l:List AV} {q r:Nat} (o:Own h b l q) (hr:r≤h.ro):Own (h.back r) b l q:=⟨o.lt,Nat.le_trans hr o.ro,o.get⟩
theorem Lst.back {h:Heap} {v:AV} {l:List Int} {r:Nat} (s:Lst h v l) (hr:r≤h.ro):Lst (h.back r) v l:=by
  rcases s with s | ⟨b,ext,rest,e,o,h1⟩
  · exact .inl s
  · exact .inr ⟨b,ext,rest,e,Own.back o hr,h1⟩
theorem PoolMk.base {h0 h1 h:Heap} {w:PoolP} {z:PoolZ} {L:Nat} (b:PoolMk h1 h w z L) (g:Grow h0 h1):PoolMk h0 h w z L:=
  ⟨b.own,b.mine,b.buds,b.uses,b.each,b.disj,b.apart,b.two,fun c hc=>Nat.le_trans g.nx (b.low c hc),g.trans b.g⟩
theorem v_PNew {n:Nat} (hn5:5000<n) {zc:CfgZ} (hn:Fits n zc) {h:Heap} (hro:h.ro≤h.nx) {c:List AV} (hc:Cfg h zc c) (p:Int) :
    Run2 (la n (.agg c) p h) fun r e h'=>Grow h h'∧((e≠0∧e=DT zc p∧r = .nilptr)∨(e=0∧DT zc p=0∧∃ w bs,r = .ptr w.p 0∧PoolMk h h' w (Jn zc p.toNat bs) (cL zc p.toNat).cols.length∧
      ∀ j,j<(cL zc p.toNat).cols.length→∃ o,Making (Db zc (nz (cL zc p.toNat).cols j)) (Db zc (nz (cL zc p.toNat).cols j)) o (bs j))):=by
  unfold la ak8 alv
  obtain ⟨t,pp,rfl,ht,hp⟩:=hc
  refine Run1.bind (zw ..) ?_
  rintro x h1 ⟨hb,g⟩
  simp only [cJ,Nat.reduceAdd,bM hb,gL]
  refine Run2.bind (azV hn (g.le hro) (Cfg.mk' (ht.grow g) (hp.grow g)) p) ?_
  rintro tot _ h2 ⟨rfl,htot,g2⟩
  have t2:=g.trans g2
  refine RunG.ifB (fun e1=>XA ⟨t2,.inl ⟨by simpa using e1,rfl,rfl⟩⟩) fun e1=>?_
  simp at e1
  have hm:Qm zc=true∧0≤p∧p<zc.parts.length:=by
    unfold DT at e1
    split at e1
    · rename_i h1
      split at e1
      · rename_i h2; exact ⟨h1,h2⟩
      · cases e1
    · cases e1
  obtain ⟨pn,rfl⟩:=Int.eq_ofNat_of_zero_le hm.2.1
  have hpn:pn<zc.parts.length:=by omega
  have po:=ayg hm.1 hpn
  have htot:=htot e1
  rw [Int.toNat_natCast] at htot
  subst htot
  obtain ⟨hps,S,hpt,hS⟩:=hp
  have hb2:=g2.cl hb
  simp only [cJ,Nat.reduceAdd,bM hb2,gL,SlAt.eld (hpt.grow t2) (show (0:Int)≤(pn:Int) by omega) (show (pn:Int)<_ by omega),Int.toNat_natCast]
  rw [show zc.parts.getD pn default=cL zc pn from rfl] at *
  refine Run1.bind (asl (n:=8) (t2.le hro) (by rfl) (by rfl)) ?_
  rintro y h3 ⟨hy,oy,g3⟩
  have t3:=t2.trans g3
  have hb3:=g3.cl hb2
  simp only [cJ,Nat.reduceAdd,bM hb3,bM oy.cl,gL]
  have hne:(cL zc pn).cols≠[]:=by have:=po.pos; intro e; rw [e] at this; simp at this
  have hSp0:=(hS pn hpn).grow t3
  have hSp:Ints (h3.shut true) .i64 (S pn) (cL zc pn).cols:=hSp0
  refine Run1.bind (v_Clone (n:=n) (h:=h3.shut true) (Nat.le_refl _) hSp hne (by have:=po.few; omega)) ?_
  rintro vm h4 ⟨lv,hvm,g4⟩
  have g4':=g4.shut
  have t4:=t3.trans g4'
  have lv':Lst (h4.back h3.ro) vm (cL zc pn).cols:=Lst.back lv (by rw [g4.ro]; exact t3.le hro)
  have oy4:=oy.grow g4'
  simp only [cJ,Nat.reduceAdd,bM oy4.cl,gL,uE]
  generalize hA:h4.back h3.ro=A at *
  have hroA:A.ro≤A.nx:=t4.le hro
  have gB:Grow A (A.add (.mp [])):=Grow.add
  have mB:MapI (A.add (.mp [])) A.nx .u8 []:=⟨by simp,by simpa using hroA,by rw [Heap.get_add,if_pos rfl]; rfl⟩
  have lB:=lv'.grow gB
  have yB:=oy4.grow gB
  generalize hB:A.add (.mp [])=B at *
  have nB:=gB.nx
  obtain ⟨vb0,ve,rfl⟩:∃ b e,vm = .slice b 0 (cL zc pn).cols.length e true:=by
    rcases lv' with ⟨_,e⟩ | ⟨b,e,rest,rfl,_⟩
    · exact (hne e).elim
    · exact ⟨b,e,rfl⟩
  have hb20:∀ K,yL [.int .i64 0,.nilslice,.int .i64 0,.int .i64 0,.int .i64 0,.int .i64 0,.int .i64 0,.int .i64 0,.int .i64 0,.int .i64 0,.int .i64 0,.nilslice,.nilmap,.int .i64 0,.int .i64 0,.int .i64 0,.int .i64 0,.int .i64 0,.int .i64 0,.int .i64 0]
      [(0,1,.int .i64 zc.colours),(1,1,.slice vb0 0 (cL zc pn).cols.length ve true),(2,1,.int .i64 (cL zc pn).order),(10,1,.int .i64 (vj zc pn)),(12,1,.map A.nx)] K =
      K (.agg (AW { Jn zc pn (fun _=>⟨0,fun _=>[],[]⟩) with quota:=fun _=>0 } (.slice vb0 0 (cL zc pn).cols.length ve true) .nilslice A.nx)):=fun K=>rfl
  simp only [cJ,Nat.reduceAdd,hb20]
  have box:Run1 (Dh B (.agg (AW { Jn zc pn (fun _=>⟨0,fun _=>[],[]⟩) with quota:=fun _=>0 } (.slice vb0 0 (cL zc pn).cols.length ve true) .nilslice A.nx))) fun x h'=>
      Own h' x (AW { Jn zc pn (fun _=>⟨0,fun _=>[],[]⟩) with quota:=fun _=>0 } (.slice vb0 0 (cL zc pn).cols.length ve true) .nilslice A.nx) 0∧B.nx≤x∧Grow B h':=
    ⟨(B.nx,B.add (.cells _ true 0)),⟨⟨by simp,by simp; exact gB.le hroA,by rw [Heap.get_add,if_pos rfl]⟩,Nat.le_refl _,Grow.add⟩,fun k=>at1 ..⟩
  refine Run1.bind box ?_
  rintro P hC ⟨oC,hP,gC⟩
  simp only [cJ,Nat.reduceAdd,bM (yB.grow gC).cl,gL]
  have hb7:∀ K,yL [.int .i64 0,.int .i64 0,.int .i64 0,.int .i64 0,.int .i64 0,.int .i64 0,.int .i64 0] [(2,1,.int .i64 (cL zc pn).user),(3,1,.int .i64 (cL zc pn).tables),(4,1,.int .i64 (cL zc pn).spaces),(5,1,.int .i64 (cL zc pn).regions),(6,1,.int .i64 (cL zc pn).records)] K =
      K (.agg [.int .i64 0,.int .i64 0,.int .i64 (cL zc pn).user,.int .i64 (cL zc pn).tables,.int .i64 (cL zc pn).spaces,.int .i64 (cL zc pn).regions,.int .i64 (cL zc pn).records]):=fun K=>rfl
  simp only [cJ,Nat.reduceAdd,hb7,ayH]
  refine Run0.bind (abC (cs:=[.int .i64 0,.int .i64 0,.int .i64 (cL zc pn).user,.int .i64 (cL zc pn).tables,.int .i64 (cL zc pn).spaces,.int .i64 (cL zc pn).regions,.int .i64 (cL zc pn).records]) oC rfl (by show 3+7≤20; decide)) ?_
  intro hD pD
  have oD:Own hD P (AW (Jn zc pn (fun _=>⟨0,fun _=>[],[]⟩)) (.slice vb0 0 (cL zc pn).cols.length ve true) .nilslice A.nx) 0:=pD.own
  simp only [cJ,Nat.reduceAdd,bM oD.cl,azr]
  have hvb:∀ c,(AV.slice vb0 0 (cL zc pn).cols.length ve true).blk=some c→h3.nx≤c:=hvm
  have t3:=g2.trans g3
  have t4:=t3.trans g4'
  have tB:=t4.trans gB
  have tC:=tB.trans gC
  have hPn:h1.nx≤P:=Nat.le_trans tB.nx hP
  have mk0:PoolMk h1 hD ⟨P,.slice vb0 0 (cL zc pn).cols.length ve true,.nilslice,A.nx,fun _=>0,fun _=>0,fun _ _=>.nilslice⟩ (Jn zc pn (fun _=>⟨0,fun _=>[],[]⟩)) 0:=by
    have lC:=lB.grow gC
    refine ⟨oD,?_,.nil,?_,fun i hi=>absurd hi (by omega),fun i j hi=>absurd hi (by omega),fun i hi=>absurd hi (by omega),fun c _ e=>(nomatch e),fun c hc=>?_,pD.grow tC hPn⟩
    · exact lC.chg pD.chg fun d e1 e2=>lC.ne oC e1 e2
    · exact (mB.chg (gC.chg fun _=>False) fun h=>h).chg pD.chg (by have:=mB.lt; omega)
    · rcases hc with e | e | e | e | ⟨i,hi,_⟩
      · subst e; exact hPn
      · subst e; exact t4.nx
      · have:=hvb c e; have:=t3.nx; omega
      · cases e
      · omega
  refine RunG.mono (v_PNew_1 hn5 (P:=P) (vm:=.slice vb0 0 (cL zc pn).cols.length ve true) (l:=(cL zc pn).cols) (h0:=h1) (x:=x) (g.le hro) hb po.fr po.co _ _ (fun j hj=>by rw [kC hj]; exact po.col _ (List.getElem_mem hj)) po.few n 0 hD _ _ mk0 rfl rfl rfl (fun j hj=>absurd hj (by omega)) (by omega) (by have:=po.few; omega)) ?_
  rintro ⟨r,er,h'⟩ ⟨q1,q2,w',bs,q3,q4,q5⟩
  dsimp only at q1 q2
  subst q1 q2
  exact ⟨g.trans q4.g,.inr ⟨rfl,e1,w',bs,by rw [q3],q4.base g,q5⟩⟩
end Go.Proofs.YtnlbfbiogfilfaaGreat.Sh
/- What stays true of a pool, plainly. -/
namespace Go.Proofs.YtnlbfbiogfilfaaGreat.Sh
open Go.Ai
def lz (s:BudZ) (x:Int):Nat→Nat
  | 0=>0
  | n+1=>lz s x n+pH n (s.free n) x
theorem abr (s:BudZ) (x:Int):mult s x=lz s x 7:=by simp [mult,lz]
def inB (a x:Int) (k:Nat):Nat:=if a≤x∧x<a+2^k then 1 else 0
theorem ab2 (k:Nat) (a:Int) (l:List Int) (x:Int):pH k (a::l) x=pH k l x+inB a x k:=by
  unfold pH inB
  rw [List.countP_cons]
  congr 1
  by_cases h:a≤x∧x<a+2^k<;>simp [h]
theorem axL (a x:Int) (k:Nat):inB a x k+inB (a+2^k) x k=inB a x (k+1):=by
  have h:(2:Int)^(k+1)=2^k+2^k:=by rw [Int.pow_succ]; omega
  have hp:(0:Int)<2^k:=Int.pow_pos (by omega)
  unfold inB
  rw [h]
  by_cases h1:a≤x∧x<a+2^k
  · rw [if_pos h1,if_neg (by omega),if_pos (by omega)]
  · rw [if_neg h1]
    by_cases h2:a+2^k≤x∧x<a+2^k+2^k
    · rw [if_pos h2,if_pos (by omega)]
    · rw [if_neg h2,if_neg (by omega)]
theorem axE {s:BudZ} {o k:Nat} {a:Int} {rest:List Int} (hok:o≤k) (hx:s.free k=a::rest) (hemp:∀ j,o≤j→j<k→s.free j = []) (x:Int) :
    ∀ n,(n≤o→lz (tL s o k o a rest) x n=lz s x n)∧(o≤n→n≤k→lz (tL s o k o a rest) x n+inB a x o=lz s x n+inB a x n)∧(k<n→lz (tL s o k o a rest) x n+inB a x o=lz s x n):=by
  intro n
  induction n with
  | zero=>
    refine ⟨fun _=>rfl,fun h1 _=>?_,fun h=>by omega⟩
    have:o=0:=by omega
    subst this; rfl
  | succ n ih=>
    obtain ⟨i1,i2,i3⟩:=ih
    have fr:(tL s o k o a rest).free n=if n=k then rest else if o≤n∧n<k then [a+2^n] else s.free n:=rfl
    refine ⟨fun h=>?_,fun h1 h2=>?_,fun h=>?_⟩
    · rw [lz,lz,i1 (by omega),fr,if_neg (by omega),if_neg (by omega)]
    · by_cases h3:n+1=o
      · rw [← h3] at i1 ⊢
        rw [lz,lz,i1 (by omega)]
        subst h3
        rw [fr,if_neg (by omega),if_neg (by omega)]
      · have j:=i2 (by omega) (by omega)
        rw [lz,lz,fr,if_neg (by omega),if_pos (by omega),hemp n (by omega) (by omega),ab2, ← axL]
        have e1:pH n ([]:List Int) x=0:=rfl
        omega
    · by_cases h3:n=k
      · subst h3
        have j:=i2 (by omega) (by omega)
        rw [lz,lz,fr,if_pos rfl,hx,ab2]
        omega
      · have j:=i3 (by omega)
        rw [lz,lz,fr,if_neg h3,if_neg (by omega)]
        omega
theorem aoy {s:BudZ} {o k:Nat} {a:Int} {rest:List Int} (hok:o≤k) (hk:k<7) (hx:s.free k=a::rest) (hemp:∀ j,o≤j→j<k→s.free j = []) (x:Int):mult (tL s o k o a rest) x+inB a x o=mult s x:=by
  rw [abr,abr]
  exact (axE hok hx hemp x 7).2.2 hk
theorem ale {s:BudZ} {k:Nat} {a x:Int} (ha:a∈s.free k) (h1:a≤x) (h2:x<a+2^k):∀ n,k<n→1≤lz s x n
  | 0,h=>by omega
  | n+1,h=>by
    rw [lz]
    by_cases e:k=n
    · subst e
      have:0<pH k (s.free k) x:=List.countP_pos_iff.2 ⟨a,ha,by simp [h1,h2]⟩
      omega
    · have:=ale ha h1 h2 n (by omega)
      omega
theorem aba {s:BudZ} {k:Nat} (hk:k<7) {a x:Int} (ha:a∈s.free k) (h1:a≤x) (h2:x<a+2^k):1≤mult s x:=by rw [abr]; exact ale ha h1 h2 7 hk
theorem alR {co c c' x y:Int} (h1:0≤c) (h2:c<co) (h3:0≤c') (h4:c'<co) (h:y*co+c=x*co+c'):y=x∧c=c':=by
  have:y=x:=by
    rcases Int.lt_trichotomy y x with h5 | h5 | h5
    · have:=Int.mul_le_mul_of_nonneg_right (show y+1≤x by omega) (show 0≤co by omega)
      rw [Int.add_mul] at this
      omega
    · exact h5
    · have:=Int.mul_le_mul_of_nonneg_right (show x+1≤y by omega) (show 0≤co by omega)
      rw [Int.add_mul] at this
      omega
  subst this
  exact ⟨rfl,by omega⟩
theorem am7 {co c c' a x:Int} (h1:0≤c) (h2:c<co) (h3:0≤c') (h4:c'<co):∀ N:Nat,(jc co c a N).count (x*co+c')=if c'=c∧a≤x∧x<a+(N:Int) then 1 else 0
  | 0=>by
    rw [if_neg (by omega)]; rfl
  | N+1=>by
    have s1:List.count (x*co+c') [(a+(N:Int))*co+c]=if (a+(N:Int))*co+c=x*co+c' then 1 else 0:=by
      rw [List.count_singleton]
      by_cases e:(a+(N:Int))*co+c=x*co+c'<;>simp [e]
    rw [ame,List.count_append,am7 h1 h2 h3 h4 N,s1]
    by_cases e:(a+(N:Int))*co+c=x*co+c'
    · obtain ⟨e1,e2⟩:=alR h1 h2 h3 h4 e
      rw [if_pos e,if_neg (show ¬ (c'=c∧a≤x∧x<a+(N:Int)) by omega),if_pos (show c'=c∧a≤x∧x<a+((N+1:Nat):Int) by omega)]
    · have hne:¬ (c'=c∧a+(N:Int)=x):=fun ⟨u,v⟩=>e (by rw [u,v])
      rw [if_neg e]
      by_cases h:c'=c∧a≤x∧x<a+(N:Int)
      · rw [if_pos h,if_pos (show c'=c∧a≤x∧x<a+((N+1:Nat):Int) by omega)]
      · rw [if_neg h,if_neg (show ¬ (c'=c∧a≤x∧x<a+((N+1:Nat):Int)) by omega)]
structure Inv (zc:CfgZ) (p:Nat) (T:List Int) (z:PoolZ):Prop where
  mine:z.mine=(cL zc p).cols
  co:z.colours=zc.colours
  law:∀ i,i<z.mine.length→∀ x:Int,T.count (x*zc.colours+nz z.mine i)+mult (z.buds i) x=if 0≤x∧x<(Db zc (nz z.mine i):Int) then 1 else 0
  form:∀ f∈T,∃ i,i<z.mine.length∧∃ x:Int,f=x*zc.colours+nz z.mine i
  cnt:∀ k,0≤z.counts k∧z.counts k≤(T.length:Int)
theorem PartOk.nz {zc:CfgZ} {p:Nat} (po:PartOk zc p) {i:Nat} (hi:i<(cL zc p).cols.length):0≤nz (cL zc p).cols i∧nz (cL zc p).cols i<zc.colours:=by rw [kC hi]; exact po.col _ (List.getElem_mem hi)
theorem alz {z:CfgZ} (h1:cR z.frames 1 4096=true) (h2:cR z.colours 1 16=true) {c:Int} (h3:0≤c) (h4:c<z.colours) {x:Int} (hx:x<(Db z c:Int)):x*z.colours+c≤z.frames-1:=by
  obtain ⟨b1,b2,b3⟩:=arK h1 h2 h3 h4
  simp [cR] at h2
  rw [b3] at hx
  have h5:cntI z c*z.colours≤z.frames-c+z.colours-1:=by
    have:=Int.mul_ediv_self_le (x:=z.frames-c+z.colours-1) (k:=z.colours) (by omega)
    rw [Int.mul_comm] at this
    exact this
  have h6:=Int.mul_le_mul_of_nonneg_right (show x+1≤cntI z c by omega) (show 0≤z.colours by omega)
  rw [Int.add_mul] at h6
  omega
theorem Inv.ok {zc:CfgZ} {p:Nat} {T:List Int} {z:PoolZ} (v:Inv zc p T z) (po:PartOk zc p) (hT:T.length≤900000000):PoolOk z:=by
  have hm:=v.mine
  refine ⟨by rw [v.co]; exact po.co,by rw [hm]; exact po.pos,by rw [hm]; exact po.few,fun i hi=>?_,fun i hi k hk a ha=>?_,fun k=>?_⟩
  · rw [v.co,hm]; exact po.nz (by rw [hm] at hi; exact hi)
  · have hi':i<(cL zc p).cols.length:=by rw [hm] at hi; exact hi
    obtain ⟨n1,n2⟩:=po.nz hi'
    rw [← hm] at n1 n2
    obtain ⟨p1,p2,p3⟩:=abE hk
    have l1:=v.law i hi a
    have l2:=v.law i hi (a+2^k-1)
    have m1:=aba hk ha (Int.le_refl a) (by omega)
    have m2:=aba hk ha (show a≤a+2^k-1 by omega) (by omega)
    have c1:0≤a∧a<(Db zc (Go.Ai.nz z.mine i):Int):=by
      by_cases h:0≤a∧a<(Db zc (Go.Ai.nz z.mine i):Int)
      · exact h
      · rw [if_neg h] at l1; omega
    have c2:0≤a+2^k-1∧a+2^k-1<(Db zc (Go.Ai.nz z.mine i):Int):=by
      by_cases h:0≤a+2^k-1∧a+2^k-1<(Db zc (Go.Ai.nz z.mine i):Int)
      · exact h
      · rw [if_neg h] at l2; omega
    have r:=alz po.fr po.co n1 n2 c2.2
    have hf:=po.fr
    simp [cR] at hf
    rw [v.co]
    exact ⟨c1.1,by omega⟩
  · have:=v.cnt k; omega
theorem Inv.new {zc:CfgZ} {p:Nat} {bs:Nat→BudZ} (h:∀ j,j<(cL zc p).cols.length→∃ o,Making (Db zc (Go.Ai.nz (cL zc p).cols j)) (Db zc (Go.Ai.nz (cL zc p).cols j)) o (bs j)):Inv zc p [] (Jn zc p bs):=by
  refine ⟨rfl,rfl,fun i hi x=>?_,fun f hf=>(nomatch hf),fun k=>⟨Int.le_refl 0,by simp [Jn]⟩⟩
  obtain ⟨o,mk⟩:=h i hi
  have:=mk.hm x
  show List.count _ []+mult (bs i) x=_
  rw [this,List.count_nil,Nat.zero_add]
  rfl
theorem Inv.step {zc:CfgZ} {p:Nat} {T:List Int} {z:PoolZ} (v:Inv zc p T z) (po:PartOk zc p) {i o u k:Nat} {a:Int} {rest:List Int} (hi:i<z.mine.length) (ho:o<7) (hok:o≤k) (hk:k<7) (hx:(z.buds i).free k=a::rest)
    (hemp:∀ j,o≤j→j<k→(z.buds i).free j = []):Inv zc p (T++jc z.colours (Go.Ai.nz z.mine i) a (2^o)) (K5 z i o u k a rest):=by
  have hm:=v.mine
  have hi':i<(cL zc p).cols.length:=by rw [hm] at hi; exact hi
  obtain ⟨n1,n2⟩:=po.nz hi'
  rw [← hm] at n1 n2
  obtain ⟨p0,p1,p2⟩:=aca ho
  refine ⟨hm,v.co,fun j hj x=>?_,fun f hf=>?_,fun q=>?_⟩
  · have hj0:j<z.mine.length:=hj
    have hj':j<(cL zc p).cols.length:=by rw [hm] at hj0; exact hj0
    obtain ⟨j1,j2⟩:=po.nz hj'
    rw [← hm] at j1 j2
    have hl:=v.law j hj0 x
    show List.count (x*zc.colours+Go.Ai.nz z.mine j) (T++jc z.colours (Go.Ai.nz z.mine i) a (2^o))+mult (upd z.buds i { tL (z.buds i) o k o a rest with taken:=Wl a o (z.buds i).taken } j) x=_
    rw [List.count_append,v.co,am7 n1 n2 j1 j2]
    show _=if 0≤x∧x<(Db zc (Go.Ai.nz z.mine j):Int) then 1 else 0
    rw [← hl]
    by_cases e:j=i
    · subst e
      rw [dC]
      have ht:=aoy hok hk hx hemp x
      have e1:mult { tL (z.buds j) o k o a rest with taken:=Wl a o (z.buds j).taken } x=mult (tL (z.buds j) o k o a rest) x:=rfl
      rw [e1, ← ht]
      unfold inB
      rw [← p0]
      by_cases h:a≤x∧x<a+((2^o:Nat):Int)
      · rw [if_pos h,if_pos ⟨rfl,h⟩]; omega
      · rw [if_neg h,if_neg (fun h'=>h h'.2)]; omega
    · rw [dh _ _ e]
      have hne:Go.Ai.nz z.mine j≠Go.Ai.nz z.mine i:=by
        rw [hm,kC hj',kC hi']
        rcases Nat.lt_or_ge j i with h | h
        · have:=List.pairwise_iff_getElem.1 po.up j i hj' hi' h; omega
        · have:=List.pairwise_iff_getElem.1 po.up i j hi' hj' (by omega); omega
      rw [if_neg (fun h=>hne h.1)]
      omega
  · rcases List.mem_append.1 hf with h | h
    · exact v.form f h
    · simp only [jc,List.mem_map] at h
      obtain ⟨y,_,rfl⟩:=h
      exact ⟨i,hi,a+(y:Int),by rw [v.co]; rfl⟩
  · show 0≤upd z.counts u (z.counts u+((2^o:Nat):Int)) q∧upd z.counts u (z.counts u+((2^o:Nat):Int)) q≤((T++jc z.colours (Go.Ai.nz z.mine i) a (2^o)).length:Int)
    have hc:=v.cnt q
    have hu:=v.cnt u
    rw [List.length_append,qE]
    by_cases e:q=u
    · subst e; rw [dC]; omega
    · rw [dh _ _ e]; omega
theorem apR:∀ {l:List Int},(∀ f,l.count f≤1)→l.Nodup
  | [],_=>.nil
  | x::l,h=>by
    refine List.nodup_cons.2 ⟨fun hx=>?_,apR fun f=>?_⟩
    · have h1:=h x
      rw [List.count_cons_self] at h1
      have:=List.count_pos_iff.2 hx
      omega
    · have h1:=h f
      rw [List.count_cons] at h1
      omega
theorem Inv.nodup {zc:CfgZ} {p:Nat} {T:List Int} {z:PoolZ} (v:Inv zc p T z):T.Nodup:=by
  refine apR fun f=>?_
  by_cases hf:f∈T
  · obtain ⟨i,hi,x,rfl⟩:=v.form f hf
    have:=v.law i hi x
    split at this<;>omega
  · rw [List.count_eq_zero.2 hf]; omega
theorem Inv.own {zc:CfgZ} {p:Nat} {T:List Int} {z:PoolZ} (v:Inv zc p T z) (po:PartOk zc p) {f:Int} (hf:f∈T):0≤f∧f<4096∧f%zc.colours∈(cL zc p).cols:=by
  obtain ⟨i,hi,x,rfl⟩:=v.form f hf
  have hm:=v.mine
  have hi':i<(cL zc p).cols.length:=by rw [hm] at hi; exact hi
  obtain ⟨n1,n2⟩:=po.nz hi'
  rw [← hm] at n1 n2
  have hl:=v.law i hi x
  have hc:0<List.count (x*zc.colours+Go.Ai.nz z.mine i) T:=List.count_pos_iff.2 hf
  have hx:0≤x∧x<(Db zc (Go.Ai.nz z.mine i):Int):=by
    by_cases h:0≤x∧x<(Db zc (Go.Ai.nz z.mine i):Int)
    · exact h
    · rw [if_neg h] at hl; omega
  have r:=alz po.fr po.co n1 n2 hx.2
  have hfr:=po.fr
  simp [cR] at hfr
  have hpos:0≤x*zc.colours:=Int.mul_nonneg hx.1 (by omega)
  refine ⟨by omega,by omega,?_⟩
  rw [Int.add_comm,Int.add_mul_emod_self_right,Int.emod_eq_of_lt n1 n2]
  rw [hm,kC hi']
  exact List.getElem_mem hi'
end Go.Proofs.YtnlbfbiogfilfaaGreat.Sh
