/- A new pool, by the code. -/
import Derived.Test.YtnlbfbiogfilfaaGreatPUNewPUPool
set_option linter.all false
namespace Go.Proofs.YtnlbfbiogfilfaaGreat.Sh
open Go.Ai
theorem aut (d:Nat) (h:ad) (b o n:Nat) (u:AV) (k:AV→ad→ah):nfst d h (.ptr b o) n u k=qT h (.ptr b (o+d)) n u fun H=>k (.ptr b (o+d)) H:=by
  unfold nfst Go.Ai.fst
  rw [awr,atu]
structure fU (h0 h:ad) (w:dN) (z:bW) (L:Nat):Prop where
  own:Own h w.p (Lt z w.vm w.vb w.mu) 0
  gI:Lst h w.vm z.gI
  gJ:App h w.vb 1 L ((List.range L).map fun i=>.ptr (w.bp i) 0)
  uses:gn h w.mu .u8 z.uses
  each:∀ i,i<L→d9 h (w.bp i) (w.bm i) (w.bv i) (z.gJ i)
  disj:∀ i j,i<L→j<L→i≠j→∀ c,fpI w i c→¬ fpI w j c
  apart:∀ i,i<L→∀ c,fpI w i c→c≠w.p∧c≠w.mu∧w.vm.blk≠some c∧w.vb.blk≠some c
  two:∀ c,w.vm.blk=some c→w.vb.blk≠some c
  low:∀ c,fpP w L c→h0.nx≤c
  g:be h0 h
theorem fU.pool {h0 h:ad} {w:dN} {z:bW} (b:fU h0 h w z z.gI.length):cv h w z:=⟨b.own,b.gI,b.gJ,b.uses,b.each,b.disj,b.apart,b.two⟩
theorem aE5 (z:bW) (vm vb vb':AV) (mu:Nat):(Lt z vm vb mu).set 11 vb'=Lt z vm vb' mu:=rfl
theorem fU.more {h0 h h2 h3 h4 h5:ad} {w:dN} {z:bW} {L:Nat} (b:fU h0 h w z L) {p m:Nat} {v:Nat→AV} {s:cw} (bn:asD h h2 p m v s) (g3:be h2 h3) {vb:AV}
    (ha:App h4 vb 1 (L+1) (((List.range L).map fun i=>AV.ptr (w.bp i) 0)++[.ptr p 0])) (hb:vb.blk=some h3.nx) (c4:Chg (fun c=>w.vb.blk=some c) h3 h4) (p5:Put h4 w.p ((Lt z w.vm w.vb w.mu).set 11 vb) 0 h5) :
    fU h0 h5 { w with vb:=vb,bp:=upd w.bp L p,bm:=upd w.bm L m,bv:=upd w.bv L v } { z with gJ:=upd z.gJ L s } (L+1):=by
  obtain ⟨bi,hf,g2⟩:=bn
  have g23:=g2.trans g3
  have n2:=g2.nx
  have n3:=g3.nx
  have vbp:∀ c,w.vb.blk=some c→c≠w.p∧c≠w.mu:=by
    intro c e
    rcases b.gJ with ⟨e1,_,_⟩ | ⟨d,e1,o,_,_⟩
    · rw [e1] at e; cases e
    · rw [e1] at e
      cases e
      refine ⟨?_,fun e2=>?_⟩
      · rintro rfl
        have:=b.own.get.symm.trans o.get
        simp at this
      · rw [e2] at o
        exact b.uses.ne o rfl
  have vmp:∀ c,w.vm.blk=some c→c≠w.p:=fun c e=>b.gI.ne b.own e
  have mup:w.mu≠w.p:=b.uses.ne b.own
  have fo:∀ j,j≠L→fpI { w with vb:=vb,bp:=upd w.bp L p,bm:=upd w.bm L m,bv:=upd w.bv L v } j=fpI w j:=by
    intro j hj
    unfold fpI
    dsimp only
    rw [kX _ _ hj,kX _ _ hj,kX _ _ hj]
  have fl:∀ c,fpI { w with vb:=vb,bp:=upd w.bp L p,bm:=upd w.bm L m,bv:=upd w.bv L v } L c→h.nx≤c∧c<h2.nx:=by
    intro c hc
    unfold fpI at hc
    dsimp only at hc
    rw [lm,lm,lm] at hc
    exact ⟨hf c hc,bi.lt hc⟩
  have o5:=p5.own
  rw [aE5] at o5
  refine ⟨o5,?_,?_,?_,fun i hi=>?_,fun i j hi hj hij c e1 e2=>?_,fun i hi c e=>?_,fun c e1 e2=>?_,fun c hc=>?_,?_⟩
  · exact ((b.gI.grow g23).chg c4 fun d e1 e2=>b.two d e1 e2).chg p5.chg fun d e1 e2=>vmp d e1 e2
  · rw [List.range_succ,i9]
    have:(List.range L).map (fun i=>AV.ptr (upd w.bp L p i) 0)=(List.range L).map fun i=>AV.ptr (w.bp i) 0:=by
      apply List.map_congr_left
      intro i hi
      rw [kX _ _ (by have:=i7.1 hi; omega)]
    show App h5 vb 1 (L+1) ((List.range L).map (fun i=>AV.ptr (upd w.bp L p i) 0)++[.ptr (upd w.bp L p L) 0])
    rw [this,lm]
    refine ha.chg p5.chg fun d e1 e2=>?_
    rw [hb] at e1
    cases e1
    have h1:h3.nx=w.p:=e2
    have:=b.own.lt
    omega
  · exact ((b.uses.chg (g23.chg fun _=>False) fun h=>h).chg c4 fun e=>(vbp _ e).2 rfl).chg p5.chg mup
  · by_cases e:i=L
    · subst e
      show d9 h5 (upd w.bp i p i) (upd w.bm i m i) (upd w.bv i v i) (upd z.gJ i s i)
      rw [lm,lm,lm,lm]
      refine ((bi.grow g3).chg c4 fun d e1 e2=>?_).chg p5.chg fun d e1 e2=>?_
      · have h1:=b.gJ.lt e2
        have h2:=hf d e1
        omega
      · have h1:=b.own.lt
        have h2:=hf d e1
        have h3:d=w.p:=e2
        omega
    · show d9 h5 (upd w.bp L p i) (upd w.bm L m i) (upd w.bv L v i) (upd z.gJ L s i)
      rw [kX _ _ e,kX _ _ e,kX _ _ e,kX _ _ e]
      exact (((b.each i (by omega)).grow g23).chg c4 fun d e1 e2=>(b.apart i (by omega) d e1).2.2.2 e2).chg p5.chg fun d e1 e2=>(b.apart i (by omega) d e1).1 e2
  · by_cases ei:i=L
    · subst ei
      rw [fo j (fun e=>hij e.symm)] at e2
      have h1:=(b.each j (by omega)).lt e2
      have h2:=fl c e1
      omega
    · rw [fo i ei] at e1
      by_cases ej:j=L
      · subst ej
        have h1:=(b.each i (by omega)).lt e1
        have h2:=fl c e2
        omega
      · rw [fo j ej] at e2
        exact b.disj i j (by omega) (by omega) hij c e1 e2
  · by_cases ei:i=L
    · subst ei
      obtain ⟨h1,h2⟩:=fl c e
      refine ⟨fun e1=>?_,fun e1=>?_,fun e1=>?_,fun e1=>?_⟩
      · have e2:c=w.p:=e1
        have:=b.own.lt; omega
      · have e2:c=w.mu:=e1
        have:=b.uses.lt; omega
      · have:=(b.gI.lt e1).1; omega
      · have e2:vb.blk=some c:=e1
        rw [hb] at e2; cases e2; omega
    · rw [fo i ei] at e
      obtain ⟨h1,h2,h3,h4⟩:=b.apart i (by omega) c e
      refine ⟨h1,h2,h3,fun e1=>?_⟩
      have e2:vb.blk=some c:=e1
      rw [hb] at e2
      cases e2
      have:=(b.each i (by omega)).lt e
      omega
  · have e3:vb.blk=some c:=e2
    rw [hb] at e3
    cases e3
    have:=(b.gI.lt e1).1
    omega
  · have hn:=b.g.nx
    rcases hc with e | e | e | e | ⟨i,hi,e⟩
    · exact b.low c (.inl e)
    · exact b.low c (.inr (.inl e))
    · exact b.low c (.inr (.inr (.inl e)))
    · have e2:vb.blk=some c:=e
      rw [hb] at e2; cases e2; omega
    · by_cases ei:i=L
      · subst ei
        have:=(fl c e).1
        omega
      · rw [fo i ei] at e
        exact b.low c (.inr (.inr (.inr (.inr ⟨i,by omega,e⟩))))
  · exact p5.grow (c4.grow (b.g.trans g23) fun c e=>b.low c (.inr (.inr (.inr (.inl e))))) (b.low _ (.inl rfl))
def azJ (z:bq) (c:Int):Int:=(z.frames-c+z.gG-1)/z.gG
def VK (z:bq) (c:Int):Nat:=(azJ z c).toNat
theorem asr {z:bq} (h1:kG z.frames 1 4096=true) (h2:kG z.gG 1 16=true) {c:Int} (h3:0≤c) (h4:c<z.gG):0≤azJ z c∧azJ z c≤4096∧(VK z c:Int)=azJ z c:=by
  simp [kG] at h1 h2
  have a1:0≤azJ z c:=Int.ediv_nonneg (by omega) (by omega)
  have a2:azJ z c≤(z.frames-1+1*z.gG)/z.gG:=Int.ediv_le_ediv (by omega) (by omega)
  rw [Int.add_mul_ediv_right _ _ (show z.gG≠0 by omega)] at a2
  have a3:=Int.ediv_le_self (a:=z.frames-1) z.gG (by omega)
  refine ⟨a1,by omega,?_⟩
  unfold VK
  omega
theorem v_PNew_1 {n:Nat} (hn:5000<n) {zc:bq} {t pp:AV} {x:Nat} {h0:ad} (hro0:h0.ro≤h0.nx) (hb0:h0.cl x (Hx zc t pp)) (hfr:kG zc.frames 1 4096=true) (hco:kG zc.gG 1 16=true) (f1 f2) {P:Nat} {vm:AV} {l:List Int} (hl:∀ j,j<l.length→0≤nz l j∧nz l j<zc.gG) (hlen:l.length≤16) :
    ∀ (q i:Nat) (h:ad) (w:dN) (z:bW),fU h0 h w z i→w.p=P→w.vm=vm→z.gI=l→(∀ j,j<i→∃ o,eM (VK zc (nz l j)) (VK zc (nz l j)) o (z.gJ j))→i≤l.length→l.length-i<q→
    dM (fun k=>Wb n f1 f2 (eW n) (fI n) k q (.ptr x 0) (.ptr P 0) vm l.length (i:Int) h) fun r e h'=>r = .ptr P 0∧e=0∧∃ w' bs,w'.p=P∧fU h0 h' w' { z with gJ:=bs } l.length∧∀ j,j<l.length→∃ o,eM (VK zc (nz l j)) (VK zc (nz l j)) o (bs j):=by
  intro q
  induction q with
  | zero=>omega
  | succ q ih=>
    intro i h w z b hP hvm hz hmk hi hq
    simp only [aBP]
    unfold WE aeD
    refine aL.ifB (fun e=>?_) fun e=>?_
    · simp at e
      subst hP hvm hz
      have hb:=b.g.cl hb0
      have hel:=b.gI.ints.elN (i:=i) e
      obtain ⟨h3,h4⟩:=hl i e
      obtain ⟨c1,c2,c3⟩:=asr hfr hco h3 h4
      have t0:∀ (A B:ah),ifB (!((0:Int)==0)) A B=B:=fun _ _=>rfl
      have hcnt:(zc.frames-nz z.gI i+zc.gG-1)/zc.gG=(VK zc (nz z.gI i):Int):=by rw [c3]; rfl
      simp only [au,hel,jC hb,bg,u_Count n hfr hco h3 h4,hcnt,t0]
      refine dM.bind (v_New (n:=n) (N:=VK zc (nz z.gI i)) (by omega) (by omega) (by omega) (b.g.le hro0)) ?_
      rintro _ _ h2 ⟨rfl,p,m,v,s,o,rfl,bn,mk⟩
      have g2:=bn.2.2
      have o2:=b.own.grow g2
      simp only [au,t0,jC o2.cl,aqz]
      refine aF.bind (Dv (fun k=>by rfl)) ?_
      rintro _ hh3 ⟨rfl,cc3,g3⟩
      have hro3:=(b.g.trans (g2.trans g3)).le hro0
      refine aF.bind (afw hro3 (b.gJ.grow (g2.trans g3)) (by omega) cc3 (by rw [zj]; rfl) (by omega)) ?_
      rintro vb h4' ⟨a4,vb4,c4⟩
      have o3:=b.own.grow (g2.trans g3)
      have o4:Own h4' w.p (Lt z w.vm w.vb w.mu) 0:=c4.own o3 fun e1=>by
        rcases b.gJ with ⟨e2,_,_⟩ | ⟨d,e2,od,_,_⟩
        · rw [e2] at e1; cases e1
        · rw [e2] at e1
          cases e1
          have:=b.own.get.symm.trans od.get
          simp at this
      simp only [au,aut]
      refine ed.bind (uI o4 (by show 11<20; omega) (by rcases a4 with ⟨rfl,_⟩ | ⟨d,rfl,_⟩<;>rfl)) ?_
      intro h5 p5
      have b5:=b.more bn g3 a4 vb4 c4 p5
      rw [mt (show i≤9223372036854775806 by omega)]
      refine aL.mono (ih (i+1) h5 _ _ b5 rfl rfl rfl (fun j hj=>?_) (by omega) (by omega)) ?_
      · by_cases ej:j=i
        · subst ej
          refine ⟨o,?_⟩
          show eM _ _ o (upd z.gJ j s j)
          rw [lm]; exact mk
        · obtain ⟨o',mk'⟩:=hmk j (by omega)
          refine ⟨o',?_⟩
          show eM _ _ o' (upd z.gJ i s j)
          rw [kX _ _ ej]; exact mk'
      · rintro ⟨r,er,h'⟩ ⟨q1,q2,w',bs,q3,q4,q5⟩
        exact ⟨q1,q2,w',bs,q3,q4,q5⟩
    · simp at e
      have:i=l.length:=by omega
      subst this
      exact KS ⟨rfl,rfl,w,z.gJ,hP,b,hmk⟩
theorem apV {z:bq} {ps:List eK}:∀ {l:List Int} {last:Option Int},G5 z ps last l=true→(∀ x∈l,0≤x∧x<z.gG)∧l.Pairwise (· < ·)∧(∀ y,last=some y→∀ x∈l,y<x)∧∀ q∈ps,∀ x∈l,x∉q.gH
  | [],_,_=>⟨fun x h=>(nomatch h),.nil,fun _ _ x h=>(nomatch h),fun _ _ x h=>(nomatch h)⟩
  | x::l,last,h=>by
    rw [TL] at h
    simp only [iw,iz,jb,Bool.not_eq_true',iD] at h
    obtain ⟨h1,h2,h3,h4,h5⟩:=h
    obtain ⟨i1,i2,i3,i4⟩:=apV h5
    refine ⟨fun y hy=>?_,ib.2 ⟨fun y hy=>i3 x rfl y hy,i2⟩,fun y hy w hw=>?_,fun q hq y hy=>?_⟩
    · rcases iP.1 hy with e | e
      · subst e; exact ⟨h1,h2⟩
      · exact i1 y e
    · have hx:y<x:=by
        subst hy
        simpa [ZT] using h3
      rcases iP.1 hw with e | e
      · subst e; exact hx
      · have:=i3 x rfl w e; omega
    · rcases iP.1 hy with e | e
      · subst e; exact h4 q hq
      · exact i4 q hq y e
theorem ao3:∀ {l:List Int} {a b:Int},l.Pairwise (· < ·)→(∀ x∈l,a≤x∧x<b)→(l.length:Int)≤max (b-a) 0
  | [],a,b,_,_=>by simp; omega
  | x::l,a,b,h,hx=>by
    obtain ⟨h1,h2⟩:=ib.1 h
    have h3:=hx x (iV ..)
    have:=ao3 (a:=x+1) (b:=b) h2 fun y hy=>⟨by have:=h1 y hy; omega,(hx y (ig _ hy)).2⟩
    simp only [List.length_cons]
    omega
structure dE (z:bq) (p:Nat):Prop where
  fr:kG z.frames 1 4096=true
  co:kG z.gG 1 16=true
  col:∀ x∈(lI z p).gH,0≤x∧x<z.gG
  up:(lI z p).gH.Pairwise (· < ·)
  other:∀ q,q<p→∀ x∈(lI z p).gH,x∉(lI z q).gH
  pos:0<(lI z p).gH.length
  few:(lI z p).gH.length≤16
  gP:yk z p=true
theorem ay9 {z:bq} (h:PO z=true) {p:Nat} (hp:p<z.parts.length):dE z p:=by
  simp only [PO,iw] at h
  obtain ⟨h1,_,_,_,h5⟩:=h
  simp only [sS,iw] at h1
  obtain ⟨m1,m2,_,_,_,_,_,m8⟩:=h1
  have hco:kG z.gG 1 16=true:=by simp only [SM,iw] at m1; exact m1.1
  have hlen:z.parts.length≤8:=by simp [kG] at m8; omega
  rw [jb] at h5
  have h6:=h5 p (i7.2 (by omega))
  simp only [iz] at h6
  unfold Yb at h6
  split at h6
  · rename_i hc
    split at h6
    · rename_i hq
      simp only [afl,iw,iz] at hc
      obtain ⟨f1,f2,_,f4⟩:=apV hc.1
      refine ⟨m2,hco,f1,f2,fun q hqp x hx=>?_,hc.2,?_,hq⟩
      · refine f4 (lI z q) ?_ x hx
        unfold lI
        rw [amg (by omega)]
        rw [List.mem_take_iff_getElem]
        exact ⟨q,by omega,rfl⟩
      · have:=ao3 (a:=0) (b:=16) f2 fun x hx=>by
          have:=f1 x hx
          simp [kG] at hco
          omega
        omega
    · cases h6
  · cases h6
def avR (x:eK):Nat→Int
  | 2=>x.user
  | 3=>x.tables
  | 4=>x.spaces
  | 5=>x.gO
  | 6=>x.gN
  | _=>0
def ain (z:bq) (p:Nat) (bs:Nat→cw):bW:=⟨z.gG,(lI z p).order,UN z p,(lI z p).gH,avR (lI z p),fun _=>0,[],bs⟩
theorem Own.back {h:ad} {b:Nat} {l:List AV} {q r:Nat} (o:Own h b l q) (hr:r≤h.ro):Own (h.back r) b l q:=⟨o.lt,iE hr o.ro,o.get⟩
theorem Lst.back {h:ad} {v:AV} {l:List Int} {r:Nat} (s:Lst h v l) (hr:r≤h.ro):Lst (h.back r) v l:=by
  rcases s with s | ⟨b,ext,rest,e,o,h1⟩
  · exact .inl s
  · exact .inr ⟨b,ext,rest,e,Own.back o hr,h1⟩
theorem fU.base {h0 h1 h:ad} {w:dN} {z:bW} {L:Nat} (b:fU h1 h w z L) (g:be h0 h1):fU h0 h w z L:=
  ⟨b.own,b.gI,b.gJ,b.uses,b.each,b.disj,b.apart,b.two,fun c hc=>iE g.nx (b.low c hc),g.trans b.g⟩
theorem v_PNew {n:Nat} (hn5:5000<n) {zc:bq} (hn:fT n zc) {h:ad} (hro:h.ro≤h.nx) {c:List AV} (hc:Cfg h zc c) (p:Int) :
    dM (cI n (.agg c) p h) fun r e h'=>be h h'∧((e≠0∧e=HS zc p∧r = .nilptr)∨(e=0∧HS zc p=0∧∃ w bs,r = .ptr w.p 0∧fU h h' w (ain zc p.toNat bs) (lI zc p.toNat).gH.length∧
      ∀ j,j<(lI zc p.toNat).gH.length→∃ o,eM (VK zc (nz (lI zc p.toNat).gH j)) (VK zc (nz (lI zc p.toNat).gH j)) o (bs j))):=by
  unfold cI asw alk
  obtain ⟨t,pp,rfl,ht,hp⟩:=hc
  refine aF.bind (wh ..) ?_
  rintro x h1 ⟨hb,g⟩
  simp only [au,jC hb,bg]
  refine dM.bind (v_Total hn (g.le hro) (Cfg.mk' (ht.grow g) (hp.grow g)) p) ?_
  rintro tot _ h2 ⟨rfl,htot,g2⟩
  have t2:=g.trans g2
  refine aL.ifB (fun e1=>KS ⟨t2,.inl ⟨by simpa using e1,rfl,rfl⟩⟩) fun e1=>?_
  simp at e1
  have hm:PO zc=true∧0≤p∧p<zc.parts.length:=by
    unfold HS at e1
    split at e1
    · rename_i h1
      split at e1
      · rename_i h2; exact ⟨h1,h2⟩
      · cases e1
    · cases e1
  obtain ⟨pn,rfl⟩:=iM hm.2.1
  have hpn:pn<zc.parts.length:=by omega
  have po:=ay9 hm.1 hpn
  have htot:=htot e1
  rw [iI] at htot
  subst htot
  obtain ⟨hps,S,hpt,hS⟩:=hp
  have hb2:=g2.cl hb
  simp only [au,jC hb2,bg,eD.eld (hpt.grow t2) (show (0:Int)≤(pn:Int) by omega) (show (pn:Int)<_ by omega),iI]
  rw [show zc.parts.getD pn default=lI zc pn from rfl] at *
  refine aF.bind (asu (n:=8) (t2.le hro) (by rfl) (by rfl)) ?_
  rintro y h3 ⟨hy,oy,g3⟩
  have t3:=t2.trans g3
  have hb3:=g3.cl hb2
  simp only [au,jC hb3,jC oy.cl,bg]
  have hne:(lI zc pn).gH≠[]:=by have:=po.pos; intro e; rw [e] at this; simp at this
  have hSp0:=(hS pn hpn).grow t3
  have hSp:dP (h3.shut true) .i64 (S pn) (lI zc pn).gH:=hSp0
  refine aF.bind (v_Clone (n:=n) (h:=h3.shut true) (iA _) hSp hne (by have:=po.few; omega)) ?_
  rintro vm h4 ⟨lv,hvm,g4⟩
  have g4':=g4.shut
  have t4:=t3.trans g4'
  have lv':Lst (h4.back h3.ro) vm (lI zc pn).gH:=Lst.back lv (by rw [g4.ro]; exact t3.le hro)
  have oy4:=oy.grow g4'
  simp only [au,jC oy4.cl,bg,QN]
  generalize hA:h4.back h3.ro=A at *
  have hroA:A.ro≤A.nx:=t4.le hro
  have gB:be A (A.add (.mp [])):=be.add
  have mB:gn (A.add (.mp [])) A.nx .u8 []:=⟨by simp,by simpa using hroA,by rw [ad.gV,if_pos rfl]; rfl⟩
  have lB:=lv'.grow gB
  have yB:=oy4.grow gB
  generalize hB:A.add (.mp [])=B at *
  have nB:=gB.nx
  obtain ⟨vb0,ve,rfl⟩:∃ b e,vm = .slice b 0 (lI zc pn).gH.length e true:=by
    rcases lv' with ⟨_,e⟩ | ⟨b,e,rest,rfl,_⟩
    · exact (hne e).elim
    · exact ⟨b,e,rfl⟩
  have hb20:∀ K,uK [.int .i64 0,.nilslice,.int .i64 0,.int .i64 0,.int .i64 0,.int .i64 0,.int .i64 0,.int .i64 0,.int .i64 0,.int .i64 0,.int .i64 0,.nilslice,.nilmap,.int .i64 0,.int .i64 0,.int .i64 0,.int .i64 0,.int .i64 0,.int .i64 0,.int .i64 0]
      [(0,1,.int .i64 zc.gG),(1,1,.slice vb0 0 (lI zc pn).gH.length ve true),(2,1,.int .i64 (lI zc pn).order),(10,1,.int .i64 (UN zc pn)),(12,1,.map A.nx)] K =
      K (.agg (Lt { ain zc pn (fun _=>⟨0,fun _=>[],[]⟩) with gP:=fun _=>0 } (.slice vb0 0 (lI zc pn).gH.length ve true) .nilslice A.nx)):=fun K=>rfl
  simp only [au,hb20]
  have box:aF (Ad B (.agg (Lt { ain zc pn (fun _=>⟨0,fun _=>[],[]⟩) with gP:=fun _=>0 } (.slice vb0 0 (lI zc pn).gH.length ve true) .nilslice A.nx))) fun x h'=>
      Own h' x (Lt { ain zc pn (fun _=>⟨0,fun _=>[],[]⟩) with gP:=fun _=>0 } (.slice vb0 0 (lI zc pn).gH.length ve true) .nilslice A.nx) 0∧B.nx≤x∧be B h':=
    ⟨(B.nx,B.add (.cells _ true 0)),⟨⟨by simp,by simp; exact gB.le hroA,by rw [ad.gV,if_pos rfl]⟩,iA _,be.add⟩,fun k=>auR ..⟩
  refine aF.bind box ?_
  rintro P hC ⟨oC,hP,gC⟩
  simp only [au,jC (yB.grow gC).cl,bg]
  have hb7:∀ K,uK [.int .i64 0,.int .i64 0,.int .i64 0,.int .i64 0,.int .i64 0,.int .i64 0,.int .i64 0] [(2,1,.int .i64 (lI zc pn).user),(3,1,.int .i64 (lI zc pn).tables),(4,1,.int .i64 (lI zc pn).spaces),(5,1,.int .i64 (lI zc pn).gO),(6,1,.int .i64 (lI zc pn).gN)] K =
      K (.agg [.int .i64 0,.int .i64 0,.int .i64 (lI zc pn).user,.int .i64 (lI zc pn).tables,.int .i64 (lI zc pn).spaces,.int .i64 (lI zc pn).gO,.int .i64 (lI zc pn).gN]):=fun K=>rfl
  simp only [au,hb7,aut]
  refine ed.bind (Um (cs:=[.int .i64 0,.int .i64 0,.int .i64 (lI zc pn).user,.int .i64 (lI zc pn).tables,.int .i64 (lI zc pn).spaces,.int .i64 (lI zc pn).gO,.int .i64 (lI zc pn).gN]) oC rfl (by show 3+7≤20; decide)) ?_
  intro hD pD
  have oD:Own hD P (Lt (ain zc pn (fun _=>⟨0,fun _=>[],[]⟩)) (.slice vb0 0 (lI zc pn).gH.length ve true) .nilslice A.nx) 0:=pD.own
  simp only [au,jC oD.cl,aEX]
  have hvb:∀ c,(AV.slice vb0 0 (lI zc pn).gH.length ve true).blk=some c→h3.nx≤c:=hvm
  have t3:=g2.trans g3
  have t4:=t3.trans g4'
  have tB:=t4.trans gB
  have tC:=tB.trans gC
  have hPn:h1.nx≤P:=iE tB.nx hP
  have mk0:fU h1 hD ⟨P,.slice vb0 0 (lI zc pn).gH.length ve true,.nilslice,A.nx,fun _=>0,fun _=>0,fun _ _=>.nilslice⟩ (ain zc pn (fun _=>⟨0,fun _=>[],[]⟩)) 0:=by
    have lC:=lB.grow gC
    refine ⟨oD,?_,.nil,?_,fun i hi=>absurd hi (by omega),fun i j hi=>absurd hi (by omega),fun i hi=>absurd hi (by omega),fun c _ e=>(nomatch e),fun c hc=>?_,pD.grow tC hPn⟩
    · exact lC.chg pD.chg fun d e1 e2=>lC.ne oC e1 e2
    · exact (mB.chg (gC.chg fun _=>False) fun h=>h).chg pD.chg (by have:=mB.lt; omega)
    · rcases hc with e | e | e | e | ⟨i,hi,_⟩
      · subst e; exact hPn
      · subst e; exact t4.nx
      · have:=hvb c e; have:=t3.nx; omega
      · cases e
      · omega
  refine aL.mono (v_PNew_1 hn5 (P:=P) (vm:=.slice vb0 0 (lI zc pn).gH.length ve true) (l:=(lI zc pn).gH) (h0:=h1) (x:=x) (g.le hro) hb po.fr po.co _ _ (fun j hj=>by rw [un hj]; exact po.col _ (iU hj)) po.few n 0 hD _ _ mk0 rfl rfl rfl (fun j hj=>absurd hj (by omega)) (by omega) (by have:=po.few; omega)) ?_
  rintro ⟨r,er,h'⟩ ⟨q1,q2,w',bs,q3,q4,q5⟩
  dsimp only at q1 q2
  subst q1 q2
  exact ⟨g.trans q4.g,.inr ⟨rfl,e1,w',bs,by rw [q3],q4.base g,q5⟩⟩
end Go.Proofs.YtnlbfbiogfilfaaGreat.Sh
/- What stays true of a pool, plainly. -/
namespace Go.Proofs.YtnlbfbiogfilfaaGreat.Sh
open Go.Ai
def tO (s:cw) (x:Int):Nat→Nat
  | 0=>0
  | n+1=>tO s x n+yu n (s.free n) x
theorem ae7 (s:cw) (x:Int):mult s x=tO s x 7:=by simp [mult,tO]
def inB (a x:Int) (k:Nat):Nat:=if a≤x∧x<a+2^k then 1 else 0
theorem agp (k:Nat) (a:Int) (l:List Int) (x:Int):yu k (a::l) x=yu k l x+inB a x k:=by
  unfold yu inB
  rw [List.countP_cons]
  congr 1
  by_cases h:a≤x∧x<a+2^k<;>simp [h]
theorem aDh (a x:Int) (k:Nat):inB a x k+inB (a+2^k) x k=inB a x (k+1):=by
  have h:(2:Int)^(k+1)=2^k+2^k:=by rw [Int.pow_succ]; omega
  have hp:(0:Int)<2^k:=Int.pow_pos (by omega)
  unfold inB
  rw [h]
  by_cases h1:a≤x∧x<a+2^k
  · rw [if_pos h1,if_neg (by omega),if_pos (by omega)]
  · rw [if_neg h1]
    by_cases h2:a+2^k≤x∧x<a+2^k+2^k
    · rw [if_pos h2,if_pos (by omega)]
    · rw [if_neg h2,if_neg (by omega)]
theorem aDz {s:cw} {o k:Nat} {a:Int} {rest:List Int} (hok:o≤k) (hx:s.free k=a::rest) (hemp:∀ j,o≤j→j<k→s.free j = []) (x:Int) :
    ∀ n,(n≤o→tO (Dq s o k o a rest) x n=tO s x n)∧(o≤n→n≤k→tO (Dq s o k o a rest) x n+inB a x o=tO s x n+inB a x n)∧(k<n→tO (Dq s o k o a rest) x n+inB a x o=tO s x n):=by
  intro n
  induction n with
  | zero=>
    refine ⟨fun _=>rfl,fun h1 _=>?_,fun h=>by omega⟩
    have:o=0:=by omega
    subst this; rfl
  | succ n ih=>
    obtain ⟨i1,i2,i3⟩:=ih
    have fr:(Dq s o k o a rest).free n=if n=k then rest else if o≤n∧n<k then [a+2^n] else s.free n:=rfl
    refine ⟨fun h=>?_,fun h1 h2=>?_,fun h=>?_⟩
    · rw [tO,tO,i1 (by omega),fr,if_neg (by omega),if_neg (by omega)]
    · by_cases h3:n+1=o
      · rw [← h3] at i1 ⊢
        rw [tO,tO,i1 (by omega)]
        subst h3
        rw [fr,if_neg (by omega),if_neg (by omega)]
      · have j:=i2 (by omega) (by omega)
        rw [tO,tO,fr,if_neg (by omega),if_pos (by omega),hemp n (by omega) (by omega),agp, ← aDh]
        have e1:yu n ([]:List Int) x=0:=rfl
        omega
    · by_cases h3:n=k
      · subst h3
        have j:=i2 (by omega) (by omega)
        rw [tO,tO,fr,if_pos rfl,hx,agp]
        omega
      · have j:=i3 (by omega)
        rw [tO,tO,fr,if_neg h3,if_neg (by omega)]
        omega
theorem aqI {s:cw} {o k:Nat} {a:Int} {rest:List Int} (hok:o≤k) (hk:k<7) (hx:s.free k=a::rest) (hemp:∀ j,o≤j→j<k→s.free j = []) (x:Int):mult (Dq s o k o a rest) x+inB a x o=mult s x:=by
  rw [ae7,ae7]
  exact (aDz hok hx hemp x 7).2.2 hk
theorem asW {s:cw} {k:Nat} {a x:Int} (ha:a∈s.free k) (h1:a≤x) (h2:x<a+2^k):∀ n,k<n→1≤tO s x n
  | 0,h=>by omega
  | n+1,h=>by
    rw [tO]
    by_cases e:k=n
    · subst e
      have:0<yu k (s.free k) x:=iW.2 ⟨a,ha,by simp [h1,h2]⟩
      omega
    · have:=asW ha h1 h2 n (by omega)
      omega
theorem Nd {s:cw} {k:Nat} (hk:k<7) {a x:Int} (ha:a∈s.free k) (h1:a≤x) (h2:x<a+2^k):1≤mult s x:=by rw [ae7]; exact asW ha h1 h2 7 hk
theorem alj {co c c' x y:Int} (h1:0≤c) (h2:c<co) (h3:0≤c') (h4:c'<co) (h:y*co+c=x*co+c'):y=x∧c=c':=by
  have:y=x:=by
    rcases Int.lt_trichotomy y x with h5 | h5 | h5
    · have:=Int.mul_le_mul_of_nonneg_right (show y+1≤x by omega) (show 0≤co by omega)
      rw [Int.add_mul] at this
      omega
    · exact h5
    · have:=Int.mul_le_mul_of_nonneg_right (show x+1≤y by omega) (show 0≤co by omega)
      rw [Int.add_mul] at this
      omega
  subst this
  exact ⟨rfl,by omega⟩
theorem atp {co c c' a x:Int} (h1:0≤c) (h2:c<co) (h3:0≤c') (h4:c'<co):∀ N:Nat,(pC co c a N).count (x*co+c')=if c'=c∧a≤x∧x<a+(N:Int) then 1 else 0
  | 0=>by
    rw [if_neg (by omega)]; rfl
  | N+1=>by
    have s1:List.count (x*co+c') [(a+(N:Int))*co+c]=if (a+(N:Int))*co+c=x*co+c' then 1 else 0:=by
      rw [List.count_singleton]
      by_cases e:(a+(N:Int))*co+c=x*co+c'<;>simp [e]
    rw [We,List.count_append,atp h1 h2 h3 h4 N,s1]
    by_cases e:(a+(N:Int))*co+c=x*co+c'
    · obtain ⟨e1,e2⟩:=alj h1 h2 h3 h4 e
      rw [if_pos e,if_neg (show ¬ (c'=c∧a≤x∧x<a+(N:Int)) by omega),if_pos (show c'=c∧a≤x∧x<a+((N+1:Nat):Int) by omega)]
    · have hne:¬ (c'=c∧a+(N:Int)=x):=fun ⟨u,v⟩=>e (by rw [u,v])
      rw [if_neg e]
      by_cases h:c'=c∧a≤x∧x<a+(N:Int)
      · rw [if_pos h,if_pos (show c'=c∧a≤x∧x<a+((N+1:Nat):Int) by omega)]
      · rw [if_neg h,if_neg (show ¬ (c'=c∧a≤x∧x<a+((N+1:Nat):Int)) by omega)]
structure Inv (zc:bq) (p:Nat) (T:List Int) (z:bW):Prop where
  gI:z.gI=(lI zc p).gH
  co:z.gG=zc.gG
  law:∀ i,i<z.gI.length→∀ x:Int,T.count (x*zc.gG+nz z.gI i)+mult (z.gJ i) x=if 0≤x∧x<(VK zc (nz z.gI i):Int) then 1 else 0
  form:∀ f∈T,∃ i,i<z.gI.length∧∃ x:Int,f=x*zc.gG+nz z.gI i
  cnt:∀ k,0≤z.gK k∧z.gK k≤(T.length:Int)
theorem dE.nz {zc:bq} {p:Nat} (po:dE zc p) {i:Nat} (hi:i<(lI zc p).gH.length):0≤nz (lI zc p).gH i∧nz (lI zc p).gH i<zc.gG:=by rw [un hi]; exact po.col _ (iU hi)
theorem ayf {z:bq} (h1:kG z.frames 1 4096=true) (h2:kG z.gG 1 16=true) {c:Int} (h3:0≤c) (h4:c<z.gG) {x:Int} (hx:x<(VK z c:Int)):x*z.gG+c≤z.frames-1:=by
  obtain ⟨b1,b2,b3⟩:=asr h1 h2 h3 h4
  simp [kG] at h2
  rw [b3] at hx
  have h5:azJ z c*z.gG≤z.frames-c+z.gG-1:=by
    have:=Int.mul_ediv_self_le (x:=z.frames-c+z.gG-1) (k:=z.gG) (by omega)
    rw [Int.mul_comm] at this
    exact this
  have h6:=Int.mul_le_mul_of_nonneg_right (show x+1≤azJ z c by omega) (show 0≤z.gG by omega)
  rw [Int.add_mul] at h6
  omega
theorem Inv.ok {zc:bq} {p:Nat} {T:List Int} {z:bW} (v:Inv zc p T z) (po:dE zc p) (hT:T.length≤900000000):PoolOk z:=by
  have hm:=v.gI
  refine ⟨by rw [v.co]; exact po.co,by rw [hm]; exact po.pos,by rw [hm]; exact po.few,fun i hi=>?_,fun i hi k hk a ha=>?_,fun k=>?_⟩
  · rw [v.co,hm]; exact po.nz (by rw [hm] at hi; exact hi)
  · have hi':i<(lI zc p).gH.length:=by rw [hm] at hi; exact hi
    obtain ⟨n1,n2⟩:=po.nz hi'
    rw [← hm] at n1 n2
    obtain ⟨p1,p2,p3⟩:=aaQ hk
    have l1:=v.law i hi a
    have l2:=v.law i hi (a+2^k-1)
    have m1:=Nd hk ha (iS a) (by omega)
    have m2:=Nd hk ha (show a≤a+2^k-1 by omega) (by omega)
    have c1:0≤a∧a<(VK zc (Go.Ai.nz z.gI i):Int):=by
      by_cases h:0≤a∧a<(VK zc (Go.Ai.nz z.gI i):Int)
      · exact h
      · rw [if_neg h] at l1; omega
    have c2:0≤a+2^k-1∧a+2^k-1<(VK zc (Go.Ai.nz z.gI i):Int):=by
      by_cases h:0≤a+2^k-1∧a+2^k-1<(VK zc (Go.Ai.nz z.gI i):Int)
      · exact h
      · rw [if_neg h] at l2; omega
    have r:=ayf po.fr po.co n1 n2 c2.2
    have hf:=po.fr
    simp [kG] at hf
    rw [v.co]
    exact ⟨c1.1,by omega⟩
  · have:=v.cnt k; omega
theorem Inv.new {zc:bq} {p:Nat} {bs:Nat→cw} (h:∀ j,j<(lI zc p).gH.length→∃ o,eM (VK zc (Go.Ai.nz (lI zc p).gH j)) (VK zc (Go.Ai.nz (lI zc p).gH j)) o (bs j)):Inv zc p [] (ain zc p bs):=by
  refine ⟨rfl,rfl,fun i hi x=>?_,fun f hf=>(nomatch hf),fun k=>⟨iS 0,by simp [ain]⟩⟩
  obtain ⟨o,mk⟩:=h i hi
  have:=mk.hm x
  show List.count _ []+mult (bs i) x=_
  rw [this,List.count_nil,Nat.zero_add]
  rfl
theorem Inv.step {zc:bq} {p:Nat} {T:List Int} {z:bW} (v:Inv zc p T z) (po:dE zc p) {i o u k:Nat} {a:Int} {rest:List Int} (hi:i<z.gI.length) (ho:o<7) (hok:o≤k) (hk:k<7) (hx:(z.gJ i).free k=a::rest)
    (hemp:∀ j,o≤j→j<k→(z.gJ i).free j = []):Inv zc p (T++pC z.gG (Go.Ai.nz z.gI i) a (2^o)) (fP z i o u k a rest):=by
  have hm:=v.gI
  have hi':i<(lI zc p).gH.length:=by rw [hm] at hi; exact hi
  obtain ⟨n1,n2⟩:=po.nz hi'
  rw [← hm] at n1 n2
  obtain ⟨p0,p1,p2⟩:=Ov ho
  refine ⟨hm,v.co,fun j hj x=>?_,fun f hf=>?_,fun q=>?_⟩
  · have hj0:j<z.gI.length:=hj
    have hj':j<(lI zc p).gH.length:=by rw [hm] at hj0; exact hj0
    obtain ⟨j1,j2⟩:=po.nz hj'
    rw [← hm] at j1 j2
    have hl:=v.law j hj0 x
    show List.count (x*zc.gG+Go.Ai.nz z.gI j) (T++pC z.gG (Go.Ai.nz z.gI i) a (2^o))+mult (upd z.gJ i { Dq (z.gJ i) o k o a rest with gL:=aeI a o (z.gJ i).gL } j) x=_
    rw [List.count_append,v.co,atp n1 n2 j1 j2]
    show _=if 0≤x∧x<(VK zc (Go.Ai.nz z.gI j):Int) then 1 else 0
    rw [← hl]
    by_cases e:j=i
    · subst e
      rw [lm]
      have ht:=aqI hok hk hx hemp x
      have e1:mult { Dq (z.gJ j) o k o a rest with gL:=aeI a o (z.gJ j).gL } x=mult (Dq (z.gJ j) o k o a rest) x:=rfl
      rw [e1, ← ht]
      unfold inB
      rw [← p0]
      by_cases h:a≤x∧x<a+((2^o:Nat):Int)
      · rw [if_pos h,if_pos ⟨rfl,h⟩]; omega
      · rw [if_neg h,if_neg (fun h'=>h h'.2)]; omega
    · rw [kX _ _ e]
      have hne:Go.Ai.nz z.gI j≠Go.Ai.nz z.gI i:=by
        rw [hm,un hj',un hi']
        rcases io j i with h | h
        · have:=List.pairwise_iff_getElem.1 po.up j i hj' hi' h; omega
        · have:=List.pairwise_iff_getElem.1 po.up i j hi' hj' (by omega); omega
      rw [if_neg (fun h=>hne h.1)]
      omega
  · rcases i8.1 hf with h | h
    · exact v.form f h
    · simp only [pC,ic] at h
      obtain ⟨y,_,rfl⟩:=h
      exact ⟨i,hi,a+(y:Int),by rw [v.co]; rfl⟩
  · show 0≤upd z.gK u (z.gK u+((2^o:Nat):Int)) q∧upd z.gK u (z.gK u+((2^o:Nat):Int)) q≤((T++pC z.gG (Go.Ai.nz z.gI i) a (2^o)).length:Int)
    have hc:=v.cnt q
    have hu:=v.cnt u
    rw [iZ,CN]
    by_cases e:q=u
    · subst e; rw [lm]; omega
    · rw [kX _ _ e]; omega
theorem awx:∀ {l:List Int},(∀ f,l.count f≤1)→l.Nodup
  | [],_=>.nil
  | x::l,h=>by
    refine List.nodup_cons.2 ⟨fun hx=>?_,awx fun f=>?_⟩
    · have h1:=h x
      rw [List.count_cons_self] at h1
      have:=List.count_pos_iff.2 hx
      omega
    · have h1:=h f
      rw [List.count_cons] at h1
      omega
theorem Inv.nodup {zc:bq} {p:Nat} {T:List Int} {z:bW} (v:Inv zc p T z):T.Nodup:=by
  refine awx fun f=>?_
  by_cases hf:f∈T
  · obtain ⟨i,hi,x,rfl⟩:=v.form f hf
    have:=v.law i hi x
    split at this<;>omega
  · rw [List.count_eq_zero.2 hf]; omega
end Go.Proofs.YtnlbfbiogfilfaaGreat.Sh
/- What is taken, with its uses: what a pool keeps of it; how much is free. -/
namespace Go.Proofs.YtnlbfbiogfilfaaGreat.Sh
open Go.Ai
theorem asL {s s':cw} (h:s.free=s'.free):∀ n,pW s n=pW s' n
  | 0=>rfl
  | n+1=>by rw [pW,pW,asL h n,h]
theorem aFk {s:cw} {o k:Nat} {a:Int} {rest:List Int} (hok:o≤k) (hx:s.free k=a::rest) (hemp:∀ j,o≤j→j<k→s.free j = []) :
    ∀ n,(n≤o→pW (Dq s o k o a rest) n=pW s n)∧(o≤n→n≤k→pW (Dq s o k o a rest) n+2^o=pW s n+2^n)∧(k<n→pW (Dq s o k o a rest) n+2^o=pW s n):=by
  intro n
  induction n with
  | zero=>
    refine ⟨fun _=>rfl,fun h1 _=>?_,fun h=>by omega⟩
    have:o=0:=by omega
    subst this; rfl
  | succ n ih=>
    obtain ⟨i1,i2,i3⟩:=ih
    have fr:(Dq s o k o a rest).free n=if n=k then rest else if o≤n∧n<k then [a+2^n] else s.free n:=rfl
    refine ⟨fun h=>?_,fun h1 h2=>?_,fun h=>?_⟩
    · rw [pW,pW,i1 (by omega),fr,if_neg (by omega),if_neg (by omega)]
    · by_cases h3:n+1=o
      · rw [← h3] at i1 ⊢
        rw [pW,pW,i1 (by omega)]
        subst h3
        rw [fr,if_neg (by omega),if_neg (by omega)]
      · have j:=i2 (by omega) (by omega)
        rw [pW,pW,fr,if_neg (by omega),if_pos (by omega),hemp n (by omega) (by omega),List.length_singleton,List.length_nil,Nat.pow_succ]
        omega
    · by_cases h3:n=k
      · subst h3
        have j:=i2 (by omega) (by omega)
        rw [pW,pW,fr,if_pos rfl,hx,List.length_cons,Nat.add_mul]
        omega
      · have j:=i3 (by omega)
        rw [pW,pW,fr,if_neg h3,if_neg (by omega)]
        omega
theorem aC7 {z:bW} {i o u k:Nat} {a:Int} {rest:List Int} (hok:o≤k) (hk:k<7) (hx:(z.gJ i).free k=a::rest) (hemp:∀ j,o≤j→j<k→(z.gJ i).free j = []) :
    gQ (fP z i o u k a rest) i+2^o=gQ z i∧∀ j,j≠i→gQ (fP z i o u k a rest) j=gQ z j:=by
  constructor
  · show pW (upd z.gJ i _ i) 7+2^o=_
    rw [lm]
    refine Eq.trans (congrArg (fun x=>x+2^o) (asL (s':=Dq (z.gJ i) o k o a rest) rfl 7)) ?_
    exact (aFk hok hx hemp 7).2.2 hk
  · intro j hj
    show pW (upd z.gJ i _ j) 7=_
    rw [kX _ _ hj]
def Em (f:Nat→Nat):Nat→Nat
  | 0=>0
  | n+1=>Em f n+f n
theorem ayu {f f':Nat→Nat} {i d:Nat} (h1:f' i+d=f i) (h2:∀ j,j≠i→f' j=f j):∀ n,(n≤i→Em f' n=Em f n)∧(i<n→Em f' n+d=Em f n)
  | 0=>⟨fun _=>rfl,fun h=>by omega⟩
  | n+1=>by
    obtain ⟨a,b⟩:=ayu h1 h2 n
    refine ⟨fun h=>by rw [Em,Em,a (by omega),h2 n (by omega)],fun h=>?_⟩
    by_cases e:n=i
    · subst e; rw [Em,Em,a (iA _)]; omega
    · have:=b (by omega); rw [Em,Em,h2 n e]; omega
theorem alC {f:Nat→Nat} {b:Nat}:∀ n,(∀ j,j<n→f j=b)→Em f n=n*b
  | 0,_=>by simp [Em]
  | n+1,h=>by rw [Em,alC n fun j hj=>h j (by omega),h n (by omega),Nat.add_mul]; omega
def UM (L:List (Int × Int)) (u:Int):Nat:=L.countP fun e=>decide (e.2=u)
theorem ahq (L M:List (Int × Int)) (u:Int):UM (L++M) u=UM L u+UM M u:=by simp [UM]
theorem aCU (l:List Int) (v u:Int):UM (l.map fun f=>(f,v)) u=if v=u then l.length else 0:=by
  induction l with
  | nil=>simp [UM]
  | cons a t ih=>
    have:UM ((a::t).map fun f=>(f,v)) u=UM (t.map fun f=>(f,v)) u+(if v=u then 1 else 0):=by simp [UM,List.countP_cons]
    rw [this,ih]
    by_cases e:v=u<;>simp [e]
theorem ayC {k x:Int}:∀ {kv:List (Int × Int)},k∉kv.map (·.1)→aeI k x kv=kv++[(k,x)]
  | [],_=>rfl
  | e::t,h=>by
    rw [List.map_cons,iP,not_or] at h
    rw [aeI,if_neg h.1,ayC h.2]; rfl
theorem aA0 {u:Int}:∀ {l:List Int} {kv:List (Int × Int)},(kv.map (·.1)++l).Nodup→aAT u l kv=kv++l.map fun f=>(f,u)
  | [],kv,_=>by simp [aAT]
  | f::l,kv,h=>by
    have h1:f∉kv.map (·.1):=fun hm=>by
      have:=(iY.1 h).2.2 f hm f (iV ..)
      exact this rfl
    show aAT u l (aeI f u kv)=_
    rw [ayC h1,aA0 (by simpa using h)]
    simp
structure InvQ (zc:bq) (p:Nat) (L:List (Int × Int)) (z:bW):Prop where
  inv:Inv zc p (L.map (·.1)) z
  uses:z.uses=L
  cnt:∀ u:Nat,u<7→z.gK u=(UM L u:Int)
  rng:∀ e∈L,1≤e.2∧e.2≤6
  sum:(Em (gQ z) z.gI.length:Int)+L.length=UN zc p
  gP:z.gP=avR (lI zc p)
  total:z.total=UN zc p
  order:z.order=(lI zc p).order
theorem aGm {zc:bq} {p:Nat} (hm:PO zc=true) (po:dE zc p) {bs:Nat→cw} (h:∀ j,j<(lI zc p).gH.length→∃ o,eM (VK zc (nz (lI zc p).gH j)) (VK zc (nz (lI zc p).gH j)) o (bs j)) :
    ∀ j,j<(lI zc p).gH.length→gQ (ain zc p bs) j=(zc.frames/zc.gG).toNat:=by
  intro j hj
  obtain ⟨o,mk⟩:=h j hj
  have h2:gQ (ain zc p bs) j=VK zc (nz (lI zc p).gH j):=mk.sum
  rw [h2]
  unfold VK azJ
  obtain ⟨n1,n2⟩:=po.nz hj
  simp only [PO,iw] at hm
  have hm:=hm.1
  simp only [sS,iw] at hm
  obtain ⟨_,hf,hd,_⟩:=hm
  have hco:=po.co
  simp [kG] at hco hf
  simp at hd
  rw [Int.tmod_eq_emod_of_nonneg (by omega)] at hd
  congr 1
  obtain ⟨k,hk⟩:=Int.dvd_of_emod_eq_zero hd
  generalize hx:nz (lI zc p).gH j=x at *
  rw [hk,Int.mul_ediv_cancel_left _ (by omega)]
  rw [show zc.gG*k-x+zc.gG-1=(zc.gG-1-x)+zc.gG*k by omega,Int.add_mul_ediv_left _ _ (by omega),Int.ediv_eq_zero_of_lt (by omega) (by omega)]
  omega
theorem aFz {zc:bq} (h1:kG zc.frames 1 4096=true) (h2:kG zc.gG 1 16=true):amL zc=zc.frames/zc.gG∧0≤zc.frames/zc.gG∧zc.frames/zc.gG≤4096:=by
  simp [kG] at h1 h2
  have h3:0≤zc.frames/zc.gG:=Int.ediv_nonneg (by omega) (by omega)
  have h4:zc.frames/zc.gG≤zc.frames:=Int.ediv_le_self _ (by omega)
  refine ⟨?_,h3,by omega⟩
  unfold amL
  rw [Int.tdiv_eq_ediv_of_nonneg (by omega),rK (by omega) (by omega)]
theorem atc {zc:bq} {p:Nat} (po:dE zc p):UN zc p=(lI zc p).gH.length*(zc.frames/zc.gG)∧0≤UN zc p∧UN zc p≤65536:=by
  obtain ⟨e1,e2,e3⟩:=aFz po.fr po.co
  have hl:=po.few
  have h4:((lI zc p).gH.length:Int)*(zc.frames/zc.gG)≤16*4096:=Int.mul_le_mul (by omega) e3 e2 (by omega)
  have h5:0≤((lI zc p).gH.length:Int)*(zc.frames/zc.gG):=Int.mul_nonneg (by omega) e2
  unfold UN
  rw [e1,rK (by omega) (by omega)]
  exact ⟨rfl,h5,by omega⟩
theorem InvQ.new {zc:bq} {p:Nat} (hm:PO zc=true) (po:dE zc p) {bs:Nat→cw} (h:∀ j,j<(lI zc p).gH.length→∃ o,eM (VK zc (nz (lI zc p).gH j)) (VK zc (nz (lI zc p).gH j)) o (bs j)):InvQ zc p [] (ain zc p bs):=by
  refine ⟨Inv.new h,rfl,fun u _=>rfl,fun e he=>(nomatch he),?_,rfl,rfl,rfl⟩
  obtain ⟨t1,t2,_⟩:=atc po
  obtain ⟨_,e2,_⟩:=aFz po.fr po.co
  have:Em (gQ (ain zc p bs)) (ain zc p bs).gI.length=(lI zc p).gH.length*(zc.frames/zc.gG).toNat:=alC _ (aGm hm po h)
  rw [this,t1]
  simp
  rw [Int.max_eq_left e2]
theorem InvQ.step {zc:bq} {p:Nat} {L:List (Int × Int)} {z:bW} (v:InvQ zc p L z) (po:dE zc p) {i o u k:Nat} {a:Int} {rest:List Int} (hu:1≤u∧u≤6) (hi:i<z.gI.length) (ho:o<7) (hok:o≤k) (hk:k<7) (hx:(z.gJ i).free k=a::rest)
    (hemp:∀ j,o≤j→j<k→(z.gJ i).free j = []):InvQ zc p (L++(pC z.gG (nz z.gI i) a (2^o)).map fun f=>(f,(u:Int))) (fP z i o u k a rest):=by
  have hs:=v.inv.step po (u:=u) hi ho hok hk hx hemp
  have hL:(L++(pC z.gG (nz z.gI i) a (2^o)).map fun f=>(f,(u:Int))).map (·.1)=L.map (·.1)++pC z.gG (nz z.gI i) a (2^o):=by simp [Function.comp_def]
  obtain ⟨f1,f2⟩:=aC7 (u:=u) hok hk hx hemp
  refine ⟨by rw [hL]; exact hs,?_,fun w hw=>?_,fun e he=>?_,?_,v.gP,v.total,v.order⟩
  · show aAT u _ z.uses=_
    rw [v.uses]
    exact aA0 hs.nodup
  · rw [ahq,aCU,CN]
    show upd z.gK u (z.gK u+((2^o:Nat):Int)) w=_
    by_cases e:w=u
    · subst e; rw [lm,v.cnt w hw,if_pos rfl]; simp
    · rw [kX _ _ e,v.cnt w hw,if_neg (fun h=>e (by omega))]; simp
  · rcases i8.1 he with he | he
    · exact v.rng e he
    · obtain ⟨f,_,rfl⟩:=ic.1 he
      dsimp only; omega
  · have h1:=(ayu (d:=2^o) f1 f2 z.gI.length).2 hi
    have h2:=v.sum
    show (Em (gQ (fP z i o u k a rest)) z.gI.length:Int)+_=_
    rw [iZ,i6,CN]
    generalize 2^o=D at *
    omega
end Go.Proofs.YtnlbfbiogfilfaaGreat.Sh
