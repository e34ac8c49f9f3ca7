/- A new pool, by the code. -/
import Derived.Test.YtlgbmkemfinogaaGreatLUNewLUPool
set_option linter.all false
namespace Go.Proofs.YtlgbmkemfinogaaGreat.Sh
open Go.Ai
theorem Wm (d:Nat) (h:Heap) (b o n:Nat) (u:AV) (k:AV→Heap→ab):nfst d h (.ptr b o) n u k=nu h (.ptr b (o+d)) n u fun H=>k (.ptr b (o+d)) H:=by
  unfold nfst Go.Ai.fst
  rw [afw,alb]
structure eT (h0 h:Heap) (w:bX) (z:bf) (L:Nat):Prop where
  own:Own h w.p (zw z w.vm w.vb w.mu) 0
  fD:Lst h w.vm z.fD
  fE:App h w.vb 1 L ((List.range L).map fun i=>.ptr (w.bp i) 0)
  uses:ft h w.mu .u8 z.uses
  each:∀ i,i<L→dk h (w.bp i) (w.bm i) (w.bv i) (z.fE i)
  disj:∀ i j,i<L→j<L→i≠j→∀ c,fpI w i c→¬ fpI w j c
  apart:∀ i,i<L→∀ c,fpI w i c→c≠w.p∧c≠w.mu∧w.vm.blk≠some c∧w.vb.blk≠some c
  two:∀ c,w.vm.blk=some c→w.vb.blk≠some c
  low:∀ c,fpP w L c→h0.nx≤c
  g:bo h0 h
theorem eT.pool {h0 h:Heap} {w:bX} {z:bf} (b:eT h0 h w z z.fD.length):bF h w z:=⟨b.own,b.fD,b.fE,b.uses,b.each,b.disj,b.apart,b.two⟩
theorem anq (z:bf) (vm vb vb':AV) (mu:Nat):(zw z vm vb mu).set 11 vb'=zw z vm vb' mu:=rfl
theorem eT.more {h0 h h2 h3 h4 h5:Heap} {w:bX} {z:bf} {L:Nat} (b:eT h0 h w z L) {p m:Nat} {v:Nat→AV} {s:cw} (bn:aaV h h2 p m v s) (g3:bo h2 h3) {vb:AV}
    (ha:App h4 vb 1 (L+1) (((List.range L).map fun i=>AV.ptr (w.bp i) 0)++[.ptr p 0])) (hb:vb.blk=some h3.nx) (c4:Chg (fun c=>w.vb.blk=some c) h3 h4) (p5:Put h4 w.p ((zw z w.vm w.vb w.mu).set 11 vb) 0 h5) :
    eT h0 h5 { w with vb:=vb,bp:=upd w.bp L p,bm:=upd w.bm L m,bv:=upd w.bv L v } { z with fE:=upd z.fE L s } (L+1):=by
  obtain ⟨bi,hf,g2⟩:=bn
  have g23:=g2.trans g3
  have n2:=g2.nx
  have n3:=g3.nx
  have vbp:∀ c,w.vb.blk=some c→c≠w.p∧c≠w.mu:=by
    intro c e
    rcases b.fE with ⟨e1,_,_⟩ | ⟨d,e1,o,_,_⟩
    · rw [e1] at e; cases e
    · rw [e1] at e
      cases e
      refine ⟨?_,fun e2=>?_⟩
      · rintro rfl
        have:=b.own.get.symm.trans o.get
        simp at this
      · rw [e2] at o
        exact b.uses.ne o rfl
  have vmp:∀ c,w.vm.blk=some c→c≠w.p:=fun c e=>b.fD.ne b.own e
  have mup:w.mu≠w.p:=b.uses.ne b.own
  have fo:∀ j,j≠L→fpI { w with vb:=vb,bp:=upd w.bp L p,bm:=upd w.bm L m,bv:=upd w.bv L v } j=fpI w j:=by
    intro j hj
    unfold fpI
    dsimp only
    rw [jL _ _ hj,jL _ _ hj,jL _ _ hj]
  have fl:∀ c,fpI { w with vb:=vb,bp:=upd w.bp L p,bm:=upd w.bm L m,bv:=upd w.bv L v } L c→h.nx≤c∧c<h2.nx:=by
    intro c hc
    unfold fpI at hc
    dsimp only at hc
    rw [jY,jY,jY] at hc
    exact ⟨hf c hc,bi.lt hc⟩
  have o5:=p5.own
  rw [anq] at o5
  refine ⟨o5,?_,?_,?_,fun i hi=>?_,fun i j hi hj hij c e1 e2=>?_,fun i hi c e=>?_,fun c e1 e2=>?_,fun c hc=>?_,?_⟩
  · exact ((b.fD.grow g23).chg c4 fun d e1 e2=>b.two d e1 e2).chg p5.chg fun d e1 e2=>vmp d e1 e2
  · rw [List.range_succ,gU]
    have:(List.range L).map (fun i=>AV.ptr (upd w.bp L p i) 0)=(List.range L).map fun i=>AV.ptr (w.bp i) 0:=by
      apply List.map_congr_left
      intro i hi
      rw [jL _ _ (by have:=gS.1 hi; omega)]
    show App h5 vb 1 (L+1) ((List.range L).map (fun i=>AV.ptr (upd w.bp L p i) 0)++[.ptr (upd w.bp L p L) 0])
    rw [this,jY]
    refine ha.chg p5.chg fun d e1 e2=>?_
    rw [hb] at e1
    cases e1
    have h1:h3.nx=w.p:=e2
    have:=b.own.lt
    omega
  · exact ((b.uses.chg (g23.chg fun _=>False) fun h=>h).chg c4 fun e=>(vbp _ e).2 rfl).chg p5.chg mup
  · by_cases e:i=L
    · subst e
      show dk h5 (upd w.bp i p i) (upd w.bm i m i) (upd w.bv i v i) (upd z.fE i s i)
      rw [jY,jY,jY,jY]
      refine ((bi.grow g3).chg c4 fun d e1 e2=>?_).chg p5.chg fun d e1 e2=>?_
      · have h1:=b.fE.lt e2
        have h2:=hf d e1
        omega
      · have h1:=b.own.lt
        have h2:=hf d e1
        have h3:d=w.p:=e2
        omega
    · show dk h5 (upd w.bp L p i) (upd w.bm L m i) (upd w.bv L v i) (upd z.fE L s i)
      rw [jL _ _ e,jL _ _ e,jL _ _ e,jL _ _ e]
      exact (((b.each i (by omega)).grow g23).chg c4 fun d e1 e2=>(b.apart i (by omega) d e1).2.2.2 e2).chg p5.chg fun d e1 e2=>(b.apart i (by omega) d e1).1 e2
  · by_cases ei:i=L
    · subst ei
      rw [fo j (fun e=>hij e.symm)] at e2
      have h1:=(b.each j (by omega)).lt e2
      have h2:=fl c e1
      omega
    · rw [fo i ei] at e1
      by_cases ej:j=L
      · subst ej
        have h1:=(b.each i (by omega)).lt e1
        have h2:=fl c e2
        omega
      · rw [fo j ej] at e2
        exact b.disj i j (by omega) (by omega) hij c e1 e2
  · by_cases ei:i=L
    · subst ei
      obtain ⟨h1,h2⟩:=fl c e
      refine ⟨fun e1=>?_,fun e1=>?_,fun e1=>?_,fun e1=>?_⟩
      · have e2:c=w.p:=e1
        have:=b.own.lt; omega
      · have e2:c=w.mu:=e1
        have:=b.uses.lt; omega
      · have:=(b.fD.lt e1).1; omega
      · have e2:vb.blk=some c:=e1
        rw [hb] at e2; cases e2; omega
    · rw [fo i ei] at e
      obtain ⟨h1,h2,h3,h4⟩:=b.apart i (by omega) c e
      refine ⟨h1,h2,h3,fun e1=>?_⟩
      have e2:vb.blk=some c:=e1
      rw [hb] at e2
      cases e2
      have:=(b.each i (by omega)).lt e
      omega
  · have e3:vb.blk=some c:=e2
    rw [hb] at e3
    cases e3
    have:=(b.fD.lt e1).1
    omega
  · have hn:=b.g.nx
    rcases hc with e | e | e | e | ⟨i,hi,e⟩
    · exact b.low c (.inl e)
    · exact b.low c (.inr (.inl e))
    · exact b.low c (.inr (.inr (.inl e)))
    · have e2:vb.blk=some c:=e
      rw [hb] at e2; cases e2; omega
    · by_cases ei:i=L
      · subst ei
        have:=(fl c e).1
        omega
      · rw [fo i ei] at e
        exact b.low c (.inr (.inr (.inr (.inr ⟨i,by omega,e⟩))))
  · exact p5.grow (c4.grow (b.g.trans g23) fun c e=>b.low c (.inr (.inr (.inr (.inl e))))) (b.low _ (.inl rfl))
def cntI (z:br) (c:Int):Int:=(z.frames-c+z.fB-1)/z.fB
def CD (z:br) (c:Int):Nat:=(cntI z c).toNat
theorem agt {z:br} (h1:jC z.frames 1 4096=true) (h2:jC z.fB 1 16=true) {c:Int} (h3:0≤c) (h4:c<z.fB):0≤cntI z c∧cntI z c≤4096∧(CD z c:Int)=cntI z c:=by
  simp [jC] at h1 h2
  have a1:0≤cntI z c:=Int.ediv_nonneg (by omega) (by omega)
  have a2:cntI z c≤(z.frames-1+1*z.fB)/z.fB:=Int.ediv_le_ediv (by omega) (by omega)
  rw [Int.add_mul_ediv_right _ _ (show z.fB≠0 by omega)] at a2
  have a3:=Int.ediv_le_self (a:=z.frames-1) z.fB (by omega)
  refine ⟨a1,by omega,?_⟩
  unfold CD
  omega
theorem v_PNew_1 {n:Nat} (hn:5000<n) {zc:br} {t pp:AV} {x:Nat} {h0:Heap} (hro0:h0.ro≤h0.nx) (hb0:h0.cl x (Bt zc t pp)) (hfr:jC zc.frames 1 4096=true) (hco:jC zc.fB 1 16=true) (f1 f2) {P:Nat} {vm:AV} {l:List Int} (hl:∀ j,j<l.length→0≤nz l j∧nz l j<zc.fB) (hlen:l.length≤16) :
    ∀ (q i:Nat) (h:Heap) (w:bX) (z:bf),eT h0 h w z i→w.p=P→w.vm=vm→z.fD=l→(∀ j,j<i→∃ o,dx (CD zc (nz l j)) (CD zc (nz l j)) o (z.fE j))→i≤l.length→l.length-i<q→
    dY (fun k=>GM n f1 f2 (dP n) (eC n) k q (.ptr x 0) (.ptr P 0) vm l.length (i:Int) h) fun r e h'=>r = .ptr P 0∧e=0∧∃ w' bs,w'.p=P∧eT h0 h' w' { z with fE:=bs } l.length∧∀ j,j<l.length→∃ o,dx (CD zc (nz l j)) (CD zc (nz l j)) o (bs j):=by
  intro q
  induction q with
  | zero=>omega
  | succ q ih=>
    intro i h w z b hP hvm hz hmk hi hq
    simp only [akP]
    unfold Gm NC
    refine aR.ifB (fun e=>?_) fun e=>?_
    · simp at e
      subst hP hvm hz
      have hb:=b.g.cl hb0
      have hel:=b.fD.ints.elN (i:=i) e
      obtain ⟨h3,h4⟩:=hl i e
      obtain ⟨c1,c2,c3⟩:=agt hfr hco h3 h4
      have t0:∀ (A B:ab),ifB (!((0:Int)==0)) A B=B:=fun _ _=>rfl
      have hcnt:(zc.frames-nz z.fD i+zc.fB-1)/zc.fB=(CD zc (nz z.fD i):Int):=by rw [c3]; rfl
      simp only [au,hel,iR hb,ck,u_Count n hfr hco h3 h4,hcnt,t0]
      refine dY.bind (v_New (n:=n) (N:=CD zc (nz z.fD i)) (by omega) (by omega) (by omega) (b.g.le hro0)) ?_
      rintro _ _ h2 ⟨rfl,p,m,v,s,o,rfl,bn,mk⟩
      have g2:=bn.2.2
      have o2:=b.own.grow g2
      simp only [au,t0,iR o2.cl,Yi]
      refine aJ.bind (Co (fun k=>by rfl)) ?_
      rintro _ hh3 ⟨rfl,cc3,g3⟩
      have hro3:=(b.g.trans (g2.trans g3)).le hro0
      refine aJ.bind (SU hro3 (b.fE.grow (g2.trans g3)) (by omega) cc3 (by rw [pN]; rfl) (by omega)) ?_
      rintro vb h4' ⟨a4,vb4,c4⟩
      have o3:=b.own.grow (g2.trans g3)
      have o4:Own h4' w.p (zw z w.vm w.vb w.mu) 0:=c4.own o3 fun e1=>by
        rcases b.fE with ⟨e2,_,_⟩ | ⟨d,e2,od,_,_⟩
        · rw [e2] at e1; cases e1
        · rw [e2] at e1
          cases e1
          have:=b.own.get.symm.trans od.get
          simp at this
      simp only [au,Wm]
      refine dz.bind (wd o4 (by show 11<20; omega) (by rcases a4 with ⟨rfl,_⟩ | ⟨d,rfl,_⟩<;>rfl)) ?_
      intro h5 p5
      have b5:=b.more bn g3 a4 vb4 c4 p5
      rw [kP (show i≤9223372036854775806 by omega)]
      refine aR.mono (ih (i+1) h5 _ _ b5 rfl rfl rfl (fun j hj=>?_) (by omega) (by omega)) ?_
      · by_cases ej:j=i
        · subst ej
          refine ⟨o,?_⟩
          show dx _ _ o (upd z.fE j s j)
          rw [jY]; exact mk
        · obtain ⟨o',mk'⟩:=hmk j (by omega)
          refine ⟨o',?_⟩
          show dx _ _ o' (upd z.fE i s j)
          rw [jL _ _ ej]; exact mk'
      · rintro ⟨r,er,h'⟩ ⟨q1,q2,w',bs,q3,q4,q5⟩
        exact ⟨q1,q2,w',bs,q3,q4,q5⟩
    · simp at e
      have:i=l.length:=by omega
      subst this
      exact K6 ⟨rfl,rfl,w,z.fE,hP,b,hmk⟩
theorem WY {z:br} {ps:List dR}:∀ {l:List Int} {last:Option Int},Ej z ps last l=true→(∀ x∈l,0≤x∧x<z.fB)∧l.Pairwise (· < ·)∧(∀ y,last=some y→∀ x∈l,y<x)∧∀ q∈ps,∀ x∈l,x∉q.fC
  | [],_,_=>⟨fun x h=>(nomatch h),.nil,fun _ _ x h=>(nomatch h),fun _ _ x h=>(nomatch h)⟩
  | x::l,last,h=>by
    rw [JY] at h
    simp only [gl,gn,gW,Bool.not_eq_true',gt] at h
    obtain ⟨h1,h2,h3,h4,h5⟩:=h
    obtain ⟨i1,i2,i3,i4⟩:=WY h5
    refine ⟨fun y hy=>?_,fX.2 ⟨fun y hy=>i3 x rfl y hy,i2⟩,fun y hy w hw=>?_,fun q hq y hy=>?_⟩
    · rcases gG.1 hy with e | e
      · subst e; exact ⟨h1,h2⟩
      · exact i1 y e
    · have hx:y<x:=by
        subst hy
        simpa [aaL] using h3
      rcases gG.1 hw with e | e
      · subst e; exact hx
      · have:=i3 x rfl w e; omega
    · rcases gG.1 hy with e | e
      · subst e; exact h4 q hq
      · exact i4 q hq y e
theorem afa:∀ {l:List Int} {a b:Int},l.Pairwise (· < ·)→(∀ x∈l,a≤x∧x<b)→(l.length:Int)≤max (b-a) 0
  | [],a,b,_,_=>by simp; omega
  | x::l,a,b,h,hx=>by
    obtain ⟨h1,h2⟩:=fX.1 h
    have h3:=hx x (gM ..)
    have:=afa (a:=x+1) (b:=b) h2 fun y hy=>⟨by have:=h1 y hy; omega,(hx y (f0 _ hy)).2⟩
    simp only [List.length_cons]
    omega
structure dq (z:br) (p:Nat):Prop where
  fr:jC z.frames 1 4096=true
  co:jC z.fB 1 16=true
  col:∀ x∈(jk z p).fC,0≤x∧x<z.fB
  up:(jk z p).fC.Pairwise (· < ·)
  other:∀ q,q<p→∀ x∈(jk z p).fC,x∉(jk z q).fC
  pos:0<(jk z p).fC.length
  few:(jk z p).fC.length≤16
  fK:ug z p=true
theorem amm {z:br} (h:NX z=true) {p:Nat} (hp:p<z.parts.length):dq z p:=by
  simp only [NX,gl] at h
  obtain ⟨h1,_,_,_,h5⟩:=h
  simp only [sL,gl] at h1
  obtain ⟨m1,m2,_,_,_,_,_,m8⟩:=h1
  have hco:jC z.fB 1 16=true:=by simp only [aa4,gl] at m1; exact m1.1
  have hlen:z.parts.length≤8:=by simp [jC] at m8; omega
  rw [gW] at h5
  have h6:=h5 p (gS.2 (by omega))
  simp only [gn] at h6
  unfold WT at h6
  split at h6
  · rename_i hc
    split at h6
    · rename_i hq
      simp only [ab1,gl,gn] at hc
      obtain ⟨f1,f2,_,f4⟩:=WY hc.1
      refine ⟨m2,hco,f1,f2,fun q hqp x hx=>?_,hc.2,?_,hq⟩
      · refine f4 (jk z q) ?_ x hx
        unfold jk
        rw [ab9 (by omega)]
        rw [List.mem_take_iff_getElem]
        exact ⟨q,by omega,rfl⟩
      · have:=afa (a:=0) (b:=16) f2 fun x hx=>by
          have:=f1 x hx
          simp [jC] at hco
          omega
        omega
    · cases h6
  · cases h6
def mh (x:dR):Nat→Int
  | 2=>x.user
  | 3=>x.tables
  | 4=>x.spaces
  | 5=>x.fJ
  | 6=>x.fI
  | _=>0
def HM (z:br) (p:Nat) (bs:Nat→cw):bf:=⟨z.fB,(jk z p).order,BD z p,(jk z p).fC,mh (jk z p),fun _=>0,[],bs⟩
theorem Own.back {h:Heap} {b:Nat} {l:List AV} {q r:Nat} (o:Own h b l q) (hr:r≤h.ro):Own (h.back r) b l q:=⟨o.lt,gu hr o.ro,o.get⟩
theorem Lst.back {h:Heap} {v:AV} {l:List Int} {r:Nat} (s:Lst h v l) (hr:r≤h.ro):Lst (h.back r) v l:=by
  rcases s with s | ⟨b,ext,rest,e,o,h1⟩
  · exact .inl s
  · exact .inr ⟨b,ext,rest,e,Own.back o hr,h1⟩
theorem eT.base {h0 h1 h:Heap} {w:bX} {z:bf} {L:Nat} (b:eT h1 h w z L) (g:bo h0 h1):eT h0 h w z L:=
  ⟨b.own,b.fD,b.fE,b.uses,b.each,b.disj,b.apart,b.two,fun c hc=>gu g.nx (b.low c hc),g.trans b.g⟩
theorem v_PNew {n:Nat} (hn5:5000<n) {zc:br} (hn:Fits n zc) {h:Heap} (hro:h.ro≤h.nx) {c:List AV} (hc:Cfg h zc c) (p:Int) :
    dY (cE n (.agg c) p h) fun r e h'=>bo h h'∧((e≠0∧e=LV zc p∧r = .nilptr)∨(e=0∧LV zc p=0∧∃ w bs,r = .ptr w.p 0∧eT h h' w (HM zc p.toNat bs) (jk zc p.toNat).fC.length∧
      ∀ j,j<(jk zc p.toNat).fC.length→∃ o,dx (CD zc (nz (jk zc p.toNat).fC j)) (CD zc (nz (jk zc p.toNat).fC j)) o (bs j))):=by
  unfold cE aaQ TM
  obtain ⟨t,pp,rfl,ht,hp⟩:=hc
  refine aJ.bind (AO ..) ?_
  rintro x h1 ⟨hb,g⟩
  simp only [au,iR hb,ck]
  refine dY.bind (v_Total hn (g.le hro) (Cfg.mk' (ht.grow g) (hp.grow g)) p) ?_
  rintro tot _ h2 ⟨rfl,htot,g2⟩
  have t2:=g.trans g2
  refine aR.ifB (fun e1=>K6 ⟨t2,.inl ⟨by simpa using e1,rfl,rfl⟩⟩) fun e1=>?_
  simp at e1
  have hm:NX zc=true∧0≤p∧p<zc.parts.length:=by
    unfold LV at e1
    split at e1
    · rename_i h1
      split at e1
      · rename_i h2; exact ⟨h1,h2⟩
      · cases e1
    · cases e1
  obtain ⟨pn,rfl⟩:=gE hm.2.1
  have hpn:pn<zc.parts.length:=by omega
  have po:=amm hm.1 hpn
  have htot:=htot e1
  rw [gy] at htot
  subst htot
  obtain ⟨hps,S,hpt,hS⟩:=hp
  have hb2:=g2.cl hb
  simp only [au,iR hb2,ck,dF.eld (hpt.grow t2) (show (0:Int)≤(pn:Int) by omega) (show (pn:Int)<_ by omega),gy]
  rw [show zc.parts.getD pn default=jk zc pn from rfl] at *
  refine aJ.bind (agX (n:=8) (t2.le hro) (by rfl) (by rfl)) ?_
  rintro y h3 ⟨hy,oy,g3⟩
  have t3:=t2.trans g3
  have hb3:=g3.cl hb2
  simp only [au,iR hb3,iR oy.cl,ck]
  have hne:(jk zc pn).fC≠[]:=by have:=po.pos; intro e; rw [e] at this; simp at this
  have hSp0:=(hS pn hpn).grow t3
  have hSp:dh (h3.shut true) .i64 (S pn) (jk zc pn).fC:=hSp0
  refine aJ.bind (v_Clone (n:=n) (h:=h3.shut true) (gp _) hSp hne (by have:=po.few; omega)) ?_
  rintro vm h4 ⟨lv,hvm,g4⟩
  have g4':=g4.shut
  have t4:=t3.trans g4'
  have lv':Lst (h4.back h3.ro) vm (jk zc pn).fC:=Lst.back lv (by rw [g4.ro]; exact t3.le hro)
  have oy4:=oy.grow g4'
  simp only [au,iR oy4.cl,ck,AJ]
  generalize hA:h4.back h3.ro=A at *
  have hroA:A.ro≤A.nx:=t4.le hro
  have gB:bo A (A.add (.mp [])):=bo.add
  have mB:ft (A.add (.mp [])) A.nx .u8 []:=⟨by simp,by simpa using hroA,by rw [Heap.fQ,if_pos rfl]; rfl⟩
  have lB:=lv'.grow gB
  have yB:=oy4.grow gB
  generalize hB:A.add (.mp [])=B at *
  have nB:=gB.nx
  obtain ⟨vb0,ve,rfl⟩:∃ b e,vm = .slice b 0 (jk zc pn).fC.length e true:=by
    rcases lv' with ⟨_,e⟩ | ⟨b,e,rest,rfl,_⟩
    · exact (hne e).elim
    · exact ⟨b,e,rfl⟩
  have hb20:∀ K,tw [.int .i64 0,.nilslice,.int .i64 0,.int .i64 0,.int .i64 0,.int .i64 0,.int .i64 0,.int .i64 0,.int .i64 0,.int .i64 0,.int .i64 0,.nilslice,.nilmap,.int .i64 0,.int .i64 0,.int .i64 0,.int .i64 0,.int .i64 0,.int .i64 0,.int .i64 0]
      [(0,1,.int .i64 zc.fB),(1,1,.slice vb0 0 (jk zc pn).fC.length ve true),(2,1,.int .i64 (jk zc pn).order),(10,1,.int .i64 (BD zc pn)),(12,1,.map A.nx)] K =
      K (.agg (zw { HM zc pn (fun _=>⟨0,fun _=>[],[]⟩) with fK:=fun _=>0 } (.slice vb0 0 (jk zc pn).fC.length ve true) .nilslice A.nx)):=fun K=>rfl
  simp only [au,hb20]
  have box:aJ (A5 B (.agg (zw { HM zc pn (fun _=>⟨0,fun _=>[],[]⟩) with fK:=fun _=>0 } (.slice vb0 0 (jk zc pn).fC.length ve true) .nilslice A.nx))) fun x h'=>
      Own h' x (zw { HM zc pn (fun _=>⟨0,fun _=>[],[]⟩) with fK:=fun _=>0 } (.slice vb0 0 (jk zc pn).fC.length ve true) .nilslice A.nx) 0∧B.nx≤x∧bo B h':=
    ⟨(B.nx,B.add (.cells _ true 0)),⟨⟨by simp,by simp; exact gB.le hroA,by rw [Heap.fQ,if_pos rfl]⟩,gp _,bo.add⟩,fun k=>abT ..⟩
  refine aJ.bind box ?_
  rintro P hC ⟨oC,hP,gC⟩
  simp only [au,iR (yB.grow gC).cl,ck]
  have hb7:∀ K,tw [.int .i64 0,.int .i64 0,.int .i64 0,.int .i64 0,.int .i64 0,.int .i64 0,.int .i64 0] [(2,1,.int .i64 (jk zc pn).user),(3,1,.int .i64 (jk zc pn).tables),(4,1,.int .i64 (jk zc pn).spaces),(5,1,.int .i64 (jk zc pn).fJ),(6,1,.int .i64 (jk zc pn).fI)] K =
      K (.agg [.int .i64 0,.int .i64 0,.int .i64 (jk zc pn).user,.int .i64 (jk zc pn).tables,.int .i64 (jk zc pn).spaces,.int .i64 (jk zc pn).fJ,.int .i64 (jk zc pn).fI]):=fun K=>rfl
  simp only [au,hb7,Wm]
  refine dz.bind (Yu (cs:=[.int .i64 0,.int .i64 0,.int .i64 (jk zc pn).user,.int .i64 (jk zc pn).tables,.int .i64 (jk zc pn).spaces,.int .i64 (jk zc pn).fJ,.int .i64 (jk zc pn).fI]) oC rfl (by show 3+7≤20; decide)) ?_
  intro hD pD
  have oD:Own hD P (zw (HM zc pn (fun _=>⟨0,fun _=>[],[]⟩)) (.slice vb0 0 (jk zc pn).fC.length ve true) .nilslice A.nx) 0:=pD.own
  simp only [au,iR oD.cl,aoe]
  have hvb:∀ c,(AV.slice vb0 0 (jk zc pn).fC.length ve true).blk=some c→h3.nx≤c:=hvm
  have t3:=g2.trans g3
  have t4:=t3.trans g4'
  have tB:=t4.trans gB
  have tC:=tB.trans gC
  have hPn:h1.nx≤P:=gu tB.nx hP
  have mk0:eT h1 hD ⟨P,.slice vb0 0 (jk zc pn).fC.length ve true,.nilslice,A.nx,fun _=>0,fun _=>0,fun _ _=>.nilslice⟩ (HM zc pn (fun _=>⟨0,fun _=>[],[]⟩)) 0:=by
    have lC:=lB.grow gC
    refine ⟨oD,?_,.nil,?_,fun i hi=>absurd hi (by omega),fun i j hi=>absurd hi (by omega),fun i hi=>absurd hi (by omega),fun c _ e=>(nomatch e),fun c hc=>?_,pD.grow tC hPn⟩
    · exact lC.chg pD.chg fun d e1 e2=>lC.ne oC e1 e2
    · exact (mB.chg (gC.chg fun _=>False) fun h=>h).chg pD.chg (by have:=mB.lt; omega)
    · rcases hc with e | e | e | e | ⟨i,hi,_⟩
      · subst e; exact hPn
      · subst e; exact t4.nx
      · have:=hvb c e; have:=t3.nx; omega
      · cases e
      · omega
  refine aR.mono (v_PNew_1 hn5 (P:=P) (vm:=.slice vb0 0 (jk zc pn).fC.length ve true) (l:=(jk zc pn).fC) (h0:=h1) (x:=x) (g.le hro) hb po.fr po.co _ _ (fun j hj=>by rw [nQ hj]; exact po.col _ (gL hj)) po.few n 0 hD _ _ mk0 rfl rfl rfl (fun j hj=>absurd hj (by omega)) (by omega) (by have:=po.few; omega)) ?_
  rintro ⟨r,er,h'⟩ ⟨q1,q2,w',bs,q3,q4,q5⟩
  dsimp only at q1 q2
  subst q1 q2
  exact ⟨g.trans q4.g,.inr ⟨rfl,e1,w',bs,by rw [q3],q4.base g,q5⟩⟩
end Go.Proofs.YtlgbmkemfinogaaGreat.Sh
/- What stays true of a pool, plainly. -/
namespace Go.Proofs.YtlgbmkemfinogaaGreat.Sh
open Go.Ai
def ol (s:cw) (x:Int):Nat→Nat
  | 0=>0
  | n+1=>ol s x n+ru n (s.free n) x
theorem TL (s:cw) (x:Int):mult s x=ol s x 7:=by simp [mult,ol]
def inB (a x:Int) (k:Nat):Nat:=if a≤x∧x<a+2^k then 1 else 0
theorem TQ (k:Nat) (a:Int) (l:List Int) (x:Int):ru k (a::l) x=ru k l x+inB a x k:=by
  unfold ru inB
  rw [List.countP_cons]
  congr 1
  by_cases h:a≤x∧x<a+2^k<;>simp [h]
theorem amP (a x:Int) (k:Nat):inB a x k+inB (a+2^k) x k=inB a x (k+1):=by
  have h:(2:Int)^(k+1)=2^k+2^k:=by rw [Int.pow_succ]; omega
  have hp:(0:Int)<2^k:=Int.pow_pos (by omega)
  unfold inB
  rw [h]
  by_cases h1:a≤x∧x<a+2^k
  · rw [if_pos h1,if_neg (by omega),if_pos (by omega)]
  · rw [if_neg h1]
    by_cases h2:a+2^k≤x∧x<a+2^k+2^k
    · rw [if_pos h2,if_pos (by omega)]
    · rw [if_neg h2,if_neg (by omega)]
theorem amj {s:cw} {o k:Nat} {a:Int} {rest:List Int} (hok:o≤k) (hx:s.free k=a::rest) (hemp:∀ j,o≤j→j<k→s.free j = []) (x:Int) :
    ∀ n,(n≤o→ol (uv s o k o a rest) x n=ol s x n)∧(o≤n→n≤k→ol (uv s o k o a rest) x n+inB a x o=ol s x n+inB a x n)∧(k<n→ol (uv s o k o a rest) x n+inB a x o=ol s x n):=by
  intro n
  induction n with
  | zero=>
    refine ⟨fun _=>rfl,fun h1 _=>?_,fun h=>by omega⟩
    have:o=0:=by omega
    subst this; rfl
  | succ n ih=>
    obtain ⟨i1,i2,i3⟩:=ih
    have fr:(uv s o k o a rest).free n=if n=k then rest else if o≤n∧n<k then [a+2^n] else s.free n:=rfl
    refine ⟨fun h=>?_,fun h1 h2=>?_,fun h=>?_⟩
    · rw [ol,ol,i1 (by omega),fr,if_neg (by omega),if_neg (by omega)]
    · by_cases h3:n+1=o
      · rw [← h3] at i1 ⊢
        rw [ol,ol,i1 (by omega)]
        subst h3
        rw [fr,if_neg (by omega),if_neg (by omega)]
      · have j:=i2 (by omega) (by omega)
        rw [ol,ol,fr,if_neg (by omega),if_pos (by omega),hemp n (by omega) (by omega),TQ, ← amP]
        have e1:ru n ([]:List Int) x=0:=rfl
        omega
    · by_cases h3:n=k
      · subst h3
        have j:=i2 (by omega) (by omega)
        rw [ol,ol,fr,if_pos rfl,hx,TQ]
        omega
      · have j:=i3 (by omega)
        rw [ol,ol,fr,if_neg h3,if_neg (by omega)]
        omega
theorem ad6 {s:cw} {o k:Nat} {a:Int} {rest:List Int} (hok:o≤k) (hk:k<7) (hx:s.free k=a::rest) (hemp:∀ j,o≤j→j<k→s.free j = []) (x:Int):mult (uv s o k o a rest) x+inB a x o=mult s x:=by
  rw [TL,TL]
  exact (amj hok hx hemp x 7).2.2 hk
theorem aaA {s:cw} {k:Nat} {a x:Int} (ha:a∈s.free k) (h1:a≤x) (h2:x<a+2^k):∀ n,k<n→1≤ol s x n
  | 0,h=>by omega
  | n+1,h=>by
    rw [ol]
    by_cases e:k=n
    · subst e
      have:0<ru k (s.free k) x:=gN.2 ⟨a,ha,by simp [h1,h2]⟩
      omega
    · have:=aaA ha h1 h2 n (by omega)
      omega
theorem Sl {s:cw} {k:Nat} (hk:k<7) {a x:Int} (ha:a∈s.free k) (h1:a≤x) (h2:x<a+2^k):1≤mult s x:=by rw [TL]; exact aaA ha h1 h2 7 hk
theorem aa9 {co c c' x y:Int} (h1:0≤c) (h2:c<co) (h3:0≤c') (h4:c'<co) (h:y*co+c=x*co+c'):y=x∧c=c':=by
  have:y=x:=by
    rcases Int.lt_trichotomy y x with h5 | h5 | h5
    · have:=Int.mul_le_mul_of_nonneg_right (show y+1≤x by omega) (show 0≤co by omega)
      rw [Int.add_mul] at this
      omega
    · exact h5
    · have:=Int.mul_le_mul_of_nonneg_right (show x+1≤y by omega) (show 0≤co by omega)
      rw [Int.add_mul] at this
      omega
  subst this
  exact ⟨rfl,by omega⟩
theorem acA {co c c' a x:Int} (h1:0≤c) (h2:c<co) (h3:0≤c') (h4:c'<co):∀ N:Nat,(mF co c a N).count (x*co+c')=if c'=c∧a≤x∧x<a+(N:Int) then 1 else 0
  | 0=>by
    rw [if_neg (by omega)]; rfl
  | N+1=>by
    have s1:List.count (x*co+c') [(a+(N:Int))*co+c]=if (a+(N:Int))*co+c=x*co+c' then 1 else 0:=by
      rw [List.count_singleton]
      by_cases e:(a+(N:Int))*co+c=x*co+c'<;>simp [e]
    rw [ach,List.count_append,acA h1 h2 h3 h4 N,s1]
    by_cases e:(a+(N:Int))*co+c=x*co+c'
    · obtain ⟨e1,e2⟩:=aa9 h1 h2 h3 h4 e
      rw [if_pos e,if_neg (show ¬ (c'=c∧a≤x∧x<a+(N:Int)) by omega),if_pos (show c'=c∧a≤x∧x<a+((N+1:Nat):Int) by omega)]
    · have hne:¬ (c'=c∧a+(N:Int)=x):=fun ⟨u,v⟩=>e (by rw [u,v])
      rw [if_neg e]
      by_cases h:c'=c∧a≤x∧x<a+(N:Int)
      · rw [if_pos h,if_pos (show c'=c∧a≤x∧x<a+((N+1:Nat):Int) by omega)]
      · rw [if_neg h,if_neg (show ¬ (c'=c∧a≤x∧x<a+((N+1:Nat):Int)) by omega)]
structure Inv (zc:br) (p:Nat) (T:List Int) (z:bf):Prop where
  fD:z.fD=(jk zc p).fC
  co:z.fB=zc.fB
  law:∀ i,i<z.fD.length→∀ x:Int,T.count (x*zc.fB+nz z.fD i)+mult (z.fE i) x=if 0≤x∧x<(CD zc (nz z.fD i):Int) then 1 else 0
  form:∀ f∈T,∃ i,i<z.fD.length∧∃ x:Int,f=x*zc.fB+nz z.fD i
  cnt:∀ k,0≤z.fF k∧z.fF k≤(T.length:Int)
theorem dq.nz {zc:br} {p:Nat} (po:dq zc p) {i:Nat} (hi:i<(jk zc p).fC.length):0≤nz (jk zc p).fC i∧nz (jk zc p).fC i<zc.fB:=by rw [nQ hi]; exact po.col _ (gL hi)
theorem ahy {z:br} (h1:jC z.frames 1 4096=true) (h2:jC z.fB 1 16=true) {c:Int} (h3:0≤c) (h4:c<z.fB) {x:Int} (hx:x<(CD z c:Int)):x*z.fB+c≤z.frames-1:=by
  obtain ⟨b1,b2,b3⟩:=agt h1 h2 h3 h4
  simp [jC] at h2
  rw [b3] at hx
  have h5:cntI z c*z.fB≤z.frames-c+z.fB-1:=by
    have:=Int.mul_ediv_self_le (x:=z.frames-c+z.fB-1) (k:=z.fB) (by omega)
    rw [Int.mul_comm] at this
    exact this
  have h6:=Int.mul_le_mul_of_nonneg_right (show x+1≤cntI z c by omega) (show 0≤z.fB by omega)
  rw [Int.add_mul] at h6
  omega
theorem Inv.ok {zc:br} {p:Nat} {T:List Int} {z:bf} (v:Inv zc p T z) (po:dq zc p) (hT:T.length≤900000000):eZ z:=by
  have hm:=v.fD
  refine ⟨by rw [v.co]; exact po.co,by rw [hm]; exact po.pos,by rw [hm]; exact po.few,fun i hi=>?_,fun i hi k hk a ha=>?_,fun k=>?_⟩
  · rw [v.co,hm]; exact po.nz (by rw [hm] at hi; exact hi)
  · have hi':i<(jk zc p).fC.length:=by rw [hm] at hi; exact hi
    obtain ⟨n1,n2⟩:=po.nz hi'
    rw [← hm] at n1 n2
    obtain ⟨p1,p2,p3⟩:=Yz hk
    have l1:=v.law i hi a
    have l2:=v.law i hi (a+2^k-1)
    have m1:=Sl hk ha (gJ a) (by omega)
    have m2:=Sl hk ha (show a≤a+2^k-1 by omega) (by omega)
    have c1:0≤a∧a<(CD zc (Go.Ai.nz z.fD i):Int):=by
      by_cases h:0≤a∧a<(CD zc (Go.Ai.nz z.fD i):Int)
      · exact h
      · rw [if_neg h] at l1; omega
    have c2:0≤a+2^k-1∧a+2^k-1<(CD zc (Go.Ai.nz z.fD i):Int):=by
      by_cases h:0≤a+2^k-1∧a+2^k-1<(CD zc (Go.Ai.nz z.fD i):Int)
      · exact h
      · rw [if_neg h] at l2; omega
    have r:=ahy po.fr po.co n1 n2 c2.2
    have hf:=po.fr
    simp [jC] at hf
    rw [v.co]
    exact ⟨c1.1,by omega⟩
  · have:=v.cnt k; omega
theorem Inv.new {zc:br} {p:Nat} {bs:Nat→cw} (h:∀ j,j<(jk zc p).fC.length→∃ o,dx (CD zc (Go.Ai.nz (jk zc p).fC j)) (CD zc (Go.Ai.nz (jk zc p).fC j)) o (bs j)):Inv zc p [] (HM zc p bs):=by
  refine ⟨rfl,rfl,fun i hi x=>?_,fun f hf=>(nomatch hf),fun k=>⟨gJ 0,by simp [HM]⟩⟩
  obtain ⟨o,mk⟩:=h i hi
  have:=mk.hm x
  show List.count _ []+mult (bs i) x=_
  rw [this,List.count_nil,Nat.zero_add]
  rfl
theorem Inv.step {zc:br} {p:Nat} {T:List Int} {z:bf} (v:Inv zc p T z) (po:dq zc p) {i o u k:Nat} {a:Int} {rest:List Int} (hi:i<z.fD.length) (ho:o<7) (hok:o≤k) (hk:k<7) (hx:(z.fE i).free k=a::rest)
    (hemp:∀ j,o≤j→j<k→(z.fE i).free j = []):Inv zc p (T++mF z.fB (Go.Ai.nz z.fD i) a (2^o)) (d9 z i o u k a rest):=by
  have hm:=v.fD
  have hi':i<(jk zc p).fC.length:=by rw [hm] at hi; exact hi
  obtain ⟨n1,n2⟩:=po.nz hi'
  rw [← hm] at n1 n2
  obtain ⟨p0,p1,p2⟩:=Wx ho
  refine ⟨hm,v.co,fun j hj x=>?_,fun f hf=>?_,fun q=>?_⟩
  · have hj0:j<z.fD.length:=hj
    have hj':j<(jk zc p).fC.length:=by rw [hm] at hj0; exact hj0
    obtain ⟨j1,j2⟩:=po.nz hj'
    rw [← hm] at j1 j2
    have hl:=v.law j hj0 x
    show List.count (x*zc.fB+Go.Ai.nz z.fD j) (T++mF z.fB (Go.Ai.nz z.fD i) a (2^o))+mult (upd z.fE i { uv (z.fE i) o k o a rest with fG:=LJ a o (z.fE i).fG } j) x=_
    rw [List.count_append,v.co,acA n1 n2 j1 j2]
    show _=if 0≤x∧x<(CD zc (Go.Ai.nz z.fD j):Int) then 1 else 0
    rw [← hl]
    by_cases e:j=i
    · subst e
      rw [jY]
      have ht:=ad6 hok hk hx hemp x
      have e1:mult { uv (z.fE j) o k o a rest with fG:=LJ a o (z.fE j).fG } x=mult (uv (z.fE j) o k o a rest) x:=rfl
      rw [e1, ← ht]
      unfold inB
      rw [← p0]
      by_cases h:a≤x∧x<a+((2^o:Nat):Int)
      · rw [if_pos h,if_pos ⟨rfl,h⟩]; omega
      · rw [if_neg h,if_neg (fun h'=>h h'.2)]; omega
    · rw [jL _ _ e]
      have hne:Go.Ai.nz z.fD j≠Go.Ai.nz z.fD i:=by
        rw [hm,nQ hj',nQ hi']
        rcases ge j i with h | h
        · have:=List.pairwise_iff_getElem.1 po.up j i hj' hi' h; omega
        · have:=List.pairwise_iff_getElem.1 po.up i j hi' hj' (by omega); omega
      rw [if_neg (fun h=>hne h.1)]
      omega
  · rcases gT.1 hf with h | h
    · exact v.form f h
    · simp only [mF,fY] at h
      obtain ⟨y,_,rfl⟩:=h
      exact ⟨i,hi,a+(y:Int),by rw [v.co]; rfl⟩
  · show 0≤upd z.fF u (z.fF u+((2^o:Nat):Int)) q∧upd z.fF u (z.fF u+((2^o:Nat):Int)) q≤((T++mF z.fB (Go.Ai.nz z.fD i) a (2^o)).length:Int)
    have hc:=v.cnt q
    have hu:=v.cnt u
    rw [gQ,uT]
    by_cases e:q=u
    · subst e; rw [jY]; omega
    · rw [jL _ _ e]; omega
theorem afh:∀ {l:List Int},(∀ f,l.count f≤1)→l.Nodup
  | [],_=>.nil
  | x::l,h=>by
    refine List.nodup_cons.2 ⟨fun hx=>?_,afh fun f=>?_⟩
    · have h1:=h x
      rw [List.count_cons_self] at h1
      have:=List.count_pos_iff.2 hx
      omega
    · have h1:=h f
      rw [List.count_cons] at h1
      omega
theorem Inv.nodup {zc:br} {p:Nat} {T:List Int} {z:bf} (v:Inv zc p T z):T.Nodup:=by
  refine afh fun f=>?_
  by_cases hf:f∈T
  · obtain ⟨i,hi,x,rfl⟩:=v.form f hf
    have:=v.law i hi x
    split at this<;>omega
  · rw [List.count_eq_zero.2 hf]; omega
theorem Inv.own {zc:br} {p:Nat} {T:List Int} {z:bf} (v:Inv zc p T z) (po:dq zc p) {f:Int} (hf:f∈T):0≤f∧f<4096∧f%zc.fB∈(jk zc p).fC:=by
  obtain ⟨i,hi,x,rfl⟩:=v.form f hf
  have hm:=v.fD
  have hi':i<(jk zc p).fC.length:=by rw [hm] at hi; exact hi
  obtain ⟨n1,n2⟩:=po.nz hi'
  rw [← hm] at n1 n2
  have hl:=v.law i hi x
  have hc:0<List.count (x*zc.fB+Go.Ai.nz z.fD i) T:=List.count_pos_iff.2 hf
  have hx:0≤x∧x<(CD zc (Go.Ai.nz z.fD i):Int):=by
    by_cases h:0≤x∧x<(CD zc (Go.Ai.nz z.fD i):Int)
    · exact h
    · rw [if_neg h] at hl; omega
  have r:=ahy po.fr po.co n1 n2 hx.2
  have hfr:=po.fr
  simp [jC] at hfr
  have hpos:0≤x*zc.fB:=Int.mul_nonneg hx.1 (by omega)
  refine ⟨by omega,by omega,?_⟩
  rw [Int.add_comm,Int.add_mul_emod_self_right,Int.emod_eq_of_lt n1 n2]
  rw [hm,nQ hi']
  exact gL hi'
end Go.Proofs.YtlgbmkemfinogaaGreat.Sh
/- What is taken, with its uses: what a pool keeps of it; how much is free. -/
namespace Go.Proofs.YtlgbmkemfinogaaGreat.Sh
open Go.Ai
theorem aaF {s s':cw} (h:s.free=s'.free):∀ n,lR s n=lR s' n
  | 0=>rfl
  | n+1=>by rw [lR,lR,aaF h n,h]
theorem an5 {s:cw} {o k:Nat} {a:Int} {rest:List Int} (hok:o≤k) (hx:s.free k=a::rest) (hemp:∀ j,o≤j→j<k→s.free j = []) :
    ∀ n,(n≤o→lR (uv s o k o a rest) n=lR s n)∧(o≤n→n≤k→lR (uv s o k o a rest) n+2^o=lR s n+2^n)∧(k<n→lR (uv s o k o a rest) n+2^o=lR s n):=by
  intro n
  induction n with
  | zero=>
    refine ⟨fun _=>rfl,fun h1 _=>?_,fun h=>by omega⟩
    have:o=0:=by omega
    subst this; rfl
  | succ n ih=>
    obtain ⟨i1,i2,i3⟩:=ih
    have fr:(uv s o k o a rest).free n=if n=k then rest else if o≤n∧n<k then [a+2^n] else s.free n:=rfl
    refine ⟨fun h=>?_,fun h1 h2=>?_,fun h=>?_⟩
    · rw [lR,lR,i1 (by omega),fr,if_neg (by omega),if_neg (by omega)]
    · by_cases h3:n+1=o
      · rw [← h3] at i1 ⊢
        rw [lR,lR,i1 (by omega)]
        subst h3
        rw [fr,if_neg (by omega),if_neg (by omega)]
      · have j:=i2 (by omega) (by omega)
        rw [lR,lR,fr,if_neg (by omega),if_pos (by omega),hemp n (by omega) (by omega),List.length_singleton,List.length_nil,Nat.pow_succ]
        omega
    · by_cases h3:n=k
      · subst h3
        have j:=i2 (by omega) (by omega)
        rw [lR,lR,fr,if_pos rfl,hx,List.length_cons,Nat.add_mul]
        omega
      · have j:=i3 (by omega)
        rw [lR,lR,fr,if_neg h3,if_neg (by omega)]
        omega
theorem ae9 {z:bf} {i o u k:Nat} {a:Int} {rest:List Int} (hok:o≤k) (hk:k<7) (hx:(z.fE i).free k=a::rest) (hemp:∀ j,o≤j→j<k→(z.fE i).free j = []) :
    fL (d9 z i o u k a rest) i+2^o=fL z i∧∀ j,j≠i→fL (d9 z i o u k a rest) j=fL z j:=by
  constructor
  · show lR (upd z.fE i _ i) 7+2^o=_
    rw [jY]
    refine Eq.trans (congrArg (fun x=>x+2^o) (aaF (s':=uv (z.fE i) o k o a rest) rfl 7)) ?_
    exact (an5 hok hx hemp 7).2.2 hk
  · intro j hj
    show lR (upd z.fE i _ j) 7=_
    rw [jL _ _ hj]
def Kt (f:Nat→Nat):Nat→Nat
  | 0=>0
  | n+1=>Kt f n+f n
theorem agF {f f':Nat→Nat} {i d:Nat} (h1:f' i+d=f i) (h2:∀ j,j≠i→f' j=f j):∀ n,(n≤i→Kt f' n=Kt f n)∧(i<n→Kt f' n+d=Kt f n)
  | 0=>⟨fun _=>rfl,fun h=>by omega⟩
  | n+1=>by
    obtain ⟨a,b⟩:=agF h1 h2 n
    refine ⟨fun h=>by rw [Kt,Kt,a (by omega),h2 n (by omega)],fun h=>?_⟩
    by_cases e:n=i
    · subst e; rw [Kt,Kt,a (gp _)]; omega
    · have:=b (by omega); rw [Kt,Kt,h2 n e]; omega
theorem amh {f:Nat→Nat}:∀ n,0<Kt f n→∃ j,j<n∧0<f j
  | 0,h=>by simp [Kt] at h
  | n+1,h=>by
    rw [Kt] at h
    by_cases e:0<f n
    · exact ⟨n,by omega,e⟩
    · obtain ⟨j,h1,h2⟩:=amh (f:=f) n (by omega)
      exact ⟨j,by omega,h2⟩
theorem aho {f:Nat→Nat} {b:Nat}:∀ n,(∀ j,j<n→f j=b)→Kt f n=n*b
  | 0,_=>by simp [Kt]
  | n+1,h=>by rw [Kt,aho n fun j hj=>h j (by omega),h n (by omega),Nat.add_mul]; omega
def ob (L:List (Int × Int)) (u:Int):Nat:=L.countP fun e=>decide (e.2=u)
theorem BI (L M:List (Int × Int)) (u:Int):ob (L++M) u=ob L u+ob M u:=by simp [ob]
theorem anc (l:List Int) (v u:Int):ob (l.map fun f=>(f,v)) u=if v=u then l.length else 0:=by
  induction l with
  | nil=>simp [ob]
  | cons a t ih=>
    have:ob ((a::t).map fun f=>(f,v)) u=ob (t.map fun f=>(f,v)) u+(if v=u then 1 else 0):=by simp [ob,List.countP_cons]
    rw [this,ih]
    by_cases e:v=u<;>simp [e]
theorem ame:∀ (L:List (Int × Int)),(∀ e∈L,1≤e.2∧e.2≤6)→ob L 1+ob L 2+ob L 3+ob L 4+ob L 5+ob L 6=L.length
  | [],_=>rfl
  | e::t,h=>by
    have ih:=ame t fun x hx=>h x (f0 _ hx)
    have he:=h e (gM ..)
    have c:∀ u,ob (e::t) u=ob t u+if e.2=u then 1 else 0:=fun u=>by simp [ob,List.countP_cons]
    rw [c,c,c,c,c,c,List.length_cons, ← ih]
    have:e.2=1∨e.2=2∨e.2=3∨e.2=4∨e.2=5∨e.2=6:=by omega
    rcases this with h | h | h | h | h | h<;>simp [h]<;>omega
theorem ahh {k x:Int}:∀ {kv:List (Int × Int)},k∉kv.map (·.1)→LJ k x kv=kv++[(k,x)]
  | [],_=>rfl
  | e::t,h=>by
    rw [List.map_cons,gG,not_or] at h
    rw [LJ,if_neg h.1,ahh h.2]; rfl
theorem ajt {u:Int}:∀ {l:List Int} {kv:List (Int × Int)},(kv.map (·.1)++l).Nodup→ajw u l kv=kv++l.map fun f=>(f,u)
  | [],kv,_=>by simp [ajw]
  | f::l,kv,h=>by
    have h1:f∉kv.map (·.1):=fun hm=>by
      have:=(gP.1 h).2.2 f hm f (gM ..)
      exact this rfl
    show ajw u l (LJ f u kv)=_
    rw [ahh h1,ajt (by simpa using h)]
    simp
structure InvQ (zc:br) (p:Nat) (L:List (Int × Int)) (z:bf):Prop where
  inv:Inv zc p (L.map (·.1)) z
  uses:z.uses=L
  cnt:∀ u:Nat,u<7→z.fF u=(ob L u:Int)
  rng:∀ e∈L,1≤e.2∧e.2≤6
  sum:(Kt (fL z) z.fD.length:Int)+L.length=BD zc p
  fK:z.fK=mh (jk zc p)
  total:z.total=BD zc p
  order:z.order=(jk zc p).order
theorem ajH {zc:br} {p:Nat} (hm:NX zc=true) (po:dq zc p) {bs:Nat→cw} (h:∀ j,j<(jk zc p).fC.length→∃ o,dx (CD zc (nz (jk zc p).fC j)) (CD zc (nz (jk zc p).fC j)) o (bs j)) :
    ∀ j,j<(jk zc p).fC.length→fL (HM zc p bs) j=(zc.frames/zc.fB).toNat:=by
  intro j hj
  obtain ⟨o,mk⟩:=h j hj
  have h2:fL (HM zc p bs) j=CD zc (nz (jk zc p).fC j):=mk.sum
  rw [h2]
  unfold CD cntI
  obtain ⟨n1,n2⟩:=po.nz hj
  simp only [NX,gl] at hm
  have hm:=hm.1
  simp only [sL,gl] at hm
  obtain ⟨_,hf,hd,_⟩:=hm
  have hco:=po.co
  simp [jC] at hco hf
  simp at hd
  rw [Int.tmod_eq_emod_of_nonneg (by omega)] at hd
  congr 1
  obtain ⟨k,hk⟩:=Int.dvd_of_emod_eq_zero hd
  generalize hx:nz (jk zc p).fC j=x at *
  rw [hk,Int.mul_ediv_cancel_left _ (by omega)]
  rw [show zc.fB*k-x+zc.fB-1=(zc.fB-1-x)+zc.fB*k by omega,Int.add_mul_ediv_left _ _ (by omega),Int.ediv_eq_zero_of_lt (by omega) (by omega)]
  omega
theorem alh {zc:br} (h1:jC zc.frames 1 4096=true) (h2:jC zc.fB 1 16=true):ahu zc=zc.frames/zc.fB∧0≤zc.frames/zc.fB∧zc.frames/zc.fB≤4096:=by
  simp [jC] at h1 h2
  have h3:0≤zc.frames/zc.fB:=Int.ediv_nonneg (by omega) (by omega)
  have h4:zc.frames/zc.fB≤zc.frames:=Int.ediv_le_self _ (by omega)
  refine ⟨?_,h3,by omega⟩
  unfold ahu
  rw [Int.tdiv_eq_ediv_of_nonneg (by omega),mP (by omega) (by omega)]
theorem acC {zc:br} {p:Nat} (po:dq zc p):BD zc p=(jk zc p).fC.length*(zc.frames/zc.fB)∧0≤BD zc p∧BD zc p≤65536:=by
  obtain ⟨e1,e2,e3⟩:=alh po.fr po.co
  have hl:=po.few
  have h4:((jk zc p).fC.length:Int)*(zc.frames/zc.fB)≤16*4096:=Int.mul_le_mul (by omega) e3 e2 (by omega)
  have h5:0≤((jk zc p).fC.length:Int)*(zc.frames/zc.fB):=Int.mul_nonneg (by omega) e2
  unfold BD
  rw [e1,mP (by omega) (by omega)]
  exact ⟨rfl,h5,by omega⟩
theorem InvQ.new {zc:br} {p:Nat} (hm:NX zc=true) (po:dq zc p) {bs:Nat→cw} (h:∀ j,j<(jk zc p).fC.length→∃ o,dx (CD zc (nz (jk zc p).fC j)) (CD zc (nz (jk zc p).fC j)) o (bs j)):InvQ zc p [] (HM zc p bs):=by
  refine ⟨Inv.new h,rfl,fun u _=>rfl,fun e he=>(nomatch he),?_,rfl,rfl,rfl⟩
  obtain ⟨t1,t2,_⟩:=acC po
  obtain ⟨_,e2,_⟩:=alh po.fr po.co
  have:Kt (fL (HM zc p bs)) (HM zc p bs).fD.length=(jk zc p).fC.length*(zc.frames/zc.fB).toNat:=aho _ (ajH hm po h)
  rw [this,t1]
  simp
  rw [Int.max_eq_left e2]
theorem InvQ.step {zc:br} {p:Nat} {L:List (Int × Int)} {z:bf} (v:InvQ zc p L z) (po:dq zc p) {i o u k:Nat} {a:Int} {rest:List Int} (hu:1≤u∧u≤6) (hi:i<z.fD.length) (ho:o<7) (hok:o≤k) (hk:k<7) (hx:(z.fE i).free k=a::rest)
    (hemp:∀ j,o≤j→j<k→(z.fE i).free j = []):InvQ zc p (L++(mF z.fB (nz z.fD i) a (2^o)).map fun f=>(f,(u:Int))) (d9 z i o u k a rest):=by
  have hs:=v.inv.step po (u:=u) hi ho hok hk hx hemp
  have hL:(L++(mF z.fB (nz z.fD i) a (2^o)).map fun f=>(f,(u:Int))).map (·.1)=L.map (·.1)++mF z.fB (nz z.fD i) a (2^o):=by simp [Function.comp_def]
  obtain ⟨f1,f2⟩:=ae9 (u:=u) hok hk hx hemp
  refine ⟨by rw [hL]; exact hs,?_,fun w hw=>?_,fun e he=>?_,?_,v.fK,v.total,v.order⟩
  · show ajw u _ z.uses=_
    rw [v.uses]
    exact ajt hs.nodup
  · rw [BI,anc,uT]
    show upd z.fF u (z.fF u+((2^o:Nat):Int)) w=_
    by_cases e:w=u
    · subst e; rw [jY,v.cnt w hw,if_pos rfl]; simp
    · rw [jL _ _ e,v.cnt w hw,if_neg (fun h=>e (by omega))]; simp
  · rcases gT.1 he with he | he
    · exact v.rng e he
    · obtain ⟨f,_,rfl⟩:=fY.1 he
      dsimp only; omega
  · have h1:=(agF (d:=2^o) f1 f2 z.fD.length).2 hi
    have h2:=v.sum
    show (Kt (fL (d9 z i o u k a rest)) z.fD.length:Int)+_=_
    rw [gQ,gR,uT]
    generalize 2^o=D at *
    omega
end Go.Proofs.YtlgbmkemfinogaaGreat.Sh
