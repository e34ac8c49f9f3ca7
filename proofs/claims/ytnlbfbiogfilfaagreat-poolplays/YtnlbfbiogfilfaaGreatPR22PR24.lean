/- The document's pool: made. -/
import Derived.Test.YtnlbfbiogfilfaaGreatPR19PR21
import Derived.Test.YtnlbfbiogfilfaaGreatPR5PR8
import Derived.Test.YtnlbfbiogfilfaaGreatPQFnPR13
set_option linter.all false
namespace Go.Proofs.YtnlbfbiogfilfaaGreat.Sh
open Go.Ai
theorem r_appE {h:ad} (hro:h.ro≤h.nx) {b0 q:Nat} (o2:Own h b0 [] q) {v:AV} {l:List Int} (hv:dP h .i64 v l) (hne:l≠[]) (hm:l.length≤1048576) :
    aF (sI h 1 (.slice b0 0 0 0 false) v) fun v' h'=>App h' v' 1 l.length (dl l)∧v'.blk=some h.nx∧be h h':=by
  obtain ⟨b,off,ext,o,cl,rfl,hc2,hs⟩:=dP.slice hv hne
  have hpos:0<l.length:=iX.2 hne
  refine ⟨(.slice h.nx 0 l.length 0 true,h.add (.cells (dl l) true 1)),⟨.inr ⟨h.nx,rfl,⟨by simp,by simpa using hro,by rw [ad.gV,if_pos rfl]⟩,by rw [sX,Nat.mul_one],hpos⟩,rfl,be.add⟩,fun k=>?_⟩
  unfold sI
  have:FY h 1 (.slice b0 0 0 0 false) (.slice b off l.length ext o)=some (.slice h.nx 0 l.length 0 true,h.add (.cells (dl l) true 1)):=by
    have hsh:acX h 1 l.length (.slice b off l.length ext o)=some (dl l):=by
      show (Option.casesOn (yV h b) none fun l'=>sub l' off (l.length*1):Option (List AV))=_
      rw [age hc2,Nat.mul_one]; exact hs
    simp only [FY,aq6]
    rw [if_neg (by omega),if_neg (by omega),if_neg (by unfold UH; omega),ahz o2]
    dsimp only
    rw [show sub ([]:List AV) 0 (0*1)=some [] from rfl]
    dsimp only
    rw [hsh]
    dsimp only
    rw [if_neg (by simp),vJ,ad.gU,Nat.zero_add]
    rfl
  rw [this,Vv,EW,N6]; rfl
structure RMk (h0 h:ad) (w:RPP) (z:RZ) (L:Nat):Prop where
  own:Own h w.p (rpC w z) 0
  gI:App h w.vm 1 z.pt.gH.length (dl z.pt.gH)
  gJ:App h w.vl 1 L ((List.range L).map fun i=>.ptr (w.bp i) 0)
  use:Own h w.ub (auY z) 0
  each:∀ i,i<L→fe h (w.bp i) (w.bo i) (w.bt i) (z.rb i)
  disj:∀ i j,i<L→j<L→i≠j→∀ c,fpS w i c→¬ fpS w j c
  apart:∀ i,i<L→∀ c,fpS w i c→c≠w.p∧c≠w.ub∧w.vm.blk≠some c∧w.vl.blk≠some c
  pu:w.p≠w.ub
  two:∀ c,w.vm.blk=some c→w.vl.blk≠some c
  low:∀ c,fpQ w L c→h0.nx≤c
  g:be h0 h
theorem RMk.more {h0 h:ad} {w:RPP} {z:RZ} {L:Nat} (b:RMk h0 h w z L) {h2:ad} {p bo bt:Nat} {r:RB} (bi:fe h2 p bo bt r) (g2:be h h2) (hp:h.nx≤p∧h.nx≤bo∧h.nx≤bt) {h3 h4 h5:ad} (g3:be h2 h3) {vl:AV}
    (ha:App h4 vl 1 (L+1) (((List.range L).map fun i=>.ptr (w.bp i) 0)++[.ptr p 0])) (hb:vl.blk=some h3.nx) (c4:Chg (fun c=>w.vl.blk=some c) h3 h4) (p5:Put h4 w.p ((rpC w z).set 25 vl) 0 h5) :
    RMk h0 h5 { w with vl:=vl,bp:=upd w.bp L p,bo:=upd w.bo L bo,bt:=upd w.bt L bt } { z with rb:=upd z.rb L r } (L+1):=by
  have g23:=g2.trans g3
  have n23:=g23.nx
  have hf:∀ c,fpR p bo bt c→h.nx≤c∧c<h3.nx:=by
    intro c hc
    have:=bi.lt hc
    have:=g3.nx
    rcases hc with rfl | rfl | rfl<;>omega
  have fo:∀ j,j≠L→fpS { w with vl:=vl,bp:=upd w.bp L p,bo:=upd w.bo L bo,bt:=upd w.bt L bt } j=fpS w j:=by
    intro j hj
    unfold fpS
    dsimp only
    rw [kX _ _ hj,kX _ _ hj,kX _ _ hj]
  have fl:∀ c,fpS { w with vl:=vl,bp:=upd w.bp L p,bo:=upd w.bo L bo,bt:=upd w.bt L bt } L c→h.nx≤c∧c<h3.nx:=by
    intro c hc
    unfold fpS at hc
    dsimp only at hc
    rw [lm,lm,lm] at hc
    exact hf c hc
  have wp:=b.own.lt
  have wu:=b.use.lt
  refine ⟨p5.own,?_,?_,?_,fun i hi=>?_,fun i j hi hj hij c e1 e2=>?_,fun i hi c e=>?_,b.pu,fun c e1 e2=>?_,fun c hc=>?_,?_⟩
  · exact ((b.gI.grow g23).chg c4 fun d e1 e2=>b.two d e1 e2).chg p5.chg fun d e1 e2=>apj b.gI b.own e1 e2
  · rw [List.range_succ,i9]
    have:(List.range L).map (fun i=>AV.ptr (upd w.bp L p i) 0)=(List.range L).map fun i=>AV.ptr (w.bp i) 0:=by
      apply List.map_congr_left
      intro i hi
      rw [kX _ _ (by have:=i7.1 hi; omega)]
    show App h5 vl 1 (L+1) ((List.range L).map (fun i=>AV.ptr (upd w.bp L p i) 0)++[.ptr (upd w.bp L p L) 0])
    rw [this,lm]
    refine ha.chg p5.chg fun d e1 e2=>?_
    rw [hb] at e1
    cases e1
    have h1:h3.nx=w.p:=e2
    omega
  · exact p5.chg.own (c4.own (b.use.grow g23) fun e=>apj b.gJ b.use e rfl) fun e=>b.pu e.symm
  · by_cases e:i=L
    · subst e
      show fe h5 (upd w.bp i p i) (upd w.bo i bo i) (upd w.bt i bt i) (upd z.rb i r i)
      rw [lm,lm,lm,lm]
      refine ((bi.grow g3).chg c4 fun d e1 e2=>?_).chg p5.chg fun d e1 e2=>?_
      · have h1:=b.gJ.lt e2
        have h2:=hf d e1
        omega
      · have h2:=hf d e1
        have h3:d=w.p:=e2
        omega
    · show fe h5 (upd w.bp L p i) (upd w.bo L bo i) (upd w.bt L bt i) (upd z.rb L r i)
      rw [kX _ _ e,kX _ _ e,kX _ _ e,kX _ _ e]
      exact (((b.each i (by omega)).grow g23).chg c4 fun d e1 e2=>(b.apart i (by omega) d e1).2.2.2 e2).chg p5.chg fun d e1 e2=>(b.apart i (by omega) d e1).1 e2
  · by_cases ei:i=L
    · subst ei
      rw [fo j (fun e=>hij e.symm)] at e2
      have h1:=(b.each j (by omega)).lt e2
      have h2:=fl c e1
      omega
    · rw [fo i ei] at e1
      by_cases ej:j=L
      · subst ej
        have h1:=(b.each i (by omega)).lt e1
        have h2:=fl c e2
        omega
      · rw [fo j ej] at e2
        exact b.disj i j (by omega) (by omega) hij c e1 e2
  · by_cases ei:i=L
    · subst ei
      obtain ⟨h1,h2⟩:=fl c e
      refine ⟨fun e1=>?_,fun e1=>?_,fun e1=>?_,fun e1=>?_⟩
      · have e2:c=w.p:=e1
        omega
      · have e2:c=w.ub:=e1
        omega
      · have:=b.gI.lt e1; omega
      · have e2:vl.blk=some c:=e1
        rw [hb] at e2; cases e2; omega
    · rw [fo i ei] at e
      obtain ⟨h1,h2,h3,h4⟩:=b.apart i (by omega) c e
      refine ⟨h1,h2,h3,fun e1=>?_⟩
      have e2:vl.blk=some c:=e1
      rw [hb] at e2
      cases e2
      have:=(b.each i (by omega)).lt e
      omega
  · have e3:vl.blk=some c:=e2
    rw [hb] at e3
    cases e3
    have:=b.gI.lt e1
    omega
  · have hn:=b.g.nx
    rcases hc with e | e | e | e | ⟨i,hi,e⟩
    · exact b.low c (.inl e)
    · exact b.low c (.inr (.inl e))
    · exact b.low c (.inr (.inr (.inl e)))
    · have e2:vl.blk=some c:=e
      rw [hb] at e2; cases e2; omega
    · by_cases ei:i=L
      · subst ei
        have:=(fl c e).1
        omega
      · rw [fo i ei] at e
        exact b.low c (.inr (.inr (.inr (.inr ⟨i,by omega,e⟩))))
  · exact p5.grow (c4.grow (b.g.trans g23) fun c e=>b.low c (.inr (.inr (.inr (.inl e))))) (b.low _ (.inl rfl))
abbrev kRPN:=aor
def NewR (N:Nat) (r:RB):Prop:=r.n=N∧(∀ j,j<N→r.op j=true)∧∀ j,r.tk j=0
theorem aFZ {n:Nat} (hn:6000<n) {zc:bq} {t pp:AV} {x N:Nat} {h0:ad} (hro0:h0.ro≤h0.nx) (hb0:h0.cl x (Hx zc t pp)) (hco:zc.gG≠0) (hfr:0≤zc.frames) (hN:zc.frames/zc.gG=(N:Int)) (hN2:N≤4096) (f1) {P:Nat} {pt:eK} (hln:pt.gH.length≤16) {zr:Nat × (Nat→Int)} :
    ∀ (q i:Nat) (h:ad) (w:RPP) (z:RZ),RMk h0 h w z i→w.p=P→z.pt=pt→z.zc=zc→(z.nu,z.use)=zr→z.img=false→(∀ j,j<i→NewR N (z.rb j))→i≤pt.gH.length→pt.gH.length-i<q→
    dM (fun k:kRPN=>z6 n f1 (dH n) k q (.ptr x 0) (.ptr P 0) (i:Int) h) fun r e h'=>r = .ptr P 0∧e=0∧∃ w' z',w'.p=P∧RMk h0 h' w' z' pt.gH.length∧z'.pt=pt∧z'.zc=zc∧(z'.nu,z'.use)=zr∧z'.img=false∧∀ j,j<pt.gH.length→NewR N (z'.rb j):=by
  intro q
  induction q with
  | zero=>omega
  | succ q ih=>
    intro i h w z b hP hpt hzc hzr himg hmk hi hq
    simp only [alB]
    unfold zR Ei
    subst hP hpt
    simp only [au,jC b.own.cl,rp_17,b.gI.len]
    refine aL.ifB (fun e=>?_) fun e=>?_
    · rw [iz] at e
      have hb:=b.g.cl hb0
      have hdiv:zc.frames.tdiv zc.gG=(N:Int):=by rw [Int.tdiv_eq_ediv_of_nonneg hfr,hN]
      have w1:IntKind.i64.wrap (N:Int)=(N:Int):=rK (by omega) (by omega)
      have t0:∀ (A B:ah),ifB (!((0:Int)==0)) A B=B:=fun _ _=>rfl
      simp only [au,jC hb,bg,ah7 hco,hdiv,w1]
      refine dM.bind (v_rBNew (n:=n) (by omega) (b.g.le hro0) hN2) ?_
      rintro _ _ h2 ⟨rfl,g2,p,bo,bt,r,rfl,bn,n1,n2,n3,l1,l2,l3⟩
      have o2:=b.own.grow g2
      simp only [au,t0,jC o2.cl,awD]
      refine aF.bind (Dv (fun k=>by rfl)) ?_
      rintro _ hh3 ⟨rfl,cc3,g3⟩
      have hro3:=(b.g.trans (g2.trans g3)).le hro0
      refine aF.bind (afw hro3 (b.gJ.grow (g2.trans g3)) (by omega) cc3 (by rw [zj]; rfl) (by omega)) ?_
      rintro vb h4' ⟨a4,vb4,c4⟩
      have o4:Own h4' w.p (rpC w z) 0:=c4.own (b.own.grow (g2.trans g3)) fun e1=>apj b.gJ b.own e1 rfl
      simp only [au,aut]
      refine ed.bind (uI o4 (by show 25<29; omega) (by rcases a4 with ⟨rfl,_⟩ | ⟨d,rfl,_⟩<;>rfl)) ?_
      intro h5 p5
      have b5:=b.more bn g2 ⟨l1,l2,l3⟩ g3 a4 vb4 c4 p5
      rw [mt (show i≤9223372036854775806 by omega)]
      refine ih (i+1) h5 _ _ b5 rfl rfl hzc hzr himg (fun j hj=>?_) (by omega) (by omega)
      show NewR N (upd z.rb i r j)
      by_cases ej:j=i
      · subst ej; rw [lm]; exact ⟨n1,n2,n3⟩
      · rw [kX _ _ ej]; exact hmk j (by omega)
    · rw [iD] at e
      have:i=z.pt.gH.length:=by omega
      subst this
      exact KS ⟨rfl,rfl,w,z,rfl,b,rfl,hzc,hzr,himg,hmk⟩
end Go.Proofs.YtnlbfbiogfilfaaGreat.Sh
/- The document's pool: made of a configuration. -/
namespace Go.Proofs.YtnlbfbiogfilfaaGreat.Sh
open Go.Ai
theorem fst_ptr' (d:Nat) (h:ad) (b o n:Nat) (u:AV) (k:AV→ad→ah):Ai.fst d h (.ptr b o) n u k=qT h (.ptr b (o+d)) n u fun H=>k (.ptr b (o+d)) H:=by
  unfold Go.Ai.fst
  rw [atu]
structure RNew (zc:bq) (p:Nat) (h h':ad) (w:RPP) (z:RZ):Prop where
  inn:dY h' w z
  low:∀ d,fpQ w z.pt.gH.length d→h.nx≤d
  pt:z.pt=lI zc p
  cz:z.zc=zc
  nu:(z.nu:Int)=zc.frames
  use:∀ f,z.use f=0
  img:z.img=false
  rb:∀ i,i<z.pt.gH.length→NewR (zc.frames/zc.gG).toNat (z.rb i)
theorem v_rPNew {n:Nat} (hn:6000<n) {zc:bq} (hfit:fT n zc) {h:ad} (hro:h.ro≤h.nx) {c:List AV} (hc:Cfg h zc c) (p:Int) :
    dM (bF n (.agg c) p h) fun r e h'=>be h h'∧((e≠0∧e=HS zc p∧r = .nilptr)∨(e=0∧HS zc p=0∧∃ w z,r = .ptr w.p 0∧RNew zc p.toNat h h' w z)):=by
  unfold bF PW Hk
  obtain ⟨t,pp,rfl,ht,hp⟩:=hc
  refine aF.bind (wh ..) ?_
  rintro x h1 ⟨hb,g⟩
  simp only [au,jC hb,bg]
  refine dM.bind (v_rTotal hfit (by omega) (g.le hro) (Cfg.mk' (ht.grow g) (hp.grow g)) p) ?_
  rintro tot _ h2 ⟨rfl,g2⟩
  have t2:=g.trans g2
  refine aL.ifB (fun e1=>KS ⟨t2,.inl ⟨by simpa using e1,rfl,rfl⟩⟩) fun e1=>?_
  simp at e1
  have hm:PO zc=true∧0≤p∧p<zc.parts.length:=by
    unfold HS at e1
    split at e1
    · rename_i h1
      split at e1
      · rename_i h2; exact ⟨h1,h2⟩
      · cases e1
    · cases e1
  obtain ⟨pn,rfl⟩:=iM hm.2.1
  have hpn:pn<zc.parts.length:=by omega
  have po:=ay9 hm.1 hpn
  have hfr:=po.fr
  have hco:=po.co
  simp [kG] at hfr hco
  obtain ⟨hps,S,hpt,hS⟩:=hp
  have hb2:=g2.cl hb
  obtain ⟨nf,hnf⟩:=iM (show 0≤zc.frames by omega)
  have mk:=r_mkC (t2.le hro) (.int .u8 0) (n:=nf) (by omega)
  rw [← hnf] at mk
  simp only [au,jC hb2,bg,eD.eld (hpt.grow t2) (show (0:Int)≤(pn:Int) by omega) (show (pn:Int)<_ by omega),iI]
  rw [show zc.parts.getD pn default=lI zc pn from rfl] at *
  refine aF.bind mk ?_
  rintro _ h14 ⟨rfl,o14,g14⟩
  have hb29:∀ K,uK [.int .i64 0,.int .i64 0,.int .i64 0,.int .i64 0,.int .i64 0,.int .i64 0,.int .u64 0,.int .u64 0,.int .u64 0,.int .u64 0,.int .u64 0,.int .u64 0,.int .u64 0,.int .u64 0,.int .u64 0,.nilslice,.nilslice,.nilslice,.int .i64 0,.int .i64 0,.int .i64 0,.int .i64 0,.int .i64 0,.int .i64 0,.int .i64 0,.nilslice,.nilslice,.bool false,.bool false]
      [(0,17,.agg (Hx zc t pp)),(17,8,.agg (Ij (lI zc pn) (S pn))),(26,1,Yu h2.nx nf),(28,1,.bool true)] K =
      K (.agg (rpC ⟨0,t,pp,S pn,.nilslice,h2.nx,fun _=>0,fun _=>0,fun _=>0⟩ ⟨zc,lI zc pn,nf,fun _=>0,false,fun _=>⟨0,fun _=>false,fun _=>0⟩⟩)):=fun K=>rfl
  simp only [au,hb29]
  refine aF.bind (r_boxO ((t2.trans g14).le hro) _) ?_
  rintro P hC ⟨rfl,oC,gC⟩
  refine aF.bind (as6 (l:=[]) ((t2.trans (g14.trans gC)).le hro) (fun k=>by rfl)) ?_
  rintro _ hD ⟨rfl,oD,gD⟩
  have gg:=t2.trans (g14.trans (gC.trans gD))
  have hbD:=(gC.trans gD).cl (g14.cl hb2)
  have gh1:=g2.trans (g14.trans (gC.trans gD))
  have hne:(lI zc pn).gH≠[]:=by have:=po.pos; intro e; rw [e] at this; simp at this
  have hfew:=po.few
  simp only [au,jC hbD,bg]
  simp only [aqt (S:=S) (f:=fun i=>zc.parts.getD i default) (hpt.grow gg) hpn]
  refine aF.bind (r_appE (gg.le hro) oD ((hS pn hpn).grow gg) hne (by show (lI zc pn).gH.length≤_; omega)) ?_
  rintro vm hE ⟨aE,vE,gE⟩
  have oE:Own hE h14.nx _ 0:=(oC.grow gD).grow gE
  simp only [au,fst_ptr',Nat.zero_add]
  refine ed.bind (uI oE (by show 17<29; omega) (by rcases aE with ⟨rfl,_⟩ | ⟨d,rfl,_⟩<;>rfl)) ?_
  intro hF pF
  have eN:zc.frames/zc.gG=((zc.frames/zc.gG).toNat:Int):=by have:=Int.ediv_nonneg (show 0≤zc.frames by omega) (show 0≤zc.gG by omega); omega
  have eN2:(zc.frames/zc.gG).toNat≤4096:=by have:=Int.ediv_le_self (a:=zc.frames) zc.gG (by omega); omega
  have n2:=g2.nx
  have n14:=g14.nx
  have nC:=gC.nx
  have nD:=gD.nx
  have nE:=gE.nx
  have l14:=o14.lt
  have w0:RMk h1 hF ⟨h14.nx,t,pp,vm,.nilslice,h2.nx,fun _=>0,fun _=>0,fun _=>0⟩ ⟨zc,lI zc pn,nf,fun _=>0,false,fun _=>⟨0,fun _=>false,fun _=>0⟩⟩ 0:=by
    have oU:Own hE h2.nx (List.replicate nf (.int .u8 0)) 0:=((o14.grow gC).grow gD).grow gE
    have eU:auY ⟨zc,lI zc pn,nf,fun _=>0,false,fun _=>⟨0,fun _=>false,fun _=>0⟩⟩=List.replicate nf (.int .u8 0):=by simp [auY,List.map_const']
    refine ⟨pF.own,aE.chg pF.chg fun d e1 e2=>apj aE oE e1 e2,.nil,?_,fun i hi=>absurd hi (by omega),fun i j hi=>absurd hi (by omega),fun i hi=>absurd hi (by omega),?_,fun c _ e=>(nomatch e),fun c hc=>?_,?_⟩
    · rw [eU]
      exact pF.chg.own oU fun e=>by have e2:h2.nx=h14.nx:=e; omega
    · show h14.nx≠h2.nx; omega
    · rcases hc with e | e | e | e | ⟨i,hi,_⟩
      · have e2:c=h14.nx:=e
        omega
      · have e2:c=h2.nx:=e
        omega
      · have e2:vm.blk=some c:=e
        rw [vE] at e2; cases e2; omega
      · cases e
      · omega
    · exact pF.grow ((gh1).trans gE) (by omega)
  refine aL.mono (aFZ (x:=x) (P:=h14.nx) (pt:=lI zc pn) (zr:=(nf,fun _=>0)) hn (g.le hro) hb (by omega) (by omega) eN eN2 _ hfew n 0 hF _ _ w0 rfl rfl rfl rfl rfl (fun j hj=>absurd hj (by omega)) (by omega) (by omega)) ?_
  rintro ⟨r,e,h'⟩ ⟨r1,r2,w',z',r3,r4,r5,r6,r7,r8,r9⟩
  dsimp only at r1 r2
  have el:(lI zc pn).gH.length=z'.pt.gH.length:=by rw [r5]
  have r7a:z'.nu=nf:=congrArg Prod.fst r7
  have r7b:z'.use=fun _=>0:=congrArg Prod.snd r7
  rw [el] at r4 r9
  refine ⟨g.trans r4.g,.inr ⟨r2,e1,w',z',by rw [r1,r3],⟨⟨r4.own,r4.gI,r4.gJ,r4.use,r4.each,r4.disj,r4.apart,r4.pu,r4.two⟩,fun d hd=>iE g.nx (r4.low d hd),r5,r6,by rw [r7a,hnf],fun f=>by rw [r7b],r8,r9⟩⟩⟩
end Go.Proofs.YtnlbfbiogfilfaaGreat.Sh
/- A pool at work that takes and gives back: what stays true. -/
namespace Go.Proofs.YtnlbfbiogfilfaaGreat.Sh
open Go.Ai
theorem aEr {k x:Int} {kv:List (Int × Int)} (h:(kv.map (·.1)).Nodup) (hm:(k,x)∈kv) (f:Int):(kv.map (·.1)).count f=((SO k kv).map (·.1)).count f+if k=f then 1 else 0:=by
  have hp:=(aqp h hm).map (·.1)
  rw [hp.count_eq,List.map_cons,List.count_cons]
  by_cases e:k=f<;>simp [e]
theorem aqq {k x:Int} {kv:List (Int × Int)} (h:(kv.map (·.1)).Nodup) (hm:(k,x)∈kv) (u:Int):UM kv u=UM (SO k kv) u+if x=u then 1 else 0:=by
  unfold UM
  rw [(aqp h hm).countP_eq,List.countP_cons]
  by_cases e:x=u<;>simp [e]
theorem len_delZ {k x:Int} {kv:List (Int × Int)} (h:(kv.map (·.1)).Nodup) (hm:(k,x)∈kv):kv.length=(SO k kv).length+1:=(aqp h hm).length_eq
theorem aCE {zc:bq} {p:Nat} {T:List Int} {z:bW} (v:Inv zc p T z) (po:dE zc p):(∀ x∈z.gI,0≤x∧x<zc.gG)∧z.gI.Pairwise (· < ·)∧z.gI.length≤16∧0<z.gI.length:=by
  rw [v.gI]; exact ⟨po.col,po.up,po.few,po.pos⟩
theorem aBn {l:List Int} (h:l.Pairwise (· < ·)) {i j:Nat} (hi:i<l.length) (hj:j<l.length) (e:nz l i=nz l j):i=j:=by
  rw [un hi,un hj] at e
  rcases ik i j with h2 | h2 | h2
  · have:=List.pairwise_iff_getElem.1 h i j hi hj h2; omega
  · exact h2
  · have:=List.pairwise_iff_getElem.1 h j i hj hi h2; omega
theorem InvQ.give {zc:bq} {p:Nat} {L:List (Int × Int)} {z:bW} (v:InvQ zc p L z) (po:dE zc p) {f:Int} {u i:Nat} (hm:(f,(u:Int))∈L) (hu:u<7) (hi:i<z.gI.length) {x:Int} (hx:f=x*z.gG+nz z.gI i) {s':cw} (g:GaveS (z.gJ i) x s') (htop:∀ k,7≤k→z.gK k=0) :
    InvQ zc p (SO f L) (gy z i u f s'):=by
  have hnd:=v.inv.nodup
  obtain ⟨m1,m2,m3,m4⟩:=aCE v.inv po
  have hsub:=auL f L
  have hc:z.gG=zc.gG:=v.inv.co
  have hlen:=len_delZ hnd hm
  refine ⟨⟨v.inv.gI,v.inv.co,fun j hj y=>?_,fun e he=>?_,fun q=>?_⟩,?_,fun w hw=>?_,fun e he=>v.rng e (hsub.subset he),?_,v.gP,v.total,v.order⟩
  · have hj':j<z.gI.length:=hj
    have hl:=v.inv.law j hj' y
    rw [aEr hnd hm] at hl
    show _+mult (upd z.gJ i s' j) y=if 0≤y∧y<(VK zc (nz z.gI j):Int) then 1 else 0
    rw [← hl]
    show List.count (y*zc.gG+nz z.gI j) _+_=_
    obtain ⟨i1,i2⟩:=m1 _ (by rw [un hi]; exact iU hi:nz z.gI i∈z.gI)
    obtain ⟨j1,j2⟩:=m1 _ (by rw [un hj']; exact iU hj':nz z.gI j∈z.gI)
    by_cases e:j=i
    · subst e
      rw [lm,g.mult]
      have hin:inB x y 0=if f=y*zc.gG+nz z.gI j then 1 else 0:=by
        unfold inB
        have h1:(2:Int)^0=1:=rfl
        rw [h1]
        by_cases h2:x=y
        · subst h2
          rw [if_pos (by omega),if_pos (by rw [hx,hc])]
        · rw [if_neg (by omega),if_neg fun h3=>h2 ?_]
          rw [hx,hc] at h3
          exact (alj i1 i2 j1 j2 h3).1
      rw [hin]; omega
    · rw [kX _ _ e,if_neg fun h3=>e ?_]
      · omega
      · rw [hx,hc] at h3
        exact (aBn m2 hi hj' (alj i1 i2 j1 j2 h3).2).symm
  · exact v.inv.form e ((hsub.map _).subset he)
  · have h1:=v.inv.cnt q
    have h2:=v.cnt u hu
    have h3:=aqq hnd hm (u:Int)
    rw [if_pos rfl] at h3
    show 0≤upd z.gK u (z.gK u-1) q∧upd z.gK u (z.gK u-1) q≤_
    have h4:UM (SO f L) u≤(SO f L).length:=List.countP_le_length
    simp only [i6] at h1 ⊢
    by_cases e:q=u
    · subst e; rw [lm]; omega
    · rw [kX _ _ e]
      refine ⟨h1.1,?_⟩
      by_cases hq:q<7
      · have h5:=v.cnt q hq
        have h6:=aqq hnd hm (q:Int)
        rw [if_neg (by omega)] at h6
        have h7:UM (SO f L) q≤(SO f L).length:=List.countP_le_length
        omega
      · rw [htop q (by omega)]; omega
  · show SO f z.uses=_
    rw [v.uses]
  · have h2:=v.cnt w hw
    have h3:=aqq hnd hm (w:Int)
    show upd z.gK u (z.gK u-1) w=_
    by_cases e:w=u
    · subst e; rw [lm,h2]; rw [if_pos rfl] at h3; omega
    · rw [kX _ _ e,h2]; rw [if_neg (by omega)] at h3; omega
  · have h1:=v.sum
    have hf:gQ (gy z i u f s') i=gQ z i+1:=by
      show pW (upd z.gJ i s' i) 7=_
      rw [lm]; exact g.sum
    have hf2:∀ j,j≠i→gQ (gy z i u f s') j=gQ z j:=fun j hj=>by
      show pW (upd z.gJ i s' j) 7=_
      rw [kX _ _ hj]
    have:=(ayu (f:=gQ (gy z i u f s')) (f':=gQ z) (d:=1) (by rw [hf]) (fun j hj=>(hf2 j hj).symm) z.gI.length).2 hi
    show (Em (gQ (gy z i u f s')) z.gI.length:Int)+_=_
    omega
theorem TakOk.take {s:cw} (t:TakOk s) {o k:Nat} {a:Int} {rest:List Int} (hok:o≤k) (hk:k<7) (hx:s.free k=a::rest) (hemp:∀ j,o≤j→j<k→s.free j = []) :
    TakOk { Dq s o k o a rest with gL:=aeI a o s.gL }∧aeI a o s.gL=s.gL++[(a,(o:Int))]:=by
  have hm:∀ x,mult (Dq s o k o a rest) x+inB a x o=mult s x:=aqI hok hk hx hemp
  have hp:=UU k
  have hp2:=UU o
  have hpos:=Nd hk (show a∈s.free k by rw [hx]; exact iV ..) (iS a) (by omega)
  have hnew:a∉s.gL.map (·.1):=fun h=>by
    obtain ⟨e,he,e1⟩:=ic.1 h
    have:=t.off e he
    rw [e1] at this
    omega
  have hset:=ayC (x:=(o:Int)) hnew
  have nn:=t.norm.take hok hk hx hemp
  refine ⟨⟨⟨nn.inc,nn.al,nn.np,nn.one⟩,?_,fun e he=>?_⟩,hset⟩
  · show ((aeI a o s.gL).map (·.1)).Nodup
    rw [hset,i9]
    refine iY.2 ⟨t.key,by simp,fun b hb c hc=>?_⟩
    simp at hc
    rw [hc]
    exact fun e=>hnew (by rw [← e]; exact hb)
  · have he':e∈aeI a o s.gL:=he
    show mult (Dq s o k o a rest) e.1=0
    rw [hset,i8] at he'
    have h1:=hm e.1
    rcases he' with h | h
    · have:=t.off e h; omega
    · simp at h
      have h2:e.1=a:=by rw [h]
      rw [h2] at h1 ⊢
      have h3:inB a a o=1:=by unfold inB; rw [if_pos (by omega)]
      have:=t.norm.one a
      omega
end Go.Proofs.YtnlbfbiogfilfaaGreat.Sh
/- A pool and the document's pool that stand alike: what stays true. -/
namespace Go.Proofs.YtnlbfbiogfilfaaGreat.Sh
open Go.Ai
structure PI (zc:bq) (p:Nat) (L:List (Int × Int)) (z:bW):Prop where
  inv:InvQ zc p L z
  tak:∀ i,i<z.gI.length→TakOk (z.gJ i)
  has:∀ e∈L,2≤e.2→∃ i x,i<z.gI.length∧e.1=x*z.gG+nz z.gI i∧(x,0)∈(z.gJ i).gL
  top:∀ k,7≤k→z.gK k=0
theorem PI.step {zc:bq} {p:Nat} {L:List (Int × Int)} {z:bW} (a:PI zc p L z) (po:dE zc p) {i o u k:Nat} {at_:Int} {rest:List Int} (hu:1≤u∧u≤6) (hi:i<z.gI.length) (ho:o<7) (hok:o≤k) (hk:k<7) (hx:(z.gJ i).free k=at_::rest) (hemp:∀ j,o≤j→j<k→(z.gJ i).free j = []) (h0:2≤u→o=0) :
    PI zc p (L++(pC z.gG (nz z.gI i) at_ (2^o)).map fun f=>(f,(u:Int))) (fP z i o u k at_ rest):=by
  have hs:=a.inv.step po hu hi ho hok hk hx hemp
  obtain ⟨t1,t2⟩:=(a.tak i hi).take (o:=o) hok hk hx hemp
  have bsame:∀ j,j≠i→(fP z i o u k at_ rest).gJ j=z.gJ j:=fun j hj=>kX _ _ hj
  have bnew:(fP z i o u k at_ rest).gJ i = { Dq (z.gJ i) o k o at_ rest with gL:=aeI at_ (o:Int) (z.gJ i).gL }:=lm ..
  refine ⟨hs,fun j hj=>?_,fun e he h2=>?_,fun q hq=>?_⟩
  · by_cases e1:j=i
    · rw [e1,bnew]; exact t1
    · rw [bsame j e1]; exact a.tak j hj
  · rcases i8.1 he with h | h
    · obtain ⟨j,x,j1,j2,j3⟩:=a.has e h h2
      refine ⟨j,x,j1,j2,?_⟩
      by_cases e1:j=i
      · rw [e1,bnew]
        show (x,0)∈aeI at_ (o:Int) _
        rw [t2]
        exact iQ _ (by rw [← e1]; exact j3)
      · rw [bsame j e1]; exact j3
    · obtain ⟨f,hf,rfl⟩:=ic.1 h
      have o0:=h0 (by have h3:(2:Int)≤(u:Int):=h2; omega)
      subst o0
      have:f=at_*z.gG+nz z.gI i:=by simpa [pC] using hf
      refine ⟨i,at_,hi,this,?_⟩
      rw [bnew]
      show (at_,0)∈aeI at_ ((0:Nat):Int) _
      rw [t2]
      simp
  · show upd z.gK u _ q=0
    rw [kX _ _ (by omega)]
    exact a.top q hq
theorem PI.give {zc:bq} {p:Nat} {L:List (Int × Int)} {z:bW} (a:PI zc p L z) (po:dE zc p) {f:Int} {u i:Nat} (hu:2≤u∧u≤6) (hmem:(f,(u:Int))∈L) (hi:i<z.gI.length) {x:Int} (hx:f=x*z.gG+nz z.gI i) {s':cw} (g:GaveS (z.gJ i) x s') :
    PI zc p (SO f L) (gy z i u f s'):=by
  have hnd:=a.inv.inv.nodup
  have hs:=a.inv.give po hmem (by omega) hi hx g a.top
  have hsub:=auL f L
  have bsame:∀ j,j≠i→(gy z i u f s').gJ j=z.gJ j:=fun j hj=>kX _ _ hj
  have bnew:(gy z i u f s').gJ i=s':=lm ..
  refine ⟨hs,fun j hj=>?_,fun e he h2=>?_,fun q hq=>?_⟩
  · by_cases e1:j=i
    · rw [e1,bnew]; exact g.ok (a.tak i hi)
    · rw [bsame j e1]; exact a.tak j hj
  · obtain ⟨he1,he2⟩:=(agI hnd).1 he
    obtain ⟨j,y,j1,j2,j3⟩:=a.has e he1 h2
    refine ⟨j,y,j1,j2,?_⟩
    by_cases e1:j=i
    · subst e1
      rw [bnew,g.gL,agI (a.tak j hi).key]
      refine ⟨j3,fun e2=>he2 ?_⟩
      have e2':y=x:=e2
      rw [j2,hx,e2']
    · rw [bsame j e1]; exact j3
  · show upd z.gK u _ q=0
    rw [kX _ _ (by omega)]
    exact a.top q hq
theorem PI.len {zc:bq} {p:Nat} {L:List (Int × Int)} {z:bW} (a:PI zc p L z) (po:dE zc p):L.length≤65536:=by
  have h1:=a.inv.sum
  have h2:=(atc po).2.2
  omega
theorem ayq {zc:bq} (hm:PO zc=true) {p:Nat} (po:dE zc p) {c:Int} (hc:0≤c∧c<zc.gG):VK zc c=(zc.frames/zc.gG).toNat:=by
  have hfr:=po.fr
  have hco:=po.co
  obtain ⟨b1,b2,b3⟩:=asr hfr hco hc.1 hc.2
  simp only [kG,iw,iz] at hfr hco
  simp only [PO,iw] at hm
  have h1:=hm.1
  simp only [sS,iw] at h1
  have h2:zc.frames.tmod zc.gG=0:=by simpa using h1.2.2.1
  have h3:zc.frames%zc.gG=0:=by rw [← Int.tmod_eq_emod_of_nonneg (by omega)]; exact h2
  have h4:azJ zc c=zc.frames/zc.gG:=by
    unfold azJ
    have h5:zc.frames=zc.frames/zc.gG*zc.gG:=by
      have:=Int.emod_add_mul_ediv zc.frames zc.gG
      rw [h3,Int.zero_add,Int.mul_comm] at this
      exact this.symm
    have h6:zc.frames-c+zc.gG-1=(zc.gG-1-c)+zc.frames/zc.gG*zc.gG:=by omega
    rw [h6,Int.add_mul_ediv_right _ _ (show zc.gG≠0 by omega),Int.ediv_eq_zero_of_lt (by omega) (by omega),Int.zero_add]
  unfold VK
  rw [h4]
theorem PI.place {zc:bq} {p:Nat} {L:List (Int × Int)} {z:bW} (a:PI zc p L z) (hm:PO zc=true) (po:dE zc p) {f:Int} (hf:f∈L.map (·.1)):∃ i,i<z.gI.length∧∃ x:Nat,f=(x:Int)*zc.gG+nz z.gI i∧x<(zc.frames/zc.gG).toNat∧0≤f∧f<zc.frames:=by
  obtain ⟨i,hi,x,hx⟩:=a.inv.inv.form f hf
  have hl:=a.inv.inv.law i hi x
  rw [← hx] at hl
  have h1:0<(L.map (·.1)).count f:=List.count_pos_iff.2 hf
  have hmine:=a.inv.inv.gI
  have hn:=po.nz (i:=i) (by rw [← hmine]; exact hi)
  rw [← hmine] at hn
  split at hl
  · rename_i h2
    rw [ayq hm po hn] at h2
    obtain ⟨y,rfl⟩:=iM h2.1
    have h3:=ayf po.fr po.co hn.1 hn.2 (x:=(y:Int)) (by rw [ayq hm po hn]; exact h2.2)
    have hco:=po.co
    simp only [kG,iw,iz] at hco
    have h4:0≤(y:Int)*zc.gG:=Int.mul_nonneg (by omega) (by omega)
    exact ⟨i,hi,y,hx,by omega,by omega,by omega⟩
  · omega
structure TW (zc:bq) (p:Nat) (L:List (Int × Int)) (z:bW) (r:RZ):Prop where
  cz:r.zc=zc
  pt:r.pt=lI zc p
  nu:(r.nu:Int)=zc.frames
  tells:∀ i,i<z.gI.length→fL (r.rb i) (z.gJ i)
  rn:∀ i,i<z.gI.length→(r.rb i).n=(zc.frames/zc.gG).toNat
  tk:∀ i,i<z.gI.length→∀ e∈(z.gJ i).gL,0≤e.1→(r.rb i).tk e.1.toNat=1+e.2
  use:∀ e∈L,r.use e.1.toNat=e.2
  free:∀ f:Nat,f<r.nu→(f:Int)∉L.map (·.1)→r.use f=0
  img:r.img=decide (1≤UM L 1)
theorem TW.gH {zc:bq} {p:Nat} {L:List (Int × Int)} {z:bW} {r:RZ} (t:TW zc p L z r) (a:PI zc p L z):r.pt.gH=z.gI:=by rw [t.pt,a.inv.inv.gI]
theorem TW.len {zc:bq} {p:Nat} {L:List (Int × Int)} {z:bW} {r:RZ} (t:TW zc p L z r) (a:PI zc p L z):r.pt.gH.length=z.gI.length:=by rw [t.gH a]
theorem atm {zc:bq} {p:Nat} (po:dE zc p):(zc.frames/zc.gG).toNat≤4096∧((zc.frames/zc.gG).toNat:Int)=zc.frames/zc.gG∧zc.frames/zc.gG*zc.gG≤zc.frames∧1≤zc.frames∧zc.frames≤4096∧1≤zc.gG∧zc.gG≤16:=by
  have hfr:=po.fr
  have hco:=po.co
  simp only [kG,iw,iz] at hfr hco
  have h1:=Int.ediv_nonneg (show 0≤zc.frames by omega) (show 0≤zc.gG by omega)
  have h2:=Int.ediv_le_self (a:=zc.frames) zc.gG (by omega)
  have h3:=Int.emod_add_mul_ediv zc.frames zc.gG
  have h4:=Int.emod_nonneg zc.frames (show zc.gG≠0 by omega)
  rw [Int.mul_comm] at h3
  omega
theorem TW.ok {zc:bq} {p:Nat} {L:List (Int × Int)} {z:bW} {r:RZ} (t:TW zc p L z r) (a:PI zc p L z) (po:dE zc p):ROk r:=by
  obtain ⟨e1,e2,e3,e4,e5,e6,e7⟩:=atm po
  have hl:=t.len a
  have hnu:=t.nu
  refine ⟨by rw [t.pt]; exact po.few,fun i hi=>by rw [t.rn i (by omega)]; exact e1,by omega,fun f hf=>?_⟩
  by_cases h:(f:Int)∈L.map (·.1)
  · obtain ⟨e,he,h2⟩:=ic.1 h
    have h3:=t.use e he
    rw [h2,iI] at h3
    have:=a.inv.rng e he
    omega
  · rw [t.free f hf h]; omega
theorem TW.room {zc:bq} {p:Nat} {L:List (Int × Int)} {z:bW} {r:RZ} (t:TW zc p L z r) (a:PI zc p L z) (po:dE zc p):RRoom r:=by
  obtain ⟨e1,e2,e3,e4,e5,e6,e7⟩:=atm po
  have hl:=t.len a
  have hc:∀ i,i<r.pt.gH.length→0≤nz r.pt.gH i∧nz r.pt.gH i<r.zc.gG:=fun i hi=>by
    rw [t.cz,t.pt]; exact po.nz (by rw [t.pt] at hi; exact hi)
  refine ⟨by rw [t.cz]; omega,hc,fun i hi x hx=>?_⟩
  rw [t.rn i (by omega)] at hx
  have h1:=hc i hi
  rw [t.cz] at h1 ⊢
  rw [t.nu]
  have h2:((x:Int)+1)*zc.gG≤zc.frames/zc.gG*zc.gG:=Int.mul_le_mul_of_nonneg_right (by omega) (by omega)
  rw [Int.add_mul,Int.one_mul] at h2
  omega
theorem TW.gQ {zc:bq} {p:Nat} {L:List (Int × Int)} {z:bW} {r:RZ} (t:TW zc p L z r) {i:Nat} (hi:i<z.gI.length):frR r i=Sh.gQ z i:=(t.tells i hi).count
theorem Best.uniq {f g:Nat→Nat} {n b c:Nat} (h:∀ i,i<n→f i=g i) (hb:Best f n b) (hc:Best g n c):b=c:=by
  obtain ⟨b1,b2,b3⟩:=hb
  obtain ⟨c1,c2,c3⟩:=hc
  have e1:=h b b1
  have e2:=h c c1
  rcases ik b c with h1 | h1 | h1
  · have h2:=c3 b h1
    have h3:=b2 c c1
    omega
  · exact h1
  · have h2:=b3 c h1
    have h3:=c2 b b1
    omega
theorem ayY {x:Int} {f:Nat} (h0:0≤x) (h:x≠f):x.toNat≠f:=by omega
theorem TW.step {zc:bq} {p:Nat} {L:List (Int × Int)} {z:bW} {r:RZ} (t:TW zc p L z r) (a:PI zc p L z) (hm:PO zc=true) (po:dE zc p) {i o u k c:Nat} {rest:List Int} (hu:1≤u∧u≤6) (hi:i<z.gI.length) (ho:o<7) (hok:o≤k) (hk:k<7) (hx:(z.gJ i).free k=(c:Int)::rest) (hemp:∀ j,o≤j→j<k→(z.gJ i).free j = []) (h0:2≤u→o=0)
    {use:Nat→Int} {img:Bool} (u1:∀ f∈pC z.gG (nz z.gI i) (c:Int) (2^o),use f.toNat=(u:Int)) (u2:∀ f:Nat,(f:Int)∉pC z.gG (nz z.gI i) (c:Int) (2^o)→use f=r.use f) (hi1:u=1→img=true) (hi2:u≠1→img=r.img) :
    TW zc p (L++(pC z.gG (nz z.gI i) (c:Int) (2^o)).map fun f=>(f,(u:Int))) (fP z i o u k (c:Int) rest) { r with rb:=upd r.rb i (akp (r.rb i) c o),use:=use,img:=img }:=by
  have a':=a.step po hu hi ho hok hk hx hemp h0
  have hnd:=a'.inv.inv.nodup
  have hkeys:(L++(pC z.gG (nz z.gI i) (c:Int) (2^o)).map fun f=>(f,(u:Int))).map (·.1)=L.map (·.1)++pC z.gG (nz z.gI i) (c:Int) (2^o):=by simp [Function.comp_def]
  rw [hkeys] at hnd
  obtain ⟨t1,t2⟩:=(a.tak i hi).take (o:=o) hok hk hx hemp
  have bsame:∀ j,j≠i→(fP z i o u k (c:Int) rest).gJ j=z.gJ j:=fun j hj=>kX _ _ hj
  have bnew:(fP z i o u k (c:Int) rest).gJ i = { Dq (z.gJ i) o k o (c:Int) rest with gL:=aeI (c:Int) (o:Int) (z.gJ i).gL }:=lm ..
  refine ⟨t.cz,t.pt,t.nu,fun j hj=>?_,fun j hj=>?_,fun j hj e he h1=>?_,fun e he=>?_,fun f hf hn=>?_,?_⟩
  · show fL (upd r.rb i (akp (r.rb i) c o) j) _
    by_cases e1:j=i
    · rw [e1,lm,bnew]; exact (t.tells i hi).take hok hk hx hemp
    · rw [kX _ _ e1,bsame j e1]; exact t.tells j hj
  · show (upd r.rb i (akp (r.rb i) c o) j).n=_
    by_cases e1:j=i
    · rw [e1,lm]; exact t.rn i hi
    · rw [kX _ _ e1]; exact t.rn j hj
  · show (upd r.rb i (akp (r.rb i) c o) j).tk e.1.toNat=_
    by_cases e1:j=i
    · subst e1
      rw [bnew] at he
      have he':e∈aeI (c:Int) (o:Int) (z.gJ j).gL:=he
      rw [t2,i8] at he'
      rw [lm]
      show upd (r.rb j).tk c ((1+o:Nat):Int) e.1.toNat=_
      rcases he' with h | h
      · have h3:=(a.tak j hi).off e h
        have hp:=UU k
        have h4:=Nd hk (show (c:Int)∈(z.gJ j).free k by rw [hx]; exact iV ..) (iS _) (by omega)
        have h5:e.1≠(c:Int):=fun h6=>by rw [h6] at h3; omega
        rw [kX _ _ (ayY h1 h5)]
        exact t.tk j hi e h h1
      · simp at h
        rw [h]
        show upd (r.rb j).tk c ((1+o:Nat):Int) ((c:Int)).toNat=_
        rw [iI,lm]
        show ((1+o:Nat):Int)=1+(o:Int)
        omega
    · rw [kX _ _ e1]
      rw [bsame j e1] at he
      exact t.tk j hj e he h1
  · show use e.1.toNat=e.2
    rcases i8.1 he with h | h
    · have hm':e.1∈L.map (·.1):=ic.2 ⟨e,h,rfl⟩
      have hno:e.1∉pC z.gG (nz z.gI i) (c:Int) (2^o):=fun h2=>(iY.1 hnd).2.2 e.1 hm' e.1 h2 rfl
      obtain ⟨_,_,_,_,_,h3,_⟩:=a.place hm po hm'
      rw [u2 e.1.toNat (by rw [Int.toNat_of_nonneg h3]; exact hno)]
      exact t.use e h
    · obtain ⟨f,hf,rfl⟩:=ic.1 h
      exact u1 f hf
  · show use f=0
    rw [hkeys,i8,not_or] at hn
    rw [u2 f hn.2]
    exact t.free f hf hn.1
  · show img=_
    by_cases e1:u=1
    · subst e1
      rw [hi1 rfl,eq_comm,iz]
      have hpos:=Nat.one_le_two_pow (n:=o)
      refine iW.2 ⟨((c:Int)*z.gG+nz z.gI i,((1:Nat):Int)),iR _ (ic.2 ⟨_,?_,rfl⟩),by simp⟩
      unfold pC
      refine ic.2 ⟨0,i7.2 (by omega),by simp⟩
    · rw [hi2 e1,t.img]
      congr 1
      have:UM (L++(pC z.gG (nz z.gI i) (c:Int) (2^o)).map fun f=>(f,(u:Int))) 1=UM L 1:=by
        rw [ahq,aCU,if_neg (by omega)]; rfl
      rw [this]
theorem TW.give {zc:bq} {p:Nat} {L:List (Int × Int)} {z:bW} {r:RZ} (t:TW zc p L z r) (a:PI zc p L z) (hm:PO zc=true) (po:dE zc p) {F u i c:Nat} (hu:2≤u∧u≤6) (hmem:((F:Int),(u:Int))∈L) (hi:i<z.gI.length) (hc:c<(r.rb i).n) {s':cw} (g:GaveS (z.gJ i) (c:Int) s') :
    TW zc p (SO (F:Int) L) (gy z i u (F:Int) s') { r with rb:=upd r.rb i (akZ (r.rb i) c),use:=upd r.use F 0 }:=by
  have hnd:=a.inv.inv.nodup
  have bsame:∀ j,j≠i→(gy z i u (F:Int) s').gJ j=z.gJ j:=fun j hj=>kX _ _ hj
  have bnew:(gy z i u (F:Int) s').gJ i=s':=lm ..
  refine ⟨t.cz,t.pt,t.nu,fun j hj=>?_,fun j hj=>?_,fun j hj e he h1=>?_,fun e he=>?_,fun f hf hn=>?_,?_⟩
  · show fL (upd r.rb i (akZ (r.rb i) c) j) _
    by_cases e1:j=i
    · rw [e1,lm,bnew]; exact (t.tells i hi).give hc g
    · rw [kX _ _ e1,bsame j e1]; exact t.tells j hj
  · show (upd r.rb i (akZ (r.rb i) c) j).n=_
    by_cases e1:j=i
    · rw [e1,lm]; exact t.rn i hi
    · rw [kX _ _ e1]; exact t.rn j hj
  · show (upd r.rb i (akZ (r.rb i) c) j).tk e.1.toNat=_
    by_cases e1:j=i
    · subst e1
      rw [bnew,g.gL,agI (a.tak j hi).key] at he
      rw [lm]
      show upd (r.rb j).tk c 0 e.1.toNat=_
      rw [kX _ _ (ayY h1 he.2)]
      exact t.tk j hi e he.1 h1
    · rw [kX _ _ e1]
      rw [bsame j e1] at he
      exact t.tk j hj e he h1
  · obtain ⟨h1,h2⟩:=(agI hnd).1 he
    obtain ⟨_,_,_,_,_,h3,_⟩:=a.place hm po (ic.2 ⟨e,h1,rfl⟩)
    show upd r.use F 0 e.1.toNat=e.2
    rw [kX _ _ (ayY h3 h2)]
    exact t.use e h1
  · show upd r.use F 0 f=0
    by_cases e1:f=F
    · rw [e1,lm]
    · rw [kX _ _ e1]
      refine t.free f hf fun h=>hn ?_
      obtain ⟨e,he,h2⟩:=ic.1 h
      exact ic.2 ⟨e,(agI hnd).2 ⟨he,by rw [h2]; omega⟩,h2⟩
  · show r.img=_
    rw [t.img]
    have:=aqq hnd hmem 1
    rw [if_neg (by omega)] at this
    rw [this]; rfl
end Go.Proofs.YtnlbfbiogfilfaaGreat.Sh
