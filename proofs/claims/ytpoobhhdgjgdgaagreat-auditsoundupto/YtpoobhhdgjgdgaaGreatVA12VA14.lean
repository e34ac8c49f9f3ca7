/- Whether a partition's frames add up: all of it. -/
import Derived.Test.YtpoobhhdgjgdgaaGreatVA9VA11
set_option linter.all false
namespace Go.Proofs.YtpoobhhdgjgdgaaGreat.Sh
open Go.Ai
theorem aob {n:Nat} {zc:bA} (hn:dt n zc) (hn':1100<n) {h0:Heap} (hro:h0.ro≤h0.nx) {t pp:AV} (ht:cQ h0 .i64 t zc.fi) (hp:dB h0 pp zc.parts) {w:Nat} (hw:h0.cl w (ry zc t pp)) (p:Int) {y:Nat} {c:Nat→Int} (hy:h0.cl y (s8 7 c)) {z:StZ} {va vb vc vd:AV} (hst:eR n h0 z va vb vc vd) {x:Nat} (hx:h0.cl x (stC va vb z.whole vc vd)) (b:Bool) :
    aR (fun k=>tE n (bP n) (bB n) (bR n) (bO n) k p (.ptr w 0) (.ptr x 0) (.ptr y 0) b h0) fun r h'=>ba h0 h'∧(r=true→b=false):=by
  unfold tE
  refine aJ.ifB (fun e=>?_) fun e=>?_
  · subst e
    exact aJ.mono (aoB hn hn' hro ht hp hw p hy hst hx true) fun r h=>⟨h.1,fun h2=>nomatch h.2 h2⟩
  · have i1:∀ K,DD 1 7 (.ptr y 0) 1 K=K (.ptr y (0+1)):=fun K=>Kt (n:=7) (k:=1) (by omega) K
    simp only [aD,gU hx,st_2,st_0,bK.len hst.own,i1,gU hy,wE c (show 1<7 by omega)]
    exact aJ.mono (aoB hn hn' hro ht hp hw p hy hst hx _) fun r h=>⟨h.1,fun _=>e⟩
theorem v_sums_7 {n:Nat} {zc:bA} (hn:dt n zc) (hn':1100<n) {h0:Heap} (hro:h0.ro≤h0.nx) {t pp:AV} (ht:cQ h0 .i64 t zc.fi) (hp:dB h0 pp zc.parts) {w:Nat} (hw:h0.cl w (ry zc t pp)) (p:Int) {y:Nat} {c:Nat→Int} (hy:h0.cl y (s8 7 c)) {z:StZ} {va vb vc vd:AV} (hst:eR n h0 z va vb vc vd) {x:Nat} (hx:h0.cl x (stC va vb z.whole vc vd)) (kn:Bool) {u:Nat} {d:Nat→Int} (hu:h0.cl u (s8 7 d)) :
    ∀ (q i:Nat),i≤7→7-i<q→aR (fun k=>wY n (bP n) (bB n) (bR n) (bO n) k q p (.ptr w 0) (.ptr x 0) (.ptr y 0) kn (.ptr u 0) (i:Int) h0) fun r h'=>ba h0 h'∧(r=true→kn=true):=by
  intro q
  induction q with
  | zero=>omega
  | succ q ih=>
    intro i hi hq
    simp only [aiE]
    unfold xJ CX
    refine aJ.ifB (fun e=>?_) fun e=>?_
    · rw [kj,fY] at e
      have hlt:i<7:=by omega
      have iy:∀ K,DD 1 7 (.ptr y 0) (i:Int) K=K (.ptr y (0+i)):=fun K=>Kt (n:=7) (k:=i) hlt K
      have iu:∀ K,DD 1 7 (.ptr u 0) (i:Int) K=K (.ptr u (0+i)):=fun K=>Kt (n:=7) (k:=i) hlt K
      simp only [aD,iy,iu,gU hy,gU hu,wE c hlt,wE d hlt,js (show i≤9223372036854775806 by omega)]
      exact aJ.ifB (fun _=>jT ⟨.refl,fun h=>nomatch h⟩) fun _=>ih (i+1) (by omega) (by omega)
    · refine aJ.ifB (fun ek=>?_) fun ek=>?_
      · exact aJ.mono (aob hn hn' hro ht hp hw p hy hst hx true) fun r h=>⟨h.1,fun h2=>nomatch h.2 h2⟩
      · have i1:∀ K,DD 1 7 (.ptr y 0) 1 K=K (.ptr y (0+1)):=fun K=>Kt (n:=7) (k:=1) (by omega) K
        have j1:∀ K,DD 1 7 (.ptr u 0) 1 K=K (.ptr u (0+1)):=fun K=>Kt (n:=7) (k:=1) (by omega) K
        simp only [aD,i1,j1,gU hy,gU hu,wE c (show 1<7 by omega),wE d (show 1<7 by omega)]
        refine aJ.mono (aob hn hn' hro ht hp hw p hy hst hx _) fun r h=>⟨h.1,fun _=>?_⟩
        simpa using ek
theorem v_sums_8 {n:Nat} {zc:bA} (hn:dt n zc) (hn':1100<n) {h0:Heap} (hro:h0.ro≤h0.nx) {t pp:AV} (ht:cQ h0 .i64 t zc.fi) (hp:dB h0 pp zc.parts) {w:Nat} (hw:h0.cl w (ry zc t pp)) (p:Int) {z:StZ} {va vb vc vd:AV} (hst:eR n h0 z va vb vc vd) {x:Nat} (hx:h0.cl x (stC va vb z.whole vc vd)) {l:Nat} {pz:cV} {s:AV} (hl:h0.cl l (tJ pz s)) (ho:0≤pz.order) :
    aR (fun k=>xm n (bP n) (bB n) (bR n) (bO n) k p (.ptr w 0) (.ptr x 0) (.ptr l 0) h0) fun r h'=>ba h0 h'∧(r=true→afL z.U z.m):=by
  unfold xm
  simp only [aD,gU hx,st_0]
  refine c9.bind (ao3 hro hst.own hst.om) ?_
  rintro _ kn h1 ⟨g1,hk,c,rfl,hc⟩
  refine aR.bind (GQ (n:=7) (g1.le hro) (by rfl) (qJ ..)) ?_
  rintro y h2 ⟨hy,oy,g2⟩
  have g02:=g1.trans g2
  have bq:∀ (a b c d e f:Int) (K:AV→aa),lh [(.int .i64 0),(.int .i64 0),(.int .i64 0),(.int .i64 0),(.int .i64 0),(.int .i64 0),(.int .i64 0)] [(1,1,(.int .i64 a)),(2,1,(.int .i64 b)),(3,1,(.int .i64 c)),(4,1,(.int .i64 d)),(5,1,(.int .i64 e)),(6,1,(.int .i64 f))] K=K (.agg (s8 7 fun u=>[0,a,b,c,d,e,f].getD u 0)):=fun a b c d e f K=>rfl
  simp only [aD,gU (g02.cl hl),bC,acx ho,bq]
  refine aR.bind (GQ (n:=7) (g02.le hro) (by rfl) (qJ ..)) ?_
  rintro u h3 ⟨hu,ou,g3⟩
  have g03:=g02.trans g3
  refine aJ.mono (v_sums_7 hn hn' (g03.le hro) (ht.grow g03) (hp.grow g03) (g03.cl hw) p (g3.cl oy.cl) (hst.grow g03) (g03.cl hx) kn ou.cl n 0 (by omega) (by omega)) ?_
  rintro r ⟨h1,h2⟩
  exact ⟨g03.trans h1,fun h=>hk.1 (h2 h)⟩
def nOf (P:Nat→Bool):Nat→Int
  | 0=>0
  | i+1=>nOf P i+if P i then 1 else 0
theorem amr (P:Nat→Bool):∀ i,0≤nOf P i∧nOf P i≤i
  | 0=>by simp [nOf]
  | i+1=>by
    have:=amr P i
    simp only [nOf]
    split<;>omega
def zf (zc:bA) (F:Nat→Int) (c:Int) (k:Nat):Bool:=decide (0≤F k∧F k<zc.frames∧F k%zc.eZ=c)
def ap4 (zc:bA) (fb:List Int) (z:StZ) (i:Nat):Prop:=0≤nz z.free i∧nz z.free i=zc.frames/zc.eZ-nOf (zf zc z.F (nz fb i)) z.m
structure eK (zc:bA) (p:Nat) (z:StZ):Prop where
  len:z.free.length=(jE zc p).fb.length
  use:afL z.U z.m
  free:∀ i,i<z.free.length→ap4 zc (jE zc p).fb z i
theorem v_sums_9 {n:Nat} {zc:bA} (hn:dt n zc) (hn':1100<n) {h0:Heap} (hro:h0.ro≤h0.nx) {t pp:AV} (ht:cQ h0 .i64 t zc.fi) (hp:dB h0 pp zc.parts) {w:Nat} (hw:h0.cl w (ry zc t pp)) {p:Nat} (po:PartOk zc p) (qo:QuotaOk zc p) {z:StZ} {va vb vc vd:AV} (hst:eR n h0 z va vb vc vd) {x:Nat} (hx:h0.cl x (stC va vb z.whole vc vd)) {l:Nat} {s:AV} (hl:h0.cl l (tJ (jE zc p) s)) (hs:cQ h0 .i64 s (jE zc p).fb) (hlen:z.free.length=(jE zc p).fb.length) {e:Nat} {E:Nat→Int} (he:h0.cl e (s8 16 E)) (hE:∀ c:Nat,c<16→E c=nOf (zf zc z.F c) z.m) :
    ∀ (q i:Nat),(∀ j,j<i→ap4 zc (jE zc p).fb z j)→i≤(jE zc p).fb.length→(jE zc p).fb.length-i<q→aR (fun k=>tQ n (bP n) (bB n) (bR n) (bO n) k q (p:Int) (.ptr w 0) (.ptr x 0) (.ptr l 0) (.ptr e 0) s ((jE zc p).fb.length:Int) (i:Int) h0) fun r h'=>ba h0 h'∧(r=true→eK zc p z):=by
  intro q
  induction q with
  | zero=>omega
  | succ q ih=>
    intro i hok hi hq
    simp only [ajh]
    unfold xK
    refine aJ.ifB (fun e1=>?_) fun e1=>?_
    · rw [kj,fY] at e1
      have hlt:i<(jE zc p).fb.length:=by omega
      have f10:∀ b:Bool,(b=false→ap4 zc (jE zc p).fb z i)→aR (fun k=>rD n (bP n) (bB n) (bR n) (bO n) k (tQ n (bP n) (bB n) (bR n) (bO n) k q) (p:Int) (.ptr w 0) (.ptr x 0) (.ptr l 0) (.ptr e 0) s ((jE zc p).fb.length:Int) (i:Int) b h0) fun r h'=>ba h0 h'∧(r=true→eK zc p z):=by
        intro b hb
        unfold rD
        refine aJ.ifB (fun _=>jT ⟨.refl,fun h=>nomatch h⟩) fun eb=>?_
        have:=po.few
        simp only [aD,js (show i≤9223372036854775806 by omega)]
        refine ih (i+1) (fun j hj=>?_) (by omega) (by omega)
        by_cases hji:j=i
        · subst hji; exact hb eb
        · exact hok j (by omega)
      have hco:=po.co
      simp [ji] at hco
      have hcol:=po.col (nz (jE zc p).fb i) (by rw [GD hlt]; exact gp hlt)
      obtain ⟨c,hc⟩:∃ c:Nat,nz (jE zc p).fb i=c:=⟨(nz (jE zc p).fb i).toNat,by omega⟩
      have hc16:c<16:=by omega
      have ie:∀ K,DD 1 16 (.ptr e 0) (c:Int) K=K (.ptr e (0+c)):=fun K=>Kt (n:=16) (k:=c) hc16 K
      obtain ⟨q1,q2,q3⟩:=ahv po.fr po.co
      have hEc:=hE c hc16
      have hnl:=amr (zf zc z.F c) z.m
      have hbig:=hst.big
      have w1:IntKind.i64.wrap (zc.frames.tdiv zc.eZ)=zc.frames/zc.eZ:=q1
      have w2:IntKind.i64.wrap (zc.frames/zc.eZ-E c)=zc.frames/zc.eZ-E c:=ot (by omega) (by omega)
      have efr:∀ K,Ma .i64 1 h0 vb (i:Int) K=K (elP vb 1 (i:Int)) (nz z.free i):=fun K=>by
        rw [hst.free.el (show (0:Int)≤(i:Int) by omega) (by omega),ge]
      have eco:∀ K,Ma .i64 1 h0 s (i:Int) K=K (elP s 1 (i:Int)) (c:Int):=fun K=>by
        rw [hs.el (show (0:Int)≤(i:Int) by omega) (by omega),ge,hc]
      simp only [aD,eco,gU hx,st_1,efr]
      refine aJ.ifB (fun _=>f10 true fun h=>nomatch h) fun e2=>?_
      rw [ga] at e2
      simp only [aD,gU hx,st_1,efr,gU hw,bC,abt (show zc.eZ≠0 by omega),ie,gU he,wE E hc16,w1,w2]
      refine f10 _ fun e3=>⟨by omega,?_⟩
      rw [hc, ← hEc]
      simpa using e3
    · rw [kj,ga] at e1
      refine aJ.mono (v_sums_8 hn hn' hro ht hp hw p hst hx hl qo.ord.1) ?_
      rintro r ⟨h1,h2⟩
      exact ⟨h1,fun h=>⟨hlen,h2 h,fun j hj=>hok j (by omega)⟩⟩
theorem v_sums {n:Nat} {zc:bA} (hn:dt n zc) (hn':1100<n) (hm:uP zc=true) {h:Heap} (hro:h.ro≤h.nx) {c:List AV} (hc:Cfg h zc c) {p:Nat} (hpl:p<zc.parts.length) {z:StZ} {va vb vc vd:AV} (hst:eR n h z va vb vc vd) :
    aR (bj n (.agg c) (.agg (stC va vb z.whole vc vd)) (p:Int) h) fun r h'=>ba h h'∧(r=true→eK zc p z):=by
  unfold bj QN IM
  have po:=acz hm hpl
  have qo:=an1 hm po
  obtain ⟨t,pp,rfl,ht,hp⟩:=hc
  refine aR.bind (mr ..) ?_
  rintro w h1 ⟨hw,g1⟩
  refine aR.bind (mr ..) ?_
  rintro x h2 ⟨hx,g2⟩
  have g02:=g1.trans g2
  simp only [aD,gU (g2.cl hw),bC]
  have hp':=hp
  obtain ⟨hsh,S,hs,hS⟩:=hp
  refine aJ.copy (hs.grow g02) (g02.le hro) hpl rfl rfl fun a b l d h3 hl g3=>?_
  rw [show zc.parts.getD p default=jE zc p from rfl] at hl
  have g03:=g02.trans g3
  have hcol:cQ h3 .i64 (S p) (jE zc p).fb:=(hS p hpl).grow g03
  simp only [aD,gU (g3.cl hx),st_1,hst.free.len,gU hl,bC,hcol.len]
  refine aJ.ifB (fun _=>jT ⟨g03,fun h=>nomatch h⟩) fun el=>?_
  have hlen:z.free.length=(jE zc p).fb.length:=by simp at el; omega
  refine aR.bind (DN (g03.le hro) _ 0) ?_
  rintro e h4 ⟨he,oe,g4⟩
  have g04:=g03.trans g4
  simp only [aD,gU ((g3.trans g4).cl hx),st_0,bK.len hst.own]
  have hco:=po.co
  have hfr:=po.fr
  have hco':=hco
  have hfr':=hfr
  simp [ji] at hco' hfr'
  have hbig:=hst.big
  have key:∀ (q i:Nat) (h5:Heap) (E:Nat→Int),ba h3 h5→Own h5 e (s8 16 E) 0→(∀ c:Nat,c<16→E c=nOf (zf zc z.F c) i)→i≤z.m→z.m-i<q→
      aR (fun k=>qq n (bP n) (bB n) (bR n) (bO n) k q (p:Int) (.ptr w 0) (.ptr x 0) (.ptr l 0) (.ptr e 0) va (z.m:Int) (i:Int) h5) fun r h'=>ba h h'∧(r=true→eK zc p z):=by
    intro q
    induction q with
    | zero=>omega
    | succ q ih=>
      intro i h5 E g5 oe hE hi hq
      have g05:=g03.trans g5
      simp only [agy]
      unfold vJ
      refine aJ.ifB (fun e1=>?_) fun e1=>?_
      · rw [kj,fY] at e1
        have hlt:i<z.m:=by omega
        refine aJ.copy (hst.own.grow g05) (g05.le hro) hlt rfl rfl fun a b y d h6 hy g6=>?_
        have g36:=g5.trans g6
        have oe6:Own h6 e (s8 16 E) 0:=(g6.chg fun _=>False).own oe fun h=>h
        have next:∀ (h7:Heap) (E':Nat→Int),ba h3 h7→Own h7 e (s8 16 E') 0→(∀ c:Nat,c<16→E' c=nOf (zf zc z.F c) (i+1))→aR (fun k=>rP n (bP n) (bB n) (bR n) (bO n) k (qq n (bP n) (bB n) (bR n) (bO n) k q) (p:Int) (.ptr w 0) (.ptr x 0) (.ptr l 0) (.ptr e 0) va (z.m:Int) (i:Int) h7) fun r h'=>ba h h'∧(r=true→eK zc p z):=by
          intro h7 E' g7 o7 hE'
          unfold rP
          simp only [aD,js (show i≤9223372036854775806 by omega)]
          exact ih (i+1) h7 E' g7 o7 hE' (by omega) (by omega)
        have out:¬ (0≤z.F i∧z.F i<zc.frames)→∀ r:Int,aR (fun k=>qw n (bP n) (bB n) (bR n) (bO n) k (qq n (bP n) (bB n) (bR n) (bO n) k q) (p:Int) (.ptr w 0) (.ptr x 0) (.ptr l 0) (.ptr e 0) r va (z.m:Int) (i:Int) false h6) fun r h'=>ba h h'∧(r=true→eK zc p z):=by
          intro hno r
          unfold qw
          refine next h6 E g36 oe6 fun c hc=>?_
          have:zf zc z.F c i=false:=by
            unfold zf
            rw [ga]
            exact fun h=>hno ⟨h.1,h.2.1⟩
          simp only [nOf,this,hE c hc]
          simp
        obtain ⟨r,er,q1,q2,q3⟩:=u_Of n (f:=z.F i) hco h6
        simp only [aD,gU hy,aod,gU ((g2.trans (g3.trans g36)).cl hw),bC,q1]
        cases hwi:ji (z.F i) 0 4095 with
        | false=>
          rw [q3 hwi]
          have t0:((2:Int)==0)=false:=by decide
          simp only [aD,t0]
          refine out (fun h=>?_) r
          simp [ji] at hwi
          omega
        | true=>
          obtain ⟨rfl,rfl⟩:=q2 hwi
          have t0:((0:Int)==0)=true:=by decide
          simp only [aD,t0,gU hy,aod,gU ((g2.trans (g3.trans g36)).cl hw),bC]
          simp [ji] at hwi
          by_cases hf:z.F i<zc.frames
          · rw [gk hf]
            have m1:0≤z.F i%zc.eZ:=Int.emod_nonneg _ (by omega)
            have m2:z.F i%zc.eZ<zc.eZ:=Int.emod_lt_of_pos _ (by omega)
            obtain ⟨c,hc⟩:∃ c:Nat,z.F i%zc.eZ=c:=⟨(z.F i%zc.eZ).toNat,by omega⟩
            have hc16:c<16:=by omega
            have ie:∀ K,DD 1 16 (.ptr e 0) (c:Int) K=K (.ptr e (0+c)):=fun K=>Kt (n:=16) (k:=c) hc16 K
            have hnl:=amr (zf zc z.F c) i
            have hEc:=hE c hc16
            unfold qw
            simp only [aD,hc,ie,gU oe6.cl,wE E hc16,ot (n:=E c+1) (by omega) (by omega)]
            refine dy.bind (vT oe6 (by rw [qJ]; exact hc16) rfl) ?_
            intro h7 pt
            rw [ahx] at pt
            refine next h7 _ (pt.grow g36 he) pt.own fun c' hc'=>?_
            have hin:zf zc z.F c' i=decide (c'=c):=by
              unfold zf
              rw [hc]
              by_cases hcc:c'=c
              · subst hcc; simp; omega
              · simp [hcc]; omega
            simp only [nOf,hin]
            by_cases hcc:c'=c
            · subst hcc; simp [hEc]
            · simp [hcc,hE c' hc']
          · rw [gf hf]
            exact out (fun h=>hf h.2) _
      · rw [kj,ga] at e1
        have:i=z.m:=by omega
        subst this
        unfold Ao
        have hcol5:cQ h5 .i64 (S p) (jE zc p).fb:=hcol.grow g5
        simp only [aD,gU (g5.cl hl),bC,hcol5.len]
        refine aJ.mono (v_sums_9 hn hn' (g05.le hro) (ht.grow g05) (hp'.grow g05) ((g2.trans (g3.trans g5)).cl hw) po qo (hst.grow g05) ((g3.trans g5).cl hx) (g5.cl hl) hcol5 hlen oe.cl hE n 0 (fun j hj=>by omega) (by omega) (by have:=po.few; omega)) ?_
        rintro r ⟨h1,h2⟩
        exact ⟨g05.trans h1,h2⟩
  exact key n 0 h4 (fun _=>0) g4 oe (fun c _=>rfl) (by omega) (by have:=hst.om; omega)
end Go.Proofs.YtpoobhhdgjgdgaaGreat.Sh
/- Lines and translations. -/
namespace Go.Proofs.YtpoobhhdgjgdgaaGreat.Sh
open Go.Ai
theorem u_CSet (n:Nat) {a c:Int} (hc:ji c 1 16=true) (h0:0≤a) (h1:a<1048576) (h:Heap) (k:aU):cw n a c h k=k (a/256%c*16+a%256/16) 0 h:=by
  unfold cw Qv Ig
  have hc':=hc
  simp [ji] at hc'
  have t0:decide (a<1048576)=true:=gk h1
  have e1:a.tdiv 256=a/256:=Int.tdiv_eq_ediv_of_nonneg h0
  have e2:a.tmod 256=a%256:=Int.tmod_eq_emod_of_nonneg h0
  have m1:0≤a/256%c:=Int.emod_nonneg _ (by omega)
  have m2:a/256%c<c:=Int.emod_lt_of_pos _ (by omega)
  have e3:(a%256).tdiv 16=a%256/16:=Int.tdiv_eq_ediv_of_nonneg (by omega)
  have e4:(a/256).tmod c=a/256%c:=Int.tmod_eq_emod_of_nonneg (by omega)
  have w1:IntKind.u64.wrap (a/256)=a/256:=amb (by omega) (by omega)
  have w2:IntKind.i64.wrap (a/256)=a/256:=ot (by omega) (by omega)
  have w3:IntKind.u64.wrap (a%256/16)=a%256/16:=amb (by omega) (by omega)
  have w4:IntKind.i64.wrap (a%256/16)=a%256/16:=ot (by omega) (by omega)
  have w5:IntKind.i64.wrap (a/256%c*16)=a/256%c*16:=ot (by omega) (by omega)
  have w6:IntKind.i64.wrap (a/256%c*16+a%256/16)=a/256%c*16+a%256/16:=ot (by omega) (by omega)
  simp only [aD,abm,hc,t0,Bool.not_true,abt (show (256:Int)≠0 by decide),abt (show (16:Int)≠0 by decide),aho (show (256:Int)≠0 by decide),aho (show c≠0 by omega),e1,e2,e3,e4,w1,w2,w3,w4,w5,w6]
theorem u_AFrame (n:Nat) {a:Int} (h0:0≤a) (h1:a<1048576) (h:Heap):∃ r,∀ k:cU,cv n a h k=k (a/256) r 0 h:=by
  unfold cv QT Ir
  obtain ⟨m,rfl⟩:=gj h0
  have s1:shrF .u64 (m:Int) (20:Int).toNat=0:=by
    rw [amN]
    show (m:Int).fdiv (2^20)=0
    rw [Int.fdiv_eq_ediv_of_nonneg _ (by decide)]
    exact Int.ediv_eq_zero_of_lt h0 (by omega)
  have s2:shrF .u64 (m:Int) (8:Int).toNat=(m:Int)/256:=by
    rw [amN]
    show (m:Int).fdiv (2^8)=_
    rw [Int.fdiv_eq_ediv_of_nonneg _ (by decide)]; rfl
  have w1:IntKind.i64.wrap ((m:Int)/256)=(m:Int)/256:=ot (by omega) (by omega)
  have t0:(!((0:Int)==0))=false:=rfl
  refine ⟨IntKind.i64.wrap (IntKind.u64.wrap (BitVec.ofInt IntKind.u64.bits (m:Int) &&& BitVec.ofInt IntKind.u64.bits 255).toNat),fun k=>?_⟩
  simp only [aD,abp (show (0:Int)≤20 by decide),abp (show (0:Int)≤8 by decide),anr,s1,s2,w1,t0]
def ad8 (zc:bA) (S T:Int):Prop:=T<zc.frames*16∧S=T/16%zc.eZ*16+T%16∧∃ r,Z6 zc (T/16) r true 0
def trC (a b c:Int) (p q r:Bool):List AV:=[.int .i64 a,.int .i64 b,.int .i64 c,.bool p,.bool q,.bool r]
theorem tr_0 (a b c:Int) (p q r:Bool):(trC a b c p q r)[0]?=some (.int .i64 a):=rfl
theorem tr_1 (a b c:Int) (p q r:Bool):(trC a b c p q r)[1]?=some (.int .i64 b):=rfl
theorem tr_2 (a b c:Int) (p q r:Bool):(trC a b c p q r)[2]?=some (.int .i64 c):=rfl
def HS (a b c:AV):List AV:=[a,b,c]
theorem WI (a b c:AV):(HS a b c)[0]?=some a:=rfl
theorem snap_1 (a b c:AV):(HS a b c)[1]?=some b:=rfl
theorem snap_2 (a b c:AV):(HS a b c)[2]?=some c:=rfl
theorem acO (a b c:AV):sub (HS a b c) 0 3=some (HS a b c):=by rw [pG]; rfl
theorem ln_0 (a b:Int):([AV.int .i64 a,.int .u64 b])[0]?=some (.int .i64 a):=rfl
theorem ln_1 (a b:Int):([AV.int .i64 a,.int .u64 b])[1]?=some (.int .u64 b):=rfl
structure ep (n:Nat) (h:Heap) (ps:List StZ) (v:AV) (A B C D:Nat→AV):Prop where
  sl:bK h v 5 ps.length fun i=>stC (A i) (B i) (ps.getD i default).whole (C i) (D i)
  st:∀ i,i<ps.length→eR n h (ps.getD i default) (A i) (B i) (C i) (D i)
theorem ep.grow {n:Nat} {h h':Heap} {ps:List StZ} {v:AV} {A B C D:Nat→AV} (s:ep n h ps v A B C D) (g:ba h h'):ep n h' ps v A B C D:=⟨bK.grow s.sl g,fun i hi=>(s.st i hi).grow g⟩
structure d0 (n:Nat) (h:Heap) (v:AV) (M:Nat) (S T:Nat→Int):Prop where
  sl:bK h v 2 M fun i=>[.int .i64 (S i),.int .u64 (T i)]
  lm:M<n
  lo:∀ i,i<M→0≤T i
theorem d0.grow {n:Nat} {h h':Heap} {v:AV} {M:Nat} {S T:Nat→Int} (s:d0 n h v M S T) (g:ba h h'):d0 n h' v M S T:=⟨bK.grow s.sl g,s.lm,s.lo⟩
def dS (n:Nat) (h:Heap) (v:AV):Prop:=∃ (m:Nat) (a b c:Nat→Int) (p q r:Nat→Bool),m<n∧bK h v 6 m fun i=>trC (a i) (b i) (c i) (p i) (q i) (r i)
theorem dS.grow {n:Nat} {h h':Heap} {v:AV} (s:dS n h v) (g:ba h h'):dS n h' v:=by
  obtain ⟨m,a,b,c,p,q,r,h1,h2⟩:=s
  exact ⟨m,a,b,c,p,q,r,h1,bK.grow h2 g⟩
theorem v_cached {n:Nat} {zc:bA} (hn:dt n zc) (hm:uP zc=true) {h:Heap} (hro:h.ro≤h.nx) {c:List AV} (hc:Cfg h zc c) {ps:List StZ} {vp vl vt:AV} {A B C D:Nat→AV} (hs:ep n h ps vp A B C D) (hlen:ps.length=zc.parts.length) {M:Nat} {S T:Nat→Int} (hl:d0 n h vl M S T) (hv:dS n h vt) :
    aR (be n (.agg c) (.agg (HS vp vl vt)) h) fun r h'=>ba h h'∧(r=true→∀ i,i<M→ad8 zc (S i) (T i)):=by
  unfold be Jc Cs
  obtain ⟨t,pp,rfl,ht,hp⟩:=hc
  refine aR.bind (mr ..) ?_
  rintro w h1 ⟨hw,g1⟩
  refine aR.bind (mr ..) ?_
  rintro x h2 ⟨hx,g2⟩
  have g02:=g1.trans g2
  have hw2:=g2.cl hw
  simp only [aD,gU hx,snap_1,bK.len hl.sl]
  obtain ⟨hfr,hco⟩:=Z7 hm
  have hfr':=hfr
  have hco':=hco
  simp [ji] at hfr' hco'
  have hp8:zc.parts.length≤8:=by
    simp only [uP,fW] at hm
    have h1:=hm.1
    simp only [nQ,fW] at h1
    obtain ⟨_,_,_,_,_,_,_,m8⟩:=h1
    simp [ji] at m8; omega
  have trs:∀ h3,ba h2 h3→aR (fun k=>sH n (aV n) (bs n) (cw n) (cv n) k (.ptr w 0) (.ptr x 0) h3) fun _ h'=>ba h h':=by
    intro h3 g3
    unfold sH
    obtain ⟨m,a,b,c,p,q,r,hm2,hv⟩:=hv
    simp only [aD,gU (g3.cl hx),snap_2,bK.len hv]
    have key:∀ (q2 i:Nat) (h4:Heap),ba h2 h4→i≤m→m-i<q2→aR (fun k=>oT n (aV n) (bs n) (cw n) (cv n) k q2 (.ptr w 0) (.ptr x 0) vt (m:Int) (i:Int) h4) fun _ h'=>ba h h':=by
      intro q2
      induction q2 with
      | zero=>omega
      | succ q2 ih=>
        intro i h4 g4 hi hq
        have g04:=g02.trans g4
        simp only [ac3]
        unfold td ym
        refine aJ.ifB (fun e=>?_) fun e=>jT g04
        rw [kj,fY] at e
        have hlt:i<m:=by omega
        have hsm:=hv.1
        refine aJ.copy (hv.grow g04) (g04.le hro) hlt rfl rfl fun a1 b1 y d h5 hy g5=>?_
        have g25:=g4.trans g5
        have g05:=g02.trans g25
        have f3:∀ (b:Bool) (h6:Heap),ba h2 h6→aR (fun k=>rc n (aV n) (bs n) (cw n) (cv n) k (oT n (aV n) (bs n) (cw n) (cv n) k q2) (.ptr w 0) (.ptr x 0) vt (m:Int) (i:Int) b h6) fun _ h'=>ba h h':=by
          intro b h6 g6
          unfold rc
          refine aJ.ifB (fun _=>jT (g02.trans g6)) fun _=>?_
          simp only [aD,js (show i≤9223372036854775806 by omega)]
          exact ih (i+1) h6 g6 (by omega) (by omega)
        obtain ⟨_,S',hs',_⟩:=hp.grow g05
        have t2:aR (fun k=>pb n (aV n) (bs n) (cw n) (cv n) k (oT n (aV n) (bs n) (cw n) (cv n) k q2) (.ptr w 0) (.ptr x 0) (.ptr y 0) vt (m:Int) (i:Int) true h5) fun _ h'=>ba h h':=by
          unfold pb
          exact f3 true h5 g25
        simp only [aD,gU hy,tr_0]
        refine aJ.ifB (fun _=>t2) fun ea=>?_
        rw [ga] at ea
        have w1:IntKind.i64.wrap (16*(zc.parts.length:Int))=16*zc.parts.length:=ot (by omega) (by omega)
        simp only [aD,gU (g25.cl hw2),bC,hs'.len,w1]
        unfold pb
        refine aJ.ifB (fun _=>f3 true h5 g25) fun eb=>?_
        have eb':a i<16*zc.parts.length:=by simpa using eb
        obtain ⟨aN,hd⟩:∃ aN:Nat,a i/16=aN:=⟨(a i/16).toNat,by omega⟩
        have e1:(a i).tdiv 16=a i/16:=Int.tdiv_eq_ediv_of_nonneg (by omega)
        have w2:IntKind.i64.wrap (aN:Int)=aN:=ot (by omega) (by omega)
        have hal:aN<ps.length:=by omega
        obtain ⟨aA,hA⟩:=bK.fA (hs.grow g05).sl (i:=aN) (j:=0) hal (by omega) (st_0 ..)
        simp only [aD,gU (g25.cl hx),WI,gU hy,tr_0,tr_2,abt (show (16:Int)≠0 by decide),e1,hd,w2,hA]
        have hst:=(hs.grow g05).st aN hal
        refine aR.bind (v_has (g05.le hro) hst.own hst.om (c i) 2) ?_
        rintro r6 h6 g6
        exact f3 _ h6 (g25.trans g6)
    exact key n 0 h3 g3 (by omega) (by omega)
  have hlm:=hl.lm
  have key:∀ (q i:Nat) (h3:Heap),ba h2 h3→(∀ j,j<i→ad8 zc (S j) (T j))→i≤M→M-i<q→aR (fun k=>qT n (aV n) (bs n) (cw n) (cv n) k q (.ptr w 0) (.ptr x 0) vl (M:Int) (i:Int) h3) fun r h'=>ba h h'∧(r=true→∀ i,i<M→ad8 zc (S i) (T i)):=by
    intro q
    induction q with
    | zero=>omega
    | succ q ih=>
      intro i h3 g3 hok hi hq
      have g03:=g02.trans g3
      simp only [adR]
      unfold sZ
      refine aJ.ifB (fun e=>?_) fun e=>?_
      · rw [kj,fY] at e
        have hlt:i<M:=by omega
        have hsm:=hl.sl.1
        refine aJ.copy (bK.grow hl.sl g03) (g03.le hro) hlt rfl rfl fun a1 b1 y d h4 hy g4=>?_
        have g24:=g3.trans g4
        have g04:=g02.trans g24
        have f6:∀ (b:Bool) (h5:Heap),ba h2 h5→(b=false→ad8 zc (S i) (T i))→aR (fun k=>qV n (aV n) (bs n) (cw n) (cv n) k (qT n (aV n) (bs n) (cw n) (cv n) k q) (.ptr w 0) (.ptr x 0) vl (M:Int) (i:Int) b h5) fun r h'=>ba h h'∧(r=true→∀ i,i<M→ad8 zc (S i) (T i)):=by
          intro b h5 g5 hb
          unfold qV
          refine aJ.ifB (fun _=>jT ⟨g02.trans g5,fun h=>nomatch h⟩) fun eb=>?_
          simp only [aD,js (show i≤9223372036854775806 by omega)]
          refine ih (i+1) h5 g5 (fun j hj=>?_) (by omega) (by omega)
          by_cases hji:j=i
          · subst hji; exact hb eb
          · exact hok j (by omega)
        have hT0:=hl.lo i hlt
        have w1:IntKind.u64.wrap (IntKind.i64.wrap (zc.frames*16))=zc.frames*16:=by rw [ot (by omega) (by omega),amb (by omega) (by omega)]
        simp only [aD,gU hy,ln_1,gU (g24.cl hw2),bC,w1]
        refine aJ.ifB (fun _=>jT ⟨g04,fun h=>nomatch h⟩) fun eT=>?_
        have eT':T i<zc.frames*16:=by simpa using eT
        have w2:IntKind.u64.wrap (T i*16)=T i*16:=amb (by omega) (by omega)
        obtain ⟨r,hr⟩:=u_AFrame n (a:=T i*16) (by omega) (by omega) h4
        have t0:(!((0:Int)==0))=false:=rfl
        have d1:T i*16/256=T i/16:=by omega
        have d2:T i*16%256/16=T i%16:=by omega
        simp only [aD,gU hy,ln_1,gU (g24.cl hw2),bC,w2,u_CSet n hco (show 0≤T i*16 by omega) (show T i*16<1048576 by omega),hr,t0]
        unfold uf
        simp only [aD,gU hy,ln_0]
        unfold tg
        refine aJ.ifB (fun _=>jT ⟨g04,fun h=>nomatch h⟩) fun eS=>?_
        have eS':T i*16/256%zc.eZ*16+T i*16%256/16=S i:=by simpa using eS
        simp only [aD,gU (g24.cl hw2),bC]
        refine Run3.bind (aif hn (g04.le hro) (Cfg.mk' (ht.grow g04) (hp.grow g04)) _) ?_
        rintro r s e5 h5 ⟨g5,ho⟩
        refine aJ.ifB (fun _=>f6 true h5 (g24.trans g5) fun h=>nomatch h) fun ee=>f6 _ h5 (g24.trans g5) fun es=>?_
        have ee':e5=0:=by simpa using ee
        have es':s=true:=by simpa using es
        subst ee' es'
        rw [d1] at ho
        exact ⟨eT',by rw [← eS',d1,d2],r,ho⟩
      · rw [kj,ga] at e
        refine aJ.mono (trs h3 g3) ?_
        rintro ⟨r,h'⟩ g'
        exact ⟨g',fun _ j hj=>hok j (by omega)⟩
  exact key n 0 h2 .refl (fun j hj=>by omega) (by omega) (by omega)
end Go.Proofs.YtpoobhhdgjgdgaaGreat.Sh
/- Faults that are told; what was seen, beside them. -/
namespace Go.Proofs.YtpoobhhdgjgdgaaGreat.Sh
open Go.Ai
def Flt (h0 h:Heap) (y:Nat) (fs:List (Int × Int)):Prop:=∃ v,Own h y [v] 0∧App h v 2 fs.length (prC fs)∧h0.nx≤y∧∀ b,v.blk=some b→b≠y∧h0.nx≤b
theorem Flt.grow {h0 h h':Heap} {y:Nat} {fs:List (Int × Int)} (f:Flt h0 h y fs) (g:ba h h'):Flt h0 h' y fs:=by
  obtain ⟨v,h1,h2,h3,h4⟩:=f
  exact ⟨v,h1.grow g,h2.grow g,h3,h4⟩
theorem aq0 {h:Heap} {v:AV} {sz L:Nat} {l:List AV} (a:App h v sz L l) {b:Nat} (hb:v.blk=some b):Own h b l sz:=by
  rcases a with ⟨rfl,_,_⟩ | ⟨c,rfl,o,_,_⟩
  · cases hb
  · cases hb; exact o
theorem aJ.copyO {K R:Type} {ap:K→R→aa} {Q:R→Prop} {h:Heap} {v:AV} {sz n:Nat} {f:Nat→List AV} (s:bK h v sz n f) (hro:h.ro≤h.nx) {i:Nat} (hi:i<n) {z:List AV} (hz:z.length=sz) (hf:(f i).length=sz) {G:K→AV→AV→Nat→Heap→Heap→aa}
    (H:∀ a b c d e,Own e c (f i) 0→ba h e→aJ ap (fun k=>G k a b c d e) Q) :
    aJ ap (fun k=>eld sz h v (i:Int) sz true fun a b=>lG h (.cells z true 0) fun c d=>jh d (.ptr c 0) sz b fun e=>G k a b c d e) Q:=by
  simp only [s.eld (fQ i) (by omega),ge]
  refine aR.bind (DN hro z 0) ?_
  rintro c d ⟨hc,o,g⟩
  refine dy.bind (XC o (cs:=f i) hf (by omega)) ?_
  intro e p
  rw [Oh _ _ (by rw [hf,hz])] at p
  exact H _ _ c d e p.own (p.grow g hc)
def an4 (h:Heap) (c:Nat):Prop:=∃ l g,h.get c=some (.cells l true g)∧((∃ v,l = [v]∧∀ m,v≠.map m)∨g=2)
theorem own_flt {h h':Heap} {c:Nat} {l:List AV} (o:Own h c l 0) (hl:l.length=5) (g:Chg (an4 h) h h'):Own h' c l 0:=by
  refine g.own o fun ⟨l',q,h1,h2⟩=>?_
  have:=o.get.symm.trans h1
  simp only [Option.some.injEq,Blk.cells.injEq] at this
  obtain ⟨rfl,_,rfl⟩:=this
  rcases h2 with ⟨v,rfl,_⟩ | h2
  · simp at hl
  · cases h2
theorem cr.flt {κ:Type} [DecidableEq κ] {em:κ→AV} {h0 h h':Heap} {c m:Nat} {f:κ→Int} (s:cr em h0 h c m f) (g:Chg (an4 h) h h'):cr em h0 h' c m f:=by
  refine s.chg g (fun ⟨l,q,h1,h2⟩=>?_) fun ⟨l,q,h1,_⟩=>?_
  · have:=s.own.get.symm.trans h1
    simp only [Option.some.injEq,Blk.cells.injEq] at this
    obtain ⟨rfl,_,rfl⟩:=this
    rcases h2 with ⟨v,e,h2⟩ | h2
    · injection e with e _
      exact h2 m e.symm
    · cases h2
  · obtain ⟨kv,a,_⟩:=s.map
    have:=a.get.symm.trans h1
    cases this
theorem Flt.seen {κ:Type} [DecidableEq κ] {em:κ→AV} {h0 h1 h h':Heap} {c m y:Nat} {f:κ→Int} {fs:List (Int × Int)} (s:cr em h1 h c m f) (x:Flt h0 h y fs) (g:Chg (· = m) h h'):Flt h0 h' y fs:=by
  obtain ⟨v,h1,h2,h3,h4⟩:=x
  exact ⟨v,g.own h1 fun e=>s.ne h1 e.symm,h2.chg g fun b hb e=>s.ne (aq0 h2 hb) e.symm,h3,h4⟩
def fl (b:Bool) (c a:Int):List (Int × Int):=if b then [(c,a)] else []
theorem abh {n:Nat} {h0 h:Heap} {y:Nat} {fs:List (Int × Int)} (hro:h.ro≤h.nx) (g:ba h0 h) (f:Flt h0 h y fs) (hL:fs.length<1000) (b:Bool) (e at_:Int) :
    dy (aQ n b e at_ (.ptr y 0) h) fun h'=>Flt h0 h' y (fs++fl b e at_)∧ba h0 h'∧Chg (an4 h) h h':=by
  unfold aQ DS yC
  refine aJ.ifB (fun e1=>?_) fun e1=>?_
  · subst e1
    obtain ⟨v,ho,ha,hx,hb⟩:=f
    simp only [aD,gU ho.cl,any_0,aqh]
    refine aR.bind (D3 (fun k=>by rfl)) ?_
    rintro _ h1 ⟨rfl,hc,g1⟩
    refine aR.bind (VQ (g1.le hro) (ha.grow g1) (by omega) hc (new:=[.int .i64 e,.int .i64 at_]) (by rw [pG]; rfl) (by omega)) ?_
    rintro v' h2 ⟨a2,b2,c2⟩
    have ho1:=ho.grow g1
    have ho2:=c2.own ho1 fun e=>(hb y e).1 rfl
    refine dy.bind (vT ho2 (by simp) (by rcases a2 with ⟨rfl,h3,_⟩ | ⟨b,rfl,_⟩<;>rfl)) ?_
    intro h3 p3
    have n1:=ho.lt
    have n2:=g1.nx
    have hcell:∀ m,v≠.map m:=by
      rintro m rfl
      rcases ha with ⟨h,_,_⟩ | ⟨_,h,_⟩<;>cases h
    have q:Chg (an4 h) h h3:=by
      refine ⟨gb n2 (gb c2.nx p3.chg.nx),by rw [p3.ro,c2.ro,g1.ro],fun c hc hf=>?_⟩
      have hcy:c≠y:=fun e=>hf (e▸⟨_,_,ho.get,.inl ⟨v,rfl,hcell⟩⟩)
      have hcv:¬ v.blk=some c:=fun e=>hf ⟨_,_,(aq0 ha e).get,(.inr rfl)⟩
      rw [p3.other c hcy,c2.old c (by omega) hcv,g1.old c hc]
    have hpc:prC (fs++fl true e at_)=prC fs++[.int .i64 e,.int .i64 at_]:=by rw [aah]; rfl
    have hlen:(fs++fl true e at_).length=fs.length+1:=by simp [fl]
    refine ret0 ⟨⟨v',p3.own,?_,hx,fun b hb'=>?_⟩,?_,q⟩
    · rw [hpc,hlen]
      exact a2.chg p3.chg fun b hb'=>by rw [b2] at hb'; cases hb'; omega
    · rw [b2] at hb'
      cases hb'
      have:=g.nx
      exact ⟨by omega,by omega⟩
    · exact p3.grow (c2.grow (g.trans g1) fun b hb'=>(hb b hb').2) hx
  · subst e1
    refine ret0 ⟨?_,g,(ba.refl).chg _⟩
    rw [show fl false e at_ = [] from rfl,List.append_nil]
    exact f
structure AS (h0 h:Heap) (y:Nat) (fs:List (Int × Int)) (c1 m1:Nat) (f1:Int→Int) (c2 m2:Nat) (f2:Int→Int) (s:Nat) (L:List AV):Prop where
  g:ba h0 h
  fl:Flt h0 h y fs
  s1:cr emI h0 h c1 m1 f1
  s2:cr emI h0 h c2 m2 f2
  ne:m1≠m2
  own:Own h s L 0
  len:L.length=5
section
variable {h0 h h':Heap} {y:Nat} {fs fs':List (Int × Int)} {c1 m1:Nat} {f1 f1':Int→Int} {c2 m2:Nat} {f2 f2':Int→Int} {s:Nat} {L:List AV} (a:AS h0 h y fs c1 m1 f1 c2 m2 f2 s L)
include a
theorem AS.grow (g:ba h h'):AS h0 h' y fs c1 m1 f1 c2 m2 f2 s L:=
  ⟨a.g.trans g,a.fl.grow g,a.s1.grow g,a.s2.grow g,a.ne,(g.chg fun _=>False).own a.own fun h=>h,a.len⟩
theorem AS.see1 (s1:cr emI h0 h' c1 m1 f1') (g:Chg (· = m1) h h'):AS h0 h' y fs c1 m1 f1' c2 m2 f2 s L:=
  ⟨g.grow a.g fun b hb=>hb▸a.s1.lowm,a.fl.seen a.s1 g,s1,a.s2.other a.s1 a.ne.symm g,a.ne,g.own a.own fun e=>a.s1.ne a.own e.symm,a.len⟩
theorem AS.see2 (s2:cr emI h0 h' c2 m2 f2') (g:Chg (· = m2) h h'):AS h0 h' y fs c1 m1 f1 c2 m2 f2' s L:=
  ⟨g.grow a.g fun b hb=>hb▸a.s2.lowm,a.fl.seen a.s2 g,a.s1.other a.s2 a.ne g,s2,a.ne,g.own a.own fun e=>a.s2.ne a.own e.symm,a.len⟩
theorem AS.see3 {c3 m3:Nat} {f3:Int→Int} (s3:cr emI h0 h c3 m3 f3) (n1:m3≠m1) (n2:m3≠m2) (g:Chg (· = m3) h h'):AS h0 h' y fs c1 m1 f1 c2 m2 f2 s L:=
  ⟨g.grow a.g fun b hb=>hb▸s3.lowm,a.fl.seen s3 g,a.s1.other s3 n1.symm g,a.s2.other s3 n2.symm g,a.ne,g.own a.own fun e=>s3.ne a.own e.symm,a.len⟩
theorem AS.fault (x:Flt h0 h' y fs') (g:ba h0 h') (q:Chg (an4 h) h h'):AS h0 h' y fs' c1 m1 f1 c2 m2 f2 s L:=
  ⟨g,x,a.s1.flt q,a.s2.flt q,a.ne,own_flt a.own a.len q,a.len⟩
end
def Xh (f:Int→Int):List Int→Int→Int
  | []=>f
  | a::t=>Xh (U6 f a) t
def dupS (f:Int→Int):List Int→Bool
  | []=>false
  | a::t=>aeG f a||dupS (U6 f a) t
def WY (F:Nat→Int) (m i:Nat):List Int:=(List.range' i (m-i)).map F
theorem arS {F:Nat→Int} {m i:Nat} (h:i<m):WY F m i=F i::WY F m (i+1):=by
  unfold WY
  rw [show m-i=(m-(i+1))+1 by omega,List.range'_succ]; rfl
theorem apA (F:Nat→Int) (m:Nat):WY F m m = []:=by simp [WY]
end Go.Proofs.YtpoobhhdgjgdgaaGreat.Sh
