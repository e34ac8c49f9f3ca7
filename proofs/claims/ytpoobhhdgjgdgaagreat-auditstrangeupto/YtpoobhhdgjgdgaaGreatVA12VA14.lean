/- Whether a partition's frames add up: all of it. -/
import Derived.Test.YtpoobhhdgjgdgaaGreatVA9VA11
set_option linter.all false
namespace Go.Proofs.YtpoobhhdgjgdgaaGreat.Sh
open Go.Ai
theorem am7 {n:Nat} {zc:bA} (hn:dm n zc) (hn':1100<n) {h0:Heap} (hro:h0.ro≤h0.nx) {t pp:AV} (ht:cK h0 .i64 t zc.fh) (hp:di h0 pp zc.parts) {w:Nat} (hw:h0.cl w (qr zc t pp)) (p:Int) {y:Nat} {c:Nat→Int} (hy:h0.cl y (JK 7 c)) {z:StZ} {va vb vc vd:AV} (hst:eM n h0 z va vb vc vd) {x:Nat} (hx:h0.cl x (stC va vb z.whole vc vd)) (b:Bool) :
    aM (fun k=>ue n (bN n) (bF n) (bQ n) (bM n) k p (.ptr w 0) (.ptr x 0) (.ptr y 0) b h0) fun r h'=>aY h0 h'∧(r=true→b=false):=by
  unfold ue
  refine aH.ifB (fun e=>?_) fun e=>?_
  · subst e
    exact aH.mono (anx hn hn' hro ht hp hw p hy hst hx true) fun r h=>⟨h.1,fun h2=>nomatch h.2 h2⟩
  · have i1:∀ K,Iv 1 7 (.ptr y 0) 1 K=K (.ptr y (0+1)):=fun K=>QD (n:=7) (k:=1) (by omega) K
    simp only [aB,gS hx,st_2,st_0,bI.len hst.own,i1,gS hy,CL c (show 1<7 by omega)]
    exact aH.mono (anx hn hn' hro ht hp hw p hy hst hx _) fun r h=>⟨h.1,fun _=>e⟩
theorem v_sums_7 {n:Nat} {zc:bA} (hn:dm n zc) (hn':1100<n) {h0:Heap} (hro:h0.ro≤h0.nx) {t pp:AV} (ht:cK h0 .i64 t zc.fh) (hp:di h0 pp zc.parts) {w:Nat} (hw:h0.cl w (qr zc t pp)) (p:Int) {y:Nat} {c:Nat→Int} (hy:h0.cl y (JK 7 c)) {z:StZ} {va vb vc vd:AV} (hst:eM n h0 z va vb vc vd) {x:Nat} (hx:h0.cl x (stC va vb z.whole vc vd)) (kn:Bool) {u:Nat} {d:Nat→Int} (hu:h0.cl u (JK 7 d)) :
    ∀ (q i:Nat),i≤7→7-i<q→aM (fun k=>xL n (bN n) (bF n) (bQ n) (bM n) k q p (.ptr w 0) (.ptr x 0) (.ptr y 0) kn (.ptr u 0) (i:Int) h0) fun r h'=>aY h0 h'∧(r=true→kn=true):=by
  intro q
  induction q with
  | zero=>omega
  | succ q ih=>
    intro i hi hq
    simp only [aiO]
    unfold xx CE
    refine aH.ifB (fun e=>?_) fun e=>?_
    · rw [kg,fX] at e
      have hlt:i<7:=by omega
      have iy:∀ K,Iv 1 7 (.ptr y 0) (i:Int) K=K (.ptr y (0+i)):=fun K=>QD (n:=7) (k:=i) hlt K
      have iu:∀ K,Iv 1 7 (.ptr u 0) (i:Int) K=K (.ptr u (0+i)):=fun K=>QD (n:=7) (k:=i) hlt K
      simp only [aB,iy,iu,gS hy,gS hu,CL c hlt,CL d hlt,jq (show i≤9223372036854775806 by omega)]
      exact aH.ifB (fun _=>jL ⟨.refl,fun h=>nomatch h⟩) fun _=>ih (i+1) (by omega) (by omega)
    · refine aH.ifB (fun ek=>?_) fun ek=>?_
      · exact aH.mono (am7 hn hn' hro ht hp hw p hy hst hx true) fun r h=>⟨h.1,fun h2=>nomatch h.2 h2⟩
      · have i1:∀ K,Iv 1 7 (.ptr y 0) 1 K=K (.ptr y (0+1)):=fun K=>QD (n:=7) (k:=1) (by omega) K
        have j1:∀ K,Iv 1 7 (.ptr u 0) 1 K=K (.ptr u (0+1)):=fun K=>QD (n:=7) (k:=1) (by omega) K
        simp only [aB,i1,j1,gS hy,gS hu,CL c (show 1<7 by omega),CL d (show 1<7 by omega)]
        refine aH.mono (am7 hn hn' hro ht hp hw p hy hst hx _) fun r h=>⟨h.1,fun _=>?_⟩
        simpa using ek
theorem v_sums_8 {n:Nat} {zc:bA} (hn:dm n zc) (hn':1100<n) {h0:Heap} (hro:h0.ro≤h0.nx) {t pp:AV} (ht:cK h0 .i64 t zc.fh) (hp:di h0 pp zc.parts) {w:Nat} (hw:h0.cl w (qr zc t pp)) (p:Int) {z:StZ} {va vb vc vd:AV} (hst:eM n h0 z va vb vc vd) {x:Nat} (hx:h0.cl x (stC va vb z.whole vc vd)) {l:Nat} {pz:cU} {s:AV} (hl:h0.cl l (tJ pz s)) (ho:0≤pz.order) :
    aM (fun k=>xK n (bN n) (bF n) (bQ n) (bM n) k p (.ptr w 0) (.ptr x 0) (.ptr l 0) h0) fun r h'=>aY h0 h'∧(r=true→aeJ z.U z.m):=by
  unfold xK
  simp only [aB,gS hx,st_0]
  refine dr.bind (v_counts hro hst.own hst.om) ?_
  rintro _ kn h1 ⟨g1,hk,c,rfl,hc⟩
  refine aM.bind (G1 (n:=7) (g1.le hro) (by rfl) (Cu ..)) ?_
  rintro y h2 ⟨hy,oy,g2⟩
  have g02:=g1.trans g2
  have bq:∀ (a b c d e f:Int) (K:AV→aa),kM [(.int .i64 0),(.int .i64 0),(.int .i64 0),(.int .i64 0),(.int .i64 0),(.int .i64 0),(.int .i64 0)] [(1,1,(.int .i64 a)),(2,1,(.int .i64 b)),(3,1,(.int .i64 c)),(4,1,(.int .i64 d)),(5,1,(.int .i64 e)),(6,1,(.int .i64 f))] K=K (.agg (JK 7 fun u=>[0,a,b,c,d,e,f].getD u 0)):=fun a b c d e f K=>rfl
  simp only [aB,gS (g02.cl hl),bC,abl ho,bq]
  refine aM.bind (G1 (n:=7) (g02.le hro) (by rfl) (Cu ..)) ?_
  rintro u h3 ⟨hu,ou,g3⟩
  have g03:=g02.trans g3
  refine aH.mono (v_sums_7 hn hn' (g03.le hro) (ht.grow g03) (hp.grow g03) (g03.cl hw) p (g3.cl oy.cl) (hst.grow g03) (g03.cl hx) kn ou.cl n 0 (by omega) (by omega)) ?_
  rintro r ⟨h1,h2⟩
  exact ⟨g03.trans h1,fun h=>hk.1 (h2 h)⟩
def nOf (P:Nat→Bool):Nat→Int
  | 0=>0
  | i+1=>nOf P i+if P i then 1 else 0
theorem apn (P:Nat→Bool):∀ i,0≤nOf P i∧nOf P i≤i
  | 0=>by simp [nOf]
  | i+1=>by
    have:=apn P i
    simp only [nOf]
    split<;>omega
def Yt (zc:bA) (F:Nat→Int) (c:Int) (k:Nat):Bool:=decide (0≤F k∧F k<zc.frames∧F k%zc.eY=c)
def aoZ (zc:bA) (eZ:List Int) (z:StZ) (i:Nat):Prop:=0≤nz z.free i∧nz z.free i=zc.frames/zc.eY-nOf (Yt zc z.F (nz eZ i)) z.m
structure SumsOk (zc:bA) (p:Nat) (z:StZ):Prop where
  len:z.free.length=(jH zc p).eZ.length
  use:aeJ z.U z.m
  free:∀ i,i<z.free.length→aoZ zc (jH zc p).eZ z i
theorem v_sums_9 {n:Nat} {zc:bA} (hn:dm n zc) (hn':1100<n) {h0:Heap} (hro:h0.ro≤h0.nx) {t pp:AV} (ht:cK h0 .i64 t zc.fh) (hp:di h0 pp zc.parts) {w:Nat} (hw:h0.cl w (qr zc t pp)) {p:Nat} (po:PartOk zc p) (qo:QuotaOk zc p) {z:StZ} {va vb vc vd:AV} (hst:eM n h0 z va vb vc vd) {x:Nat} (hx:h0.cl x (stC va vb z.whole vc vd)) {l:Nat} {s:AV} (hl:h0.cl l (tJ (jH zc p) s)) (hs:cK h0 .i64 s (jH zc p).eZ) (hlen:z.free.length=(jH zc p).eZ.length) {e:Nat} {E:Nat→Int} (he:h0.cl e (JK 16 E)) (hE:∀ c:Nat,c<16→E c=nOf (Yt zc z.F c) z.m) :
    ∀ (q i:Nat),(∀ j,j<i→aoZ zc (jH zc p).eZ z j)→i≤(jH zc p).eZ.length→(jH zc p).eZ.length-i<q→aM (fun k=>tC n (bN n) (bF n) (bQ n) (bM n) k q (p:Int) (.ptr w 0) (.ptr x 0) (.ptr l 0) (.ptr e 0) s ((jH zc p).eZ.length:Int) (i:Int) h0) fun r h'=>aY h0 h'∧(r=true→SumsOk zc p z):=by
  intro q
  induction q with
  | zero=>omega
  | succ q ih=>
    intro i hok hi hq
    simp only [aiY]
    unfold xC
    refine aH.ifB (fun e1=>?_) fun e1=>?_
    · rw [kg,fX] at e1
      have hlt:i<(jH zc p).eZ.length:=by omega
      have f10:∀ b:Bool,(b=false→aoZ zc (jH zc p).eZ z i)→aM (fun k=>rI n (bN n) (bF n) (bQ n) (bM n) k (tC n (bN n) (bF n) (bQ n) (bM n) k q) (p:Int) (.ptr w 0) (.ptr x 0) (.ptr l 0) (.ptr e 0) s ((jH zc p).eZ.length:Int) (i:Int) b h0) fun r h'=>aY h0 h'∧(r=true→SumsOk zc p z):=by
        intro b hb
        unfold rI
        refine aH.ifB (fun _=>jL ⟨.refl,fun h=>nomatch h⟩) fun eb=>?_
        have:=po.few
        simp only [aB,jq (show i≤9223372036854775806 by omega)]
        refine ih (i+1) (fun j hj=>?_) (by omega) (by omega)
        by_cases hji:j=i
        · subst hji; exact hb eb
        · exact hok j (by omega)
      have hco:=po.co
      simp [jd] at hco
      have hcol:=po.col (nz (jH zc p).eZ i) (by rw [LH hlt]; exact gn hlt)
      obtain ⟨c,hc⟩:∃ c:Nat,nz (jH zc p).eZ i=c:=⟨(nz (jH zc p).eZ i).toNat,by omega⟩
      have hc16:c<16:=by omega
      have ie:∀ K,Iv 1 16 (.ptr e 0) (c:Int) K=K (.ptr e (0+c)):=fun K=>QD (n:=16) (k:=c) hc16 K
      obtain ⟨q1,q2,q3⟩:=ap8 po.fr po.co
      have hEc:=hE c hc16
      have hnl:=apn (Yt zc z.F c) z.m
      have hbig:=hst.big
      have w1:IntKind.i64.wrap (zc.frames.tdiv zc.eY)=zc.frames/zc.eY:=q1
      have w2:IntKind.i64.wrap (zc.frames/zc.eY-E c)=zc.frames/zc.eY-E c:=m9 (by omega) (by omega)
      have efr:∀ K,Xg .i64 1 h0 vb (i:Int) K=K (elP vb 1 (i:Int)) (nz z.free i):=fun K=>by
        rw [hst.free.el (show (0:Int)≤(i:Int) by omega) (by omega),gd]
      have eco:∀ K,Xg .i64 1 h0 s (i:Int) K=K (elP s 1 (i:Int)) (c:Int):=fun K=>by
        rw [hs.el (show (0:Int)≤(i:Int) by omega) (by omega),gd,hc]
      simp only [aB,eco,gS hx,st_1,efr]
      refine aH.ifB (fun _=>f10 true fun h=>nomatch h) fun e2=>?_
      rw [f8] at e2
      simp only [aB,gS hx,st_1,efr,gS hw,bC,abw (show zc.eY≠0 by omega),ie,gS he,CL E hc16,w1,w2]
      refine f10 _ fun e3=>⟨by omega,?_⟩
      rw [hc, ← hEc]
      simpa using e3
    · rw [kg,f8] at e1
      refine aH.mono (v_sums_8 hn hn' hro ht hp hw p hst hx hl qo.ord.1) ?_
      rintro r ⟨h1,h2⟩
      exact ⟨h1,fun h=>⟨hlen,h2 h,fun j hj=>hok j (by omega)⟩⟩
theorem v_sums {n:Nat} {zc:bA} (hn:dm n zc) (hn':1100<n) (hm:uD zc=true) {h:Heap} (hro:h.ro≤h.nx) {c:List AV} (hc:Cfg h zc c) {p:Nat} (hpl:p<zc.parts.length) {z:StZ} {va vb vc vd:AV} (hst:eM n h z va vb vc vd) :
    aM (bh n (.agg c) (.agg (stC va vb z.whole vc vd)) (p:Int) h) fun r h'=>aY h h'∧(r=true→SumsOk zc p z):=by
  unfold bh P6 HM
  have po:=aoy hm hpl
  have qo:=aoL hm po
  obtain ⟨t,pp,rfl,ht,hp⟩:=hc
  refine aM.bind (m7 ..) ?_
  rintro w h1 ⟨hw,g1⟩
  refine aM.bind (m7 ..) ?_
  rintro x h2 ⟨hx,g2⟩
  have g02:=g1.trans g2
  simp only [aB,gS (g2.cl hw),bC]
  have hp':=hp
  obtain ⟨hsh,S,hs,hS⟩:=hp
  refine aH.copy (hs.grow g02) (g02.le hro) hpl rfl rfl fun a b l d h3 hl g3=>?_
  rw [show zc.parts.getD p default=jH zc p from rfl] at hl
  have g03:=g02.trans g3
  have hcol:cK h3 .i64 (S p) (jH zc p).eZ:=(hS p hpl).grow g03
  simp only [aB,gS (g3.cl hx),st_1,hst.free.len,gS hl,bC,hcol.len]
  refine aH.ifB (fun _=>jL ⟨g03,fun h=>nomatch h⟩) fun el=>?_
  have hlen:z.free.length=(jH zc p).eZ.length:=by simp at el; omega
  refine aM.bind (DV (g03.le hro) _ 0) ?_
  rintro e h4 ⟨he,oe,g4⟩
  have g04:=g03.trans g4
  simp only [aB,gS ((g3.trans g4).cl hx),st_0,bI.len hst.own]
  have hco:=po.co
  have hfr:=po.fr
  have hco':=hco
  have hfr':=hfr
  simp [jd] at hco' hfr'
  have hbig:=hst.big
  have key:∀ (q i:Nat) (h5:Heap) (E:Nat→Int),aY h3 h5→Own h5 e (JK 16 E) 0→(∀ c:Nat,c<16→E c=nOf (Yt zc z.F c) i)→i≤z.m→z.m-i<q→
      aM (fun k=>qm n (bN n) (bF n) (bQ n) (bM n) k q (p:Int) (.ptr w 0) (.ptr x 0) (.ptr l 0) (.ptr e 0) va (z.m:Int) (i:Int) h5) fun r h'=>aY h h'∧(r=true→SumsOk zc p z):=by
    intro q
    induction q with
    | zero=>omega
    | succ q ih=>
      intro i h5 E g5 oe hE hi hq
      have g05:=g03.trans g5
      simp only [agx]
      unfold vF
      refine aH.ifB (fun e1=>?_) fun e1=>?_
      · rw [kg,fX] at e1
        have hlt:i<z.m:=by omega
        refine aH.copy (hst.own.grow g05) (g05.le hro) hlt rfl rfl fun a b y d h6 hy g6=>?_
        have g36:=g5.trans g6
        have oe6:Own h6 e (JK 16 E) 0:=(g6.chg fun _=>False).own oe fun h=>h
        have next:∀ (h7:Heap) (E':Nat→Int),aY h3 h7→Own h7 e (JK 16 E') 0→(∀ c:Nat,c<16→E' c=nOf (Yt zc z.F c) (i+1))→aM (fun k=>rN n (bN n) (bF n) (bQ n) (bM n) k (qm n (bN n) (bF n) (bQ n) (bM n) k q) (p:Int) (.ptr w 0) (.ptr x 0) (.ptr l 0) (.ptr e 0) va (z.m:Int) (i:Int) h7) fun r h'=>aY h h'∧(r=true→SumsOk zc p z):=by
          intro h7 E' g7 o7 hE'
          unfold rN
          simp only [aB,jq (show i≤9223372036854775806 by omega)]
          exact ih (i+1) h7 E' g7 o7 hE' (by omega) (by omega)
        have out:¬ (0≤z.F i∧z.F i<zc.frames)→∀ r:Int,aM (fun k=>pZ n (bN n) (bF n) (bQ n) (bM n) k (qm n (bN n) (bF n) (bQ n) (bM n) k q) (p:Int) (.ptr w 0) (.ptr x 0) (.ptr l 0) (.ptr e 0) r va (z.m:Int) (i:Int) false h6) fun r h'=>aY h h'∧(r=true→SumsOk zc p z):=by
          intro hno r
          unfold pZ
          refine next h6 E g36 oe6 fun c hc=>?_
          have:Yt zc z.F c i=false:=by
            unfold Yt
            rw [f8]
            exact fun h=>hno ⟨h.1,h.2.1⟩
          simp only [nOf,this,hE c hc]
          simp
        obtain ⟨r,er,q1,q2,q3⟩:=u_Of n (f:=z.F i) hco h6
        simp only [aB,gS hy,am3,gS ((g2.trans (g3.trans g36)).cl hw),bC,q1]
        cases hwi:jd (z.F i) 0 4095 with
        | false=>
          rw [q3 hwi]
          have t0:((2:Int)==0)=false:=by decide
          simp only [aB,t0]
          refine out (fun h=>?_) r
          simp [jd] at hwi
          omega
        | true=>
          obtain ⟨rfl,rfl⟩:=q2 hwi
          have t0:((0:Int)==0)=true:=by decide
          simp only [aB,t0,gS hy,am3,gS ((g2.trans (g3.trans g36)).cl hw),bC]
          simp [jd] at hwi
          by_cases hf:z.F i<zc.frames
          · rw [gj hf]
            have m1:0≤z.F i%zc.eY:=Int.emod_nonneg _ (by omega)
            have m2:z.F i%zc.eY<zc.eY:=Int.emod_lt_of_pos _ (by omega)
            obtain ⟨c,hc⟩:∃ c:Nat,z.F i%zc.eY=c:=⟨(z.F i%zc.eY).toNat,by omega⟩
            have hc16:c<16:=by omega
            have ie:∀ K,Iv 1 16 (.ptr e 0) (c:Int) K=K (.ptr e (0+c)):=fun K=>QD (n:=16) (k:=c) hc16 K
            have hnl:=apn (Yt zc z.F c) i
            have hEc:=hE c hc16
            unfold pZ
            simp only [aB,hc,ie,gS oe6.cl,CL E hc16,m9 (n:=E c+1) (by omega) (by omega)]
            refine dl.bind (sI oe6 (by rw [Cu]; exact hc16) rfl) ?_
            intro h7 pt
            rw [aqa] at pt
            refine next h7 _ (pt.grow g36 he) pt.own fun c' hc'=>?_
            have hin:Yt zc z.F c' i=decide (c'=c):=by
              unfold Yt
              rw [hc]
              by_cases hcc:c'=c
              · subst hcc; simp; omega
              · simp [hcc]; omega
            simp only [nOf,hin]
            by_cases hcc:c'=c
            · subst hcc; simp [hEc]
            · simp [hcc,hE c' hc']
          · rw [ge hf]
            exact out (fun h=>hf h.2) _
      · rw [kg,f8] at e1
        have:i=z.m:=by omega
        subst this
        unfold AE
        have hcol5:cK h5 .i64 (S p) (jH zc p).eZ:=hcol.grow g5
        simp only [aB,gS (g5.cl hl),bC,hcol5.len]
        refine aH.mono (v_sums_9 hn hn' (g05.le hro) (ht.grow g05) (hp'.grow g05) ((g2.trans (g3.trans g5)).cl hw) po qo (hst.grow g05) ((g3.trans g5).cl hx) (g5.cl hl) hcol5 hlen oe.cl hE n 0 (fun j hj=>by omega) (by omega) (by have:=po.few; omega)) ?_
        rintro r ⟨h1,h2⟩
        exact ⟨g05.trans h1,h2⟩
  exact key n 0 h4 (fun _=>0) g4 oe (fun c _=>rfl) (by omega) (by have:=hst.om; omega)
end Go.Proofs.YtpoobhhdgjgdgaaGreat.Sh
/- Lines and translations. -/
namespace Go.Proofs.YtpoobhhdgjgdgaaGreat.Sh
open Go.Ai
theorem u_CSet (n:Nat) {a c:Int} (hc:jd c 1 16=true) (h0:0≤a) (h1:a<1048576) (h:Heap) (k:aX):cv n a c h k=k (a/256%c*16+a%256/16) 0 h:=by
  unfold cv Qt HR
  have hc':=hc
  simp [jd] at hc'
  have t0:decide (a<1048576)=true:=gj h1
  have e1:a.tdiv 256=a/256:=Int.tdiv_eq_ediv_of_nonneg h0
  have e2:a.tmod 256=a%256:=Int.tmod_eq_emod_of_nonneg h0
  have m1:0≤a/256%c:=Int.emod_nonneg _ (by omega)
  have m2:a/256%c<c:=Int.emod_lt_of_pos _ (by omega)
  have e3:(a%256).tdiv 16=a%256/16:=Int.tdiv_eq_ediv_of_nonneg (by omega)
  have e4:(a/256).tmod c=a/256%c:=Int.tmod_eq_emod_of_nonneg (by omega)
  have w1:IntKind.u64.wrap (a/256)=a/256:=ahh (by omega) (by omega)
  have w2:IntKind.i64.wrap (a/256)=a/256:=m9 (by omega) (by omega)
  have w3:IntKind.u64.wrap (a%256/16)=a%256/16:=ahh (by omega) (by omega)
  have w4:IntKind.i64.wrap (a%256/16)=a%256/16:=m9 (by omega) (by omega)
  have w5:IntKind.i64.wrap (a/256%c*16)=a/256%c*16:=m9 (by omega) (by omega)
  have w6:IntKind.i64.wrap (a/256%c*16+a%256/16)=a/256%c*16+a%256/16:=m9 (by omega) (by omega)
  simp only [aB,aa9,hc,t0,Bool.not_true,abw (show (256:Int)≠0 by decide),abw (show (16:Int)≠0 by decide),PR (show (256:Int)≠0 by decide),PR (show c≠0 by omega),e1,e2,e3,e4,w1,w2,w3,w4,w5,w6]
theorem u_AFrame (n:Nat) {a:Int} (h0:0≤a) (h1:a<1048576) (h:Heap):∃ r,∀ k:cS,cu n a h k=k (a/256) r 0 h:=by
  unfold cu Qw H4
  obtain ⟨m,rfl⟩:=gi h0
  have s1:shrF .u64 (m:Int) (20:Int).toNat=0:=by
    rw [alQ]
    show (m:Int).fdiv (2^20)=0
    rw [Int.fdiv_eq_ediv_of_nonneg _ (by decide)]
    exact Int.ediv_eq_zero_of_lt h0 (by omega)
  have s2:shrF .u64 (m:Int) (8:Int).toNat=(m:Int)/256:=by
    rw [alQ]
    show (m:Int).fdiv (2^8)=_
    rw [Int.fdiv_eq_ediv_of_nonneg _ (by decide)]; rfl
  have w1:IntKind.i64.wrap ((m:Int)/256)=(m:Int)/256:=m9 (by omega) (by omega)
  have t0:(!((0:Int)==0))=false:=rfl
  refine ⟨IntKind.i64.wrap (IntKind.u64.wrap (BitVec.ofInt IntKind.u64.bits (m:Int) &&& BitVec.ofInt IntKind.u64.bits 255).toNat),fun k=>?_⟩
  simp only [aB,abG (show (0:Int)≤20 by decide),abG (show (0:Int)≤8 by decide),alr,s1,s2,w1,t0]
def eX (zc:bA) (S T:Int):Prop:=T<zc.frames*16∧S=T/16%zc.eY*16+T%16∧∃ r,Uv zc (T/16) r true 0
def trC (a b c:Int) (p q r:Bool):List AV:=[.int .i64 a,.int .i64 b,.int .i64 c,.bool p,.bool q,.bool r]
theorem tr_0 (a b c:Int) (p q r:Bool):(trC a b c p q r)[0]?=some (.int .i64 a):=rfl
theorem tr_1 (a b c:Int) (p q r:Bool):(trC a b c p q r)[1]?=some (.int .i64 b):=rfl
theorem tr_2 (a b c:Int) (p q r:Bool):(trC a b c p q r)[2]?=some (.int .i64 c):=rfl
def sq (a b c:AV):List AV:=[a,b,c]
theorem UB (a b c:AV):(sq a b c)[0]?=some a:=rfl
theorem aim (a b c:AV):(sq a b c)[1]?=some b:=rfl
theorem amv (a b c:AV):(sq a b c)[2]?=some c:=rfl
theorem ajq (a b c:AV):sub (sq a b c) 0 3=some (sq a b c):=by rw [nP]; rfl
theorem ln_0 (a b:Int):([AV.int .i64 a,.int .u64 b])[0]?=some (.int .i64 a):=rfl
theorem ln_1 (a b:Int):([AV.int .i64 a,.int .u64 b])[1]?=some (.int .u64 b):=rfl
structure dJ (n:Nat) (h:Heap) (ps:List StZ) (v:AV) (A B C D:Nat→AV):Prop where
  sl:bI h v 5 ps.length fun i=>stC (A i) (B i) (ps.getD i default).whole (C i) (D i)
  st:∀ i,i<ps.length→eM n h (ps.getD i default) (A i) (B i) (C i) (D i)
theorem dJ.grow {n:Nat} {h h':Heap} {ps:List StZ} {v:AV} {A B C D:Nat→AV} (s:dJ n h ps v A B C D) (g:aY h h'):dJ n h' ps v A B C D:=⟨bI.grow s.sl g,fun i hi=>(s.st i hi).grow g⟩
structure c8 (n:Nat) (h:Heap) (v:AV) (M:Nat) (S T:Nat→Int):Prop where
  sl:bI h v 2 M fun i=>[.int .i64 (S i),.int .u64 (T i)]
  lm:M<n
  lo:∀ i,i<M→0≤T i
theorem c8.grow {n:Nat} {h h':Heap} {v:AV} {M:Nat} {S T:Nat→Int} (s:c8 n h v M S T) (g:aY h h'):c8 n h' v M S T:=⟨bI.grow s.sl g,s.lm,s.lo⟩
def cT (n:Nat) (h:Heap) (v:AV):Prop:=∃ (m:Nat) (a b c:Nat→Int) (p q r:Nat→Bool),m<n∧bI h v 6 m fun i=>trC (a i) (b i) (c i) (p i) (q i) (r i)
theorem cT.grow {n:Nat} {h h':Heap} {v:AV} (s:cT n h v) (g:aY h h'):cT n h' v:=by
  obtain ⟨m,a,b,c,p,q,r,h1,h2⟩:=s
  exact ⟨m,a,b,c,p,q,r,h1,bI.grow h2 g⟩
theorem v_cached {n:Nat} {zc:bA} (hn:dm n zc) (hm:uD zc=true) {h:Heap} (hro:h.ro≤h.nx) {c:List AV} (hc:Cfg h zc c) {ps:List StZ} {vp vl vt:AV} {A B C D:Nat→AV} (hs:dJ n h ps vp A B C D) (hlen:ps.length=zc.parts.length) {M:Nat} {S T:Nat→Int} (hl:c8 n h vl M S T) (hv:cT n h vt) :
    aM (ba n (.agg c) (.agg (sq vp vl vt)) h) fun r h'=>aY h h'∧(r=true→∀ i,i<M→eX zc (S i) (T i)):=by
  unfold ba Jz CO
  obtain ⟨t,pp,rfl,ht,hp⟩:=hc
  refine aM.bind (m7 ..) ?_
  rintro w h1 ⟨hw,g1⟩
  refine aM.bind (m7 ..) ?_
  rintro x h2 ⟨hx,g2⟩
  have g02:=g1.trans g2
  have hw2:=g2.cl hw
  simp only [aB,gS hx,aim,bI.len hl.sl]
  obtain ⟨hfr,hco⟩:=Zn hm
  have hfr':=hfr
  have hco':=hco
  simp [jd] at hfr' hco'
  have hp8:zc.parts.length≤8:=by
    simp only [uD,fV] at hm
    have h1:=hm.1
    simp only [nK,fV] at h1
    obtain ⟨_,_,_,_,_,_,_,m8⟩:=h1
    simp [jd] at m8; omega
  have trs:∀ h3,aY h2 h3→aM (fun k=>tu n (aK n) (br n) (cv n) (cu n) k (.ptr w 0) (.ptr x 0) h3) fun _ h'=>aY h h':=by
    intro h3 g3
    unfold tu
    obtain ⟨m,a,b,c,p,q,r,hm2,hv⟩:=hv
    simp only [aB,gS (g3.cl hx),amv,bI.len hv]
    have key:∀ (q2 i:Nat) (h4:Heap),aY h2 h4→i≤m→m-i<q2→aM (fun k=>oX n (aK n) (br n) (cv n) (cu n) k q2 (.ptr w 0) (.ptr x 0) vt (m:Int) (i:Int) h4) fun _ h'=>aY h h':=by
      intro q2
      induction q2 with
      | zero=>omega
      | succ q2 ih=>
        intro i h4 g4 hi hq
        have g04:=g02.trans g4
        simp only [acR]
        unfold tE yE
        refine aH.ifB (fun e=>?_) fun e=>jL g04
        rw [kg,fX] at e
        have hlt:i<m:=by omega
        have hsm:=hv.1
        refine aH.copy (hv.grow g04) (g04.le hro) hlt rfl rfl fun a1 b1 y d h5 hy g5=>?_
        have g25:=g4.trans g5
        have g05:=g02.trans g25
        have f3:∀ (b:Bool) (h6:Heap),aY h2 h6→aM (fun k=>qL n (aK n) (br n) (cv n) (cu n) k (oX n (aK n) (br n) (cv n) (cu n) k q2) (.ptr w 0) (.ptr x 0) vt (m:Int) (i:Int) b h6) fun _ h'=>aY h h':=by
          intro b h6 g6
          unfold qL
          refine aH.ifB (fun _=>jL (g02.trans g6)) fun _=>?_
          simp only [aB,jq (show i≤9223372036854775806 by omega)]
          exact ih (i+1) h6 g6 (by omega) (by omega)
        obtain ⟨_,S',hs',_⟩:=hp.grow g05
        have t2:aM (fun k=>pe n (aK n) (br n) (cv n) (cu n) k (oX n (aK n) (br n) (cv n) (cu n) k q2) (.ptr w 0) (.ptr x 0) (.ptr y 0) vt (m:Int) (i:Int) true h5) fun _ h'=>aY h h':=by
          unfold pe
          exact f3 true h5 g25
        simp only [aB,gS hy,tr_0]
        refine aH.ifB (fun _=>t2) fun ea=>?_
        rw [f8] at ea
        have w1:IntKind.i64.wrap (16*(zc.parts.length:Int))=16*zc.parts.length:=m9 (by omega) (by omega)
        simp only [aB,gS (g25.cl hw2),bC,hs'.len,w1]
        unfold pe
        refine aH.ifB (fun _=>f3 true h5 g25) fun eb=>?_
        have eb':a i<16*zc.parts.length:=by simpa using eb
        obtain ⟨aN,hd⟩:∃ aN:Nat,a i/16=aN:=⟨(a i/16).toNat,by omega⟩
        have e1:(a i).tdiv 16=a i/16:=Int.tdiv_eq_ediv_of_nonneg (by omega)
        have w2:IntKind.i64.wrap (aN:Int)=aN:=m9 (by omega) (by omega)
        have hal:aN<ps.length:=by omega
        obtain ⟨aA,hA⟩:=bI.fA (hs.grow g05).sl (i:=aN) (j:=0) hal (by omega) (st_0 ..)
        simp only [aB,gS (g25.cl hx),UB,gS hy,tr_0,tr_2,abw (show (16:Int)≠0 by decide),e1,hd,w2,hA]
        have hst:=(hs.grow g05).st aN hal
        refine aM.bind (v_has (g05.le hro) hst.own hst.om (c i) 2) ?_
        rintro r6 h6 g6
        exact f3 _ h6 (g25.trans g6)
    exact key n 0 h3 g3 (by omega) (by omega)
  have hlm:=hl.lm
  have key:∀ (q i:Nat) (h3:Heap),aY h2 h3→(∀ j,j<i→eX zc (S j) (T j))→i≤M→M-i<q→aM (fun k=>qJ n (aK n) (br n) (cv n) (cu n) k q (.ptr w 0) (.ptr x 0) vl (M:Int) (i:Int) h3) fun r h'=>aY h h'∧(r=true→∀ i,i<M→eX zc (S i) (T i)):=by
    intro q
    induction q with
    | zero=>omega
    | succ q ih=>
      intro i h3 g3 hok hi hq
      have g03:=g02.trans g3
      simp only [adA]
      unfold tk
      refine aH.ifB (fun e=>?_) fun e=>?_
      · rw [kg,fX] at e
        have hlt:i<M:=by omega
        have hsm:=hl.sl.1
        refine aH.copy (bI.grow hl.sl g03) (g03.le hro) hlt rfl rfl fun a1 b1 y d h4 hy g4=>?_
        have g24:=g3.trans g4
        have g04:=g02.trans g24
        have f6:∀ (b:Bool) (h5:Heap),aY h2 h5→(b=false→eX zc (S i) (T i))→aM (fun k=>qI n (aK n) (br n) (cv n) (cu n) k (qJ n (aK n) (br n) (cv n) (cu n) k q) (.ptr w 0) (.ptr x 0) vl (M:Int) (i:Int) b h5) fun r h'=>aY h h'∧(r=true→∀ i,i<M→eX zc (S i) (T i)):=by
          intro b h5 g5 hb
          unfold qI
          refine aH.ifB (fun _=>jL ⟨g02.trans g5,fun h=>nomatch h⟩) fun eb=>?_
          simp only [aB,jq (show i≤9223372036854775806 by omega)]
          refine ih (i+1) h5 g5 (fun j hj=>?_) (by omega) (by omega)
          by_cases hji:j=i
          · subst hji; exact hb eb
          · exact hok j (by omega)
        have hT0:=hl.lo i hlt
        have w1:IntKind.u64.wrap (IntKind.i64.wrap (zc.frames*16))=zc.frames*16:=by rw [m9 (by omega) (by omega),ahh (by omega) (by omega)]
        simp only [aB,gS hy,ln_1,gS (g24.cl hw2),bC,w1]
        refine aH.ifB (fun _=>jL ⟨g04,fun h=>nomatch h⟩) fun eT=>?_
        have eT':T i<zc.frames*16:=by simpa using eT
        have w2:IntKind.u64.wrap (T i*16)=T i*16:=ahh (by omega) (by omega)
        obtain ⟨r,hr⟩:=u_AFrame n (a:=T i*16) (by omega) (by omega) h4
        have t0:(!((0:Int)==0))=false:=rfl
        have d1:T i*16/256=T i/16:=by omega
        have d2:T i*16%256/16=T i%16:=by omega
        simp only [aB,gS hy,ln_1,gS (g24.cl hw2),bC,w2,u_CSet n hco (show 0≤T i*16 by omega) (show T i*16<1048576 by omega),hr,t0]
        unfold tA
        simp only [aB,gS hy,ln_0]
        unfold tj
        refine aH.ifB (fun _=>jL ⟨g04,fun h=>nomatch h⟩) fun eS=>?_
        have eS':T i*16/256%zc.eY*16+T i*16%256/16=S i:=by simpa using eS
        simp only [aB,gS (g24.cl hw2),bC]
        refine Run3.bind (ahn hn (g04.le hro) (Cfg.mk' (ht.grow g04) (hp.grow g04)) _) ?_
        rintro r s e5 h5 ⟨g5,ho⟩
        refine aH.ifB (fun _=>f6 true h5 (g24.trans g5) fun h=>nomatch h) fun ee=>f6 _ h5 (g24.trans g5) fun es=>?_
        have ee':e5=0:=by simpa using ee
        have es':s=true:=by simpa using es
        subst ee' es'
        rw [d1] at ho
        exact ⟨eT',by rw [← eS',d1,d2],r,ho⟩
      · rw [kg,f8] at e
        refine aH.mono (trs h3 g3) ?_
        rintro ⟨r,h'⟩ g'
        exact ⟨g',fun _ j hj=>hok j (by omega)⟩
  exact key n 0 h2 .refl (fun j hj=>by omega) (by omega) (by omega)
end Go.Proofs.YtpoobhhdgjgdgaaGreat.Sh
/- Faults that are told; what was seen, beside them. -/
namespace Go.Proofs.YtpoobhhdgjgdgaaGreat.Sh
open Go.Ai
def Flt (h0 h:Heap) (y:Nat) (fs:List (Int × Int)):Prop:=∃ v,Own h y [v] 0∧App h v 2 fs.length (prC fs)∧h0.nx≤y∧∀ b,v.blk=some b→b≠y∧h0.nx≤b
theorem Flt.grow {h0 h h':Heap} {y:Nat} {fs:List (Int × Int)} (f:Flt h0 h y fs) (g:aY h h'):Flt h0 h' y fs:=by
  obtain ⟨v,h1,h2,h3,h4⟩:=f
  exact ⟨v,h1.grow g,h2.grow g,h3,h4⟩
theorem HJ {h:Heap} {v:AV} {sz L:Nat} {l:List AV} (a:App h v sz L l) {b:Nat} (hb:v.blk=some b):Own h b l sz:=by
  rcases a with ⟨rfl,_,_⟩ | ⟨c,rfl,o,_,_⟩
  · cases hb
  · cases hb; exact o
theorem aH.copyO {K R:Type} {ap:K→R→aa} {Q:R→Prop} {h:Heap} {v:AV} {sz n:Nat} {f:Nat→List AV} (s:bI h v sz n f) (hro:h.ro≤h.nx) {i:Nat} (hi:i<n) {z:List AV} (hz:z.length=sz) (hf:(f i).length=sz) {G:K→AV→AV→Nat→Heap→Heap→aa}
    (H:∀ a b c d e,Own e c (f i) 0→aY h e→aH ap (fun k=>G k a b c d e) Q) :
    aH ap (fun k=>eld sz h v (i:Int) sz true fun a b=>lG h (.cells z true 0) fun c d=>jf d (.ptr c 0) sz b fun e=>G k a b c d e) Q:=by
  simp only [s.eld (fP i) (by omega),gd]
  refine aM.bind (DV hro z 0) ?_
  rintro c d ⟨hc,o,g⟩
  refine dl.bind (Qv o (cs:=f i) hf (by omega)) ?_
  intro e p
  rw [Ix _ _ (by rw [hf,hz])] at p
  exact H _ _ c d e p.own (p.grow g hc)
def amZ (h:Heap) (c:Nat):Prop:=∃ l g,h.get c=some (.cells l true g)∧((∃ v,l = [v]∧∀ m,v≠.map m)∨g=2)
theorem own_flt {h h':Heap} {c:Nat} {l:List AV} (o:Own h c l 0) (hl:l.length=5) (g:Chg (amZ h) h h'):Own h' c l 0:=by
  refine g.own o fun ⟨l',q,h1,h2⟩=>?_
  have:=o.get.symm.trans h1
  simp only [Option.some.injEq,Blk.cells.injEq] at this
  obtain ⟨rfl,_,rfl⟩:=this
  rcases h2 with ⟨v,rfl,_⟩ | h2
  · simp at hl
  · cases h2
theorem cp.flt {κ:Type} [DecidableEq κ] {em:κ→AV} {h0 h h':Heap} {c m:Nat} {f:κ→Int} (s:cp em h0 h c m f) (g:Chg (amZ h) h h'):cp em h0 h' c m f:=by
  refine s.chg g (fun ⟨l,q,h1,h2⟩=>?_) fun ⟨l,q,h1,_⟩=>?_
  · have:=s.own.get.symm.trans h1
    simp only [Option.some.injEq,Blk.cells.injEq] at this
    obtain ⟨rfl,_,rfl⟩:=this
    rcases h2 with ⟨v,e,h2⟩ | h2
    · injection e with e _
      exact h2 m e.symm
    · cases h2
  · obtain ⟨kv,a,_⟩:=s.map
    have:=a.get.symm.trans h1
    cases this
theorem Flt.seen {κ:Type} [DecidableEq κ] {em:κ→AV} {h0 h1 h h':Heap} {c m y:Nat} {f:κ→Int} {fs:List (Int × Int)} (s:cp em h1 h c m f) (x:Flt h0 h y fs) (g:Chg (· = m) h h'):Flt h0 h' y fs:=by
  obtain ⟨v,h1,h2,h3,h4⟩:=x
  exact ⟨v,g.own h1 fun e=>s.ne h1 e.symm,h2.chg g fun b hb e=>s.ne (HJ h2 hb) e.symm,h3,h4⟩
def fl (b:Bool) (c a:Int):List (Int × Int):=if b then [(c,a)] else []
theorem ZZ {n:Nat} {h0 h:Heap} {y:Nat} {fs:List (Int × Int)} (hro:h.ro≤h.nx) (g:aY h0 h) (f:Flt h0 h y fs) (hL:fs.length<1000) (b:Bool) (e at_:Int) :
    dl (aQ n b e at_ (.ptr y 0) h) fun h'=>Flt h0 h' y (fs++fl b e at_)∧aY h0 h'∧Chg (amZ h) h h':=by
  unfold aQ EC yM
  refine aH.ifB (fun e1=>?_) fun e1=>?_
  · subst e1
    obtain ⟨v,ho,ha,hx,hb⟩:=f
    simp only [aB,gS ho.cl,any_0,apB]
    refine aM.bind (wi (fun k=>by rfl)) ?_
    rintro _ h1 ⟨rfl,hc,g1⟩
    refine aM.bind (Cj (g1.le hro) (ha.grow g1) (by omega) hc (new:=[.int .i64 e,.int .i64 at_]) (by rw [nP]; rfl) (by omega)) ?_
    rintro v' h2 ⟨a2,b2,c2⟩
    have ho1:=ho.grow g1
    have ho2:=c2.own ho1 fun e=>(hb y e).1 rfl
    refine dl.bind (sI ho2 (by simp) (by rcases a2 with ⟨rfl,h3,_⟩ | ⟨b,rfl,_⟩<;>rfl)) ?_
    intro h3 p3
    have n1:=ho.lt
    have n2:=g1.nx
    have hcell:∀ m,v≠.map m:=by
      rintro m rfl
      rcases ha with ⟨h,_,_⟩ | ⟨_,h,_⟩<;>cases h
    have q:Chg (amZ h) h h3:=by
      refine ⟨ga n2 (ga c2.nx p3.chg.nx),by rw [p3.ro,c2.ro,g1.ro],fun c hc hf=>?_⟩
      have hcy:c≠y:=fun e=>hf (e▸⟨_,_,ho.get,.inl ⟨v,rfl,hcell⟩⟩)
      have hcv:¬ v.blk=some c:=fun e=>hf ⟨_,_,(HJ ha e).get,(.inr rfl)⟩
      rw [p3.other c hcy,c2.old c (by omega) hcv,g1.old c hc]
    have hpc:prC (fs++fl true e at_)=prC fs++[.int .i64 e,.int .i64 at_]:=by rw [ZA]; rfl
    have hlen:(fs++fl true e at_).length=fs.length+1:=by simp [fl]
    refine ret0 ⟨⟨v',p3.own,?_,hx,fun b hb'=>?_⟩,?_,q⟩
    · rw [hpc,hlen]
      exact a2.chg p3.chg fun b hb'=>by rw [b2] at hb'; cases hb'; omega
    · rw [b2] at hb'
      cases hb'
      have:=g.nx
      exact ⟨by omega,by omega⟩
    · exact p3.grow (c2.grow (g.trans g1) fun b hb'=>(hb b hb').2) hx
  · subst e1
    refine ret0 ⟨?_,g,(aY.refl).chg _⟩
    rw [show fl false e at_ = [] from rfl,List.append_nil]
    exact f
structure AS (h0 h:Heap) (y:Nat) (fs:List (Int × Int)) (c1 m1:Nat) (f1:Int→Int) (c2 m2:Nat) (f2:Int→Int) (s:Nat) (L:List AV):Prop where
  g:aY h0 h
  fl:Flt h0 h y fs
  s1:cp emI h0 h c1 m1 f1
  s2:cp emI h0 h c2 m2 f2
  ne:m1≠m2
  own:Own h s L 0
  len:L.length=5
section
variable {h0 h h':Heap} {y:Nat} {fs fs':List (Int × Int)} {c1 m1:Nat} {f1 f1':Int→Int} {c2 m2:Nat} {f2 f2':Int→Int} {s:Nat} {L:List AV} (a:AS h0 h y fs c1 m1 f1 c2 m2 f2 s L)
include a
theorem AS.grow (g:aY h h'):AS h0 h' y fs c1 m1 f1 c2 m2 f2 s L:=
  ⟨a.g.trans g,a.fl.grow g,a.s1.grow g,a.s2.grow g,a.ne,(g.chg fun _=>False).own a.own fun h=>h,a.len⟩
theorem AS.see1 (s1:cp emI h0 h' c1 m1 f1') (g:Chg (· = m1) h h'):AS h0 h' y fs c1 m1 f1' c2 m2 f2 s L:=
  ⟨g.grow a.g fun b hb=>hb▸a.s1.lowm,a.fl.seen a.s1 g,s1,a.s2.other a.s1 a.ne.symm g,a.ne,g.own a.own fun e=>a.s1.ne a.own e.symm,a.len⟩
theorem AS.see2 (s2:cp emI h0 h' c2 m2 f2') (g:Chg (· = m2) h h'):AS h0 h' y fs c1 m1 f1 c2 m2 f2' s L:=
  ⟨g.grow a.g fun b hb=>hb▸a.s2.lowm,a.fl.seen a.s2 g,a.s1.other a.s2 a.ne g,s2,a.ne,g.own a.own fun e=>a.s2.ne a.own e.symm,a.len⟩
theorem AS.see3 {c3 m3:Nat} {f3:Int→Int} (s3:cp emI h0 h c3 m3 f3) (n1:m3≠m1) (n2:m3≠m2) (g:Chg (· = m3) h h'):AS h0 h' y fs c1 m1 f1 c2 m2 f2 s L:=
  ⟨g.grow a.g fun b hb=>hb▸s3.lowm,a.fl.seen s3 g,a.s1.other s3 n1.symm g,a.s2.other s3 n2.symm g,a.ne,g.own a.own fun e=>s3.ne a.own e.symm,a.len⟩
theorem AS.fault (x:Flt h0 h' y fs') (g:aY h0 h') (q:Chg (amZ h) h h'):AS h0 h' y fs' c1 m1 f1 c2 m2 f2 s L:=
  ⟨g,x,a.s1.flt q,a.s2.flt q,a.ne,own_flt a.own a.len q,a.len⟩
end
def Ke (f:Int→Int):List Int→Int→Int
  | []=>f
  | a::t=>Ke (Kc f a) t
def acJ (f:Int→Int):List Int→Bool
  | []=>false
  | a::t=>aaU f a||acJ (Kc f a) t
def TZ (F:Nat→Int) (m i:Nat):List Int:=(List.range' i (m-i)).map F
theorem aqW {F:Nat→Int} {m i:Nat} (h:i<m):TZ F m i=F i::TZ F m (i+1):=by
  unfold TZ
  rw [show m-i=(m-(i+1))+1 by omega,List.range'_succ]; rfl
theorem aod (F:Nat→Int) (m:Nat):TZ F m m = []:=by simp [TZ]
end Go.Proofs.YtpoobhhdgjgdgaaGreat.Sh
