/- Sums of needs; whether they fit. -/
import Derived.Test.YtpoobhhdgjgdgaaGreatVA2VA5
set_option linter.all false
namespace Go.Proofs.YtpoobhhdgjgdgaaGreat.Sh
open Go.Ai
theorem agF (d:Nat) (h:Heap) (b o n:Nat) (u:AV) (k:AV→Heap→aa):Go.Ai.fst d h (.ptr b o) n u k=jf h (.ptr b (o+d)) n u fun H=>k (.ptr b (o+d)) H:=by
  unfold Go.Ai.fst
  simp
def SpsIn (h:Heap) (v:AV) (m:Nat):Prop:=∃ (vr:Nat→AV) (hp:Nat→Int),bI h v 2 m (fun i=>[vr i,.int .i64 (hp i)])∧∀ i,i<m→SpIn h (vr i)
theorem ned_0 (a b c d:Int):(zg a b c d)[0]?=some (.int .i64 a):=rfl
theorem ned_1 (a b c d:Int):(zg a b c d)[1]?=some (.int .i64 b):=rfl
theorem anD (a b c d:Int):(zg a b c d)[2]?=some (.int .i64 c):=rfl
theorem ned_3 (a b c d:Int):(zg a b c d)[3]?=some (.int .i64 d):=rfl
theorem v_Sum {n:Nat} (hn:1100<n) {h0:Heap} (hro:h0.ro≤h0.nx) {v:AV} {m:Nat} (hv:SpsIn h0 v m):dr (bQ n v h0) fun r _ h'=>aY h0 h'∧∃ a b c d,r = .agg (zg a b c d):=by
  unfold bQ U5 Ll
  obtain ⟨vr,hp,hs0,hsp⟩:=hv
  have bz:∀ K:AV→aa,kM [.int .i64 0,.int .i64 0,.int .i64 0,.int .i64 0] [] K=K (.agg (zg 0 0 0 0)):=fun K=>rfl
  refine aM.bind (DV hro _ 0) ?_
  rintro z h1 ⟨hz,oz,g1⟩
  simp only [(hs0.grow g1).len,bz]
  have putAt:∀ (h3:Heap) (l:List AV) (a b c d e:Int),Own h3 z l 0→l.length=4→aY h0 h3→dr (fun k:bW=>jf h3 (.ptr z 0) 4 (.agg (zg a b c d)) fun c=>jg c (.ptr z 0) 4 true fun d=>k d e c) fun r _ h'=>aY h0 h'∧∃ a b c d,r = .agg (zg a b c d):=by
    intro h3 l a b c d e o hl g3
    refine aM.bind (anQ (n:=4) (cs:=zg a b c d) o hl rfl) ?_
    rintro _ h4 ⟨rfl,p⟩
    exact EV ⟨p.grow g3 hz,a,b,c,d,rfl⟩
  refine aH.ifB (fun _=>putAt h1 _ 0 0 0 0 3 oz rfl g1) fun e=>?_
  rw [kg,f8] at e
  refine aM.bind (DV (g1.le hro) _ 0) ?_
  rintro y h2 ⟨hy,oy,g2⟩
  have g02:=g1.trans g2
  have hyz:y≠z:=by have:=oz.lt; omega
  have key:∀ (q i:Nat) (h:Heap) (a b c d:Int),aY h0 h→Own h z [.int .i64 0,.int .i64 0,.int .i64 0,.int .i64 0] 0→Own h y (zg a b c d) 0→i≤m→m-i<q→dr (fun k=>zJ n (dv n) k q (.ptr z 0) (.ptr y 0) v (m:Int) (i:Int) h) fun r _ h'=>aY h0 h'∧∃ a b c d,r = .agg (zg a b c d):=by
    intro q
    induction q with
    | zero=>omega
    | succ q ih=>
      intro i h a b c d g oz oy hi hq
      simp only [akd]
      unfold zi FO
      refine aH.ifB (fun e1=>?_) fun _=>?_
      · rw [kg,fX] at e1
        have hlt:i<m:=by omega
        refine aH.copy (hs0.grow g) (g.le hro) hlt rfl rfl fun a1 b1 x1 d1 u hx g'=>?_
        have g2:=g.trans g'
        simp only [aB,gS hx,anM]
        refine dr.bind (v_Needs hn (g2.le hro) ((hsp i hlt).grow g2) (hp i)) ?_
        rintro r e3 h3 ⟨g3,p1,p2,p3,p4,rfl⟩
        have g03:=g2.trans g3
        refine aM.bind (G1 (g03.le hro) (by rfl) (by rfl)) ?_
        rintro w h4 ⟨hw,ow,g4⟩
        have g04:=g03.trans g4
        have gg:aY h h4:=(g'.trans g3).trans g4
        have oz4:Own h4 z _ 0:=(gg.chg fun _=>False).own oz fun h=>h
        have oy4:Own h4 y _ 0:=(gg.chg fun _=>False).own oy fun h=>h
        have hwy:y≠w:=by
          have:=oy.lt
          have:=(g'.trans g3).nx
          omega
        have hwz:z≠w:=by
          have:=oz.lt
          have:=(g'.trans g3).nx
          omega
        refine aH.ifB (fun _=>putAt h4 _ 0 0 0 0 e3 oz4 rfl g04) fun _=>?_
        have hny:h0.nx≤y:=ga g1.nx hy
        simp only [aB,gS oy4.cl,gS ow.cl,ned_0,agF]
        refine dl.bind (sI oy4 (by simp [zg]) rfl) ?_
        intro h5 q5
        have y5:=q5.own
        have w5:Own h5 w _ 0:=q5.ownO hwy.symm ow
        simp only [aB,gS y5.cl,gS w5.cl,ned_1,agF,zg,List.set_cons_zero,List.getElem?_cons_succ,List.getElem?_cons_zero]
        refine dl.bind (sI y5 (by simp [zg]) rfl) ?_
        intro h6 q6
        have y6:=q6.own
        have w6:Own h6 w _ 0:=q6.ownO hwy.symm w5
        simp only [aB,gS y6.cl,gS w6.cl,anD,agF,zg,List.set_cons_zero,List.set_cons_succ,List.getElem?_cons_succ,List.getElem?_cons_zero]
        refine dl.bind (sI y6 (by simp [zg]) rfl) ?_
        intro h7 q7
        have y7:=q7.own
        have w7:Own h7 w _ 0:=q7.ownO hwy.symm w6
        simp only [aB,gS y7.cl,gS w7.cl,ned_3,agF,zg,List.set_cons_zero,List.set_cons_succ,List.getElem?_cons_succ,List.getElem?_cons_zero]
        refine dl.bind (sI y7 (by simp [zg]) rfl) ?_
        intro h8 q8
        have y8:=q8.own
        have g08:aY h0 h8:=q8.grow (q7.grow (q6.grow (q5.grow g04 hny) hny) hny) hny
        have oz8:Own h8 z _ 0:=q8.ownO hyz.symm (q7.ownO hyz.symm (q6.ownO hyz.symm (q5.ownO hyz.symm oz4)))
        simp only [aB,jq (show i≤9223372036854775806 by omega)]
        exact ih (i+1) h8 _ _ _ _ g08 oz8 y8 (by omega) (by omega)
      · simp only [aB,gS oy.cl,Ql (show (zg a b c d).length=4 from rfl)]
        exact putAt h _ a b c d 0 oz rfl g
  exact key n 0 h2 0 0 0 0 g02 ((g2.chg fun _=>False).own oz fun h=>h) oy (by omega) (by omega)
end Go.Proofs.YtpoobhhdgjgdgaaGreat.Sh
/- What fits; slots; frames that stand there. -/
namespace Go.Proofs.YtpoobhhdgjgdgaaGreat.Sh
open Go.Ai
theorem ahM {zc:bA} {p:Int} (h:A6 zc p=0):uD zc=true∧0≤p∧p<zc.parts.length:=by
  unfold A6 at h
  cases hm:uD zc with
  | false=>rw [hm] at h; simp at h
  | true=>
    rw [hm,if_pos rfl] at h
    by_cases hh:0≤p∧p<zc.parts.length
    · exact ⟨rfl,hh⟩
    · rw [if_neg hh] at h; omega
theorem v_Shape {n:Nat} {zc:bA} (hn:dm n zc) {h:Heap} (hro:h.ro≤h.nx) {c:List AV} (hc:Cfg h zc c) (p:Int) :
    dr (d6 n (.agg c) p h) fun r e h'=>aY h h'∧e=A6 zc p∧∃ a b c d,r = .agg (zg a b c d):=by
  unfold d6 PM H8
  obtain ⟨t,pp,rfl,ht,hp⟩:=hc
  have bz:∀ K:AV→aa,kM [.int .i64 0,.int .i64 0,.int .i64 0,.int .i64 0] [] K=K (.agg (zg 0 0 0 0)):=fun K=>rfl
  refine aM.bind (m7 ..) ?_
  rintro x h1 ⟨hb,g⟩
  refine aM.bind (DV (g.le hro) _ 0) ?_
  rintro y h2 ⟨hy,oy,g2⟩
  have g02:=g.trans g2
  have hny:h.nx≤y:=ga g.nx hy
  have put:∀ (h3:Heap) (a b c d e:Int),aY h2 h3→e=A6 zc p→dr (fun k:bW=>jf h3 (.ptr y 0) 4 (.agg (zg a b c d)) fun c=>jg c (.ptr y 0) 4 true fun d=>k d e c) fun r e h'=>aY h h'∧e=A6 zc p∧∃ a b c d,r = .agg (zg a b c d):=by
    intro h3 a b c d e g3 he
    refine aM.bind (anQ (n:=4) (cs:=zg a b c d) ((g3.chg fun _=>False).own oy fun h=>h) rfl rfl) ?_
    rintro _ h4 ⟨rfl,p⟩
    exact EV ⟨p.grow (g02.trans g3) hny,he,a,b,c,d,rfl⟩
  have hb2:=g2.cl hb
  have hc2:Cfg h2 zc (qr zc t pp):=Cfg.mk' (ht.grow g02) (hp.grow g02)
  simp only [bz]
  simp only [aB,gS hb2,bC]
  refine aM.bind (ap9 hn (g02.le hro) hc2 p) ?_
  rintro _ h3 ⟨rfl,g3⟩
  refine aH.ifB (fun _=>put h3 0 0 0 0 _ g3 rfl) fun e0=>?_
  have e0':A6 zc p=0:=by simpa using e0
  obtain ⟨hm,hp0,hpl⟩:=ahM e0'
  obtain ⟨pn,rfl⟩:=gi hp0
  have hpl':pn<zc.parts.length:=by omega
  have qo:=aoL hm (aoy hm hpl')
  simp only [aB,gS (g3.cl hb2),bC]
  refine aM.bind (apY ((g02.trans g3).le hro) (hc2.grow g3) hpl' qo.ord.1) ?_
  rintro _ h4 ⟨rfl,g4⟩
  exact put h4 _ _ _ _ 0 (g3.trans g4) e0'.symm
theorem v_Limit {n:Nat} {zc:bA} (hn:dm n zc) {h:Heap} (hro:h.ro≤h.nx) {c:List AV} (hc:Cfg h zc c) (p:Int) :
    dr (ed n (.agg c) p h) fun _ e h'=>aY h h'∧e=A6 zc p:=by
  unfold ed QA Iq
  obtain ⟨t,pp,rfl,ht,hp⟩:=hc
  refine aM.bind (m7 ..) ?_
  rintro x h1 ⟨hb,g⟩
  simp only [aB,gS hb,bC]
  refine dr.bind (v_Shape hn (g.le hro) (Cfg.mk' (ht.grow g) (hp.grow g)) p) ?_
  rintro r e h2 ⟨g2,rfl,a,b,c,d,rfl⟩
  have g02:=g.trans g2
  refine aM.bind (G1 (g02.le hro) (by rfl) (by rfl)) ?_
  rintro w h3 ⟨hw,ow,g3⟩
  simp only [aB,gS ow.cl,anD]
  exact EV ⟨g02.trans g3,rfl⟩
theorem min4 (a b c d:Int):∃ r,∀ K:AV→aa,tg false [.int .i64 a,.int .i64 b,.int .i64 c,.int .i64 d] K=K (.int .i64 r):=⟨_,fun _=>rfl⟩
theorem apo (x:cU) (s:AV):(tJ x s)[4]?=some (.int .i64 x.spaces):=rfl
theorem ao9 (x:cU) (s:AV):(tJ x s)[5]?=some (.int .i64 x.fj):=rfl
theorem apt (x:cU) (s:AV):(tJ x s)[3]?=some (.int .i64 x.tables):=rfl
theorem amB (x:cU) (s:AV):(tJ x s)[7]?=some (.int .i64 x.slots):=rfl
theorem v_Fits {n:Nat} {zc:bA} (hn:dm n zc) {h:Heap} (hro:h.ro≤h.nx) {c:List AV} (hc:Cfg h zc c) (p a1 a2 a3 a4:Int) :
    dr (bM n (.agg c) p (.agg (zg a1 a2 a3 a4)) h) fun _ _ h'=>aY h h':=by
  unfold bM Qo HW xv wU xD
  obtain ⟨t,pp,rfl,ht,hp⟩:=hc
  refine aM.bind (m7 ..) ?_
  rintro x h1 ⟨hb,g⟩
  refine aM.bind (m7 ..) ?_
  rintro y h2 ⟨hy,g2⟩
  have g02:=g.trans g2
  simp only [aB,gS (g2.cl hb),bC]
  refine dr.bind (v_Limit hn (g02.le hro) (Cfg.mk' (ht.grow g02) (hp.grow g02)) p) ?_
  rintro f e h3 ⟨g3,rfl⟩
  have g03:=g02.trans g3
  refine aH.ifB (fun _=>EV g03) fun e0=>?_
  have e0':A6 zc p=0:=by simpa using e0
  obtain ⟨hm,hp0,hpl⟩:=ahM e0'
  obtain ⟨pn,rfl⟩:=gi hp0
  have hpl':pn<zc.parts.length:=by omega
  obtain ⟨r,hr⟩:=min4 a1 a2 a3 a4
  have hy3:=g3.cl hy
  simp only [aB,gS hy3,ned_0,ned_1,anD,ned_3,hr]
  refine aH.ifB (fun _=>EV g03) fun _=>?_
  obtain ⟨_,S,hs,hS⟩:=hp.grow g03
  simp only [aB,gS (g3.cl (g2.cl hb)),bC]
  refine aH.copy hs (g03.le hro) hpl' rfl rfl fun a b z d u hx g'=>?_
  have g04:=g03.trans g'
  simp only [aB,gS hx,gS (g'.cl hy3),apt,apo,ao9,ned_0,ned_1,anD,ned_3,min2]
  refine aH.ifB (fun _=>?_) fun _=>?_
  · refine aH.ifB (fun _=>?_) fun _=>?_
    · exact aH.ifB (fun _=>EV g04) fun _=>EV g04
    · exact EV g04
  · exact EV g04
theorem v_slots {n:Nat} {h0:Heap} (hro:h0.ro≤h0.nx) {v:AV} {m:Nat} {f:Nat→cU} {S:Nat→AV} (hs:bI h0 v 8 m fun i=>tJ (f i) (S i)) (hn:m<n):aM (d7 n v h0) fun _ h'=>aY h0 h':=by
  unfold d7 Qd HG
  simp only [hs.len]
  have key:∀ (q i:Nat) (h:Heap) (s:Int),aY h0 h→i≤m→m-i<q→aM (fun k=>xq n k q s v (m:Int) (i:Int) h) fun _ h'=>aY h0 h':=by
    intro q
    induction q with
    | zero=>omega
    | succ q ih=>
      intro i h s g hi hq
      simp only [aiE]
      unfold wV C4
      refine aH.ifB (fun e=>?_) fun _=>jL g
      rw [kg,fX] at e
      have hsm:=hs.1
      refine aH.copy (hs.grow g) (g.le hro) (show i<m by omega) rfl rfl fun a b x d y hx g'=>?_
      simp only [aB,gS hx,amB,jq (show i≤9223372036854775806 by omega)]
      exact ih (i+1) y _ (g.trans g') (by omega) (by omega)
  exact key n 0 h0 0 .refl (by omega) (by omega)
theorem v_Base {n:Nat} {zc:bA} (hn:dm n zc) {h:Heap} (hro:h.ro≤h.nx) {c:List AV} (hc:Cfg h zc c) (p:Int) :
    dr (bH n (.agg c) p h) fun _ e h'=>aY h h'∧e=A6 zc p:=by
  unfold bH VQ KI
  obtain ⟨t,pp,rfl,ht,hp⟩:=hc
  refine aM.bind (m7 ..) ?_
  rintro x h1 ⟨hb,g⟩
  simp only [aB,gS hb,bC]
  refine aM.bind (ap9 hn (g.le hro) (Cfg.mk' (ht.grow g) (hp.grow g)) p) ?_
  rintro _ h2 ⟨rfl,g2⟩
  have g02:=g.trans g2
  refine aH.ifB (fun _=>EV ⟨g02,rfl⟩) fun e0=>?_
  have e0':A6 zc p=0:=by simpa using e0
  obtain ⟨hm,hp0,hpl⟩:=ahM e0'
  obtain ⟨hsh,S,hs,hS⟩:=hp.grow g02
  obtain ⟨v',hs',hk⟩:=hs.take hsh hp0 (by omega)
  simp only [aB,gS (g2.cl hb),bC,hk]
  refine aM.bind (v_slots (g02.le hro) hs' (by have:=hn.parts; omega)) ?_
  rintro r h3 g3
  exact EV ⟨g02.trans g3,e0'.symm⟩
def OwIn (h:Heap) (v:AV) (m:Nat) (F U:Nat→Int):Prop:=bI h v 2 m fun i=>[.int .i64 (F i),.int .u8 (U i)]
theorem OwIn.grow {h h':Heap} {v:AV} {m:Nat} {F U:Nat→Int} (s:OwIn h v m F U) (g:aY h h'):OwIn h' v m F U:=bI.grow s g
theorem eq_ow (a b c d:Int):∃ r,∀ K:Bool→aa,eqRK (.plain [.int,.int]) (.agg [.int .i64 a,.int .u8 b]) (.agg [.int .i64 c,.int .u8 d]) K=K r:=by
  refine ⟨(eqF a c&&eqF b d),fun K=>?_⟩
  show oC (mR [.int,.int] [.int .i64 a,.int .u8 b] [.int .i64 c,.int .u8 d]) K=_
  have e1:ww .int (.int .i64 a) (.int .i64 c)=some (eqF a c):=rfl
  have e2:ww .int (.int .u8 b) (.int .u8 d)=some (eqF b d):=rfl
  have:mR [.int,.int] [.int .i64 a,.int .u8 b] [.int .i64 c,.int .u8 d]=some (eqF a c&&eqF b d):=by
    simp only [mR,e1,e2]
    cases eqF a c<;>cases eqF b d<;>rfl
  rw [this]; rfl
theorem sub_2u (a b:Int):sub [AV.int .i64 a,.int .u8 b] 0 2=some [AV.int .i64 a,.int .u8 b]:=by rw [nP]; rfl
theorem v_has {n:Nat} {h0:Heap} (hro:h0.ro≤h0.nx) {v:AV} {m:Nat} {F U:Nat→Int} (hs:OwIn h0 v m F U) (hn:m<n) (a b:Int):aM (br n v a b h0) fun _ h'=>aY h0 h':=by
  unfold br Wn KS dP GW zV dN Hk AB
  have bz:∀ K:AV→aa,kM [.int .i64 0,.int .u8 0] [(0,1,.int .i64 a),(1,1,.int .u8 b)] K=K (.agg [.int .i64 a,.int .u8 b]):=fun K=>rfl
  simp only [bz]
  refine aM.bind (m7 ..) ?_
  rintro x h1 ⟨hb,g⟩
  simp only [aB,gS hb,sub_2u]
  refine aM.bind (m7 ..) ?_
  rintro y h2 ⟨hy,g2⟩
  have g02:=g.trans g2
  simp only [bI.len hs]
  have key:∀ (q i:Nat),i≤m→m-i<q→aM (fun k=>rS n k q v (.ptr y 0) (m:Int) (i:Int) h2) fun _ h'=>h'=h2:=by
    intro q
    induction q with
    | zero=>omega
    | succ q ih=>
      intro i hi hq
      simp only [aaH]
      unfold sQ wJ
      refine aH.ifB (fun e=>?_) fun _=>jL rfl
      rw [kg,fX] at e
      have hsm:=hs.1
      obtain ⟨r,hr⟩:=eq_ow a b (F i) (U i)
      have hel:∀ K,eld 2 h2 v (i:Int) 2 true K=K (elP v 2 (i:Int)) (.agg [.int .i64 (F i),.int .u8 (U i)]):=fun K=>bI.eld (hs.grow g02) (i:=(i:Int)) (by omega) (by omega) K
      simp only [aB,gS hy,sub_2u,hel,hr,jq (show i≤9223372036854775806 by omega)]
      exact aH.ifB (fun _=>jL rfl) fun _=>ih (i+1) (by omega) (by omega)
  refine aM.bind (key n 0 (by omega) (by omega)) ?_
  rintro d e rfl
  exact jL g02
end Go.Proofs.YtpoobhhdgjgdgaaGreat.Sh
/- What was seen: counts in a map. -/
namespace Go.Proofs.YtpoobhhdgjgdgaaGreat.Sh
open Go.Ai
set_option linter.unusedSectionVars false
section
variable {κ:Type} [DecidableEq κ]
def ahX (kk:dh) (em:κ→AV):Prop:=∀ k j,oh kk (em k) (em j)=some (decide (k=j))
def TG (em:κ→AV) (kv:List (κ × Int)):List (AV × AV):=kv.map fun e=>(em e.1,AV.int .i64 e.2)
def P8 (k:κ):List (κ × Int)→Option Int
  | []=>none
  | e::t=>if k=e.1 then some e.2 else P8 k t
def TF (k:κ) (c:Int):List (κ × Int)→List (κ × Int)
  | []=>[(k,c)]
  | e::t=>if k=e.1 then (k,c)::t else e::TF k c t
theorem aoh (j k:κ) (c:Int):∀ kv:List (κ × Int),P8 j (TF k c kv)=if j=k then some c else P8 j kv
  | []=>rfl
  | e::t=>by
    by_cases h:k=e.1
    · rw [show TF k c (e::t)=(k,c)::t by simp [TF,h]]
      by_cases h2:j=k
      · simp [P8,h2]
      · simp [P8,h2, ← h]
    · rw [show TF k c (e::t)=e::TF k c t by simp [TF,h]]
      by_cases h2:j=e.1
      · have:¬ j=k:=fun e=>h (by rw [← e,h2])
        simp [P8,h2,show ¬ e.1=k from fun e=>h e.symm]
      · simp [P8,h2,aoh j k c t]
theorem findE {kk:dh} {em:κ→AV} (ok:ahX kk em) (k:κ):∀ kv:List (κ × Int),Gj kk (em k) (TG em kv)=some ((P8 k kv).map (AV.int .i64))
  | []=>rfl
  | e::t=>by
    show (Option.casesOn (oh kk (em k) (em e.1)) none fun b=>Bool.casesOn b (Gj kk (em k) (TG em t)) (some (some (AV.int .i64 e.2))):Option (Option AV))=_
    rw [ok,findE ok k t]
    by_cases h:k=e.1
    · rw [gj h]; simp [P8,h]
    · rw [ge h]; simp [P8,h]
theorem putE {kk:dh} {em:κ→AV} (ok:ahX kk em) (k:κ) (c:Int):∀ kv:List (κ × Int),Tx kk (em k) (.int .i64 c) (TG em kv)=some (TG em (TF k c kv))
  | []=>rfl
  | e::t=>by
    show (Option.casesOn (oh kk (em k) (em e.1)) none fun b=>Bool.casesOn b (Option.casesOn (Tx kk (em k) (.int .i64 c) (TG em t)) none fun t'=>some ((em e.1,AV.int .i64 e.2)::t')) (some ((em k,.int .i64 c)::TG em t)):Option _)=_
    rw [ok,putE ok k c t]
    by_cases h:k=e.1
    · rw [gj h]; simp [TF,h,TG]
    · rw [ge h]; simp [TF,h,TG]
structure MapE (em:κ→AV) (h:Heap) (b:Nat) (kv:List (κ × Int)):Prop where
  lt:b<h.nx
  ro:h.ro≤b
  get:h.get b=some (.mp (TG em kv))
theorem MapE.chg {em:κ→AV} {F:Nat→Prop} {h h':Heap} {b:Nat} {kv:List (κ × Int)} (a:MapE em h b kv) (c:Chg F h h') (hf:¬ F b):MapE em h' b kv:=
  ⟨fW a.lt c.nx,by rw [c.ro]; exact a.ro,(c.old b a.lt hf).trans a.get⟩
theorem MapE.ne {em:κ→AV} {h:Heap} {b c:Nat} {kv:List (κ × Int)} {l:List AV} {g:Nat} (a:MapE em h b kv) (o:Own h c l g):b≠c:=by
  rintro rfl
  have:=a.get.symm.trans o.get
  cases this
theorem MapE.at_ {em:κ→AV} {h:Heap} {b:Nat} {kv:List (κ × Int)} (a:MapE em h b kv):Jg h b=some (TG em kv):=by unfold Jg; rw [a.get]
theorem MapE.look {kk:dh} {em:κ→AV} (ok:ahX kk em) {h:Heap} {b:Nat} {kv:List (κ × Int)} (a:MapE em h b kv) (k:κ):∃ t,∀ c:AV→Bool→aa,CD h kk (.int .i64 0) (.map b) (em k) c=c (.int .i64 ((P8 k kv).getD 0)) t:=by
  refine ⟨(P8 k kv).isSome,fun c=>?_⟩
  unfold CD
  have h1:mapOf h (.map b)=some (TG em kv):=a.at_
  rw [h1,yR,ok,yR,findE ok,yR]
  cases P8 k kv<;>rfl
theorem r_putE {kk:dh} {em:κ→AV} (ok:ahX kk em) {h:Heap} {b:Nat} {kv:List (κ × Int)} (a:MapE em h b kv) (k:κ) (x:Int) :
    dl (aaw h kk (.map b) (em k) (.int .i64 x)) fun h'=>MapE em h' b (TF k x kv)∧Chg (· = b) h h':=by
  refine ⟨h.set b (.mp (TG em (TF k x kv))),⟨⟨by simpa using a.lt,by simpa using a.ro,Heap.ft ..⟩,⟨by simp,by simp,fun c _ hc=>Heap.fq _ (fun e=>hc e.symm) _⟩⟩,fun c=>?_⟩
  unfold aaw
  rw [akR]
  have h1:Nat.blt b h.ro=false:=by rw [blt_eq]; simp; exact a.ro
  rw [h1,D5,a.at_,yR,ok,yR,putE ok,yR,Qh]; rfl
structure cp (em:κ→AV) (h0 h:Heap) (c m:Nat) (f:κ→Int):Prop where
  own:Own h c [.map m] 0
  map:∃ kv,MapE em h m kv∧∀ k,(P8 k kv).getD 0=f k
  lowc:h0.nx≤c
  lowm:h0.nx≤m
theorem cp.chg {em:κ→AV} {F:Nat→Prop} {h0 h h':Heap} {c m:Nat} {f:κ→Int} (s:cp em h0 h c m f) (g:Chg F h h') (h1:¬ F c) (h2:¬ F m):cp em h0 h' c m f:=
  ⟨g.own s.own h1,have ⟨kv,a,b⟩:=s.map; ⟨kv,a.chg g h2,b⟩,s.lowc,s.lowm⟩
theorem cp.grow {em:κ→AV} {h0 h h':Heap} {c m:Nat} {f:κ→Int} (s:cp em h0 h c m f) (g:aY h h'):cp em h0 h' c m f:=s.chg (g.chg fun _=>False) (fun h=>h) fun h=>h
theorem cp.ne {em:κ→AV} {h0 h:Heap} {c m b g:Nat} {f:κ→Int} {l:List AV} (s:cp em h0 h c m f) (o:Own h b l g):m≠b:=have ⟨_,a,_⟩:=s.map; a.ne o
theorem cp.ltm {em:κ→AV} {h0 h:Heap} {c m:Nat} {f:κ→Int} (s:cp em h0 h c m f):m<h.nx:=have ⟨_,a,_⟩:=s.map; a.lt
theorem cp.other {κ':Type} [DecidableEq κ'] {em:κ→AV} {em':κ'→AV} {h0 h h':Heap} {c m c' m':Nat} {f:κ→Int} {f':κ'→Int} (s:cp em h0 h c m f) (s':cp em' h0 h c' m' f') (hm:m≠m') (g:Chg (· = m') h h'):cp em h0 h' c m f:=
  s.chg g (fun e=>s'.ne s.own e.symm) hm
def Kc (f:κ→Int) (a:κ):κ→Int:=fun k=>if k=a then IntKind.i64.wrap (f a+1) else f k
def aaU (f:κ→Int) (a:κ):Bool:=decide (1<IntKind.i64.wrap (f a+1))
theorem r_mpnew {h:Heap} (hro:h.ro≤h.nx) (l:List (AV × AV)):aM (lG h (.mp l)) fun x h'=>x=h.nx∧h'.get x=some (.mp l)∧h'.nx=h.nx+1∧aY h h':=
  ⟨(h.nx,h.add (.mp l)),⟨rfl,by rw [Heap.fy,if_pos rfl],by simp,aY.add⟩,fun k=>FV ..⟩
theorem amq (em:κ→AV) (fn:Nat) {h0 h:Heap} (hro:h.ro≤h.nx) (g0:aY h0 h):aM (fun k:aL=>lG h (.mp []) fun a b=>lG b (.cells [.nilmap] true 0) fun c d=>jf d (.ptr c 0) 1 (.map a) fun e=>k (.func fn [] [(.ptr c 0)]) e) fun r h'=>∃ c m,r = .func fn [] [.ptr c 0]∧cp em h0 h' c m (fun _=>0)∧aY h h'∧h.nx≤c∧h.nx≤m:=by
  refine aM.bind (r_mpnew hro []) ?_
  rintro m h1 ⟨rfl,m1,n1,g1⟩
  refine aM.bind (DV (g1.le hro) _ 0) ?_
  rintro c h2 ⟨hc,oc,g2⟩
  refine dl.bind (sI oc (u:=.map h.nx) (by simp) rfl) ?_
  intro h3 p
  have hn:=g0.nx
  have hc':h.nx≤c:=by omega
  have g3:aY h h3:=p.grow (g1.trans g2) hc'
  refine jL ⟨c,h.nx,rfl,⟨p.own,⟨[],⟨?_,by rw [g3.ro]; exact hro,?_⟩,fun _=>rfl⟩,by omega,hn⟩,g3,hc',fY _⟩
  · have:=p.nx; have:=g2.nx; show h.nx<h3.nx; omega
  · show h3.get h.nx=_
    rw [p.other _ (by omega),g2.old _ (by omega),m1]; rfl
end
def emI (a:Int):AV:=.int .i64 a
def emU (a:Int):AV:=.int .u64 a
def emP (a:Int × Int):AV:=.agg [.int .i64 a.1,.int .i64 a.2]
theorem keyI:ahX (.cell .int) emI:=fun k j=>by
  show some (eqF k j)=_
  rw [JQ]; rfl
theorem keyU:ahX (.cell .int) emU:=fun k j=>by
  show some (eqF k j)=_
  rw [JQ]; rfl
theorem keyP:ahX (.agg [.int,.int]) emP:=fun k j=>by
  show mR [.int,.int] [.int .i64 k.1,.int .i64 k.2] [.int .i64 j.1,.int .i64 j.2]=_
  have e1:∀ a b:Int,ww .int (.int .i64 a) (.int .i64 b)=some (eqF a b):=fun _ _=>rfl
  simp only [mR,e1,JQ]
  obtain ⟨a,b⟩:=k
  obtain ⟨c,d⟩:=j
  by_cases h1:a=c
  · by_cases h2:b=d
    · simp [h1,h2]
    · have q2:(b==d)=false:=by simp [h2]
      simp only [q2]; simp [h1,h2]
  · have q1:(a==c)=false:=by simp [h1]
    by_cases h2:b=d
    · simp only [q1]; simp [h1,h2]
    · have q2:(b==d)=false:=by simp [h2]
      simp only [q1,q2]; simp [h1]
theorem apq {n:Nat} {h0 h:Heap} (hro:h.ro≤h.nx) (g0:aY h0 h):aM (aJ n h) fun r h'=>∃ c m,r = .func 32 [] [.ptr c 0]∧cp emI h0 h' c m (fun _=>0)∧aY h h'∧h.nx≤c∧h.nx≤m:=amq emI 32 hro g0
theorem v_newU {n:Nat} {h0 h:Heap} (hro:h.ro≤h.nx) (g0:aY h0 h):aM (aE n h) fun r h'=>∃ c m,r = .func 38 [] [.ptr c 0]∧cp emU h0 h' c m (fun _=>0)∧aY h h'∧h.nx≤c∧h.nx≤m:=amq emU 38 hro g0
theorem v_newP {n:Nat} {h0 h:Heap} (hro:h.ro≤h.nx) (g0:aY h0 h):aM (aD n h) fun r h'=>∃ c m,r = .func 39 [] [.ptr c 0]∧cp emP h0 h' c m (fun _=>0)∧aY h h'∧h.nx≤c∧h.nx≤m:=amq emP 39 hro g0
theorem anu (m:Nat):([AV.map m]:List AV)[0]?=some (.map m):=rfl
theorem Ub {κ:Type} [DecidableEq κ] {f:κ→Int} {kv:List (κ × Int)} (hf:∀ k,(P8 k kv).getD 0=f k) (a k:κ):(P8 k (TF a (IntKind.i64.wrap (f a+1)) kv)).getD 0=Kc f a k:=by
  rw [aoh]
  unfold Kc
  by_cases h:k=a
  · rw [if_pos h,if_pos h]; rfl
  · rw [if_neg h,if_neg h]; exact hf k
theorem alR {n:Nat} {h0 h:Heap} {c m:Nat} {f:Int→Int} (s:cp emI h0 h c m f) (a:Int):aM (au n a (.ptr c 0) h) fun r h'=>r=aaU f a∧cp emI h0 h' c m (Kc f a)∧Chg (· = m) h h':=by
  unfold au ur pP
  obtain ⟨oc,⟨kv,ma,hf⟩,lc,lm⟩:=s
  obtain ⟨t,ht⟩:=ma.look keyI a
  rw [hf a] at ht
  have ht:∀ K,CD h (.cell .int) (.int .i64 0) (.map m) (.int .i64 a) K=K (.int .i64 (f a)) t:=ht
  simp only [aB,gS oc.cl,anu,ht]
  refine dl.bind (r_putE keyI ma a (IntKind.i64.wrap (f a+1))) ?_
  rintro h1 ⟨m1,c1⟩
  have o1:Own h1 c [.map m] 0:=c1.own oc fun e=>ma.ne oc e.symm
  obtain ⟨t1,ht1⟩:=m1.look keyI a
  rw [Ub hf a a] at ht1
  have ht1:∀ K,CD h1 (.cell .int) (.int .i64 0) (.map m) (.int .i64 a) K=K (.int .i64 (IntKind.i64.wrap (f a+1))) t1:=fun K=>by rw [show Kc f a a=IntKind.i64.wrap (f a+1) by simp [Kc]] at ht1; exact ht1 K
  simp only [aB,gS o1.cl,anu,ht1]
  exact jL ⟨rfl,⟨o1,⟨_,m1,Ub hf a⟩,lc,lm⟩,c1⟩
theorem v_seenU {n:Nat} {h0 h:Heap} {c m:Nat} {f:Int→Int} (s:cp emU h0 h c m f) (a:Int):aM (ar n a (.ptr c 0) h) fun r h'=>r=aaU f a∧cp emU h0 h' c m (Kc f a)∧Chg (· = m) h h':=by
  unfold ar qX n0
  obtain ⟨oc,⟨kv,ma,hf⟩,lc,lm⟩:=s
  obtain ⟨t,ht⟩:=ma.look keyU a
  rw [hf a] at ht
  have ht:∀ K,CD h (.cell .int) (.int .i64 0) (.map m) (.int .u64 a) K=K (.int .i64 (f a)) t:=ht
  simp only [aB,gS oc.cl,anu,ht]
  refine dl.bind (r_putE keyU ma a (IntKind.i64.wrap (f a+1))) ?_
  rintro h1 ⟨m1,c1⟩
  have o1:Own h1 c [.map m] 0:=c1.own oc fun e=>ma.ne oc e.symm
  obtain ⟨t1,ht1⟩:=m1.look keyU a
  rw [Ub hf a a] at ht1
  have ht1:∀ K,CD h1 (.cell .int) (.int .i64 0) (.map m) (.int .u64 a) K=K (.int .i64 (IntKind.i64.wrap (f a+1))) t1:=fun K=>by rw [show Kc f a a=IntKind.i64.wrap (f a+1) by simp [Kc]] at ht1; exact ht1 K
  simp only [aB,gS o1.cl,anu,ht1]
  exact jL ⟨rfl,⟨o1,⟨_,m1,Ub hf a⟩,lc,lm⟩,c1⟩
theorem v_seenP {h0 h:Heap} {c m:Nat} {f:Int × Int→Int} (s:cp emP h0 h c m f) (a b:Int):aM (fun k:AV→Heap→aa=>kT dblG [.agg [.int .i64 a,.int .i64 b],.ptr c 0] h k) fun r h'=>(∃ t,r = .bool t)∧cp emP h0 h' c m (Kc f (a,b))∧Chg (· = m) h h':=by
  obtain ⟨oc,⟨kv,ma,hf⟩,lc,lm⟩:=s
  have hfn:=findE keyP (a,b) kv
  have hput:=putE keyP (a,b) (IntKind.i64.wrap (f (a,b)+1)) kv
  have hf0:=hf (a,b)
  have ef:∀ k,(P8 k (TF (a,b) (IntKind.i64.wrap (f (a,b)+1)) kv)).getD 0=Kc f (a,b) k:=Ub hf (a,b)
  have hro:Nat.blt m h.ro=false:=by rw [blt_eq]; simp; exact ma.ro
  have key:dblO h [.agg [.int .i64 a,.int .i64 b],.ptr c 0]=some (.bool (aaU f (a,b)),h.set m (.mp (TG emP (TF (a,b) (IntKind.i64.wrap (f (a,b)+1)) kv)))):=by
    unfold dblO
    have hfn':Gj (.agg [.int,.int]) (.agg [.int .i64 a,.int .i64 b]) (TG emP kv)=some ((P8 (a,b) kv).map (AV.int .i64)):=hfn
    have hput':Tx (.agg [.int,.int]) (.agg [.int .i64 a,.int .i64 b]) (.int .i64 (IntKind.i64.wrap (f (a,b)+1))) (TG emP kv)=some (TG emP (TF (a,b) (IntKind.i64.wrap (f (a,b)+1)) kv)):=hput
    dsimp only
    rw [aeO oc]
    dsimp only
    rw [anu]
    dsimp only
    rw [hro,ma.at_]
    dsimp only
    rw [hfn']
    cases hv:P8 (a,b) kv with
    | none=>
      rw [hv] at hf0
      have hf0:f (a,b)=0:=hf0.symm
      have w1:IntKind.i64.wrap (0+1)=1:=by decide
      rw [hf0,w1] at hput' ⊢
      dsimp only [Option.map]
      rw [hput']
      simp only [aaU,hf0,w1]; rfl
    | some x=>
      rw [hv] at hf0
      have hf0:x=f (a,b):=hf0
      subst hf0
      dsimp only [Option.map]
      rw [hput']; rfl
  refine ⟨(.bool (aaU f (a,b)),h.set m (.mp (TG emP (TF (a,b) (IntKind.i64.wrap (f (a,b)+1)) kv)))),⟨⟨_,rfl⟩,?_,?_⟩,fun k=>?_⟩
  · have cg:Chg (· = m) h (h.set m (.mp (TG emP (TF (a,b) (IntKind.i64.wrap (f (a,b)+1)) kv)))):=⟨by simp,by simp,fun c _ hc=>Heap.fq _ (fun e=>hc e.symm) _⟩
    exact ⟨cg.own oc fun e=>ma.ne oc e.symm,⟨_,⟨by simpa using ma.lt,by simpa using ma.ro,Heap.ft ..⟩,ef⟩,lc,lm⟩
  · exact ⟨by simp,by simp,fun c _ hc=>Heap.fq _ (fun e=>hc e.symm) _⟩
  · unfold kT dblG
    rw [key]; rfl
end Go.Proofs.YtpoobhhdgjgdgaaGreat.Sh
