/- Sums of needs; whether they fit. -/
import Derived.Test.YtpoobhhdgjgdgaaGreatVA2VA5
set_option linter.all false
namespace Go.Proofs.YtpoobhhdgjgdgaaGreat.Sh
open Go.Ai
theorem ahk (d:Nat) (h:Heap) (b o n:Nat) (u:AV) (k:AV→Heap→aa):Go.Ai.fst d h (.ptr b o) n u k=jh h (.ptr b (o+d)) n u fun H=>k (.ptr b (o+d)) H:=by
  unfold Go.Ai.fst
  simp
def SpsIn (h:Heap) (v:AV) (m:Nat):Prop:=∃ (vr:Nat→AV) (hp:Nat→Int),bK h v 2 m (fun i=>[vr i,.int .i64 (hp i)])∧∀ i,i<m→SpIn h (vr i)
theorem ned_0 (a b c d:Int):(zq a b c d)[0]?=some (.int .i64 a):=rfl
theorem ned_1 (a b c d:Int):(zq a b c d)[1]?=some (.int .i64 b):=rfl
theorem anT (a b c d:Int):(zq a b c d)[2]?=some (.int .i64 c):=rfl
theorem ned_3 (a b c d:Int):(zq a b c d)[3]?=some (.int .i64 d):=rfl
theorem v_Sum {n:Nat} (hn:1100<n) {h0:Heap} (hro:h0.ro≤h0.nx) {v:AV} {m:Nat} (hv:SpsIn h0 v m):c9 (bR n v h0) fun r _ h'=>ba h0 h'∧∃ a b c d,r = .agg (zq a b c d):=by
  unfold bR UX KP
  obtain ⟨vr,hp,hs0,hsp⟩:=hv
  have bz:∀ K:AV→aa,lh [.int .i64 0,.int .i64 0,.int .i64 0,.int .i64 0] [] K=K (.agg (zq 0 0 0 0)):=fun K=>rfl
  refine aR.bind (DN hro _ 0) ?_
  rintro z h1 ⟨hz,oz,g1⟩
  simp only [(hs0.grow g1).len,bz]
  have putAt:∀ (h3:Heap) (l:List AV) (a b c d e:Int),Own h3 z l 0→l.length=4→ba h0 h3→c9 (fun k:bH=>jh h3 (.ptr z 0) 4 (.agg (zq a b c d)) fun c=>jd c (.ptr z 0) 4 true fun d=>k d e c) fun r _ h'=>ba h0 h'∧∃ a b c d,r = .agg (zq a b c d):=by
    intro h3 l a b c d e o hl g3
    refine aR.bind (aly (n:=4) (cs:=zq a b c d) o hl rfl) ?_
    rintro _ h4 ⟨rfl,p⟩
    exact B1 ⟨p.grow g3 hz,a,b,c,d,rfl⟩
  refine aJ.ifB (fun _=>putAt h1 _ 0 0 0 0 3 oz rfl g1) fun e=>?_
  rw [kj,ga] at e
  refine aR.bind (DN (g1.le hro) _ 0) ?_
  rintro y h2 ⟨hy,oy,g2⟩
  have g02:=g1.trans g2
  have hyz:y≠z:=by have:=oz.lt; omega
  have key:∀ (q i:Nat) (h:Heap) (a b c d:Int),ba h0 h→Own h z [.int .i64 0,.int .i64 0,.int .i64 0,.int .i64 0] 0→Own h y (zq a b c d) 0→i≤m→m-i<q→c9 (fun k=>zR n (du n) k q (.ptr z 0) (.ptr y 0) v (m:Int) (i:Int) h) fun r _ h'=>ba h0 h'∧∃ a b c d,r = .agg (zq a b c d):=by
    intro q
    induction q with
    | zero=>omega
    | succ q ih=>
      intro i h a b c d g oz oy hi hq
      simp only [ak7]
      unfold zU Fv
      refine aJ.ifB (fun e1=>?_) fun _=>?_
      · rw [kj,fY] at e1
        have hlt:i<m:=by omega
        refine aJ.copy (hs0.grow g) (g.le hro) hlt rfl rfl fun a1 b1 x1 d1 u hx g'=>?_
        have g2:=g.trans g'
        simp only [aD,gU hx,aoT]
        refine c9.bind (v_Needs hn (g2.le hro) ((hsp i hlt).grow g2) (hp i)) ?_
        rintro r e3 h3 ⟨g3,p1,p2,p3,p4,rfl⟩
        have g03:=g2.trans g3
        refine aR.bind (GQ (g03.le hro) (by rfl) (by rfl)) ?_
        rintro w h4 ⟨hw,ow,g4⟩
        have g04:=g03.trans g4
        have gg:ba h h4:=(g'.trans g3).trans g4
        have oz4:Own h4 z _ 0:=(gg.chg fun _=>False).own oz fun h=>h
        have oy4:Own h4 y _ 0:=(gg.chg fun _=>False).own oy fun h=>h
        have hwy:y≠w:=by
          have:=oy.lt
          have:=(g'.trans g3).nx
          omega
        have hwz:z≠w:=by
          have:=oz.lt
          have:=(g'.trans g3).nx
          omega
        refine aJ.ifB (fun _=>putAt h4 _ 0 0 0 0 e3 oz4 rfl g04) fun _=>?_
        have hny:h0.nx≤y:=gb g1.nx hy
        simp only [aD,gU oy4.cl,gU ow.cl,ned_0,ahk]
        refine dy.bind (vT oy4 (by simp [zq]) rfl) ?_
        intro h5 q5
        have y5:=q5.own
        have w5:Own h5 w _ 0:=q5.ownO hwy.symm ow
        simp only [aD,gU y5.cl,gU w5.cl,ned_1,ahk,zq,List.set_cons_zero,List.getElem?_cons_succ,List.getElem?_cons_zero]
        refine dy.bind (vT y5 (by simp [zq]) rfl) ?_
        intro h6 q6
        have y6:=q6.own
        have w6:Own h6 w _ 0:=q6.ownO hwy.symm w5
        simp only [aD,gU y6.cl,gU w6.cl,anT,ahk,zq,List.set_cons_zero,List.set_cons_succ,List.getElem?_cons_succ,List.getElem?_cons_zero]
        refine dy.bind (vT y6 (by simp [zq]) rfl) ?_
        intro h7 q7
        have y7:=q7.own
        have w7:Own h7 w _ 0:=q7.ownO hwy.symm w6
        simp only [aD,gU y7.cl,gU w7.cl,ned_3,ahk,zq,List.set_cons_zero,List.set_cons_succ,List.getElem?_cons_succ,List.getElem?_cons_zero]
        refine dy.bind (vT y7 (by simp [zq]) rfl) ?_
        intro h8 q8
        have y8:=q8.own
        have g08:ba h0 h8:=q8.grow (q7.grow (q6.grow (q5.grow g04 hny) hny) hny) hny
        have oz8:Own h8 z _ 0:=q8.ownO hyz.symm (q7.ownO hyz.symm (q6.ownO hyz.symm (q5.ownO hyz.symm oz4)))
        simp only [aD,js (show i≤9223372036854775806 by omega)]
        exact ih (i+1) h8 _ _ _ _ g08 oz8 y8 (by omega) (by omega)
      · simp only [aD,gU oy.cl,Xy (show (zq a b c d).length=4 from rfl)]
        exact putAt h _ a b c d 0 oz rfl g
  exact key n 0 h2 0 0 0 0 g02 ((g2.chg fun _=>False).own oz fun h=>h) oy (by omega) (by omega)
end Go.Proofs.YtpoobhhdgjgdgaaGreat.Sh
/- What fits; slots; frames that stand there. -/
namespace Go.Proofs.YtpoobhhdgjgdgaaGreat.Sh
open Go.Ai
theorem aiG {zc:bA} {p:Int} (h:wB zc p=0):uP zc=true∧0≤p∧p<zc.parts.length:=by
  unfold wB at h
  cases hm:uP zc with
  | false=>rw [hm] at h; simp at h
  | true=>
    rw [hm,if_pos rfl] at h
    by_cases hh:0≤p∧p<zc.parts.length
    · exact ⟨rfl,hh⟩
    · rw [if_neg hh] at h; omega
theorem v_Shape {n:Nat} {zc:bA} (hn:dt n zc) {h:Heap} (hro:h.ro≤h.nx) {c:List AV} (hc:Cfg h zc c) (p:Int) :
    c9 (eo n (.agg c) p h) fun r e h'=>ba h h'∧e=wB zc p∧∃ a b c d,r = .agg (zq a b c d):=by
  unfold eo Qu HY
  obtain ⟨t,pp,rfl,ht,hp⟩:=hc
  have bz:∀ K:AV→aa,lh [.int .i64 0,.int .i64 0,.int .i64 0,.int .i64 0] [] K=K (.agg (zq 0 0 0 0)):=fun K=>rfl
  refine aR.bind (mr ..) ?_
  rintro x h1 ⟨hb,g⟩
  refine aR.bind (DN (g.le hro) _ 0) ?_
  rintro y h2 ⟨hy,oy,g2⟩
  have g02:=g.trans g2
  have hny:h.nx≤y:=gb g.nx hy
  have put:∀ (h3:Heap) (a b c d e:Int),ba h2 h3→e=wB zc p→c9 (fun k:bH=>jh h3 (.ptr y 0) 4 (.agg (zq a b c d)) fun c=>jd c (.ptr y 0) 4 true fun d=>k d e c) fun r e h'=>ba h h'∧e=wB zc p∧∃ a b c d,r = .agg (zq a b c d):=by
    intro h3 a b c d e g3 he
    refine aR.bind (aly (n:=4) (cs:=zq a b c d) ((g3.chg fun _=>False).own oy fun h=>h) rfl rfl) ?_
    rintro _ h4 ⟨rfl,p⟩
    exact B1 ⟨p.grow (g02.trans g3) hny,he,a,b,c,d,rfl⟩
  have hb2:=g2.cl hb
  have hc2:Cfg h2 zc (ry zc t pp):=Cfg.mk' (ht.grow g02) (hp.grow g02)
  simp only [bz]
  simp only [aD,gU hb2,bC]
  refine aR.bind (am6 hn (g02.le hro) hc2 p) ?_
  rintro _ h3 ⟨rfl,g3⟩
  refine aJ.ifB (fun _=>put h3 0 0 0 0 _ g3 rfl) fun e0=>?_
  have e0':wB zc p=0:=by simpa using e0
  obtain ⟨hm,hp0,hpl⟩:=aiG e0'
  obtain ⟨pn,rfl⟩:=gj hp0
  have hpl':pn<zc.parts.length:=by omega
  have qo:=an1 hm (acz hm hpl')
  simp only [aD,gU (g3.cl hb2),bC]
  refine aR.bind (aqO ((g02.trans g3).le hro) (hc2.grow g3) hpl' qo.ord.1) ?_
  rintro _ h4 ⟨rfl,g4⟩
  exact put h4 _ _ _ _ 0 (g3.trans g4) e0'.symm
theorem v_Limit {n:Nat} {zc:bA} (hn:dt n zc) {h:Heap} (hro:h.ro≤h.nx) {c:List AV} (hc:Cfg h zc c) (p:Int) :
    c9 (d8 n (.agg c) p h) fun _ e h'=>ba h h'∧e=wB zc p:=by
  unfold d8 QE Iu
  obtain ⟨t,pp,rfl,ht,hp⟩:=hc
  refine aR.bind (mr ..) ?_
  rintro x h1 ⟨hb,g⟩
  simp only [aD,gU hb,bC]
  refine c9.bind (v_Shape hn (g.le hro) (Cfg.mk' (ht.grow g) (hp.grow g)) p) ?_
  rintro r e h2 ⟨g2,rfl,a,b,c,d,rfl⟩
  have g02:=g.trans g2
  refine aR.bind (GQ (g02.le hro) (by rfl) (by rfl)) ?_
  rintro w h3 ⟨hw,ow,g3⟩
  simp only [aD,gU ow.cl,anT]
  exact B1 ⟨g02.trans g3,rfl⟩
theorem min4 (a b c d:Int):∃ r,∀ K:AV→aa,yY false [.int .i64 a,.int .i64 b,.int .i64 c,.int .i64 d] K=K (.int .i64 r):=⟨_,fun _=>rfl⟩
theorem apP (x:cV) (s:AV):(tJ x s)[4]?=some (.int .i64 x.spaces):=rfl
theorem apI (x:cV) (s:AV):(tJ x s)[5]?=some (.int .i64 x.fk):=rfl
theorem ap6 (x:cV) (s:AV):(tJ x s)[3]?=some (.int .i64 x.tables):=rfl
theorem am7 (x:cV) (s:AV):(tJ x s)[7]?=some (.int .i64 x.slots):=rfl
theorem v_Fits {n:Nat} {zc:bA} (hn:dt n zc) {h:Heap} (hro:h.ro≤h.nx) {c:List AV} (hc:Cfg h zc c) (p a1 a2 a3 a4:Int) :
    c9 (bO n (.agg c) p (.agg (zq a1 a2 a3 a4)) h) fun _ _ h'=>ba h h':=by
  unfold bO QP Iw w0 wS xw
  obtain ⟨t,pp,rfl,ht,hp⟩:=hc
  refine aR.bind (mr ..) ?_
  rintro x h1 ⟨hb,g⟩
  refine aR.bind (mr ..) ?_
  rintro y h2 ⟨hy,g2⟩
  have g02:=g.trans g2
  simp only [aD,gU (g2.cl hb),bC]
  refine c9.bind (v_Limit hn (g02.le hro) (Cfg.mk' (ht.grow g02) (hp.grow g02)) p) ?_
  rintro f e h3 ⟨g3,rfl⟩
  have g03:=g02.trans g3
  refine aJ.ifB (fun _=>B1 g03) fun e0=>?_
  have e0':wB zc p=0:=by simpa using e0
  obtain ⟨hm,hp0,hpl⟩:=aiG e0'
  obtain ⟨pn,rfl⟩:=gj hp0
  have hpl':pn<zc.parts.length:=by omega
  obtain ⟨r,hr⟩:=min4 a1 a2 a3 a4
  have hy3:=g3.cl hy
  simp only [aD,gU hy3,ned_0,ned_1,anT,ned_3,hr]
  refine aJ.ifB (fun _=>B1 g03) fun _=>?_
  obtain ⟨_,S,hs,hS⟩:=hp.grow g03
  simp only [aD,gU (g3.cl (g2.cl hb)),bC]
  refine aJ.copy hs (g03.le hro) hpl' rfl rfl fun a b z d u hx g'=>?_
  have g04:=g03.trans g'
  simp only [aD,gU hx,gU (g'.cl hy3),ap6,apP,apI,ned_0,ned_1,anT,ned_3,min2]
  refine aJ.ifB (fun _=>?_) fun _=>?_
  · refine aJ.ifB (fun _=>?_) fun _=>?_
    · exact aJ.ifB (fun _=>B1 g04) fun _=>B1 g04
    · exact B1 g04
  · exact B1 g04
theorem v_slots {n:Nat} {h0:Heap} (hro:h0.ro≤h0.nx) {v:AV} {m:Nat} {f:Nat→cV} {S:Nat→AV} (hs:bK h0 v 8 m fun i=>tJ (f i) (S i)) (hn:m<n):aR (ei n v h0) fun _ h'=>ba h0 h':=by
  unfold ei Qk IP
  simp only [hs.len]
  have key:∀ (q i:Nat) (h:Heap) (s:Int),ba h0 h→i≤m→m-i<q→aR (fun k=>xn n k q s v (m:Int) (i:Int) h) fun _ h'=>ba h0 h':=by
    intro q
    induction q with
    | zero=>omega
    | succ q ih=>
      intro i h s g hi hq
      simp only [ajM]
      unfold xG CM
      refine aJ.ifB (fun e=>?_) fun _=>jT g
      rw [kj,fY] at e
      have hsm:=hs.1
      refine aJ.copy (hs.grow g) (g.le hro) (show i<m by omega) rfl rfl fun a b x d y hx g'=>?_
      simp only [aD,gU hx,am7,js (show i≤9223372036854775806 by omega)]
      exact ih (i+1) y _ (g.trans g') (by omega) (by omega)
  exact key n 0 h0 0 .refl (by omega) (by omega)
theorem v_Base {n:Nat} {zc:bA} (hn:dt n zc) {h:Heap} (hro:h.ro≤h.nx) {c:List AV} (hc:Cfg h zc c) (p:Int) :
    c9 (bJ n (.agg c) p h) fun _ e h'=>ba h h'∧e=wB zc p:=by
  unfold bJ Xq LF
  obtain ⟨t,pp,rfl,ht,hp⟩:=hc
  refine aR.bind (mr ..) ?_
  rintro x h1 ⟨hb,g⟩
  simp only [aD,gU hb,bC]
  refine aR.bind (am6 hn (g.le hro) (Cfg.mk' (ht.grow g) (hp.grow g)) p) ?_
  rintro _ h2 ⟨rfl,g2⟩
  have g02:=g.trans g2
  refine aJ.ifB (fun _=>B1 ⟨g02,rfl⟩) fun e0=>?_
  have e0':wB zc p=0:=by simpa using e0
  obtain ⟨hm,hp0,hpl⟩:=aiG e0'
  obtain ⟨hsh,S,hs,hS⟩:=hp.grow g02
  obtain ⟨v',hs',hk⟩:=hs.take hsh hp0 (by omega)
  simp only [aD,gU (g2.cl hb),bC,hk]
  refine aR.bind (v_slots (g02.le hro) hs' (by have:=hn.parts; omega)) ?_
  rintro r h3 g3
  exact B1 ⟨g02.trans g3,e0'.symm⟩
def OwIn (h:Heap) (v:AV) (m:Nat) (F U:Nat→Int):Prop:=bK h v 2 m fun i=>[.int .i64 (F i),.int .u8 (U i)]
theorem OwIn.grow {h h':Heap} {v:AV} {m:Nat} {F U:Nat→Int} (s:OwIn h v m F U) (g:ba h h'):OwIn h' v m F U:=bK.grow s g
theorem eq_ow (a b c d:Int):∃ r,∀ K:Bool→aa,eqRK (.plain [.int,.int]) (.agg [.int .i64 a,.int .u8 b]) (.agg [.int .i64 c,.int .u8 d]) K=K r:=by
  refine ⟨(eqF a c&&eqF b d),fun K=>?_⟩
  show oC (mO [.int,.int] [.int .i64 a,.int .u8 b] [.int .i64 c,.int .u8 d]) K=_
  have e1:wC .int (.int .i64 a) (.int .i64 c)=some (eqF a c):=rfl
  have e2:wC .int (.int .u8 b) (.int .u8 d)=some (eqF b d):=rfl
  have:mO [.int,.int] [.int .i64 a,.int .u8 b] [.int .i64 c,.int .u8 d]=some (eqF a c&&eqF b d):=by
    simp only [mO,e1,e2]
    cases eqF a c<;>cases eqF b d<;>rfl
  rw [this]; rfl
theorem sub_2u (a b:Int):sub [AV.int .i64 a,.int .u8 b] 0 2=some [AV.int .i64 a,.int .u8 b]:=by rw [pG]; rfl
theorem v_has {n:Nat} {h0:Heap} (hro:h0.ro≤h0.nx) {v:AV} {m:Nat} {F U:Nat→Int} (hs:OwIn h0 v m F U) (hn:m<n) (a b:Int):aR (bs n v a b h0) fun _ h'=>ba h0 h':=by
  unfold bs WU Lz dR GR Bb dP Hq Ac
  have bz:∀ K:AV→aa,lh [.int .i64 0,.int .u8 0] [(0,1,.int .i64 a),(1,1,.int .u8 b)] K=K (.agg [.int .i64 a,.int .u8 b]):=fun K=>rfl
  simp only [bz]
  refine aR.bind (mr ..) ?_
  rintro x h1 ⟨hb,g⟩
  simp only [aD,gU hb,sub_2u]
  refine aR.bind (mr ..) ?_
  rintro y h2 ⟨hy,g2⟩
  have g02:=g.trans g2
  simp only [bK.len hs]
  have key:∀ (q i:Nat),i≤m→m-i<q→aR (fun k=>sf n k q v (.ptr y 0) (m:Int) (i:Int) h2) fun _ h'=>h'=h2:=by
    intro q
    induction q with
    | zero=>omega
    | succ q ih=>
      intro i hi hq
      simp only [acg]
      unfold sg wN
      refine aJ.ifB (fun e=>?_) fun _=>jT rfl
      rw [kj,fY] at e
      have hsm:=hs.1
      obtain ⟨r,hr⟩:=eq_ow a b (F i) (U i)
      have hel:∀ K,eld 2 h2 v (i:Int) 2 true K=K (elP v 2 (i:Int)) (.agg [.int .i64 (F i),.int .u8 (U i)]):=fun K=>bK.eld (hs.grow g02) (i:=(i:Int)) (by omega) (by omega) K
      simp only [aD,gU hy,sub_2u,hel,hr,js (show i≤9223372036854775806 by omega)]
      exact aJ.ifB (fun _=>jT rfl) fun _=>ih (i+1) (by omega) (by omega)
  refine aR.bind (key n 0 (by omega) (by omega)) ?_
  rintro d e rfl
  exact jT g02
end Go.Proofs.YtpoobhhdgjgdgaaGreat.Sh
/- What was seen: counts in a map. -/
namespace Go.Proofs.YtpoobhhdgjgdgaaGreat.Sh
open Go.Ai
set_option linter.unusedSectionVars false
section
variable {κ:Type} [DecidableEq κ]
def ahD (kk:dk) (em:κ→AV):Prop:=∀ k j,oE kk (em k) (em j)=some (decide (k=j))
def T5 (em:κ→AV) (kv:List (κ × Int)):List (AV × AV):=kv.map fun e=>(em e.1,AV.int .i64 e.2)
def QA (k:κ):List (κ × Int)→Option Int
  | []=>none
  | e::t=>if k=e.1 then some e.2 else QA k t
def T2 (k:κ) (c:Int):List (κ × Int)→List (κ × Int)
  | []=>[(k,c)]
  | e::t=>if k=e.1 then (k,c)::t else e::T2 k c t
theorem aoP (j k:κ) (c:Int):∀ kv:List (κ × Int),QA j (T2 k c kv)=if j=k then some c else QA j kv
  | []=>rfl
  | e::t=>by
    by_cases h:k=e.1
    · rw [show T2 k c (e::t)=(k,c)::t by simp [T2,h]]
      by_cases h2:j=k
      · simp [QA,h2]
      · simp [QA,h2, ← h]
    · rw [show T2 k c (e::t)=e::T2 k c t by simp [T2,h]]
      by_cases h2:j=e.1
      · have:¬ j=k:=fun e=>h (by rw [← e,h2])
        simp [QA,h2,show ¬ e.1=k from fun e=>h e.symm]
      · simp [QA,h2,aoP j k c t]
theorem findE {kk:dk} {em:κ→AV} (ok:ahD kk em) (k:κ):∀ kv:List (κ × Int),Gq kk (em k) (T5 em kv)=some ((QA k kv).map (AV.int .i64))
  | []=>rfl
  | e::t=>by
    show (Option.casesOn (oE kk (em k) (em e.1)) none fun b=>Bool.casesOn b (Gq kk (em k) (T5 em t)) (some (some (AV.int .i64 e.2))):Option (Option AV))=_
    rw [ok,findE ok k t]
    by_cases h:k=e.1
    · rw [gk h]; simp [QA,h]
    · rw [gf h]; simp [QA,h]
theorem putE {kk:dk} {em:κ→AV} (ok:ahD kk em) (k:κ) (c:Int):∀ kv:List (κ × Int),T6 kk (em k) (.int .i64 c) (T5 em kv)=some (T5 em (T2 k c kv))
  | []=>rfl
  | e::t=>by
    show (Option.casesOn (oE kk (em k) (em e.1)) none fun b=>Bool.casesOn b (Option.casesOn (T6 kk (em k) (.int .i64 c) (T5 em t)) none fun t'=>some ((em e.1,AV.int .i64 e.2)::t')) (some ((em k,.int .i64 c)::T5 em t)):Option _)=_
    rw [ok,putE ok k c t]
    by_cases h:k=e.1
    · rw [gk h]; simp [T2,h,T5]
    · rw [gf h]; simp [T2,h,T5]
structure MapE (em:κ→AV) (h:Heap) (b:Nat) (kv:List (κ × Int)):Prop where
  lt:b<h.nx
  ro:h.ro≤b
  get:h.get b=some (.mp (T5 em kv))
theorem MapE.chg {em:κ→AV} {F:Nat→Prop} {h h':Heap} {b:Nat} {kv:List (κ × Int)} (a:MapE em h b kv) (c:Chg F h h') (hf:¬ F b):MapE em h' b kv:=
  ⟨fX a.lt c.nx,by rw [c.ro]; exact a.ro,(c.old b a.lt hf).trans a.get⟩
theorem MapE.ne {em:κ→AV} {h:Heap} {b c:Nat} {kv:List (κ × Int)} {l:List AV} {g:Nat} (a:MapE em h b kv) (o:Own h c l g):b≠c:=by
  rintro rfl
  have:=a.get.symm.trans o.get
  cases this
theorem MapE.at_ {em:κ→AV} {h:Heap} {b:Nat} {kv:List (κ × Int)} (a:MapE em h b kv):Jl h b=some (T5 em kv):=by unfold Jl; rw [a.get]
theorem MapE.look {kk:dk} {em:κ→AV} (ok:ahD kk em) {h:Heap} {b:Nat} {kv:List (κ × Int)} (a:MapE em h b kv) (k:κ):∃ t,∀ c:AV→Bool→aa,Cb h kk (.int .i64 0) (.map b) (em k) c=c (.int .i64 ((QA k kv).getD 0)) t:=by
  refine ⟨(QA k kv).isSome,fun c=>?_⟩
  unfold Cb
  have h1:mapOf h (.map b)=some (T5 em kv):=a.at_
  rw [h1,AD,ok,AD,findE ok,AD]
  cases QA k kv<;>rfl
theorem r_putE {kk:dk} {em:κ→AV} (ok:ahD kk em) {h:Heap} {b:Nat} {kv:List (κ × Int)} (a:MapE em h b kv) (k:κ) (x:Int) :
    dy (aaD h kk (.map b) (em k) (.int .i64 x)) fun h'=>MapE em h' b (T2 k x kv)∧Chg (· = b) h h':=by
  refine ⟨h.set b (.mp (T5 em (T2 k x kv))),⟨⟨by simpa using a.lt,by simpa using a.ro,Heap.fu ..⟩,⟨by simp,by simp,fun c _ hc=>Heap.ft _ (fun e=>hc e.symm) _⟩⟩,fun c=>?_⟩
  unfold aaD
  rw [alX]
  have h1:Nat.blt b h.ro=false:=by rw [blt_eq]; simp; exact a.ro
  rw [h1,Bs,a.at_,AD,ok,AD,putE ok,AD,QV]; rfl
structure cr (em:κ→AV) (h0 h:Heap) (c m:Nat) (f:κ→Int):Prop where
  own:Own h c [.map m] 0
  map:∃ kv,MapE em h m kv∧∀ k,(QA k kv).getD 0=f k
  lowc:h0.nx≤c
  lowm:h0.nx≤m
theorem cr.chg {em:κ→AV} {F:Nat→Prop} {h0 h h':Heap} {c m:Nat} {f:κ→Int} (s:cr em h0 h c m f) (g:Chg F h h') (h1:¬ F c) (h2:¬ F m):cr em h0 h' c m f:=
  ⟨g.own s.own h1,have ⟨kv,a,b⟩:=s.map; ⟨kv,a.chg g h2,b⟩,s.lowc,s.lowm⟩
theorem cr.grow {em:κ→AV} {h0 h h':Heap} {c m:Nat} {f:κ→Int} (s:cr em h0 h c m f) (g:ba h h'):cr em h0 h' c m f:=s.chg (g.chg fun _=>False) (fun h=>h) fun h=>h
theorem cr.ne {em:κ→AV} {h0 h:Heap} {c m b g:Nat} {f:κ→Int} {l:List AV} (s:cr em h0 h c m f) (o:Own h b l g):m≠b:=have ⟨_,a,_⟩:=s.map; a.ne o
theorem cr.ltm {em:κ→AV} {h0 h:Heap} {c m:Nat} {f:κ→Int} (s:cr em h0 h c m f):m<h.nx:=have ⟨_,a,_⟩:=s.map; a.lt
theorem cr.other {κ':Type} [DecidableEq κ'] {em:κ→AV} {em':κ'→AV} {h0 h h':Heap} {c m c' m':Nat} {f:κ→Int} {f':κ'→Int} (s:cr em h0 h c m f) (s':cr em' h0 h c' m' f') (hm:m≠m') (g:Chg (· = m') h h'):cr em h0 h' c m f:=
  s.chg g (fun e=>s'.ne s.own e.symm) hm
def U6 (f:κ→Int) (a:κ):κ→Int:=fun k=>if k=a then IntKind.i64.wrap (f a+1) else f k
def aeG (f:κ→Int) (a:κ):Bool:=decide (1<IntKind.i64.wrap (f a+1))
theorem r_mpnew {h:Heap} (hro:h.ro≤h.nx) (l:List (AV × AV)):aR (lG h (.mp l)) fun x h'=>x=h.nx∧h'.get x=some (.mp l)∧h'.nx=h.nx+1∧ba h h':=
  ⟨(h.nx,h.add (.mp l)),⟨rfl,by rw [Heap.fB,if_pos rfl],by simp,ba.add⟩,fun k=>Dy ..⟩
theorem amM (em:κ→AV) (fn:Nat) {h0 h:Heap} (hro:h.ro≤h.nx) (g0:ba h0 h):aR (fun k:aL=>lG h (.mp []) fun a b=>lG b (.cells [.nilmap] true 0) fun c d=>jh d (.ptr c 0) 1 (.map a) fun e=>k (.func fn [] [(.ptr c 0)]) e) fun r h'=>∃ c m,r = .func fn [] [.ptr c 0]∧cr em h0 h' c m (fun _=>0)∧ba h h'∧h.nx≤c∧h.nx≤m:=by
  refine aR.bind (r_mpnew hro []) ?_
  rintro m h1 ⟨rfl,m1,n1,g1⟩
  refine aR.bind (DN (g1.le hro) _ 0) ?_
  rintro c h2 ⟨hc,oc,g2⟩
  refine dy.bind (vT oc (u:=.map h.nx) (by simp) rfl) ?_
  intro h3 p
  have hn:=g0.nx
  have hc':h.nx≤c:=by omega
  have g3:ba h h3:=p.grow (g1.trans g2) hc'
  refine jT ⟨c,h.nx,rfl,⟨p.own,⟨[],⟨?_,by rw [g3.ro]; exact hro,?_⟩,fun _=>rfl⟩,by omega,hn⟩,g3,hc',fZ _⟩
  · have:=p.nx; have:=g2.nx; show h.nx<h3.nx; omega
  · show h3.get h.nx=_
    rw [p.other _ (by omega),g2.old _ (by omega),m1]; rfl
end
def emI (a:Int):AV:=.int .i64 a
def emU (a:Int):AV:=.int .u64 a
def emP (a:Int × Int):AV:=.agg [.int .i64 a.1,.int .i64 a.2]
theorem keyI:ahD (.cell .int) emI:=fun k j=>by
  show some (eqF k j)=_
  rw [JU]; rfl
theorem keyU:ahD (.cell .int) emU:=fun k j=>by
  show some (eqF k j)=_
  rw [JU]; rfl
theorem keyP:ahD (.agg [.int,.int]) emP:=fun k j=>by
  show mO [.int,.int] [.int .i64 k.1,.int .i64 k.2] [.int .i64 j.1,.int .i64 j.2]=_
  have e1:∀ a b:Int,wC .int (.int .i64 a) (.int .i64 b)=some (eqF a b):=fun _ _=>rfl
  simp only [mO,e1,JU]
  obtain ⟨a,b⟩:=k
  obtain ⟨c,d⟩:=j
  by_cases h1:a=c
  · by_cases h2:b=d
    · simp [h1,h2]
    · have q2:(b==d)=false:=by simp [h2]
      simp only [q2]; simp [h1,h2]
  · have q1:(a==c)=false:=by simp [h1]
    by_cases h2:b=d
    · simp only [q1]; simp [h1,h2]
    · have q2:(b==d)=false:=by simp [h2]
      simp only [q1,q2]; simp [h1]
theorem aqu {n:Nat} {h0 h:Heap} (hro:h.ro≤h.nx) (g0:ba h0 h):aR (aK n h) fun r h'=>∃ c m,r = .func 32 [] [.ptr c 0]∧cr emI h0 h' c m (fun _=>0)∧ba h h'∧h.nx≤c∧h.nx≤m:=amM emI 32 hro g0
theorem v_newU {n:Nat} {h0 h:Heap} (hro:h.ro≤h.nx) (g0:ba h0 h):aR (aG n h) fun r h'=>∃ c m,r = .func 38 [] [.ptr c 0]∧cr emU h0 h' c m (fun _=>0)∧ba h h'∧h.nx≤c∧h.nx≤m:=amM emU 38 hro g0
theorem v_newP {n:Nat} {h0 h:Heap} (hro:h.ro≤h.nx) (g0:ba h0 h):aR (aE n h) fun r h'=>∃ c m,r = .func 39 [] [.ptr c 0]∧cr emP h0 h' c m (fun _=>0)∧ba h h'∧h.nx≤c∧h.nx≤m:=amM emP 39 hro g0
theorem ao7 (m:Nat):([AV.map m]:List AV)[0]?=some (.map m):=rfl
theorem Us {κ:Type} [DecidableEq κ] {f:κ→Int} {kv:List (κ × Int)} (hf:∀ k,(QA k kv).getD 0=f k) (a k:κ):(QA k (T2 a (IntKind.i64.wrap (f a+1)) kv)).getD 0=U6 f a k:=by
  rw [aoP]
  unfold U6
  by_cases h:k=a
  · rw [if_pos h,if_pos h]; rfl
  · rw [if_neg h,if_neg h]; exact hf k
theorem amR {n:Nat} {h0 h:Heap} {c m:Nat} {f:Int→Int} (s:cr emI h0 h c m f) (a:Int):aR (au n a (.ptr c 0) h) fun r h'=>r=aeG f a∧cr emI h0 h' c m (U6 f a)∧Chg (· = m) h h':=by
  unfold au ua qj
  obtain ⟨oc,⟨kv,ma,hf⟩,lc,lm⟩:=s
  obtain ⟨t,ht⟩:=ma.look keyI a
  rw [hf a] at ht
  have ht:∀ K,Cb h (.cell .int) (.int .i64 0) (.map m) (.int .i64 a) K=K (.int .i64 (f a)) t:=ht
  simp only [aD,gU oc.cl,ao7,ht]
  refine dy.bind (r_putE keyI ma a (IntKind.i64.wrap (f a+1))) ?_
  rintro h1 ⟨m1,c1⟩
  have o1:Own h1 c [.map m] 0:=c1.own oc fun e=>ma.ne oc e.symm
  obtain ⟨t1,ht1⟩:=m1.look keyI a
  rw [Us hf a a] at ht1
  have ht1:∀ K,Cb h1 (.cell .int) (.int .i64 0) (.map m) (.int .i64 a) K=K (.int .i64 (IntKind.i64.wrap (f a+1))) t1:=fun K=>by rw [show U6 f a a=IntKind.i64.wrap (f a+1) by simp [U6]] at ht1; exact ht1 K
  simp only [aD,gU o1.cl,ao7,ht1]
  exact jT ⟨rfl,⟨o1,⟨_,m1,Us hf a⟩,lc,lm⟩,c1⟩
theorem v_seenU {n:Nat} {h0 h:Heap} {c m:Nat} {f:Int→Int} (s:cr emU h0 h c m f) (a:Int):aR (ar n a (.ptr c 0) h) fun r h'=>r=aeG f a∧cr emU h0 h' c m (U6 f a)∧Chg (· = m) h h':=by
  unfold ar ru ov
  obtain ⟨oc,⟨kv,ma,hf⟩,lc,lm⟩:=s
  obtain ⟨t,ht⟩:=ma.look keyU a
  rw [hf a] at ht
  have ht:∀ K,Cb h (.cell .int) (.int .i64 0) (.map m) (.int .u64 a) K=K (.int .i64 (f a)) t:=ht
  simp only [aD,gU oc.cl,ao7,ht]
  refine dy.bind (r_putE keyU ma a (IntKind.i64.wrap (f a+1))) ?_
  rintro h1 ⟨m1,c1⟩
  have o1:Own h1 c [.map m] 0:=c1.own oc fun e=>ma.ne oc e.symm
  obtain ⟨t1,ht1⟩:=m1.look keyU a
  rw [Us hf a a] at ht1
  have ht1:∀ K,Cb h1 (.cell .int) (.int .i64 0) (.map m) (.int .u64 a) K=K (.int .i64 (IntKind.i64.wrap (f a+1))) t1:=fun K=>by rw [show U6 f a a=IntKind.i64.wrap (f a+1) by simp [U6]] at ht1; exact ht1 K
  simp only [aD,gU o1.cl,ao7,ht1]
  exact jT ⟨rfl,⟨o1,⟨_,m1,Us hf a⟩,lc,lm⟩,c1⟩
theorem v_seenP {h0 h:Heap} {c m:Nat} {f:Int × Int→Int} (s:cr emP h0 h c m f) (a b:Int):aR (fun k:AV→Heap→aa=>lq dblG [.agg [.int .i64 a,.int .i64 b],.ptr c 0] h k) fun r h'=>(∃ t,r = .bool t)∧cr emP h0 h' c m (U6 f (a,b))∧Chg (· = m) h h':=by
  obtain ⟨oc,⟨kv,ma,hf⟩,lc,lm⟩:=s
  have hfn:=findE keyP (a,b) kv
  have hput:=putE keyP (a,b) (IntKind.i64.wrap (f (a,b)+1)) kv
  have hf0:=hf (a,b)
  have ef:∀ k,(QA k (T2 (a,b) (IntKind.i64.wrap (f (a,b)+1)) kv)).getD 0=U6 f (a,b) k:=Us hf (a,b)
  have hro:Nat.blt m h.ro=false:=by rw [blt_eq]; simp; exact ma.ro
  have key:dblO h [.agg [.int .i64 a,.int .i64 b],.ptr c 0]=some (.bool (aeG f (a,b)),h.set m (.mp (T5 emP (T2 (a,b) (IntKind.i64.wrap (f (a,b)+1)) kv)))):=by
    unfold dblO
    have hfn':Gq (.agg [.int,.int]) (.agg [.int .i64 a,.int .i64 b]) (T5 emP kv)=some ((QA (a,b) kv).map (AV.int .i64)):=hfn
    have hput':T6 (.agg [.int,.int]) (.agg [.int .i64 a,.int .i64 b]) (.int .i64 (IntKind.i64.wrap (f (a,b)+1))) (T5 emP kv)=some (T5 emP (T2 (a,b) (IntKind.i64.wrap (f (a,b)+1)) kv)):=hput
    dsimp only
    rw [afh oc]
    dsimp only
    rw [ao7]
    dsimp only
    rw [hro,ma.at_]
    dsimp only
    rw [hfn']
    cases hv:QA (a,b) kv with
    | none=>
      rw [hv] at hf0
      have hf0:f (a,b)=0:=hf0.symm
      have w1:IntKind.i64.wrap (0+1)=1:=by decide
      rw [hf0,w1] at hput' ⊢
      dsimp only [Option.map]
      rw [hput']
      simp only [aeG,hf0,w1]; rfl
    | some x=>
      rw [hv] at hf0
      have hf0:x=f (a,b):=hf0
      subst hf0
      dsimp only [Option.map]
      rw [hput']; rfl
  refine ⟨(.bool (aeG f (a,b)),h.set m (.mp (T5 emP (T2 (a,b) (IntKind.i64.wrap (f (a,b)+1)) kv)))),⟨⟨_,rfl⟩,?_,?_⟩,fun k=>?_⟩
  · have cg:Chg (· = m) h (h.set m (.mp (T5 emP (T2 (a,b) (IntKind.i64.wrap (f (a,b)+1)) kv)))):=⟨by simp,by simp,fun c _ hc=>Heap.ft _ (fun e=>hc e.symm) _⟩
    exact ⟨cg.own oc fun e=>ma.ne oc e.symm,⟨_,⟨by simpa using ma.lt,by simpa using ma.ro,Heap.fu ..⟩,ef⟩,lc,lm⟩
  · exact ⟨by simp,by simp,fun c _ hc=>Heap.ft _ (fun e=>hc e.symm) _⟩
  · unfold lq dblG
    rw [key]; rfl
end Go.Proofs.YtpoobhhdgjgdgaaGreat.Sh
