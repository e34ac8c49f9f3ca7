/- Regions: 'vma', as far as the audits ask. -/
import Derived.Test.YtpoobhhdgjgdgaaGreatVUPlan5VA1
set_option linter.all false
namespace Go.Proofs.YtpoobhhdgjgdgaaGreat.Sh
open Go.Ai
theorem bI.fI {h:Heap} {v:AV} {sz n:Nat} {f:Nat→List AV} (s:bI h v sz n f) {i j:Nat} (hi:i<n) (hj:j<sz) {q:IntKind} {x:Int} (e:(f i)[j]?=some (.int q x)):∃ a,∀ K:AV→Int→aa,Qc sz v (i:Int) (fun y=>jy q j h y K)=K a x:=by
  obtain ⟨b,off,l,d1,d2,d3,d4⟩:=s.at_ (i:=(i:Int)) (by omega) (by omega)
  rw [gd] at d4
  have d5:l[off+j]?=some (.int q x):=by
    have:=congrArg (·[j]?) d4
    simp only [List.getElem?_take,List.getElem?_drop,if_pos hj] at this
    rw [this]; exact e
  exact ⟨_,fun K=>by rw [s.ia (by omega) (by omega),d1,fldI_of d2 d5]⟩
theorem bI.fA {h:Heap} {v:AV} {sz n:Nat} {f:Nat→List AV} (s:bI h v sz n f) {i j:Nat} (hi:i<n) (hj:j<sz) {x:AV} (e:(f i)[j]?=some x):∃ a,∀ K:AV→AV→aa,Qc sz v (i:Int) (fun y=>fld j h y 1 false K)=K a x:=by
  obtain ⟨b,off,l,d1,d2,d3,d4⟩:=s.at_ (i:=(i:Int)) (by omega) (by omega)
  rw [gd] at d4
  have d5:l[off+j]?=some x:=by
    have:=congrArg (·[j]?) d4
    simp only [List.getElem?_take,List.getElem?_drop,if_pos hj] at this
    rw [this]; exact e
  exact ⟨_,fun K=>by rw [s.ia (by omega) (by omega),d1,fld_of d2 d5]⟩
def RegIn (h:Heap) (v:AV) (m:Nat) (P N C:Nat→Int):Prop:=bI h v 3 m fun i=>[.int .i64 (P i),.int .i64 (N i),.int .u8 (C i)]
theorem RegIn.grow {h h':Heap} {v:AV} {m:Nat} {P N C:Nat→Int} (s:RegIn h v m P N C) (g:aY h h'):RegIn h' v m P N C:=bI.grow s g
theorem v_vpages {n:Nat} {a b:Int} {h:Heap}:aM (dC n a b h) fun r h'=>h'=h∧(r=true→1≤a∧a<1048576∧1≤b∧a+b≤1048576):=by
  unfold dC Uh KL zN zt zy
  by_cases h1:a<1
  · have e1:(!decide (a<1))=false:=by rw [gj h1]; rfl
    simp only [aB,e1]
    exact jL ⟨rfl,fun h=>nomatch h⟩
  · have e1:(!decide (a<1))=true:=by rw [ge h1]; rfl
    by_cases h2:a<1048576
    · by_cases h3:b<1
      · have e3:(!decide (b<1))=false:=by rw [gj h3]; rfl
        simp only [aB,e1,gj h2,e3]
        exact jL ⟨rfl,fun h=>nomatch h⟩
      · have e3:(!decide (b<1))=true:=by rw [ge h3]; rfl
        have w:IntKind.i64.wrap (1048576-a)=1048576-a:=m9 (by omega) (by omega)
        simp only [aB,e1,gj h2,e3,w]
        refine jL ⟨rfl,fun h=>?_⟩
        simp at h
        omega
    · simp only [aB,e1,ge h2]
      exact jL ⟨rfl,fun h=>nomatch h⟩
theorem v_perms {n:Nat} {a:Int} {h:Heap}:aM (dB n a h) fun _ h'=>h'=h:=by
  unfold dB TP Kk zs zm
  exact aH.ifB (fun _=>aH.ifB (fun _=>jL rfl) fun h=>nomatch h) fun _=>aH.ifB (fun _=>jL rfl) fun _=>jL rfl
theorem aoQ {n:Nat} {a b c:Int} {h:Heap}:aM (dw n (.agg [.int .i64 a,.int .i64 b,.int .u8 c]) h) fun r h'=>r=IntKind.i64.wrap (a+b)∧aY h h':=by
  unfold dw acA W6
  refine aM.bind (m7 ..) ?_
  rintro x h1 ⟨hb,g⟩
  have e0:([AV.int .i64 a,.int .i64 b,.int .u8 c])[0]?=some (.int .i64 a):=rfl
  have e1:([AV.int .i64 a,.int .i64 b,.int .u8 c])[1]?=some (.int .i64 b):=rfl
  simp only [aB,gS hb,e0,e1]
  exact jL ⟨rfl,g⟩
def an1 (m:Nat) (P N:Nat→Int):Prop:=∀ i,i<m→1≤P i∧P i<1048576∧1≤N i∧P i+N i≤1048576∧∀ j,j+1=i→P j+N j≤P i
theorem akD (a b c:Int):([AV.int .i64 a,.int .i64 b,.int .u8 c])[0]?=some (.int .i64 a):=rfl
theorem reg_1 (a b c:Int):([AV.int .i64 a,.int .i64 b,.int .u8 c])[1]?=some (.int .i64 b):=rfl
theorem an3 (a b c:Int):([AV.int .i64 a,.int .i64 b,.int .u8 c])[2]?=some (.int .u8 c):=rfl
theorem aoV {n:Nat} {h0:Heap} (hro:h0.ro≤h0.nx) {v:AV} {m:Nat} {P N C:Nat→Int} (hv:RegIn h0 v m P N C) (hm:m≤1024):∀ (q i:Nat) (h:Heap),aY h0 h→(∀ j,j<i→j<m→1≤P j∧P j<1048576∧1≤N j∧P j+N j≤1048576∧∀ l,l+1=j→P l+N l≤P j)→i≤m→m-i<q→
    aM (fun k=>wo n (dC n) (dB n) (dw n) k q v v (m:Int) (i:Int) h) fun r h'=>aY h0 h'∧(r=0→an1 m P N):=by
  intro q
  induction q with
  | zero=>omega
  | succ q ih=>
    intro i h g hok hi hq
    simp only [aks]
    unfold zK Fl zx sW
    refine aH.ifB (fun e=>?_) fun e=>?_
    · rw [kg,fX] at e
      have hlt:i<m:=by omega
      have hs:=hv.grow g
      refine aH.copy hs (g.le hro) hlt rfl rfl fun a b x d y hx g'=>?_
      have g1:=g.trans g'
      simp only [aB,gS hx,akD,reg_1]
      refine aM.bind v_vpages ?_
      rintro r2 h2 ⟨rfl,hr2⟩
      refine aH.ifB (fun _=>?_) fun e2=>?_
      · exact jL ⟨g1,fun h=>by simp at h⟩
      · have hp:=hr2 (by simpa using e2)
        simp only [aB,gS hx,an3]
        refine aM.bind v_perms ?_
        rintro r3 h3 rfl
        refine aH.ifB (fun _=>jL ⟨g1,fun h=>by simp at h⟩) fun _=>?_
        refine aH.ifB (fun e4=>?_) fun e4=>?_
        · rw [fX] at e4
          obtain ⟨l,rfl⟩:∃ l,i=l+1:=⟨i-1,by omega⟩
          have w1:IntKind.i64.wrap (((l+1:Nat):Int)-1)=(l:Int):=by rw [m9 (by omega) (by omega)]; omega
          have hl:l<m:=by omega
          have hs1:=hv.grow g1
          have hel:∀ K,eld 3 h3 v (l:Int) 3 true K=K (elP v 3 (l:Int)) (.agg [.int .i64 (P l),.int .i64 (N l),.int .u8 (C l)]):=fun K=>bI.eld hs1 (i:=(l:Int)) (by omega) (by omega) K
          simp only [aB,w1,hel]
          refine aM.bind aoQ ?_
          rintro r5 h5 ⟨rfl,g5⟩
          have g5':=g5.shut
          have g15:=g1.trans g5'
          have hpl:=hok l (by omega) hl
          have w2:IntKind.i64.wrap (P l+N l)=P l+N l:=m9 (by omega) (by omega)
          simp only [aB,gS (g5'.cl hx),akD,w2]
          refine aH.ifB (fun _=>?_) fun e6=>?_
          · exact jL ⟨g15,fun h=>by simp at h⟩
          · rw [f8] at e6
            have go:∀ h6,aY h0 h6→aM (fun k=>wo n (dC n) (dB n) (dw n) k q v v (m:Int) ((l+1+1:Nat):Int) h6) fun r h'=>aY h0 h'∧(r=0→an1 m P N):=fun h6 g6=>ih (l+1+1) h6 g6 (fun j h1 h2=>by
              by_cases hj:j<l+1
              · exact hok j hj h2
              · have:j=l+1:=by omega
                subst this
                refine ⟨hp.1,hp.2.1,hp.2.2.1,hp.2.2.2,fun l' h3=>?_⟩
                have:l'=l:=by omega
                subst this
                omega) (by omega) (by omega)
            have hs5:=hv.grow g15
            have hel5:∀ K,eld 3 (h5.back h3.ro) v (l:Int) 3 true K=K (elP v 3 (l:Int)) (.agg [.int .i64 (P l),.int .i64 (N l),.int .u8 (C l)]):=fun K=>bI.eld hs5 (i:=(l:Int)) (by omega) (by omega) K
            simp only [aB,w1,hel5]
            refine aM.bind aoQ ?_
            rintro r7 h7 ⟨rfl,g7⟩
            have g7':=g7.shut
            have g17:=g15.trans g7'
            simp only [aB,gS (g7'.cl (g5'.cl hx)),akD,w2]
            have hs7:=hv.grow g17
            obtain ⟨aC,hC⟩:=bI.fI hs7 (j:=2) hl (by omega) (an3 ..)
            refine aH.ifB (fun _=>?_) fun _=>?_
            · simp only [aB,w1,hC,gS (g7'.cl (g5'.cl hx)),an3,jq (show l+1≤9223372036854775806 by omega)]
              exact aH.ifB (fun _=>jL ⟨g17,fun h=>by simp at h⟩) fun _=>go _ g17
            · simp only [aB,jq (show l+1≤9223372036854775806 by omega)]
              exact go _ g17
        · rw [f8] at e4
          have:i=0:=by omega
          subst this
          simp only [aB,jq (show 0≤9223372036854775806 by omega)]
          exact ih 1 h3 g1 (fun j h1 h2=>by
            have:j=0:=by omega
            subst this
            exact ⟨hp.1,hp.2.1,hp.2.2.1,hp.2.2.2,fun l' h3=>by omega⟩) (by omega) (by omega)
    · rw [kg,f8] at e
      have:i=m:=by omega
      subst this
      exact jL ⟨g,fun _ j hj=>hok j hj hj⟩
theorem aby {n:Nat} (hn:1100<n) {h:Heap} (hro:h.ro≤h.nx) {v:AV} {m:Nat} {P N C:Nat→Int} (hv:RegIn h v m P N C):aM (cB n v h) fun r h'=>aY h h'∧(r=0→m≤1024∧an1 m P N):=by
  unfold cB Vl Kr
  simp only [bI.len hv]
  refine aH.ifB (fun _=>jL ⟨.refl,fun h=>by simp at h⟩) fun e=>?_
  rw [kg,f8] at e
  refine aH.mono (aoV hro hv (by omega) n 0 h .refl (fun j hj=>by omega) (by omega) (by omega)) ?_
  rintro ⟨r,h'⟩ ⟨q1,q2⟩
  exact ⟨q1,fun h=>⟨by omega,q2 h⟩⟩
theorem v_first {n:Nat} (hn:1100<n) {h0:Heap} (hro:h0.ro≤h0.nx) {v:AV} {m:Nat} {P N C:Nat→Int} (hv:RegIn h0 v m P N C) (hm:m≤1024) (a:Int):aM (dV n v a h0) fun r h'=>aY h0 h'∧∃ i:Nat,r=(i:Int)∧i≤m:=by
  unfold dV WS K4
  have key:∀ (q i:Nat) (h:Heap),aY h0 h→i≤m→m-i<q→aM (fun k=>zp n (dw n) k q v a (i:Int) h) fun r h'=>aY h0 h'∧∃ i:Nat,r=(i:Int)∧i≤m:=by
    intro q
    induction q with
    | zero=>omega
    | succ q ih=>
      intro i h g hi hq
      simp only [aj2]
      unfold zF zC Ft
      have hs:=hv.grow g
      simp only [bI.len hs]
      refine aH.ifB (fun e=>?_) fun e=>?_
      · rw [kg,fX] at e
        have hlt:i<m:=by omega
        have hel:∀ K,eld 3 h v (i:Int) 3 true K=K (elP v 3 (i:Int)) (.agg [.int .i64 (P i),.int .i64 (N i),.int .u8 (C i)]):=fun K=>bI.eld hs (i:=(i:Int)) (by omega) (by omega) K
        simp only [hel]
        refine aM.bind aoQ ?_
        rintro r2 h2 ⟨rfl,g2⟩
        simp only [aB,jq (show i≤9223372036854775806 by omega)]
        refine aH.ifB (fun _=>ih (i+1) h2 (g.trans g2) (by omega) (by omega)) fun _=>jL ⟨g.trans g2,i,rfl,hi⟩
      · simp only [D5]
        exact jL ⟨g,i,rfl,hi⟩
  exact key n 0 h0 .refl (by omega) (by omega)
end Go.Proofs.YtpoobhhdgjgdgaaGreat.Sh
/- Regions found, counted, told as spans; tables counted. -/
namespace Go.Proofs.YtpoobhhdgjgdgaaGreat.Sh
open Go.Ai
theorem Ql {l:List AV} {n:Nat} (hl:l.length=n):sub l 0 n=some l:=by rw [nP,List.drop_zero,if_pos (by omega), ← hl,List.take_length]
theorem anQ {h:Heap} {x n g:Nat} {l cs:List AV} (o:Own h x l g) (hl:l.length=n) (hc:cs.length=n):aM (fun k:AV→Heap→aa=>jf h (.ptr x 0) n (.agg cs) fun c=>jg c (.ptr x 0) n true fun d=>k d c) fun r h'=>r = .agg cs∧Put h x cs g h':=by
  refine dl.bind (Qv o (cs:=cs) hc (by omega)) ?_
  intro h' p
  rw [Ix _ _ (by omega)] at p
  simp only [aB,gS p.own.cl,Ql hc]
  exact jL ⟨rfl,p⟩
theorem v_Find {n:Nat} (hn:1100<n) {h:Heap} (hro:h.ro≤h.nx) {v:AV} {m:Nat} {P N C:Nat→Int} (hv:RegIn h v m P N C) (a:Int) :
    Run3 (eK n v a h) fun r _ _ h'=>aY h h'∧∃ x y z,r = .agg [.int .i64 x,.int .i64 y,.int .u8 z]:=by
  unfold eK ZH PY CR Ct
  have bz:∀ K:AV→aa,kM [.int .i64 0,.int .i64 0,.int .u8 0] [] K=K (.agg [.int .i64 0,.int .i64 0,.int .u8 0]):=fun K=>rfl
  refine aM.bind (DV hro _ 0) ?_
  rintro x h1 ⟨hx,o,g⟩
  refine aM.bind (aby hn (g.le hro) (hv.grow g)) ?_
  rintro e h2 ⟨g2,hok⟩
  have g02:=g.trans g2
  have put:∀ (h3:Heap) (a b c:Int) (t:Bool) (e:Int),aY h h3→aY h1 h3→Run3 (fun k:cC=>jf h3 (.ptr x 0) 3 (.agg [.int .i64 a,.int .i64 b,.int .u8 c]) fun c=>jg c (.ptr x 0) 3 true fun d=>k d t e c) fun r _ _ h'=>aY h h'∧∃ x y z,r = .agg [.int .i64 x,.int .i64 y,.int .u8 z]:=by
    intro h3 a b c t e g3 g13
    refine aM.bind (anQ (n:=3) (cs:=[.int .i64 a,.int .i64 b,.int .u8 c]) ((g13.chg fun _=>False).own o fun h=>h) rfl rfl) ?_
    rintro _ h4 ⟨rfl,p⟩
    exact agf ⟨p.grow g3 hx,a,b,c,rfl⟩
  simp only [bz]
  refine aH.ifB (fun _=>put h2 0 0 0 false e g02 g2) fun e0=>?_
  have e0':e=0:=by simpa using e0
  obtain ⟨hm,hr⟩:=hok e0'
  have found:Run3 (fun k:cC=>dV n v a h2 fun d e=>jC v fun f=>ifB (ltF d f) (Qc 3 v d fun g=>jy .i64 0 e g fun i l=>ifB (jK (ltF a l)) (eld 3 e v d 3 true fun a b=>jf e (.ptr x 0) 3 b fun c=>jg c (.ptr x 0) 3 true fun d=>k d true 0 c) (jf e (.ptr x 0) 3 (.agg [.int .i64 0,.int .i64 0,.int .u8 0]) fun f=>jg f (.ptr x 0) 3 true fun g=>k g false 0 f))
      (jf e (.ptr x 0) 3 (.agg [.int .i64 0,.int .i64 0,.int .u8 0]) fun f=>jg f (.ptr x 0) 3 true fun g=>k g false 0 f)) fun r _ _ h'=>aY h h'∧∃ x y z,r = .agg [.int .i64 x,.int .i64 y,.int .u8 z]:=by
    refine aM.bind (v_first hn (g02.le hro) (hv.grow g02) hm a) ?_
    rintro r3 h3 ⟨g3,i,rfl,hi⟩
    have hs:=hv.grow (g02.trans g3)
    simp only [bI.len hs]
    refine aH.ifB (fun e4=>?_) fun _=>put h3 0 0 0 false 0 (g02.trans g3) (g2.trans g3)
    rw [kg,fX] at e4
    have hlt:i<m:=by omega
    obtain ⟨aP,hP⟩:=bI.fI hs (j:=0) hlt (by omega) (akD ..)
    have hel:∀ K,eld 3 h3 v (i:Int) 3 true K=K (elP v 3 (i:Int)) (.agg [.int .i64 (P i),.int .i64 (N i),.int .u8 (C i)]):=fun K=>bI.eld hs (i:=(i:Int)) (by omega) (by omega) K
    simp only [hP,hel]
    exact aH.ifB (fun _=>put h3 _ _ _ true 0 (g02.trans g3) (g2.trans g3)) fun _=>put h3 0 0 0 false 0 (g02.trans g3) (g2.trans g3)
  refine aH.ifB (fun _=>?_) fun _=>?_
  · refine aH.ifB (fun _=>put h2 0 0 0 false 2 g02 g2) fun h=>nomatch h
  · exact aH.ifB (fun _=>put h2 0 0 0 false 2 g02 g2) fun _=>found
theorem v_VPages {n:Nat} (hn:1100<n) {h0:Heap} (hro:h0.ro≤h0.nx) {v:AV} {m:Nat} {P N C:Nat→Int} (hv:RegIn h0 v m P N C):dr (eu n v h0) fun _ _ h'=>aY h0 h':=by
  unfold eu WC KO
  refine aM.bind (aby hn hro hv) ?_
  rintro e h1 ⟨g1,hok⟩
  refine aH.ifB (fun _=>EV g1) fun e0=>?_
  obtain ⟨hm,hr⟩:=hok (by simpa using e0)
  simp only [bI.len (hv.grow g1)]
  have key:∀ (q i:Nat) (h:Heap) (s:Int),aY h0 h→i≤m→m-i<q→dr (fun k=>zR n (cB n) k q s v (m:Int) (i:Int) h) fun _ _ h'=>aY h0 h':=by
    intro q
    induction q with
    | zero=>omega
    | succ q ih=>
      intro i h s g hi hq
      simp only [ajI]
      unfold zv Fp
      refine aH.ifB (fun e=>?_) fun _=>EV g
      rw [kg,fX] at e
      refine aH.copy (hv.grow g) (g.le hro) (show i<m by omega) rfl rfl fun a b x d y hx g'=>?_
      simp only [aB,gS hx,reg_1,jq (show i≤9223372036854775806 by omega)]
      exact ih (i+1) y _ (g.trans g') (by omega) (by omega)
  exact key n 0 h1 0 g1 (by omega) (by omega)
theorem Zx:∀ ps:List (Int × Int),(prC ps).length=ps.length*2
  | []=>rfl
  | e::t=>by have:=Zx t; simp [prC] at *; omega
theorem ZA (R S:List (Int × Int)):prC (R++S)=prC R++prC S:=by simp [prC]
theorem anv:∀ (R:List (Int × Int)) (i:Nat) (hi:i<R.length),((prC R).drop (i*2)).take 2 = [.int .i64 R[i].1,.int .i64 R[i].2]
  | e::t,0,_=>rfl
  | e::t,i+1,hi=>by
    have:=anv t i (by simpa using hi)
    rw [show (i+1)*2=i*2+2 by omega]
    simpa [prC] using this
theorem aiq {h:Heap} {v:AV} {R:List (Int × Int)} (a:App h v 2 R.length (prC R)) (hl:R.length≤1048576):bI h v 2 R.length fun i=>[.int .i64 (R.getD i (0,0)).1,.int .i64 (R.getD i (0,0)).2]:=by
  refine ⟨by omega,?_⟩
  rcases a with ⟨rfl,h0,_⟩ | ⟨b,rfl,o,hlen,_⟩
  · exact .inl ⟨rfl,h0⟩
  · refine .inr ⟨b,0,0,true,rfl,fun _=>⟨_,o.cl,fun i hi=>⟨by rw [Zx]; omega,?_⟩⟩⟩
    dsimp only
    rw [Nat.zero_add,anv R i hi,gh,fU hi]
    rfl
def BT (m:Nat) (P N:Nat→Int):List (Int × Int):=(List.range m).map fun i=>(P i,N i)
theorem v_VSpans {n:Nat} (hn:1100<n) {h0:Heap} (hro:h0.ro≤h0.nx) {v:AV} {m:Nat} {P N C:Nat→Int} (hv:RegIn h0 v m P N C):dr (et n v h0) fun r e h'=>aY h0 h'∧(e=0→m≤1024∧an1 m P N∧App h' r 2 (BT m P N).length (prC (BT m P N))):=by
  unfold et Uj Lp
  refine aM.bind (aby hn hro hv) ?_
  rintro e h1 ⟨g1,hok⟩
  refine aH.ifB (fun e0=>?_) fun e0=>?_
  · have e1:e≠0:=by simpa using e0
    exact EV ⟨g1,fun h=>(e1 h).elim⟩
  obtain ⟨hm,hr⟩:=hok (by simpa using e0)
  simp only [bI.len (hv.grow g1)]
  have key:∀ (q i:Nat) (h:Heap) (w:AV),aY h0 h→App h w 2 i (prC (BT i P N))→(∀ c,w.blk=some c→h0.nx≤c)→i≤m→m-i<q→dr (fun k=>zk n (cB n) k q w v (m:Int) (i:Int) h) fun r e h'=>aY h0 h'∧(e=0→m≤1024∧an1 m P N∧App h' r 2 (BT m P N).length (prC (BT m P N))):=by
    intro q
    induction q with
    | zero=>omega
    | succ q ih=>
      intro i h w g ha hw hi hq
      simp only [akg]
      unfold zj Fx
      refine aH.ifB (fun e=>?_) fun e=>?_
      · rw [kg,fX] at e
        refine aH.copy (hv.grow g) (g.le hro) (show i<m by omega) rfl rfl fun a b x d y hx g'=>?_
        have g2:=g.trans g'
        have bz:∀ K:AV→aa,kM [.int .i64 0,.int .i64 0] [(0,1,.int .i64 (P i)),(1,1,.int .i64 (N i))] K=K (.agg [.int .i64 (P i),.int .i64 (N i)]):=fun K=>rfl
        simp only [aB,gS hx,akD,reg_1,bz]
        refine aM.bind (wi (l:=[.int .i64 (P i),.int .i64 (N i)]) (fun k=>by rfl)) ?_
        rintro _ h3 ⟨rfl,c3,g3⟩
        have g03:=g2.trans g3
        refine aM.bind (Cj (g03.le hro) ((ha.grow g').grow g3) (n:=1) (by decide) c3 (new:=[.int .i64 (P i),.int .i64 (N i)]) (by rw [nP]; rfl) (by omega)) ?_
        rintro w' h4 ⟨a4,b4,c4⟩
        have es:prC (BT i P N)++[.int .i64 (P i),.int .i64 (N i)]=prC (BT (i+1) P N):=by
          unfold BT
          rw [List.range_succ,gx,ZA]; rfl
        rw [es] at a4
        simp only [aB,jq (show i≤9223372036854775806 by omega)]
        exact ih (i+1) h4 w' (c4.grow g03 fun c hc=>hw c hc) a4 (fun c hc=>by rw [b4] at hc; cases hc; exact g03.nx) (by omega) (by omega)
      · rw [kg,f8] at e
        have:i=m:=by omega
        subst this
        refine EV ⟨g,fun _=>⟨hm,hr,?_⟩⟩
        have:(BT i P N).length=i:=by simp [BT]
        rw [this]; exact ha
  exact key n 0 h1 .nilslice g1 .nil (fun c hc=>by cases hc) (by omega) (by omega)
end Go.Proofs.YtpoobhhdgjgdgaaGreat.Sh
/- Tables counted; a space's needs. -/
namespace Go.Proofs.YtpoobhhdgjgdgaaGreat.Sh
open Go.Ai
theorem sp_0 (a b:Int):([AV.int .i64 a,.int .i64 b])[0]?=some (.int .i64 a):=rfl
theorem sp_1 (a b:Int):([AV.int .i64 a,.int .i64 b])[1]?=some (.int .i64 b):=rfl
theorem anM (a b:AV):sub [a,b] 0 2=some [a,b]:=by rw [nP]; rfl
theorem shift_ok {i:Nat} (hi:i<3):IntKind.i64.wrap (5*IntKind.i64.wrap ((i:Int)+1))=((5*(i+1):Nat):Int):=by
  rw [jq (by omega),m9 (by omega) (by omega)]; omega
theorem ao0 {n:Nat} {h0:Heap} (hro:h0.ro≤h0.nx) {v:AV} {m:Nat} {f:Nat→Int} {g:Nat→Int} (hv:bI h0 v 2 m fun i=>[.int .i64 (f i),.int .i64 (g i)]) {l:Nat} (hl:l<3) (f1) {J:aX→bK} {Q:Int × Int × Heap→Prop} (hJ:∀ (s:Int) h,aY h0 h→aH ap2 (fun k=>J k v s ((l+1:Nat):Int) h) Q) :
    ∀ (q i:Nat) (h:Heap) (s nx:Int),aY h0 h→i≤m→m-i<q→aH ap2 (fun k=>vS n f1 k (J k) q v s (l:Int) nx v (m:Int) (i:Int) h) Q:=by
  intro q
  induction q with
  | zero=>omega
  | succ q ih=>
    intro i h s nx gr hi hq
    simp only [afB]
    unfold uY AW vu
    have hs:=hv.grow gr
    refine aH.ifB (fun e=>?_) fun _=>?_
    · rw [kg,fX] at e
      have hsm:=hv.1
      refine aH.copy hs (gr.le hro) (show i<m by omega) rfl rfl fun a b x d y hx g'=>?_
      have g2:=gr.trans g'
      simp only [aB,gS hx,sp_0,sp_1,shift_ok hl,abG (show (0:Int)≤((5*(l+1):Nat):Int) by omega),max2,jq (show i≤9223372036854775806 by omega)]
      exact aH.ifB (fun _=>ih (i+1) y _ _ g2 (by omega) (by omega)) fun _=>ih (i+1) y _ _ g2 (by omega) (by omega)
    · simp only [aB,jq (show l≤9223372036854775806 by omega)]
      exact hJ s h gr
theorem v_Tables {n:Nat} (hn:1100<n) {h0:Heap} (hro:h0.ro≤h0.nx) {v:AV} {R:List (Int × Int)} (ha:App h0 v 2 R.length (prC R)) (hR:R.length≤1024) (hp:R.Pairwise (fun a b=>a.1<b.1)) (hb:∀ e∈R,0≤e.1∧1≤e.2∧e.1+e.2≤1048576):dr (dL n v h0) fun _ _ h'=>aY h0 h':=by
  unfold dL LN FE
  have hs0:=aiq ha (by omega)
  have t0:ltF 1024 (R.length:Int)=false:=by rw [kg,f8]; omega
  simp only [ha.len,t0,D5]
  have lvl:∀ (q l:Nat) (h:Heap) (w:AV) (s:Int),aY h0 h→App h w 2 R.length (prC R)→l≤3→3-l<q→dr (fun k=>rE n (kT cO) k q w s (l:Int) h) fun _ _ h'=>aY h0 h':=by
    intro q
    induction q with
    | zero=>omega
    | succ q ih=>
      intro l h w s g hw hl hq
      simp only [afc]
      unfold vR Aa
      refine aH.ifB (fun e=>?_) fun _=>EV g
      rw [kg,fX] at e
      simp only [hw.len]
      exact ao0 (g.le hro) (aiq hw (by omega)) (show l<3 by omega) _ (J:=fun k=>rE n (kT cO) k q) (fun s' h' g'=>ih (l+1) h' w s' (g.trans g') (hw.grow g') (by omega) (by omega)) n 0 h s 0 .refl (by omega) (by omega)
  have main:∀ (q i:Nat) (h:Heap) (w:AV),aY h0 h→App h w 2 i (prC (R.take i))→(∀ c,w.blk=some c→h0.nx≤c)→i≤R.length→R.length-i<q→dr (fun k=>vI n (kT cO) k q w v (R.length:Int) (i:Int) h) fun _ _ h'=>aY h0 h':=by
    intro q
    induction q with
    | zero=>omega
    | succ q ih=>
      intro i h w g hw hlow hi hq
      simp only [afA]
      unfold wa Ab vU vj tM vm
      refine aH.ifB (fun e=>?_) fun e=>?_
      · rw [kg,fX] at e
        have hlt:i<R.length:=by omega
        have hg:R.getD i (0,0)=R[i]:=by rw [gh,fU hlt]; rfl
        obtain ⟨b1,b2,b3⟩:=hb _ (gn hlt)
        refine aH.copy (hs0.grow g) (g.le hro) hlt rfl rfl fun a b x d y hx g'=>?_
        have g2:=g.trans g'
        rw [hg] at hx
        have t1:decide (R[i].1<0)=false:=ge (by omega)
        have t2:decide (R[i].2<0)=false:=ge (by omega)
        have t3:decide ((1048576:Int)<R[i].1)=false:=ge (by omega)
        have w1:IntKind.i64.wrap (1048576-R[i].1)=1048576-R[i].1:=m9 (by omega) (by omega)
        have t4:decide (1048576-R[i].1<R[i].2)=false:=ge (by omega)
        have t5:decide (0<R[i].2)=true:=gj (by omega)
        simp only [aB,gS hx,sp_0,sp_1,t1,t2,t3,w1,t4,t5,anM]
        refine aM.bind (wi (l:=[.int .i64 R[i].1,.int .i64 R[i].2]) (fun k=>by rfl)) ?_
        rintro _ h3 ⟨rfl,c3,g3⟩
        have g03:=g2.trans g3
        refine aM.bind (Cj (g03.le hro) ((hw.grow g').grow g3) (n:=1) (by decide) c3 (new:=[.int .i64 R[i].1,.int .i64 R[i].2]) (by rw [nP]; rfl) (by omega)) ?_
        rintro w' h4 ⟨a4,b4,c4⟩
        have es:prC (R.take i)++[.int .i64 R[i].1,.int .i64 R[i].2]=prC (R.take (i+1)):=by
          rw [List.take_add_one,fU hlt,Option.toList_some,ZA]; rfl
        rw [es] at a4
        simp only [aB,jq (show i≤9223372036854775806 by omega)]
        exact ih (i+1) h4 w' (c4.grow g03 fun c hc=>hlow c hc) a4 (fun c hc=>by rw [b4] at hc; cases hc; exact g03.nx) (by omega) (by omega)
      · rw [kg,f8] at e
        have:i=R.length:=by omega
        subst this
        rw [List.take_length] at hw
        have hsort:∀ K:AV→Heap→aa,kT cO [w,.func 83 [] []] h K=K (.tuple []) h:=by
          intro K
          unfold kT cO
          have hr:aeK 83 [w,.func 83 [] []] h = .ret (.tuple []) h:=by
            unfold aeK
            rcases hw with ⟨rfl,_,_⟩ | ⟨b,rfl,o,hlen,_⟩
            · rfl
            · dsimp only
              rw [show Nat.beq 83 83=true from rfl,o.get]
              dsimp only
              rw [show sub (prC R) 0 (R.length*2)=some (prC R) from Ql (Zx R)]
              dsimp only
              rw [an6 hp fun e he=>by have:=hb e he; omega,fG (by omega)]
              rfl
          rw [hr]
        simp only [hsort]
        exact lvl n 0 h w 1 g hw (by omega) (by omega)
  exact main n 0 h0 .nilslice .refl .nil (fun c hc=>by cases hc) (by omega) (by omega)
end Go.Proofs.YtpoobhhdgjgdgaaGreat.Sh
/- What is true of a partition of a configuration that may be. -/
namespace Go.Proofs.YtpoobhhdgjgdgaaGreat.Sh
open Go.Ai
theorem UV {z:bA} {ps:List cU}:∀ {l:List Int} {last:Option Int},zq z ps last l=true→(∀ x∈l,0≤x∧x<z.eY)∧l.Pairwise (· < ·)∧(∀ y,last=some y→∀ x∈l,y<x)∧∀ q∈ps,∀ x∈l,x∉q.eZ
  | [],_,_=>⟨fun x h=>(nomatch h),.nil,fun _ _ x h=>(nomatch h),fun _ _ x h=>(nomatch h)⟩
  | x::l,last,h=>by
    rw [Fu] at h
    simp only [fV,fX,gz,Bool.not_eq_true',f8] at h
    obtain ⟨h1,h2,h3,h4,h5⟩:=h
    obtain ⟨i1,i2,i3,i4⟩:=UV h5
    refine ⟨fun y hy=>?_,fH.2 ⟨fun y hy=>i3 x rfl y hy,i2⟩,fun y hy w hw=>?_,fun q hq y hy=>?_⟩
    · rcases gk.1 hy with e | e
      · subst e; exact ⟨h1,h2⟩
      · exact i1 y e
    · have hx:y<x:=by
        subst hy
        simpa [ZF] using h3
      rcases gk.1 hw with e | e
      · subst e; exact hx
      · have:=i3 x rfl w e; omega
    · rcases gk.1 hy with e | e
      · subst e; exact h4 q hq
      · exact i4 q hq y e
theorem aeT:∀ {l:List Int} {a b:Int},l.Pairwise (· < ·)→(∀ x∈l,a≤x∧x<b)→(l.length:Int)≤max (b-a) 0
  | [],a,b,_,_=>by simp; omega
  | x::l,a,b,h,hx=>by
    obtain ⟨h1,h2⟩:=fH.1 h
    have h3:=hx x (gp ..)
    have:=aeT (a:=x+1) (b:=b) h2 fun y hy=>⟨by have:=h1 y hy; omega,(hx y (fL _ hy)).2⟩
    simp only [List.length_cons]
    omega
structure PartOk (z:bA) (p:Nat):Prop where
  fr:jd z.frames 1 4096=true
  co:jd z.eY 1 16=true
  col:∀ x∈(jH z p).eZ,0≤x∧x<z.eY
  up:(jH z p).eZ.Pairwise (· < ·)
  other:∀ q,q<p→∀ x∈(jH z p).eZ,x∉(jH z q).eZ
  pos:0<(jH z p).eZ.length
  few:(jH z p).eZ.length≤16
  fk:qt z p=true
theorem aoy {z:bA} (h:uD z=true) {p:Nat} (hp:p<z.parts.length):PartOk z p:=by
  simp only [uD,fV] at h
  obtain ⟨h1,_,_,_,h5⟩:=h
  simp only [nK,fV] at h1
  obtain ⟨m1,m2,_,_,_,_,_,m8⟩:=h1
  have hco:jd z.eY 1 16=true:=by simp only [WO,fV] at m1; exact m1.1
  have hlen:z.parts.length≤8:=by simp [jd] at m8; omega
  rw [gz] at h5
  have h6:=h5 p (gv.2 (by omega))
  simp only [fX] at h6
  unfold Uk at h6
  split at h6
  · rename_i hc
    split at h6
    · rename_i hq
      simp only [aa0,fV,fX] at hc
      obtain ⟨f1,f2,_,f4⟩:=UV hc.1
      refine ⟨m2,hco,f1,f2,fun q hqp x hx=>?_,hc.2,?_,hq⟩
      · refine f4 (jH z q) ?_ x hx
        unfold jH
        rw [ab2 (by omega)]
        rw [List.mem_take_iff_getElem]
        exact ⟨q,by omega,rfl⟩
      · have:=aeT (a:=0) (b:=16) f2 fun x hx=>by
          have:=f1 x hx
          simp [jd] at hco
          omega
        omega
    · cases h6
  · cases h6
def TO (x:cU):Nat→Int
  | 2=>x.user
  | 3=>x.tables
  | 4=>x.spaces
  | 5=>x.fj
  | 6=>x.fi
  | _=>0
theorem ap8 {zc:bA} (h1:jd zc.frames 1 4096=true) (h2:jd zc.eY 1 16=true):ail zc=zc.frames/zc.eY∧0≤zc.frames/zc.eY∧zc.frames/zc.eY≤4096:=by
  simp [jd] at h1 h2
  have h3:0≤zc.frames/zc.eY:=Int.ediv_nonneg (by omega) (by omega)
  have h4:zc.frames/zc.eY≤zc.frames:=Int.ediv_le_self _ (by omega)
  refine ⟨?_,h3,by omega⟩
  unfold ail
  rw [Int.tdiv_eq_ediv_of_nonneg (by omega),m9 (by omega) (by omega)]
structure QuotaOk (zc:bA) (p:Nat):Prop where
  ord:0≤(jH zc p).order∧(jH zc p).order≤3
  lo:∀ u,2≤u→u≤6→0≤TO (jH zc p) u∧TO (jH zc p) u≤4096
  each:((2^(jH zc p).order.toNat:Nat):Int)≤zc.frames/zc.eY
  need:((2^(jH zc p).order.toNat:Nat):Int)+TO (jH zc p) 2+TO (jH zc p) 3+TO (jH zc p) 4+TO (jH zc p) 5+TO (jH zc p) 6≤ab7 zc p
theorem aoL {zc:bA} {p:Nat} (hm:uD zc=true) (po:PartOk zc p):QuotaOk zc p:=by
  have hq:=po.fk
  simp only [uD,fV] at hm
  have hma:=hm.1
  simp only [qt,fV] at hq
  obtain ⟨q1,q2,q3,q4,q5,q6,_,_,q9⟩:=hq
  rw [hma] at q9
  simp [jd] at q1 q2 q3 q4 q5 q6 q9
  obtain ⟨k,hk⟩:=gi q1.1
  have hk3:k≤3:=by have:=q1.2; omega
  have him:Qe (jH zc p)=((2^(jH zc p).order.toNat:Nat):Int)∧((2^(jH zc p).order.toNat:Nat):Int)≤8:=by
    unfold Qe
    rw [hk]
    rw [gd]
    match k,hk3 with
    | 0,_=>exact ⟨by decide,by decide⟩ | 1,_=>exact ⟨by decide,by decide⟩ | 2,_=>exact ⟨by decide,by decide⟩ | 3,_=>exact ⟨by decide,by decide⟩
  obtain ⟨e1,e2⟩:=him
  have e3:(0:Int)≤((2^(jH zc p).order.toNat:Nat):Int):=fP _
  have hneed:((2^(jH zc p).order.toNat:Nat):Int)+(jH zc p).user+(jH zc p).tables+(jH zc p).spaces+(jH zc p).fj+(jH zc p).fi≤ab7 zc p:=by
    have hneed:=q9.2
    unfold needZ at hneed
    rw [e1] at hneed
    generalize ((2^(jH zc p).order.toNat:Nat):Int)=D at *
    rw [m9 (n:=D+(jH zc p).user) (by omega) (by omega),m9 (n:=D+(jH zc p).user+(jH zc p).tables) (by omega) (by omega),m9 (n:=D+(jH zc p).user+(jH zc p).tables+(jH zc p).spaces) (by omega) (by omega),
      m9 (n:=D+(jH zc p).user+(jH zc p).tables+(jH zc p).spaces+(jH zc p).fj) (by omega) (by omega),m9 (by omega) (by omega)] at hneed
    exact hneed
  refine ⟨q1,fun u h1 h2=>?_,?_,hneed⟩
  · have:u=2∨u=3∨u=4∨u=5∨u=6:=by omega
    rcases this with rfl | rfl | rfl | rfl | rfl<;>simp only [TO]<;>omega
  · have:=q9.1
    rw [e1,(ap8 po.fr po.co).1] at this
    exact this
end Go.Proofs.YtpoobhhdgjgdgaaGreat.Sh
/- Address spaces, as far as the audits ask. -/
namespace Go.Proofs.YtpoobhhdgjgdgaaGreat.Sh
open Go.Ai
def SpIn (h:Heap) (v:AV):Prop:=∃ m P N C,RegIn h v m P N C
theorem SpIn.grow {h h':Heap} {v:AV} (s:SpIn h v) (g:aY h h'):SpIn h' v:=have ⟨m,P,N,C,h1⟩:=s; ⟨m,P,N,C,h1.grow g⟩
theorem anI (v:AV) (x:Int):([v,.int .i64 x]:List AV)[0]?=some v:=rfl
theorem spc_1 (v:AV) (x:Int):([v,.int .i64 x]:List AV)[1]?=some (.int .i64 x):=rfl
theorem akG {n:Nat} (hn:1100<n) {h:Heap} (hro:h.ro≤h.nx) {v:AV} (hv:SpIn h v) (x:Int):aM (db n (.agg [v,.int .i64 x]) h) fun _ h'=>aY h h':=by
  unfold db LC Fk wb rR vJ
  obtain ⟨m,P,N,C,hv⟩:=hv
  refine aM.bind (m7 ..) ?_
  rintro a h1 ⟨hb,g1⟩
  simp only [aB,gS hb,anI]
  refine aM.bind (aby hn (g1.le hro) (hv.grow g1)) ?_
  rintro e h2 ⟨g2,hok⟩
  have g02:=g1.trans g2
  have hb2:=g2.cl hb
  refine aH.ifB (fun _=>jL g02) fun e0=>?_
  obtain ⟨hm,hr⟩:=hok (by simpa using e0)
  have hs:=hv.grow g02
  have rest:aM (fun k:am=>jC v fun c=>ifB (ltF 0 c) (PU .i64 c 1 fun f=>eld 3 h2 v f 3 true fun g i=>lG h2 (.cells [.int .i64 0,.int .i64 0,.int .u8 0] true 0) fun l m=>jf m (.ptr l 0) 3 i fun o=>jy .i64 0 o (.ptr l 0) fun p q=>jy .i64 1 o (.ptr l 0) fun r s=>la .i64 q s fun t=>PU .i64 t 524288 fun u=>tg true [(.int .i64 0),(.int .i64 u)] fun w=>D9 .i64 w fun x=>ifB (ltF 0 x) (faK 0 (.ptr l 0) fun y=>ldI .i64 o y fun z=>ifB (ltF 524288 z) (ifB true (k 2 o) (jy .i64 1 o (.ptr a 0) fun a b=>ifB (jK (eqF x b)) (k 2 o) (k 0 o))) (faK 2 (.ptr l 0) fun A=>ldI .u8 o A fun B=>ifB (jK (eqF B 3)) (k 2 o) (jy .i64 1 o (.ptr a 0) fun a b=>ifB (jK (eqF x b)) (k 2 o) (k 0 o)))) (ifB false (k 2 o) (jy .i64 1 o (.ptr a 0) fun a b=>ifB (jK (eqF x b)) (k 2 o) (k 0 o)))) (jy .i64 1 h2 (.ptr a 0) fun a b=>ifB (jK (eqF 0 b)) (k 2 h2) (k 0 h2))) fun _ h'=>aY h h':=by
    simp only [bI.len hs]
    refine aH.ifB (fun e1=>?_) fun _=>?_
    · rw [kg,fX] at e1
      obtain ⟨l,rfl⟩:∃ l,m=l+1:=⟨m-1,by omega⟩
      have w1:IntKind.i64.wrap (((l+1:Nat):Int)-1)=(l:Int):=by rw [m9 (by omega) (by omega)]; omega
      simp only [agK,w1]
      refine aH.copy hs (g02.le hro) (show l<l+1 by omega) rfl rfl fun a1 b1 x1 d1 y hx g'=>?_
      have g3:=g02.trans g'
      simp only [aB,gS hx,gS (g'.cl hb2),akD,reg_1,an3,max2,spc_1]
      refine aH.ifB (fun _=>?_) fun _=>?_
      · refine aH.ifB (fun _=>jL g3) fun _=>aH.ifB (fun _=>jL g3) fun _=>aH.ifB (fun _=>jL g3) fun _=>jL g3
      · exact aH.ifB (fun _=>jL g3) fun _=>jL g3
    · simp only [aB,gS hb2,spc_1]
      exact aH.ifB (fun _=>jL g02) fun _=>jL g02
  simp only [aB,gS hb2,spc_1,anI] at rest ⊢
  refine aH.ifB (fun _=>jL g02) fun _=>?_
  exact aH.ifB (fun _=>jL g02) fun _=>rest
theorem v_Access {n:Nat} (hn:1100<n) {h:Heap} (hro:h.ro≤h.nx) {v:AV} (hv:SpIn h v) (x a b:Int) (t:Bool):aM (dz n (.agg [v,.int .i64 x]) a b t h) fun _ h'=>aY h h':=by
  unfold dz Kb CX tT
  refine aM.bind (m7 ..) ?_
  rintro y h1 ⟨hb,g1⟩
  simp only [aB,gS hb,anM]
  refine aM.bind (akG hn (g1.le hro) (hv.grow g1) x) ?_
  rintro e h2 g2
  have g02:=g1.trans g2
  refine aH.ifB (fun _=>jL g02) fun _=>?_
  refine Run3.bind v_Run ?_
  rintro p o e3 h3 rfl
  refine aH.ifB (fun _=>jL g02) fun _=>?_
  simp only [aB,gS (g2.cl hb),anI]
  obtain ⟨m,P,N,C,hr⟩:=hv.grow g02
  refine Run3.bind (v_Find hn (g02.le hro) hr p) ?_
  rintro r b4 e4 h4 ⟨g4,x1,x2,x3,rfl⟩
  have g04:=g02.trans g4
  refine aM.bind (G1 (g04.le hro) (by rfl) (by rfl)) ?_
  rintro z h5 ⟨hz,o5,g5⟩
  have g05:=g04.trans g5
  refine aH.ifB (fun _=>jL g05) fun _=>?_
  simp only [aB,gS o5.cl,an3,alr]
  refine aH.ifB (fun _=>?_) fun _=>?_
  · exact aH.ifB (fun _=>jL g05) fun _=>aH.ifB (fun _=>jL g05) fun _=>jL g05
  · exact aH.ifB (fun _=>jL g05) fun _=>aH.ifB (fun _=>jL g05) fun _=>jL g05
theorem v_mapped {n:Nat} (hn:1100<n) {h:Heap} (hro:h.ro≤h.nx) {v:AV} (hv:SpIn h v) (x p:Int):aM (bs n (.agg [v,.int .i64 x]) p h) fun _ h'=>aY h h':=by
  unfold bs IA B0 uc
  refine aM.bind (m7 ..) ?_
  rintro y h1 ⟨hb,g1⟩
  refine dr.bind v_Join ?_
  rintro r e h2 rfl
  refine aH.ifB (fun _=>jL g1) fun _=>?_
  simp only [aB,gS hb,anM]
  refine aM.bind (v_Access hn (g1.le hro) (hv.grow g1) x r 1 false) ?_
  rintro e3 h3 g3
  exact aH.ifB (fun _=>jL (g1.trans g3)) fun _=>jL (g1.trans g3)
def zg (a b c d:Int):List AV:=[.int .i64 a,.int .i64 b,.int .i64 c,.int .i64 d]
theorem v_Needs {n:Nat} (hn:1100<n) {h:Heap} (hro:h.ro≤h.nx) {v:AV} (hv:SpIn h v) (x:Int):dr (dv n (.agg [v,.int .i64 x]) h) fun r _ h'=>aY h h'∧∃ a b c d,r = .agg (zg a b c d):=by
  unfold dv L2 Fz
  have bz:∀ K:AV→aa,kM [.int .i64 0,.int .i64 0,.int .i64 0,.int .i64 0] [] K=K (.agg (zg 0 0 0 0)):=fun K=>rfl
  have bk:∀ a b c d,∀ K:AV→aa,kM [.int .i64 0,.int .i64 0,.int .i64 0,.int .i64 0] [(0,1,.int .i64 a),(1,1,.int .i64 b),(2,1,.int .i64 c),(3,1,.int .i64 d)] K=K (.agg (zg a b c d)):=fun a b c d K=>rfl
  refine aM.bind (m7 ..) ?_
  rintro y h1 ⟨hb,g1⟩
  refine aM.bind (DV (g1.le hro) _ 0) ?_
  rintro z h2 ⟨hz,o,g2⟩
  have g02:=g1.trans g2
  have hzn:h.nx≤z:=ga g1.nx hz
  have put:∀ (h3:Heap) (a b c d e:Int),aY h2 h3→dr (fun k:bW=>jf h3 (.ptr z 0) 4 (.agg (zg a b c d)) fun c=>jg c (.ptr z 0) 4 true fun d=>k d e c) fun r _ h'=>aY h h'∧∃ a b c d,r = .agg (zg a b c d):=by
    intro h3 a b c d e g3
    refine aM.bind (anQ (n:=4) (cs:=zg a b c d) ((g3.chg fun _=>False).own o fun h=>h) rfl rfl) ?_
    rintro _ h4 ⟨rfl,p⟩
    exact EV ⟨p.grow (g02.trans g3) hzn,a,b,c,d,rfl⟩
  have hb2:=g2.cl hb
  simp only [bz,bk]
  simp only [aB,gS hb2,anM]
  refine aM.bind (akG hn (g02.le hro) (hv.grow g02) x) ?_
  rintro e h3 g3
  have g03:=g02.trans g3
  refine aH.ifB (fun _=>put h3 0 0 0 0 e g3) fun _=>?_
  simp only [aB,gS (g3.cl hb2),anI]
  obtain ⟨m,P,N,C,hr⟩:=hv.grow g03
  refine dr.bind (v_VPages hn (g03.le hro) hr) ?_
  rintro q e4 h4 g4
  have g34:=g3.trans g4
  refine aH.ifB (fun _=>put h4 0 0 0 0 e4 g34) fun _=>?_
  simp only [aB,gS (g34.cl hb2),anI]
  refine dr.bind (v_VSpans hn ((g02.trans g34).le hro) (hr.grow g4)) ?_
  rintro r e5 h5 ⟨g5,hsp⟩
  have g35:=g34.trans g5
  refine aH.ifB (fun _=>put h5 0 0 0 0 e5 g35) fun e0=>?_
  obtain ⟨hm,hok,ha⟩:=hsp (by simpa using e0)
  have hl:(BT m P N).length=m:=by simp [BT]
  have hpw:(BT m P N).Pairwise (fun a b=>a.1<b.1):=by
    have step:∀ d i,i+d<m→P i≤P (i+d)∧(0<d→P i<P (i+d)):=by
      intro d
      induction d with
      | zero=>exact fun i _=>⟨Int.le_refl _,fun h=>by omega⟩
      | succ d ih=>
        intro i hi
        have h1:=ih i (by omega)
        have h2:=hok (i+d) (by omega)
        have h3:=(hok (i+(d+1)) hi).2.2.2.2 (i+d) (by omega)
        omega
    unfold BT
    rw [List.pairwise_map,List.pairwise_iff_getElem]
    intro i j hi hj hij
    simp only [List.getElem_range]
    simp at hi hj
    have:=(step (j-i) i (by omega)).2 (by omega)
    rwa [show i+(j-i)=j by omega] at this
  refine dr.bind (v_Tables hn ((g02.trans g35).le hro) ha (by omega) hpw fun e he=>?_) ?_
  · obtain ⟨i,hi,rfl⟩:=fJ.1 he
    have:=hok i (gv.1 hi)
    dsimp only
    omega
  · rintro t e6 h6 g6
    have g36:=g35.trans g6
    refine aH.ifB (fun _=>put h6 0 0 0 0 e6 g36) fun _=>?_
    simp only [(ha.grow g6).len]
    exact put h6 _ _ _ _ 0 g36
end Go.Proofs.YtpoobhhdgjgdgaaGreat.Sh
