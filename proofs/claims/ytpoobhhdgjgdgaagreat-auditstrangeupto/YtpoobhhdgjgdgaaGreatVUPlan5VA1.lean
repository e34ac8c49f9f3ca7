/- The slices and the turns, by the code; what may be. -/
import Derived.Test.YtpoobhhdgjgdgaaGreatVUPlanVUPlan4
import Derived.Test.YtpoobhhdgjgdgaaGreatAiTblKs
set_option linter.all false
namespace Go.Proofs.YtpoobhhdgjgdgaaGreat.Sh
open Go.Ai
theorem build4 (q:IntKind) (a b c d:Int) (k:AV→aa):kM [.int q 0,.int q 0,.int q 0,.int q 0] [(0,1,.int q a),(1,1,.int q b),(2,1,.int q c),(3,1,.int q d)] k=k (.agg [.int q a,.int q b,.int q c,.int q d]):=rfl
theorem apY {n:Nat} {z:bA} {h:Heap} (hro:h.ro≤h.nx) {c:List AV} (hc:Cfg h z c) {p:Nat} (hp:p<z.parts.length) (ho:0≤(jH z p).order):aM (cR n (.agg c) p h) fun r h'=>r = .agg (zf (ah2 z p))∧aY h h':=by
  unfold cR PP HF
  obtain ⟨t,pp,rfl,ht,hps,S,hpt,hS⟩:=hc
  refine aM.bind (m7 ..) ?_
  rintro x h1 ⟨hb,g⟩
  refine aM.bind (DV (g.le hro) _ 0) ?_
  rintro y h2 ⟨hy,oy,g2⟩
  have t2:=g.trans g2
  simp only [aB,gS (g2.cl hb),bC,bI.eld (hpt.grow t2) (show (0:Int)≤(p:Int) by omega) (show (p:Int)<_ by omega),gd]
  rw [show z.parts.getD p default=jH z p from rfl] at *
  refine aM.bind (G1 (n:=8) (t2.le hro) (by rfl) (by rfl)) ?_
  rintro w h3 ⟨hw,ow,g3⟩
  have t3:=t2.trans g3
  simp only [aB,gS ow.cl,bC,abl ho,min2,build4]
  refine dl.bind (Qv (cs:=zf (ah2 z p)) (oy.grow g3) rfl (by show 0+4≤4; decide)) ?_
  intro h4 hp4
  rw [Ix _ _ (by rfl)] at hp4
  simp only [aB,gS hp4.own.cl,bC]
  exact jL ⟨rfl,hp4.grow t3 (ga g.nx hy)⟩
theorem anR {z:bA} {p:Nat} (h:Uk z p=0):0≤(jH z p).order:=by
  unfold Uk at h
  split at h
  · split at h
    · rename_i hq
      simp [qt,jd] at hq
      omega
    · cases h
  · cases h
theorem ape {n:Nat} {z:bA} (hn:dm n z) {t pp:AV} {x:Nat}:∀ (m i:Nat) (h:Heap),h.ro≤h.nx→h.cl x (qr z t pp)→cK h .i64 t z.fh→di h pp z.parts→i≤z.parts.length→z.parts.length-i<m→z.parts.length≤9223372036854775807→
    aM (fun k=>rv n (bV n) (b7 n) (cM n) (de n) (dA n) (cR n) k m (.ptr x 0) z.parts.length i h) fun r h'=>r=(List.range' i (z.parts.length-i)).all (yG z)∧aY h h':=by
  intro m
  induction m with
  | zero=>omega
  | succ m ih=>
    intro i h hro hb ht hp hi hm hl
    simp only [agA]
    unfold vn Ad rG uV rG
    refine aH.ifB (fun e=>?_) fun e=>?_
    · simp at e
      have hr:List.range' i (z.parts.length-i)=i::List.range' (i+1) (z.parts.length-(i+1)):=by
        rw [show z.parts.length-i=(z.parts.length-(i+1))+1 by omega,List.range'_succ]
      rw [hr,List.all_cons]
      simp only [aB,gS hb,bC,jq (show i≤9223372036854775806 by omega)]
      refine aM.bind (v_part hn hro (Cfg.mk' ht hp) e) ?_
      rintro _ h1 ⟨rfl,g1⟩
      have hb1:=g1.cl hb
      have go:yG z i=true→∀ h',aY h h'→aH ap1 (fun k=>rv n (bV n) (b7 n) (cM n) (de n) (dA n) (cR n) k m (.ptr x 0) z.parts.length ((i+1:Nat):Int) h')
          fun r=>r.1=(yG z i&&(List.range' (i+1) (z.parts.length-(i+1))).all (yG z))∧aY h r.2:=by
        intro hs h' g'
        refine aH.mono (ih (i+1) h' (g'.le hro) (g'.cl hb) (ht.grow g') (hp.grow g') (by omega) (by omega) hl) ?_
        rintro ⟨r,h''⟩ ⟨q1,q2⟩
        exact ⟨by rw [q1,hs,Bool.true_and],g'.trans q2⟩
      refine aH.ifB (fun e1=>?_) fun e1=>?_
      · simp at e1
        exact go (by simp [yG,e1]) h1 g1
      simp at e1
      simp only [aB,gS hb1,bC]
      refine aM.bind (apY (n:=n) (h:=h1.shut true) (z:=z) (fY _) (Cfg.shut (Cfg.mk' (ht.grow g1) (hp.grow g1))) e (anR e1)) ?_
      rintro _ h2 ⟨rfl,g2⟩
      have t2:=g1.trans g2.shut
      refine dr.bind (v_Most hn.small (t2.le hro) z (ah2 z i)) ?_
      rintro v er h3 ⟨rfl,hv,g3⟩
      have t3:=t2.trans g3
      have hb3:=t3.cl hb
      simp only [aB,gS hb3,bC]
      refine aH.ifB (fun e2=>jL ⟨?_,t3⟩) fun e2=>?_
      · simp at e2; simp [yG,e1,e2]
      simp at e2
      rw [hv e2]
      refine aH.ifB (fun e3=>jL ⟨?_,t3⟩) fun e3=>?_
      · simp at e3; simp [yG,e1,e2,Int.not_le.2 e3]
      · simp at e3
        exact go (by simp [yG,e1,e2,e3]) h3 t3
    · simp at e
      have:i=z.parts.length:=by omega
      subst this
      exact jL ⟨by simp,.refl⟩
theorem v_sliced {n:Nat} {z:bA} (hn:dm n z) {h:Heap} (hro:h.ro≤h.nx) {c:List AV} (hc:Cfg h z c):aM (da n (.agg c) h) fun r h'=>r=zX z∧aY h h':=by
  unfold da L7 FC vV vD vv
  obtain ⟨t,pp,rfl,ht,hp⟩:=hc
  refine aM.bind (m7 ..) ?_
  rintro x h1 ⟨hb,g⟩
  simp only [aB,gS hb,bC]
  refine aH.ifB (fun e1=>jL ⟨by simp at e1; simp [zX,Int.not_le.2 e1],g⟩) fun e1=>aH.ifB (fun e2=>jL ⟨by simp at e2; simp [zX,Int.not_le.2 e2],g⟩) fun e2=>
    aH.ifB (fun e3=>jL ⟨by simp at e3; simp [zX,Int.not_le.2 e3],g⟩) fun e3=>aH.ifB (fun e4=>jL ⟨by simp at e4; simp [zX,Int.not_lt.2 e4],g⟩) fun e4=>?_
  simp at e1 e2 e3 e4
  refine aM.bind (Iz n (Cfg.mk' (ht.grow g) (hp.grow g))) ?_
  rintro _ h2 ⟨rfl,g2⟩
  have t2:=g.trans g2
  have hb2:=g2.cl hb
  unfold vO
  simp only [aB,gS hb2,bC]
  refine aH.ifB (fun e5=>jL ⟨by simp at e5; simp [zX,e1,e2,e3,e4,e5],t2⟩) fun e5=>?_
  simp at e5
  refine aM.bind (HU (by have:=hn.small; omega) h2 z) ?_
  rintro _ h3 ⟨rfl,g3⟩
  have t3:=t2.trans g3
  have hb3:=g3.cl hb2
  refine aH.ifB (fun e6=>jL ⟨by simp at e6; simp [zX,e1,e2,e3,e4,e5,e6],t3⟩) fun e6=>?_
  simp at e6
  simp only [aB,gS hb3,bC]
  refine dr.bind (v_Switch (by have:=hn.small; omega) h3 z _ _) ?_
  rintro v _ h4 ⟨rfl,hv,g4⟩
  have t4:=t3.trans g4
  have hb4:=g4.cl hb3
  unfold ve
  simp only [aB,gS hb4,bC]
  refine aH.ifB (fun e7=>jL ⟨by simp at e7; simp [zX,e1,e2,e3,e4,e5,e6,e7],t4⟩) fun e7=>?_
  simp at e7
  rw [hv e7]
  refine aH.ifB (fun e8=>jL ⟨by simp at e8; simp [zX,e1,e2,e3,e4,e5,e6,e7,Int.not_le.2 e8],t4⟩) fun e8=>?_
  simp at e8
  have hl:=hp.2.choose_spec.1
  simp only [hl.len]
  refine aH.mono (ape hn n 0 h4 (t4.le hro) hb4 (ht.grow t4) (hp.grow t4) (by omega) (by have:=hn.parts; omega) hl.1) ?_
  rintro ⟨r,h'⟩ ⟨q1,q2⟩
  refine ⟨?_,t4.trans q2⟩
  rw [q1,Nat.sub_zero, ← List.range_eq_range']
  simp [zX,e1,e2,e3,e4,e5,e6,e7,e8]
theorem aoF {n:Nat} {z:bA} {h:Heap} {t pp:AV} {x:Nat} (hb:h.cl x (qr z t pp)) (hp:di h pp z.parts) (i:Int) (k:Bool→Heap→aa) :
    aR n i (.ptr x 0) h k=k (!jd i 0 (IntKind.i64.wrap (z.parts.length-1))) h:=by
  unfold aR EF x9
  simp only [aB,gS hb,bC,hp.2.choose_spec.1.len,wk]
theorem ajA {n:Nat} {z:bA} {h:Heap} {t pp v:AV} {x:Nat} (hb:h.cl x (qr z t pp)) (hp:di h pp z.parts) {l:List Int} (hv:cK h .i64 v l):∀ (m i:Nat),i≤l.length→l.length-i<m→
    aM (fun k=>lQ n (aR n) (au n) k m v (.func tq [] [.ptr x 0]) l.length i h) fun r h'=>h'=h∧(r<0↔(l.drop i).all (fun p=>jd p 0 (IntKind.i64.wrap (z.parts.length-1)))=true):=by
  intro m
  induction m with
  | zero=>omega
  | succ m ih=>
    intro i hi hm
    simp only [Dx]
    unfold lR mF
    have c1:∀ y h k,jM (aR n) (au n) (.func tq [] [.ptr x 0]) [.int .i64 y] h k=aR n y (.ptr x 0) h fun u h=>k (.bool u) h:=fun _ _ _=>rfl
    refine aH.ifB (fun e=>?_) fun e=>?_
    · simp at e
      have hs:=hv.small
      rw [gc e,List.all_cons]
      simp only [aB,hv.elN e,LH e,c1,aoF hb hp,jq (show i≤9223372036854775806 by omega)]
      refine aH.ifB (fun e1=>?_) fun e1=>?_
      · simp at e1
        exact jL ⟨rfl,by simp [e1]⟩
      · simp at e1
        refine aH.mono (ih (i+1) (by omega) (by omega)) ?_
        rintro ⟨r,h'⟩ ⟨q1,q2⟩
        exact ⟨q1,by rw [e1,Bool.true_and]; exact q2⟩
    · simp at e
      have:i=l.length:=by omega
      subst this
      exact jL ⟨rfl,by simp⟩
theorem v_turned {n:Nat} {z:bA} (hn:dm n z) {h:Heap} {c:List AV} (hc:Cfg h z c):aM (c9 n (.agg c) h) fun r h'=>r=aaZ z∧aY h h':=by
  unfold c9 Mc FY vo
  obtain ⟨t,pp,rfl,ht,hp⟩:=hc
  refine aM.bind (m7 ..) ?_
  rintro x h1 ⟨hb,g⟩
  simp only [aB,gS hb,bC,(ht.grow g).len,wk]
  refine aH.ifB (fun e1=>?_) fun e1=>jL ⟨by simp [aaZ,e1],g⟩
  unfold cr n3 mj cz pG nc
  simp only [aB,(ht.grow g).len]
  refine aM.bind (ajA (n:=n) hb (hp.grow g) (ht.grow g) n 0 (by omega) (by have:=hn.fh; omega)) ?_
  rintro r _ ⟨rfl,hr⟩
  refine jL ⟨?_,g⟩
  rw [List.drop_zero] at hr
  rw [aaZ,e1,Bool.true_and,Bool.eq_iff_iff, ← hr]
  simp
end Go.Proofs.YtpoobhhdgjgdgaaGreat.Sh
/- Slices that grow by 'append', and what they change. -/
namespace Go.Ai
structure Chg (F:Nat→Prop) (h h':Heap):Prop where
  nx:h.nx≤h'.nx
  ro:h'.ro=h.ro
  old:∀ b,b<h.nx→¬ F b→h'.get b=h.get b
theorem aY.chg {h h':Heap} (g:aY h h') (F:Nat→Prop):Chg F h h':=⟨g.nx,g.ro,fun b hb _=>g.old b hb⟩
theorem Chg.own {F:Nat→Prop} {h h':Heap} (a:Chg F h h') {b:Nat} {l:List AV} {q:Nat} (o:Own h b l q) (hf:¬ F b):Own h' b l q:=
  ⟨fW o.lt a.nx,by rw [a.ro]; exact o.ro,(a.old b o.lt hf).trans o.get⟩
theorem Chg.grow {F:Nat→Prop} {h₀ h h':Heap} (c:Chg F h h') (g:aY h₀ h) (hf:∀ b,F b→h₀.nx≤b):aY h₀ h':=
  ⟨ga g.nx c.nx,c.ro.trans g.ro,fun b hb=>(c.old b (fW hb g.nx) fun h=>by have:=hf b h; omega).trans (g.old b hb)⟩
theorem Put.chg {h h':Heap} {b:Nat} {l:List AV} {q:Nat} (p:Put h b l q h'):Chg (· = b) h h':=⟨by rw [p.nx]; exact fY _,p.ro,fun c _ hc=>p.other c hc⟩
def AV.blk:AV→Option Nat
  | .slice b _ _ _ _=>some b
  | _=>none
def App (h:Heap) (v:AV) (sz L:Nat) (l:List AV):Prop:=(v = .nilslice∧L=0∧l = [])∨∃ b,v = .slice b 0 L 0 true∧Own h b l sz∧l.length=L*sz∧0<L
theorem App.nil {h:Heap} {sz:Nat}:App h .nilslice sz 0 []:=.inl ⟨rfl,rfl,rfl⟩
theorem App.len {h:Heap} {v:AV} {sz L:Nat} {l:List AV} (a:App h v sz L l) (k:Int→aa):jC v k=k L:=by
  rcases a with ⟨rfl,rfl,_⟩ | ⟨b,rfl,_⟩<;>rfl
theorem App.chg {F:Nat→Prop} {h h':Heap} {v:AV} {sz L:Nat} {l:List AV} (a:App h v sz L l) (c:Chg F h h') (hf:∀ b,v.blk=some b→¬ F b):App h' v sz L l:=by
  rcases a with a | ⟨b,rfl,o,h1,h2⟩
  · exact .inl a
  · exact .inr ⟨b,rfl,c.own o (hf b rfl),h1,h2⟩
theorem App.grow {h h':Heap} {v:AV} {sz L:Nat} {l:List AV} (a:App h v sz L l) (g:aY h h'):App h' v sz L l:=a.chg (g.chg fun _=>False) fun _ _ h=>h
theorem acH (v:AV) (h:Heap) (c:AV→Heap→aa):outK (some (v,h)) c=c v h:=rfl
theorem aeO {h:Heap} {b:Nat} {l:List AV} {q:Nat} (o:Own h b l q):sm h b=some l:=by unfold sm; rw [o.get]
theorem aoP {h:Heap} {b:Nat} {l:List AV} (o:h.cl b l):sm h b=some l:=by obtain ⟨_,_,_,e⟩:=o; unfold sm; rw [e]
theorem ownK_own {β:Type} {h:Heap} {b:Nat} {l:List AV} {q:Nat} (o:Own h b l q) (e:β) (k:List AV→Nat→β):afi h b e k=k l q:=by
  unfold afi
  have:Nat.blt b h.ro=false:=by rw [blt_eq]; simp; exact o.ro
  rw [this,o.get]
theorem Cj {h:Heap} {v:AV} {sz L n bx off ext:Nat} {o:Bool} {l lx new:List AV} (hro:h.ro≤h.nx) (ha:App h v sz L l) (hn:0<n) (hc:h.cl bx lx) (hs:sub lx off (n*sz)=some new) (hm:L+n≤1048576) :
    aM (rX h sz v (.slice bx off n ext o)) fun v' h'=>App h' v' sz (L+n) (l++new)∧v'.blk=some h.nx∧Chg (fun c=>v.blk=some c) h h':=by
  have hsh:Vd h sz n (.slice bx off n ext o)=some new:=by
    show (Option.casesOn (sm h bx) none fun l=>sub l off (n*sz):Option (List AV))=_
    rw [aoP hc]; exact hs
  have hnew:new.length=n*sz:=by
    rw [nP] at hs
    split at hs
    · rename_i h1; cases hs; simp at h1 ⊢; omega
    · cases hs
  rcases ha with ⟨rfl,rfl,rfl⟩ | ⟨b,rfl,ow,hl,hL⟩
  · refine ⟨(.slice h.nx 0 n 0 true,h.add (.cells new true sz)),⟨.inr ⟨h.nx,by simp,⟨by simp,by simpa using hro,by rw [Heap.fy,if_pos rfl]; simp⟩,by simpa using hnew,by omega⟩,rfl,(aY.add).chg _⟩,fun k=>?_⟩
    unfold rX
    have:Ch h sz .nilslice (.slice bx off n ext o)=some (.slice h.nx 0 n 0 true,h.add (.cells new true sz)):=by
      simp only [Ch,adj]
      rw [if_neg (by omega),if_neg (by unfold Zj; omega),hsh]
      dsimp only
      rw [Heap.fx]
    rw [this,acH,Bn,It]; rfl
  · have hsub:sub l 0 (L*sz)=some l:=by rw [nP,List.drop_zero,if_pos (by omega), ← hl,List.take_length]
    refine ⟨(.slice h.nx 0 (L+n) 0 true,(h.set b .dead).add (.cells (l++new) true sz)),⟨.inr ⟨h.nx,rfl,⟨by simp,by simpa using hro,?_⟩,?_,by omega⟩,rfl,⟨by simp,by simp,fun c hc' hf=>?_⟩⟩,fun k=>?_⟩
    · show ((h.set b .dead).add _).get h.nx=_
      rw [Heap.fy,if_pos (by simp)]
    · simp [hl,hnew,Nat.add_mul]
    · have hf':b≠c:=fun e=>hf (by rw [e]; rfl)
      show ((h.set b .dead).add _).get c=_
      rw [Heap.fy,if_neg (by simp; omega),Heap.fq _ hf']
    · unfold rX
      have:Ch h sz (.slice b 0 L 0 true) (.slice bx off n ext o)=some (.slice h.nx 0 (L+n) 0 true,(h.set b .dead).add (.cells (l++new) true sz)):=by
        simp only [Ch,adj]
        rw [if_neg (by omega),if_neg (by omega),if_neg (by unfold Zj; omega),aeO ow]
        dsimp only
        rw [hsub]
        dsimp only
        rw [hsh]
        dsimp only
        rw [if_pos trivial,ownK_own ow]
        have h3:(Nat.beq sz sz&&Nat.ble (0+(L+0)*sz) (sZ l))=true:=by rw [rm,hl]; simp
        rw [h3]
        dsimp only
        rw [Heap.fu,th,Heap.fx]
        simp
      rw [this,acH,Bn,It]; rfl
end Go.Ai
/- What may be, by the code. -/
namespace Go.Proofs.YtpoobhhdgjgdgaaGreat.Sh
open Go.Ai
def Faults (h0 h:Heap) (x L:Nat):Prop:=∃ v l,Own h x [v] 0∧App h v 2 L l∧h0.nx≤x∧∀ b,v.blk=some b→b≠x∧h0.nx≤b
theorem Faults.grow {h0 h h':Heap} {x L:Nat} (f:Faults h0 h x L) (g:aY h h'):Faults h0 h' x L:=by
  obtain ⟨v,l,h1,h2,h3,h4⟩:=f
  exact ⟨v,l,h1.grow g,h2.grow g,h3,h4⟩
theorem any_0 {v:AV}:([v]:List AV)[0]?=some v:=rfl
theorem apB (q:IntKind) (a b:Int) (k:AV→aa):kM [.int q 0,.int q 0] [(0,1,.int q a),(1,1,.int q b)] k=k (.agg [.int q a,.int q b]):=rfl
theorem IS {n:Nat} {h0 h:Heap} {x L:Nat} (hro:h.ro≤h.nx) (g:aY h0 h) (f:Faults h0 h x L) (hL:L<1000) (may:Bool) (e at_:Int) :
    dl (aW n may e at_ (.ptr x 0) h) fun h'=>Faults h0 h' x (if may then L else L+1)∧aY h0 h':=by
  unfold aW HB AI
  refine aH.ifB (fun e1=>?_) fun e1=>?_
  · simp at e1
    subst e1
    obtain ⟨v,l,ho,ha,hx,hb⟩:=f
    simp only [aB,gS ho.cl,any_0,apB]
    refine aM.bind (wi (fun k=>by rfl)) ?_
    rintro _ h1 ⟨rfl,hc,g1⟩
    refine aM.bind (Cj (g1.le hro) (ha.grow g1) (by omega) hc (by rw [nP]; rfl) (by omega)) ?_
    rintro v' h2 ⟨a2,b2,c2⟩
    have ho1:=ho.grow g1
    have ho2:=c2.own ho1 fun e=>(hb x e).1 rfl
    refine dl.bind (sI ho2 (by simp) (by rcases a2 with ⟨rfl,h3,_⟩ | ⟨b,rfl,_⟩<;>rfl)) ?_
    intro h3 p3
    have n1:=ho.lt
    have n2:=g1.nx
    refine ret0 ⟨⟨v',_,p3.own,a2.chg p3.chg fun b hb'=>by rw [b2] at hb'; cases hb'; omega,hx,fun b hb'=>?_⟩,?_⟩
    · rw [b2] at hb'
      cases hb'
      have:=g.nx
      exact ⟨by omega,by omega⟩
    · exact p3.grow (c2.grow (g.trans g1) fun b hb'=>(hb b hb').2) hx
  · simp at e1
    subst e1
    exact ret0 ⟨f,g⟩
theorem aqD {n:Nat} {z:bA} (hn:dm n z) {h0:Heap} {t pp:AV} {x y N:Nat} (hN:N≤z.parts.length) (hN8:N≤8) (hro0:h0.ro≤h0.nx) (hb0:h0.cl x (qr z t pp)) (ht0:cK h0 .i64 t z.fh) (hp0:di h0 pp z.parts) :
    ∀ (m i L:Nat) (h:Heap),aY h0 h→Faults h0 h y L→L<500+i→i≤N→N-i<m→
    aM (fun k=>xz n (aW n) (bV n) (b7 n) (da n) (c9 n) (cM n) (aQ n) k m (.ptr x 0) (.ptr y 0) (.func vz [] [.ptr y 0]) N i h)
      fun r h'=>(∃ L':Nat,(∀ k,jC r k=k L')∧(L'=0↔L=0∧(List.range' i (N-i)).all (fun p=>decide (Uk z p=0))=true))∧aY h0 h':=by
  intro m
  induction m with
  | zero=>omega
  | succ m ih=>
    intro i L h g f hL hi hm
    have hro:=g.le hro0
    simp only [aiv]
    unfold xF C5
    refine aH.ifB (fun e=>?_) fun e=>?_
    · simp at e
      have hr:List.range' i (N-i)=i::List.range' (i+1) (N-(i+1)):=by
        rw [show N-i=(N-(i+1))+1 by omega,List.range'_succ]
      rw [hr,List.all_cons]
      simp only [aB,gS (g.cl hb0),bC,jq (show i≤9223372036854775806 by omega)]
      refine aM.bind (v_part hn hro (Cfg.mk' (ht0.grow g) (hp0.grow g)) (by omega)) ?_
      rintro _ h1 ⟨rfl,g1⟩
      have c1:∀ b e a h k,py (aW n) (bV n) (b7 n) (da n) (c9 n) (cM n) (aQ n) (.func vz [] [.ptr y 0]) [.bool b,.int .i64 e,.int .i64 a] h k =
        aW n b e a (.ptr y 0) h fun h=>k (.tuple []) h:=fun _ _ _ _ _=>rfl
      simp only [aB,c1]
      refine dl.bind (IS (g1.le hro) (g.trans g1) (f.grow g1) (by omega) _ _ _) ?_
      rintro h2 ⟨f2,g2⟩
      refine aH.mono (ih (i+1) _ h2 g2 f2 (by split<;>omega) (by omega) (by omega)) ?_
      · rintro ⟨r,h'⟩ ⟨⟨L',q1,q2⟩,q3⟩
        refine ⟨⟨L',q1,q2.trans ?_⟩,q3⟩
        by_cases hpe:Uk z i=0<;>simp [hpe]
    · simp at e
      have:i=N:=by omega
      subst this
      obtain ⟨v,l,ho,ha,hx,hb⟩:=f
      simp only [aB,gS ho.cl,any_0]
      exact jL ⟨⟨L,ha.len,by simp⟩,g⟩
theorem v_Check {n:Nat} {z:bA} (hn:dm n z) {h:Heap} (hro:h.ro≤h.nx) {c:List AV} (hc:Cfg h z c):aM (dZ n (.agg c) h) fun r h'=>(∃ L:Nat,(∀ k,jC r k=k L)∧(L=0↔uD z=true))∧aY h h':=by
  unfold dZ Qp Ij
  obtain ⟨t,pp,rfl,ht,hp⟩:=hc
  refine aM.bind (m7 ..) ?_
  rintro x h0 ⟨hb,g⟩
  have hro0:=g.le hro
  have ht0:=ht.grow g
  have hp0:=hp.grow g
  refine aM.bind (DV hro0 [.nilslice] 0) ?_
  rintro y h3 ⟨hy,oy,g3⟩
  have f3:Faults h0 h3 y 0:=⟨.nilslice,[],oy,.nil,hy,fun b hb=>by cases hb⟩
  simp only [aB,gS (g3.cl hb),bC]
  refine aM.bind (Iz n (Cfg.mk' (ht0.grow g3) (hp0.grow g3))) ?_
  rintro _ h4 ⟨rfl,g4⟩
  refine dl.bind (IS ((g3.trans g4).le hro0) (g3.trans g4) (f3.grow g4) (by omega) _ _ _) ?_
  rintro h5 ⟨f5,g5⟩
  simp only [aB,gS (g5.cl hb),bC]
  refine aM.bind (HU (by have:=hn.small; omega) h5 z) ?_
  rintro _ h6 ⟨rfl,g6⟩
  refine dl.bind (IS ((g5.trans g6).le hro0) (g5.trans g6) (f5.grow g6) (by split<;>omega) _ _ _) ?_
  rintro h7 ⟨f7,g7⟩
  simp only [aB,gS (g7.cl hb),bC]
  refine aM.bind (v_sliced hn (g7.le hro0) (Cfg.mk' (ht0.grow g7) (hp0.grow g7))) ?_
  rintro _ h8 ⟨rfl,g8⟩
  refine dl.bind (IS ((g7.trans g8).le hro0) (g7.trans g8) (f7.grow g8) (by split<;>split<;>omega) _ _ _) ?_
  rintro h9 ⟨f9,g9⟩
  simp only [aB,gS (g9.cl hb),bC]
  refine aM.bind (v_turned hn (Cfg.mk' (ht0.grow g9) (hp0.grow g9))) ?_
  rintro _ h10 ⟨rfl,g10⟩
  refine dl.bind (IS ((g9.trans g10).le hro0) (g9.trans g10) (f9.grow g10) (by split<;>split<;>split<;>omega) _ _ _) ?_
  rintro h11 ⟨f11,g11⟩
  simp only [aB,gS (g11.cl hb),bC,hp0.2.choose_spec.1.len,min2]
  have hmin:minZ (z.parts.length:Int) 8=((min z.parts.length 8:Nat):Int):=by unfold minZ; split<;>omega
  rw [hmin]
  refine aH.mono (aqD hn (N:=min z.parts.length 8) (by omega) (by omega) hro0 hb ht0 hp0 n 0 _ h11 g11 f11 (by split<;>split<;>split<;>split<;>omega) (by omega) (by have:=hn.small; omega)) ?_
  rintro ⟨r,h'⟩ ⟨⟨L,q1,q2⟩,q3⟩
  refine ⟨⟨L,q1,q2.trans ?_⟩,g.trans q3⟩
  rw [Nat.sub_zero, ← List.range_eq_range']
  simp only [uD,fV]
  cases nK z<;>by_cases hcz:aak z=0<;>cases zX z<;>cases aaZ z<;>simp [hcz]
theorem v_May {n:Nat} {z:bA} (hn:dm n z) {h:Heap} (hro:h.ro≤h.nx) {c:List AV} (hc:Cfg h z c):aM (bp n (.agg c) h) fun r h'=>r=uD z∧aY h h':=by
  unfold bp Zu P4
  obtain ⟨t,pp,rfl,ht,hp⟩:=hc
  refine aM.bind (m7 ..) ?_
  rintro x h1 ⟨hb,g⟩
  simp only [aB,gS hb,bC]
  refine aM.bind (v_Check hn (g.le hro) (Cfg.mk' (ht.grow g) (hp.grow g))) ?_
  rintro r h2 ⟨⟨L,q1,q2⟩,g2⟩
  simp only [aB,q1]
  refine jL ⟨?_,g.trans g2⟩
  rw [Bool.eq_iff_iff, ← q2]
  simp
def A6 (z:bA) (p:Int):Int:=if uD z then (if 0≤p∧p<z.parts.length then 0 else 270) else 5
theorem ap9 {n:Nat} {z:bA} (hn:dm n z) {h:Heap} (hro:h.ro≤h.nx) {c:List AV} (hc:Cfg h z c) (p:Int):aM (dq n (.agg c) p h) fun r h'=>r=A6 z p∧aY h h':=by
  unfold dq PV Ih xB
  obtain ⟨t,pp,rfl,ht,hp⟩:=hc
  refine aM.bind (m7 ..) ?_
  rintro x h1 ⟨hb,g⟩
  simp only [aB,gS hb,bC]
  refine aM.bind (v_May hn (g.le hro) (Cfg.mk' (ht.grow g) (hp.grow g))) ?_
  rintro _ h2 ⟨rfl,g2⟩
  simp only [aB,gS (g2.cl hb),bC,hp.2.choose_spec.1.len]
  refine aH.ifB (fun e1=>jL ⟨by simp at e1; simp [A6,e1],g.trans g2⟩) fun e1=>aH.ifB (fun e2=>jL ⟨by simp at e1 e2; simp [A6,e1]; omega,g.trans g2⟩) fun e2=>
    aH.ifB (fun e3=>jL ⟨by simp at e1 e2 e3; simp [A6,e1]; omega,g.trans g2⟩) fun e3=>jL ⟨by simp at e1 e2 e3; simp [A6,e1]; omega,g.trans g2⟩
end Go.Proofs.YtpoobhhdgjgdgaaGreat.Sh
/- Copies of a row's elements; colours, addresses, owners. -/
namespace Go.Proofs.YtpoobhhdgjgdgaaGreat.Sh
open Go.Ai
theorem abG {q:IntKind} {a b:Int} (h:0≤b) (c:Int→aa):shrK q a b c=c (shrF q a b.toNat):=by
  unfold shrK; rw [amo h]; simp [pU]
theorem bit_or (q:IntKind) (a b:Int) (c:Int→aa):ae8 .or q a b c=c (q.wrap (BitVec.ofInt q.bits a ||| BitVec.ofInt q.bits b).toNat):=by
  show oC (some _) _=_
  rw [yR,pU]
theorem alr (q:IntKind) (a b:Int) (c:Int→aa):ae8 .and q a b c=c (q.wrap (BitVec.ofInt q.bits a &&& BitVec.ofInt q.bits b).toNat):=by
  show oC (some _) _=_
  rw [yR,pU]
theorem aH.copy {K R:Type} {ap:K→R→aa} {Q:R→Prop} {h:Heap} {v:AV} {sz n:Nat} {f:Nat→List AV} (s:bI h v sz n f) (hro:h.ro≤h.nx) {i:Nat} (hi:i<n) {z:List AV} (hz:z.length=sz) (hf:(f i).length=sz) {G:K→AV→AV→Nat→Heap→Heap→aa}
    (H:∀ a b c d e,e.cl c (f i)→aY h e→aH ap (fun k=>G k a b c d e) Q) :
    aH ap (fun k=>eld sz h v (i:Int) sz true fun a b=>lG h (.cells z true 0) fun c d=>jf d (.ptr c 0) sz b fun e=>G k a b c d e) Q:=by
  simp only [s.eld (fP i) (by omega),gd]
  refine aM.bind (DV hro z 0) ?_
  rintro c d ⟨hc,o,g⟩
  refine dl.bind (Qv o (cs:=f i) hf (by omega)) ?_
  intro e p
  rw [Ix _ _ (by rw [hf,hz])] at p
  exact H _ _ c d e p.own.cl (p.grow g hc)
theorem Hw (n:Nat) (a b c:Int) (h:Heap) (k:Bool→Heap→aa):cQ n a b c h k=k (jd a b c) h:=by
  unfold cQ GS A3 rY
  by_cases hc:a<b
  · simp [jd,hc,show ¬ b≤a by omega]
  · simp [jd,hc,show b≤a by omega, ← Int.not_lt]
theorem aa9 (n:Nat) (a:Int) (h:Heap) (k:Bool→Heap→aa):dt n a h k=k (jd a 1 16) h:=by
  unfold dt PQ H9
  rw [Hw]
theorem u_Of (n:Nat) {f c:Int} (hc:jd c 1 16=true) (h:Heap):∃ r e,(∀ k,bN n f c h k=k r e h)∧(jd f 0 4095=true→r=f%c∧e=0)∧(jd f 0 4095=false→e=2):=by
  unfold bN VM K6 zr
  have hc':=hc
  simp [jd] at hc'
  cases hf:jd f 0 4095 with
  | true=>
    have hf':=hf
    simp [jd] at hf'
    refine ⟨f%c,0,fun k=>?_,fun _=>⟨rfl,rfl⟩,fun h=>nomatch h⟩
    have e1:f.tmod c=f%c:=Int.tmod_eq_emod_of_nonneg hf'.1
    simp only [aB,Hw,aa9,hf,hc,Bool.not_true,PR (show c≠0 by omega),e1]
  | false=>
    refine ⟨0,2,fun k=>?_,(fun h=>nomatch h),fun _=>rfl⟩
    simp only [aB,Hw,hf,Bool.not_false]
theorem arc {n:Nat} {a:Int} {h:Heap}:aM (dD n a h) fun _ h'=>h'=h:=by
  unfold dD I9 Dt tS
  exact aH.ifB (fun _=>jL rfl) fun _=>jL rfl
theorem v_offMay {n:Nat} {a:Int} {h:Heap}:aM (dM n a h) fun _ h'=>h'=h:=by
  unfold dM LQ Fb vX
  exact aH.ifB (fun _=>jL rfl) fun _=>jL rfl
theorem v_Join {n:Nat} {a b:Int} {h:Heap}:dr (ez n a b h) fun _ _ h'=>h'=h:=by
  unfold ez VD KQ zD
  refine aM.bind arc ?_
  rintro x _ rfl
  simp only [abl (show (0:Int)≤8 by decide),bit_or,zG]
  refine aH.ifB (fun _=>aH.ifB (fun _=>EV rfl) fun h=>nomatch h) fun _=>?_
  refine aM.bind v_offMay ?_
  rintro y _ rfl
  exact aH.ifB (fun _=>EV rfl) fun _=>EV rfl
theorem v_Split {n:Nat} {a:Int} {h:Heap}:Run3 (d9 n a h) fun _ _ _ h'=>h'=h:=by
  unfold d9 Qa HO
  simp only [abG (show (0:Int)≤28 by decide),abG (show (0:Int)≤8 by decide),alr,zG]
  exact aH.ifB (fun _=>agf rfl) fun _=>agf rfl
theorem v_Run {n:Nat} {a b:Int} {h:Heap}:Run3 (eI n a b h) fun _ _ _ h'=>h'=h:=by
  unfold eI Zq Qk Dk BO
  refine Run3.bind v_Split ?_
  rintro x y z _ rfl
  simp only [agN]
  refine aH.ifB (fun _=>agf rfl) fun _=>?_
  refine aH.ifB (fun _=>aH.ifB (fun _=>aH.ifB (fun _=>agf rfl) fun h=>nomatch h) fun h=>nomatch h) fun _=>?_
  exact aH.ifB (fun _=>aH.ifB (fun _=>agf rfl) fun h=>nomatch h) fun _=>aH.ifB (fun _=>agf rfl) fun _=>agf rfl
theorem ao3 {n:Nat} {zc:bA} (hn:dm n zc) {h0:Heap} (hro:h0.ro≤h0.nx) {pp:AV} (hp:di h0 pp zc.parts) (c:Int) (f1):∀ (q i:Nat) (h:Heap),aY h0 h→i≤zc.parts.length→zc.parts.length-i<q→
    Run3 (fun k=>xf n f1 (al n) k q c pp (zc.parts.length:Int) (i:Int) h) fun r b e h'=>aY h0 h'∧e=0∧((b=true∧∃ p:Nat,r=(p:Int)∧i≤p∧p<zc.parts.length∧c∈(jH zc p).eZ∧∀ j,i≤j→j<p→c∉(jH zc j).eZ)∨(b=false∧r=0∧∀ j,i≤j→j<zc.parts.length→c∉(jH zc j).eZ)):=by
  intro q
  induction q with
  | zero=>omega
  | succ q ih=>
    intro i h g hi hq
    simp only [ag1]
    unfold xr CY
    refine aH.ifB (fun e=>?_) fun e=>?_
    · rw [kg,fX] at e
      have hlt:i<zc.parts.length:=by omega
      obtain ⟨_,S,hs,hS⟩:=hp.grow g
      refine aH.copy hs (g.le hro) hlt rfl rfl fun a b x d e' hx g'=>?_
      have g1:=g.trans g'
      have e0:(tJ (zc.parts.getD i default) (S i))[0]?=some (S i):=rfl
      simp only [aB,gS hx,e0]
      have hi1:cK e' .i64 (S i) (zc.parts.getD i default).eZ:=(hS i hlt).grow g'
      refine aM.bind (Zy hi1 (hn.eZ i hlt) c) ?_
      rintro r2 h2 ⟨rfl,rfl⟩
      refine aH.ifB (fun e2=>?_) fun e2=>?_
      · rw [fX] at e2
        exact agf ⟨g1,rfl,.inl ⟨rfl,i,rfl,fY _,hlt,e2,fun j h1 h2=>by omega⟩⟩
      · rw [f8] at e2
        have hsm:=hs.1
        simp only [aB,jq (show i≤9223372036854775806 by omega)]
        refine aH.mono (ih (i+1) h2 g1 (by omega) (by omega)) ?_
        rintro ⟨r,b,e3,h'⟩ ⟨q1,q2,q3⟩
        refine ⟨q1,q2,?_⟩
        rcases q3 with ⟨b1,p,b2,b3,b4,b5,b6⟩ | ⟨b1,b2,b3⟩
        · refine .inl ⟨b1,p,b2,by omega,b4,b5,fun j h1 h2=>?_⟩
          by_cases hj:j=i
          · subst hj; exact e2
          · exact b6 j (by omega) h2
        · refine .inr ⟨b1,b2,fun j h1 h2=>?_⟩
          by_cases hj:j=i
          · subst hj; exact e2
          · exact b3 j (by omega) h2
    · rw [kg,f8] at e
      exact agf ⟨g,rfl,.inr ⟨rfl,rfl,fun j h1 h2=>by omega⟩⟩
def Uv (zc:bA) (f r:Int) (b:Bool) (e:Int):Prop:=
  (e≠0∧r=0∧b=false∧¬ (uD zc=true∧0≤f∧f<zc.frames))∨(e=0∧uD zc=true∧0≤f∧f<zc.frames∧
    ((b=true∧∃ p:Nat,r=(p:Int)∧p<zc.parts.length∧f%zc.eY∈(jH zc p).eZ∧∀ j,j<p→f%zc.eY∉(jH zc j).eZ)∨(b=false∧r=0∧∀ j,j<zc.parts.length→f%zc.eY∉(jH zc j).eZ)))
theorem Zn {zc:bA} (h:uD zc=true):jd zc.frames 1 4096=true∧jd zc.eY 1 16=true:=by
  simp only [uD,fV] at h
  have h1:=h.1
  simp only [nK,fV] at h1
  obtain ⟨m1,m2,_⟩:=h1
  simp only [WO,fV] at m1
  exact ⟨m2,m1.1⟩
theorem v_POwner {n:Nat} {zc:bA} (hn:dm n zc) {h:Heap} (hro:h.ro≤h.nx) {c:List AV} (hc:Cfg h zc c) (hm:uD zc=true) {k:Int} (hk:0≤k∧k<zc.eY) :
    Run3 (dY n (.agg c) k h) fun r b e h'=>aY h h'∧e=0∧((b=true∧∃ p:Nat,r=(p:Int)∧p<zc.parts.length∧k∈(jH zc p).eZ∧∀ j,j<p→k∉(jH zc j).eZ)∨(b=false∧r=0∧∀ j,j<zc.parts.length→k∉(jH zc j).eZ)):=by
  unfold dY Qu HP xc
  obtain ⟨t,pp,rfl,ht,hp⟩:=hc
  refine aM.bind (m7 ..) ?_
  rintro x h1 ⟨hb,g⟩
  simp only [aB,gS hb,bC]
  refine aM.bind (v_May hn (g.le hro) (Cfg.mk' (ht.grow g) (hp.grow g))) ?_
  rintro _ h2 ⟨rfl,g2⟩
  have g02:=g.trans g2
  have t0:(!true)=false:=rfl
  have e1:decide (k<0)=false:=ge (by omega)
  have e2:(!decide (k<zc.eY))=false:=by rw [gj hk.2]; rfl
  have hl:=(hp.grow g02).2.choose_spec.1.len
  simp only [aB,hm,t0,e1,gS (g2.cl hb),bC,e2,hl]
  refine aH.mono (ao3 hn (g02.le hro) (hp.grow g02) k _ n 0 h2 .refl (by omega) (by have:=hn.parts; omega)) ?_
  rintro ⟨r,b,e,h'⟩ ⟨q1,q2,q3⟩
  refine ⟨g02.trans q1,q2,?_⟩
  rcases q3 with ⟨b1,p,b2,_,b4,b5,b6⟩ | ⟨b1,b2,b3⟩
  · exact .inl ⟨b1,p,b2,b4,b5,fun j hj=>b6 j (Nat.zero_le _) hj⟩
  · exact .inr ⟨b1,b2,fun j hj=>b3 j (Nat.zero_le _) hj⟩
theorem ahn {n:Nat} {zc:bA} (hn:dm n zc) {h:Heap} (hro:h.ro≤h.nx) {c:List AV} (hc:Cfg h zc c) (f:Int) :
    Run3 (aK n (.agg c) f h) fun r b e h'=>aY h h'∧Uv zc f r b e:=by
  unfold aK L6 FP vP
  obtain ⟨t,pp,rfl,ht,hp⟩:=hc
  refine aM.bind (m7 ..) ?_
  rintro x h1 ⟨hb,g⟩
  simp only [aB,gS hb,bC]
  refine aM.bind (v_May hn (g.le hro) (Cfg.mk' (ht.grow g) (hp.grow g))) ?_
  rintro _ h2 ⟨rfl,g2⟩
  have g02:=g.trans g2
  cases hm:uD zc with
  | false=>
    have t0:(!false)=true:=rfl
    simp only [aB,t0]
    exact agf ⟨g02,.inl ⟨by simp,rfl,rfl,fun h=>by rw [hm] at h; exact nomatch h.1⟩⟩
  | true=>
    have t0:(!true)=false:=rfl
    obtain ⟨m1,m2⟩:=Zn hm
    have m1':=m1
    have m2':=m2
    simp [jd] at m1' m2'
    by_cases hf:0≤f∧f<zc.frames
    · have e1:decide (f<0)=false:=ge (by omega)
      have e2:(!decide (f<zc.frames))=false:=by rw [gj hf.2]; rfl
      obtain ⟨r,e,q1,q2,_⟩:=u_Of n (f:=f) m2 h2
      obtain ⟨rfl,rfl⟩:=q2 (by simp [jd]; omega)
      have t1:(!((0:Int)==0))=false:=rfl
      simp only [aB,t0,e1,gS (g2.cl hb),bC,e2,q1,t1]
      have hk:0≤f%zc.eY∧f%zc.eY<zc.eY:=⟨Int.emod_nonneg _ (by omega),Int.emod_lt_of_pos _ (by omega)⟩
      refine aH.mono (v_POwner hn (g02.le hro) (Cfg.mk' (ht.grow g02) (hp.grow g02)) hm hk) ?_
      rintro ⟨r,b,e,h'⟩ ⟨k1,k2,k3⟩
      exact ⟨g02.trans k1,.inr ⟨k2,hm,hf.1,hf.2,k3⟩⟩
    · have bad:Run3 (fun k:cD=>k 0 false 2 h2) fun r b e h'=>aY h h'∧Uv zc f r b e:=agf ⟨g02,.inl ⟨by simp,rfl,rfl,fun h=>hf h.2⟩⟩
      by_cases h0:f<0
      · have e1:decide (f<0)=true:=gj h0
        simp only [aB,t0,e1]
        exact bad
      · have e1:decide (f<0)=false:=ge h0
        have e2:(!decide (f<zc.frames))=true:=by rw [ge (by omega)]; rfl
        simp only [aB,t0,e1,gS (g2.cl hb),bC,e2]
        exact bad
end Go.Proofs.YtpoobhhdgjgdgaaGreat.Sh
