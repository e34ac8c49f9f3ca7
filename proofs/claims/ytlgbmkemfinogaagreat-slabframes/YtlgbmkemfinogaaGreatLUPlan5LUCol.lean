/- The slices and the turns, by the code; what may be. -/
import Derived.Test.YtlgbmkemfinogaaGreatLUPlanLUPlan4
import Derived.Test.YtlgbmkemfinogaaGreatAiTblKs
set_option linter.all false
namespace Go.Proofs.YtlgbmkemfinogaaGreat.Sh
open Go.Ai
theorem build4 (q:IntKind) (a b c d:Int) (k:AV→ab):tw [.int q 0,.int q 0,.int q 0,.int q 0] [(0,1,.int q a),(1,1,.int q b),(2,1,.int q c),(3,1,.int q d)] k=k (.agg [.int q a,.int q b,.int q c,.int q d]):=rfl
theorem v_shape {n:Nat} {z:br} {h:Heap} (hro:h.ro≤h.nx) {c:List AV} (hc:Cfg h z c) {p:Nat} (hp:p<z.parts.length) (ho:0≤(jk z p).order):aJ (dX n (.agg c) p h) fun r h'=>r = .agg (Dy (ag8 z p))∧bo h h':=by
  unfold dX Ub NY
  obtain ⟨t,pp,rfl,ht,hps,S,hpt,hS⟩:=hc
  refine aJ.bind (AO ..) ?_
  rintro x h1 ⟨hb,g⟩
  refine aJ.bind (aeY (g.le hro) _ 0) ?_
  rintro y h2 ⟨hy,oy,g2⟩
  have t2:=g.trans g2
  simp only [au,iR (g2.cl hb),ck,dF.eld (hpt.grow t2) (show (0:Int)≤(p:Int) by omega) (show (p:Int)<_ by omega),gy]
  rw [show z.parts.getD p default=jk z p from rfl] at *
  refine aJ.bind (agX (n:=8) (t2.le hro) (by rfl) (by rfl)) ?_
  rintro w h3 ⟨hw,ow,g3⟩
  have t3:=t2.trans g3
  simp only [au,iR ow.cl,ck,ND ho,min2,build4]
  refine dz.bind (Yu (cs:=Dy (ag8 z p)) (oy.grow g3) rfl (by show 0+4≤4; decide)) ?_
  intro h4 hp4
  rw [VU _ _ (by rfl)] at hp4
  simp only [au,iR hp4.own.cl,ck]
  exact mQ ⟨rfl,hp4.grow t3 (gu g.nx hy)⟩
theorem amn {z:br} {p:Nat} (h:WT z p=0):0≤(jk z p).order:=by
  unfold WT at h
  split at h
  · split at h
    · rename_i hq
      simp [ug,jC] at hq
      omega
    · cases h
  · cases h
theorem anr {n:Nat} {z:br} (hn:Fits n z) {t pp:AV} {x:Nat}:∀ (m i:Nat) (h:Heap),h.ro≤h.nx→h.cl x (Bt z t pp)→dh h .i64 t z.fH→Parts h pp z.parts→i≤z.parts.length→z.parts.length-i<m→z.parts.length≤9223372036854775807→
    aJ (fun k=>vC n (ce n) (cp n) (dp n) (dM n) (d0 n) (dX n) k m (.ptr x 0) z.parts.length i h) fun r h'=>r=(List.range' i (z.parts.length-i)).all (Cb z)∧bo h h':=by
  intro m
  induction m with
  | zero=>omega
  | succ m ih=>
    intro i h hro hb ht hp hi hm hl
    simp only [af8]
    unfold zW EV vJ zT vJ
    refine aR.ifB (fun e=>?_) fun e=>?_
    · simp at e
      have hr:List.range' i (z.parts.length-i)=i::List.range' (i+1) (z.parts.length-(i+1)):=by
        rw [show z.parts.length-i=(z.parts.length-(i+1))+1 by omega,List.range'_succ]
      rw [hr,List.all_cons]
      simp only [au,iR hb,ck,kP (show i≤9223372036854775806 by omega)]
      refine aJ.bind (v_part hn hro (Cfg.mk' ht hp) e) ?_
      rintro _ h1 ⟨rfl,g1⟩
      have hb1:=g1.cl hb
      have go:Cb z i=true→∀ h',bo h h'→aR ap1 (fun k=>vC n (ce n) (cp n) (dp n) (dM n) (d0 n) (dX n) k m (.ptr x 0) z.parts.length ((i+1:Nat):Int) h')
          fun r=>r.1=(Cb z i&&(List.range' (i+1) (z.parts.length-(i+1))).all (Cb z))∧bo h r.2:=by
        intro hs h' g'
        refine aR.mono (ih (i+1) h' (g'.le hro) (g'.cl hb) (ht.grow g') (hp.grow g') (by omega) (by omega) hl) ?_
        rintro ⟨r,h''⟩ ⟨q1,q2⟩
        exact ⟨by rw [q1,hs,Bool.true_and],g'.trans q2⟩
      refine aR.ifB (fun e1=>?_) fun e1=>?_
      · simp at e1
        exact go (by simp [Cb,e1]) h1 g1
      simp at e1
      simp only [au,iR hb1,ck]
      refine aJ.bind (v_shape (n:=n) (h:=h1.shut true) (z:=z) (gp _) (Cfg.shut (Cfg.mk' (ht.grow g1) (hp.grow g1))) e (amn e1)) ?_
      rintro _ h2 ⟨rfl,g2⟩
      have t2:=g1.trans g2.shut
      refine dY.bind (v_Most hn.small (t2.le hro) z (ag8 z i)) ?_
      rintro v er h3 ⟨rfl,hv,g3⟩
      have t3:=t2.trans g3
      have hb3:=t3.cl hb
      simp only [au,iR hb3,ck]
      refine aR.ifB (fun e2=>mQ ⟨?_,t3⟩) fun e2=>?_
      · simp at e2; simp [Cb,e1,e2]
      simp at e2
      rw [hv e2]
      refine aR.ifB (fun e3=>mQ ⟨?_,t3⟩) fun e3=>?_
      · simp at e3; simp [Cb,e1,e2,Int.not_le.2 e3]
      · simp at e3
        exact go (by simp [Cb,e1,e2,e3]) h3 t3
    · simp at e
      have:i=z.parts.length:=by omega
      subst this
      exact mQ ⟨by simp,.refl⟩
theorem v_sliced {n:Nat} {z:br} (hn:Fits n z) {h:Heap} (hro:h.ro≤h.nx) {c:List AV} (hc:Cfg h z c):aJ (dL n (.agg c) h) fun r h'=>r=Fb z∧bo h h':=by
  unfold dL Ro Kc zp z7 zm
  obtain ⟨t,pp,rfl,ht,hp⟩:=hc
  refine aJ.bind (AO ..) ?_
  rintro x h1 ⟨hb,g⟩
  simp only [au,iR hb,ck]
  refine aR.ifB (fun e1=>mQ ⟨by simp at e1; simp [Fb,Int.not_le.2 e1],g⟩) fun e1=>aR.ifB (fun e2=>mQ ⟨by simp at e2; simp [Fb,Int.not_le.2 e2],g⟩) fun e2=>
    aR.ifB (fun e3=>mQ ⟨by simp at e3; simp [Fb,Int.not_le.2 e3],g⟩) fun e3=>aR.ifB (fun e4=>mQ ⟨by simp at e4; simp [Fb,Int.not_lt.2 e4],g⟩) fun e4=>?_
  simp at e1 e2 e3 e4
  refine aJ.bind (OC n (Cfg.mk' (ht.grow g) (hp.grow g))) ?_
  rintro _ h2 ⟨rfl,g2⟩
  have t2:=g.trans g2
  have hb2:=g2.cl hb
  unfold zP
  simp only [au,iR hb2,ck]
  refine aR.ifB (fun e5=>mQ ⟨by simp at e5; simp [Fb,e1,e2,e3,e4,e5],t2⟩) fun e5=>?_
  simp at e5
  refine aJ.bind (N4 (by have:=hn.small; omega) h2 z) ?_
  rintro _ h3 ⟨rfl,g3⟩
  have t3:=t2.trans g3
  have hb3:=g3.cl hb2
  refine aR.ifB (fun e6=>mQ ⟨by simp at e6; simp [Fb,e1,e2,e3,e4,e5,e6],t3⟩) fun e6=>?_
  simp at e6
  simp only [au,iR hb3,ck]
  refine dY.bind (v_Switch (by have:=hn.small; omega) h3 z _ _) ?_
  rintro v _ h4 ⟨rfl,hv,g4⟩
  have t4:=t3.trans g4
  have hb4:=g4.cl hb3
  unfold zK
  simp only [au,iR hb4,ck]
  refine aR.ifB (fun e7=>mQ ⟨by simp at e7; simp [Fb,e1,e2,e3,e4,e5,e6,e7],t4⟩) fun e7=>?_
  simp at e7
  rw [hv e7]
  refine aR.ifB (fun e8=>mQ ⟨by simp at e8; simp [Fb,e1,e2,e3,e4,e5,e6,e7,Int.not_le.2 e8],t4⟩) fun e8=>?_
  simp at e8
  have hl:=hp.2.choose_spec.1
  simp only [hl.len]
  refine aR.mono (anr hn n 0 h4 (t4.le hro) hb4 (ht.grow t4) (hp.grow t4) (by omega) (by have:=hn.parts; omega) hl.1) ?_
  rintro ⟨r,h'⟩ ⟨q1,q2⟩
  refine ⟨?_,t4.trans q2⟩
  rw [q1,Nat.sub_zero, ← List.range_eq_range']
  simp [Fb,e1,e2,e3,e4,e5,e6,e7,e8]
theorem amU {n:Nat} {z:br} {h:Heap} {t pp:AV} {x:Nat} (hb:h.cl x (Bt z t pp)) (hp:Parts h pp z.parts) (i:Int) (k:Bool→Heap→ab) :
    cZ n i (.ptr x 0) h k=k (!jC i 0 (IntKind.i64.wrap (z.parts.length-1))) h:=by
  unfold cZ JC Cv
  simp only [au,iR hb,ck,hp.2.choose_spec.1.len,Ad]
theorem ai6 {n:Nat} {z:br} {h:Heap} {t pp v:AV} {x:Nat} (hb:h.cl x (Bt z t pp)) (hp:Parts h pp z.parts) {l:List Int} (hv:dh h .i64 v l):∀ (m i:Nat),i≤l.length→l.length-i<m→
    aJ (fun k=>nj n (cZ n) k m v (.func CV [] [.ptr x 0]) l.length i h) fun r h'=>h'=h∧(r<0↔(l.drop i).all (fun p=>jC p 0 (IntKind.i64.wrap (z.parts.length-1)))=true):=by
  intro m
  induction m with
  | zero=>omega
  | succ m ih=>
    intro i hi hm
    simp only [HO]
    unfold ni oq
    have c1:∀ y h k,kQ (cZ n) (.func CV [] [.ptr x 0]) [.int .i64 y] h k=cZ n y (.ptr x 0) h fun u h=>k (.bool u) h:=fun _ _ _=>rfl
    refine aR.ifB (fun e=>?_) fun e=>?_
    · simp at e
      have hs:=hv.small
      rw [gx e,List.all_cons]
      simp only [au,hv.elN e,nQ e,c1,amU hb hp,kP (show i≤9223372036854775806 by omega)]
      refine aR.ifB (fun e1=>?_) fun e1=>?_
      · simp at e1
        exact mQ ⟨rfl,by simp [e1]⟩
      · simp at e1
        refine aR.mono (ih (i+1) (by omega) (by omega)) ?_
        rintro ⟨r,h'⟩ ⟨q1,q2⟩
        exact ⟨q1,by rw [e1,Bool.true_and]; exact q2⟩
    · simp at e
      have:i=l.length:=by omega
      subst this
      exact mQ ⟨rfl,by simp⟩
theorem v_turned {n:Nat} {z:br} (hn:Fits n z) {h:Heap} {c:List AV} (hc:Cfg h z c):aJ (dK n (.agg c) h) fun r h'=>r=ac2 z∧bo h h':=by
  unfold dK Rz JW zS
  obtain ⟨t,pp,rfl,ht,hp⟩:=hc
  refine aJ.bind (AO ..) ?_
  rintro x h1 ⟨hb,g⟩
  simp only [au,iR hb,ck,(ht.grow g).len,Ad]
  refine aR.ifB (fun e1=>?_) fun e1=>mQ ⟨by simp [ac2,e1],g⟩
  unfold cG qS oj cR sT pr
  simp only [au,(ht.grow g).len]
  refine aJ.bind (ai6 (n:=n) hb (hp.grow g) (ht.grow g) n 0 (by omega) (by have:=hn.fH; omega)) ?_
  rintro r _ ⟨rfl,hr⟩
  refine mQ ⟨?_,g⟩
  rw [List.drop_zero] at hr
  rw [ac2,e1,Bool.true_and,Bool.eq_iff_iff, ← hr]
  simp
end Go.Proofs.YtlgbmkemfinogaaGreat.Sh
/- Slices that grow by 'append', and what they change. -/
namespace Go.Ai
structure Chg (F:Nat→Prop) (h h':Heap):Prop where
  nx:h.nx≤h'.nx
  ro:h'.ro=h.ro
  old:∀ b,b<h.nx→¬ F b→h'.get b=h.get b
theorem bo.chg {h h':Heap} (g:bo h h') (F:Nat→Prop):Chg F h h':=⟨g.nx,g.ro,fun b hb _=>g.old b hb⟩
theorem Chg.trans {F:Nat→Prop} {h h' h'':Heap} (a:Chg F h h') (b:Chg F h' h''):Chg F h h'':=⟨gu a.nx b.nx,b.ro.trans a.ro,fun c hc hf=>(b.old c (gm hc a.nx) hf).trans (a.old c hc hf)⟩
theorem Chg.mono {F G:Nat→Prop} {h h':Heap} (a:Chg F h h') (hf:∀ b,b<h.nx→F b→G b):Chg G h h':=⟨a.nx,a.ro,fun c hc hg=>a.old c hc fun h=>hg (hf c hc h)⟩
theorem Chg.cl {F:Nat→Prop} {h h':Heap} (a:Chg F h h') {b:Nat} {l:List AV} (hb:h.cl b l) (hf:¬ F b):h'.cl b l:=by
  obtain ⟨h1,rw_,q,h2⟩:=hb
  exact ⟨gm h1 a.nx,rw_,q,(a.old b h1 hf).trans h2⟩
theorem Chg.own {F:Nat→Prop} {h h':Heap} (a:Chg F h h') {b:Nat} {l:List AV} {q:Nat} (o:Own h b l q) (hf:¬ F b):Own h' b l q:=
  ⟨gm o.lt a.nx,by rw [a.ro]; exact o.ro,(a.old b o.lt hf).trans o.get⟩
theorem Chg.le {F:Nat→Prop} {h h':Heap} (g:Chg F h h') (hro:h.ro≤h.nx):h'.ro≤h'.nx:=by rw [g.ro]; exact gu hro g.nx
theorem Chg.grow {F:Nat→Prop} {h₀ h h':Heap} (c:Chg F h h') (g:bo h₀ h) (hf:∀ b,F b→h₀.nx≤b):bo h₀ h':=
  ⟨gu g.nx c.nx,c.ro.trans g.ro,fun b hb=>(c.old b (gm hb g.nx) fun h=>by have:=hf b h; omega).trans (g.old b hb)⟩
theorem Put.chg {h h':Heap} {b:Nat} {l:List AV} {q:Nat} (p:Put h b l q h'):Chg (· = b) h h':=⟨by rw [p.nx]; exact gp _,p.ro,fun c _ hc=>p.other c hc⟩
def AV.blk:AV→Option Nat
  | .slice b _ _ _ _=>some b
  | _=>none
def App (h:Heap) (v:AV) (sz L:Nat) (l:List AV):Prop:=(v = .nilslice∧L=0∧l = [])∨∃ b,v = .slice b 0 L 0 true∧Own h b l sz∧l.length=L*sz∧0<L
theorem App.nil {h:Heap} {sz:Nat}:App h .nilslice sz 0 []:=.inl ⟨rfl,rfl,rfl⟩
theorem App.len {h:Heap} {v:AV} {sz L:Nat} {l:List AV} (a:App h v sz L l) (k:Int→ab):lz v k=k L:=by
  rcases a with ⟨rfl,rfl,_⟩ | ⟨b,rfl,_⟩<;>rfl
theorem App.chg {F:Nat→Prop} {h h':Heap} {v:AV} {sz L:Nat} {l:List AV} (a:App h v sz L l) (c:Chg F h h') (hf:∀ b,v.blk=some b→¬ F b):App h' v sz L l:=by
  rcases a with a | ⟨b,rfl,o,h1,h2⟩
  · exact .inl a
  · exact .inr ⟨b,rfl,c.own o (hf b rfl),h1,h2⟩
theorem App.grow {h h':Heap} {v:AV} {sz L:Nat} {l:List AV} (a:App h v sz L l) (g:bo h h'):App h' v sz L l:=a.chg (g.chg fun _=>False) fun _ _ h=>h
theorem App.lt {h:Heap} {v:AV} {sz L:Nat} {l:List AV} (a:App h v sz L l) {b:Nat} (hb:v.blk=some b):b<h.nx:=by
  rcases a with ⟨rfl,_,_⟩ | ⟨c,rfl,o,_,_⟩
  · cases hb
  · cases hb; exact o.lt
theorem Cy (v:AV) (h:Heap) (c:AV→Heap→ab):outK (some (v,h)) c=c v h:=rfl
theorem Lf {h:Heap} {b:Nat} {l:List AV} {q:Nat} (o:Own h b l q):nU h b=some l:=by unfold nU; rw [o.get]
theorem IR {h:Heap} {b:Nat} {l:List AV} (o:h.cl b l):nU h b=some l:=by obtain ⟨_,_,_,e⟩:=o; unfold nU; rw [e]
theorem XZ {β:Type} {h:Heap} {b:Nat} {l:List AV} {q:Nat} (o:Own h b l q) (e:β) (k:List AV→Nat→β):ad8 h b e k=k l q:=by
  unfold ad8
  have:Nat.blt b h.ro=false:=by rw [blt_eq]; simp; exact o.ro
  rw [this,o.get]
theorem SU {h:Heap} {v:AV} {sz L n bx off ext:Nat} {o:Bool} {l lx new:List AV} (hro:h.ro≤h.nx) (ha:App h v sz L l) (hn:0<n) (hc:h.cl bx lx) (hs:sub lx off (n*sz)=some new) (hm:L+n≤1048576) :
    aJ (px h sz v (.slice bx off n ext o)) fun v' h'=>App h' v' sz (L+n) (l++new)∧v'.blk=some h.nx∧Chg (fun c=>v.blk=some c) h h':=by
  have hsh:LX h sz n (.slice bx off n ext o)=some new:=by
    show (Option.casesOn (nU h bx) none fun l=>sub l off (n*sz):Option (List AV))=_
    rw [IR hc]; exact hs
  have hnew:new.length=n*sz:=by
    rw [pN] at hs
    split at hs
    · rename_i h1; cases hs; simp at h1 ⊢; omega
    · cases hs
  rcases ha with ⟨rfl,rfl,rfl⟩ | ⟨b,rfl,ow,hl,hL⟩
  · refine ⟨(.slice h.nx 0 n 0 true,h.add (.cells new true sz)),⟨.inr ⟨h.nx,by simp,⟨by simp,by simpa using hro,by rw [Heap.fQ,if_pos rfl]; simp⟩,by simpa using hnew,by omega⟩,rfl,(bo.add).chg _⟩,fun k=>?_⟩
    unfold px
    have:tq h sz .nilslice (.slice bx off n ext o)=some (.slice h.nx 0 n 0 true,h.add (.cells new true sz)):=by
      simp only [tq,lenF]
      rw [if_neg (by omega),if_neg (by unfold I8; omega),hsh]
      dsimp only
      rw [Heap.fP]
    rw [this,Cy,tf,xK]; rfl
  · have hsub:sub l 0 (L*sz)=some l:=by rw [pN,List.drop_zero,if_pos (by omega), ← hl,List.take_length]
    refine ⟨(.slice h.nx 0 (L+n) 0 true,(h.set b .dead).add (.cells (l++new) true sz)),⟨.inr ⟨h.nx,rfl,⟨by simp,by simpa using hro,?_⟩,?_,by omega⟩,rfl,⟨by simp,by simp,fun c hc' hf=>?_⟩⟩,fun k=>?_⟩
    · show ((h.set b .dead).add _).get h.nx=_
      rw [Heap.fQ,if_pos (by simp)]
    · simp [hl,hnew,Nat.add_mul]
    · have hf':b≠c:=fun e=>hf (by rw [e]; rfl)
      show ((h.set b .dead).add _).get c=_
      rw [Heap.fQ,if_neg (by simp; omega),Heap.fM _ hf']
    · unfold px
      have:tq h sz (.slice b 0 L 0 true) (.slice bx off n ext o)=some (.slice h.nx 0 (L+n) 0 true,(h.set b .dead).add (.cells (l++new) true sz)):=by
        simp only [tq,lenF]
        rw [if_neg (by omega),if_neg (by omega),if_neg (by unfold I8; omega),Lf ow]
        dsimp only
        rw [hsub]
        dsimp only
        rw [hsh]
        dsimp only
        rw [if_pos trivial,XZ ow]
        have h3:(Nat.beq sz sz&&Nat.ble (0+(L+0)*sz) (qh l))=true:=by rw [mU,hl]; simp
        rw [h3]
        dsimp only
        rw [Heap.fO,ou,Heap.fP]
        simp
      rw [this,Cy,tf,xK]; rfl
end Go.Ai
/- What may be, by the code. -/
namespace Go.Proofs.YtlgbmkemfinogaaGreat.Sh
open Go.Ai
def Faults (h0 h:Heap) (x L:Nat):Prop:=∃ v l,Own h x [v] 0∧App h v 2 L l∧h0.nx≤x∧∀ b,v.blk=some b→b≠x∧h0.nx≤b
theorem Faults.grow {h0 h h':Heap} {x L:Nat} (f:Faults h0 h x L) (g:bo h h'):Faults h0 h' x L:=by
  obtain ⟨v,l,h1,h2,h3,h4⟩:=f
  exact ⟨v,l,h1.grow g,h2.grow g,h3,h4⟩
theorem any_0 {v:AV}:([v]:List AV)[0]?=some v:=rfl
theorem build2 (q:IntKind) (a b:Int) (k:AV→ab):tw [.int q 0,.int q 0] [(0,1,.int q a),(1,1,.int q b)] k=k (.agg [.int q a,.int q b]):=rfl
theorem O7 {n:Nat} {h0 h:Heap} {x L:Nat} (hro:h.ro≤h.nx) (g:bo h0 h) (f:Faults h0 h x L) (hL:L<1000) (may:Bool) (e at_:Int) :
    dz (dg n may e at_ (.ptr x 0) h) fun h'=>Faults h0 h' x (if may then L else L+1)∧bo h0 h':=by
  unfold dg LU Fk
  refine aR.ifB (fun e1=>?_) fun e1=>?_
  · simp at e1
    subst e1
    obtain ⟨v,l,ho,ha,hx,hb⟩:=f
    simp only [au,iR ho.cl,any_0,build2]
    refine aJ.bind (Co (fun k=>by rfl)) ?_
    rintro _ h1 ⟨rfl,hc,g1⟩
    refine aJ.bind (SU (g1.le hro) (ha.grow g1) (by omega) hc (by rw [pN]; rfl) (by omega)) ?_
    rintro v' h2 ⟨a2,b2,c2⟩
    have ho1:=ho.grow g1
    have ho2:=c2.own ho1 fun e=>(hb x e).1 rfl
    refine dz.bind (wd ho2 (by simp) (by rcases a2 with ⟨rfl,h3,_⟩ | ⟨b,rfl,_⟩<;>rfl)) ?_
    intro h3 p3
    have n1:=ho.lt
    have n2:=g1.nx
    refine ret0 ⟨⟨v',_,p3.own,a2.chg p3.chg fun b hb'=>by rw [b2] at hb'; cases hb'; omega,hx,fun b hb'=>?_⟩,?_⟩
    · rw [b2] at hb'
      cases hb'
      have:=g.nx
      exact ⟨by omega,by omega⟩
    · exact p3.grow (c2.grow (g.trans g1) fun b hb'=>(hb b hb').2) hx
  · simp at e1
    subst e1
    exact ret0 ⟨f,g⟩
theorem apm {n:Nat} {z:br} (hn:Fits n z) {h0:Heap} {t pp:AV} {x y N:Nat} (hN:N≤z.parts.length) (hN8:N≤8) (hro0:h0.ro≤h0.nx) (hb0:h0.cl x (Bt z t pp)) (ht0:dh h0 .i64 t z.fH) (hp0:Parts h0 pp z.parts) :
    ∀ (m i L:Nat) (h:Heap),bo h0 h→Faults h0 h y L→L<500+i→i≤N→N-i<m→
    aJ (fun k=>BP n (dg n) (ce n) (cp n) (dL n) (dK n) (dp n) k m (.ptr x 0) (.ptr y 0) (.func E4 [] [.ptr y 0]) N i h)
      fun r h'=>(∃ L':Nat,(∀ k,lz r k=k L')∧(L'=0↔L=0∧(List.range' i (N-i)).all (fun p=>decide (WT z p=0))=true))∧bo h0 h':=by
  intro m
  induction m with
  | zero=>omega
  | succ m ih=>
    intro i L h g f hL hi hm
    have hro:=g.le hro0
    simp only [aip]
    unfold BV F6
    refine aR.ifB (fun e=>?_) fun e=>?_
    · simp at e
      have hr:List.range' i (N-i)=i::List.range' (i+1) (N-(i+1)):=by
        rw [show N-i=(N-(i+1))+1 by omega,List.range'_succ]
      rw [hr,List.all_cons]
      simp only [au,iR (g.cl hb0),ck,kP (show i≤9223372036854775806 by omega)]
      refine aJ.bind (v_part hn hro (Cfg.mk' (ht0.grow g) (hp0.grow g)) (by omega)) ?_
      rintro _ h1 ⟨rfl,g1⟩
      have c1:∀ b e a h k,rX (dg n) (ce n) (cp n) (dL n) (dK n) (dp n) (.func E4 [] [.ptr y 0]) [.bool b,.int .i64 e,.int .i64 a] h k =
        dg n b e a (.ptr y 0) h fun h=>k (.tuple []) h:=fun _ _ _ _ _=>rfl
      simp only [au,c1]
      refine dz.bind (O7 (g1.le hro) (g.trans g1) (f.grow g1) (by omega) _ _ _) ?_
      rintro h2 ⟨f2,g2⟩
      refine aR.mono (ih (i+1) _ h2 g2 f2 (by split<;>omega) (by omega) (by omega)) ?_
      · rintro ⟨r,h'⟩ ⟨⟨L',q1,q2⟩,q3⟩
        refine ⟨⟨L',q1,q2.trans ?_⟩,q3⟩
        by_cases hpe:WT z i=0<;>simp [hpe]
    · simp at e
      have:i=N:=by omega
      subst this
      obtain ⟨v,l,ho,ha,hx,hb⟩:=f
      simp only [au,iR ho.cl,any_0]
      exact mQ ⟨⟨L,ha.len,by simp⟩,g⟩
theorem v_Check {n:Nat} {z:br} (hn:Fits n z) {h:Heap} (hro:h.ro≤h.nx) {c:List AV} (hc:Cfg h z c):aJ (eI n (.agg c) h) fun r h'=>(∃ L:Nat,(∀ k,lz r k=k L)∧(L=0↔NX z=true))∧bo h h':=by
  unfold eI TF N5
  obtain ⟨t,pp,rfl,ht,hp⟩:=hc
  refine aJ.bind (AO ..) ?_
  rintro x h0 ⟨hb,g⟩
  have hro0:=g.le hro
  have ht0:=ht.grow g
  have hp0:=hp.grow g
  refine aJ.bind (aeY hro0 [.nilslice] 0) ?_
  rintro y h3 ⟨hy,oy,g3⟩
  have f3:Faults h0 h3 y 0:=⟨.nilslice,[],oy,.nil,hy,fun b hb=>by cases hb⟩
  simp only [au,iR (g3.cl hb),ck]
  refine aJ.bind (OC n (Cfg.mk' (ht0.grow g3) (hp0.grow g3))) ?_
  rintro _ h4 ⟨rfl,g4⟩
  refine dz.bind (O7 ((g3.trans g4).le hro0) (g3.trans g4) (f3.grow g4) (by omega) _ _ _) ?_
  rintro h5 ⟨f5,g5⟩
  simp only [au,iR (g5.cl hb),ck]
  refine aJ.bind (N4 (by have:=hn.small; omega) h5 z) ?_
  rintro _ h6 ⟨rfl,g6⟩
  refine dz.bind (O7 ((g5.trans g6).le hro0) (g5.trans g6) (f5.grow g6) (by split<;>omega) _ _ _) ?_
  rintro h7 ⟨f7,g7⟩
  simp only [au,iR (g7.cl hb),ck]
  refine aJ.bind (v_sliced hn (g7.le hro0) (Cfg.mk' (ht0.grow g7) (hp0.grow g7))) ?_
  rintro _ h8 ⟨rfl,g8⟩
  refine dz.bind (O7 ((g7.trans g8).le hro0) (g7.trans g8) (f7.grow g8) (by split<;>split<;>omega) _ _ _) ?_
  rintro h9 ⟨f9,g9⟩
  simp only [au,iR (g9.cl hb),ck]
  refine aJ.bind (v_turned hn (Cfg.mk' (ht0.grow g9) (hp0.grow g9))) ?_
  rintro _ h10 ⟨rfl,g10⟩
  refine dz.bind (O7 ((g9.trans g10).le hro0) (g9.trans g10) (f9.grow g10) (by split<;>split<;>split<;>omega) _ _ _) ?_
  rintro h11 ⟨f11,g11⟩
  simp only [au,iR (g11.cl hb),ck,hp0.2.choose_spec.1.len,min2]
  have hmin:minZ (z.parts.length:Int) 8=((min z.parts.length 8:Nat):Int):=by unfold minZ; split<;>omega
  rw [hmin]
  refine aR.mono (apm hn (N:=min z.parts.length 8) (by omega) (by omega) hro0 hb ht0 hp0 n 0 _ h11 g11 f11 (by split<;>split<;>split<;>split<;>omega) (by omega) (by have:=hn.small; omega)) ?_
  rintro ⟨r,h'⟩ ⟨⟨L,q1,q2⟩,q3⟩
  refine ⟨⟨L,q1,q2.trans ?_⟩,g.trans q3⟩
  rw [Nat.sub_zero, ← List.range_eq_range']
  simp only [NX,gl]
  cases sL z<;>by_cases hcz:abw z=0<;>cases Fb z<;>cases ac2 z<;>simp [hcz]
theorem v_May {n:Nat} {z:br} (hn:Fits n z) {h:Heap} (hro:h.ro≤h.nx) {c:List AV} (hc:Cfg h z c):aJ (fg n (.agg c) h) fun r h'=>r=NX z∧bo h h':=by
  unfold fg aaz Uf
  obtain ⟨t,pp,rfl,ht,hp⟩:=hc
  refine aJ.bind (AO ..) ?_
  rintro x h1 ⟨hb,g⟩
  simp only [au,iR hb,ck]
  refine aJ.bind (v_Check hn (g.le hro) (Cfg.mk' (ht.grow g) (hp.grow g))) ?_
  rintro r h2 ⟨⟨L,q1,q2⟩,g2⟩
  simp only [au,q1]
  refine mQ ⟨?_,g.trans g2⟩
  rw [Bool.eq_iff_iff, ← q2]
  simp
def LV (z:br) (p:Int):Int:=if NX z then (if 0≤p∧p<z.parts.length then 0 else 270) else 5
theorem v_there {n:Nat} {z:br} (hn:Fits n z) {h:Heap} (hro:h.ro≤h.nx) {c:List AV} (hc:Cfg h z c) (p:Int):aJ (eK n (.agg c) p h) fun r h'=>r=LV z p∧bo h h':=by
  unfold eK T5 Nt Bh
  obtain ⟨t,pp,rfl,ht,hp⟩:=hc
  refine aJ.bind (AO ..) ?_
  rintro x h1 ⟨hb,g⟩
  simp only [au,iR hb,ck]
  refine aJ.bind (v_May hn (g.le hro) (Cfg.mk' (ht.grow g) (hp.grow g))) ?_
  rintro _ h2 ⟨rfl,g2⟩
  simp only [au,iR (g2.cl hb),ck,hp.2.choose_spec.1.len]
  refine aR.ifB (fun e1=>mQ ⟨by simp at e1; simp [LV,e1],g.trans g2⟩) fun e1=>aR.ifB (fun e2=>mQ ⟨by simp at e1 e2; simp [LV,e1]; omega,g.trans g2⟩) fun e2=>
    aR.ifB (fun e3=>mQ ⟨by simp at e1 e2 e3; simp [LV,e1]; omega,g.trans g2⟩) fun e3=>mQ ⟨by simp at e1 e2 e3; simp [LV,e1]; omega,g.trans g2⟩
theorem alK {z:br} (h:NX z=true):z.fB≠0:=Up (by simp [NX] at h; exact h.1)
theorem v_Total {n:Nat} {z:br} (hn:Fits n z) {h:Heap} (hro:h.ro≤h.nx) {c:List AV} (hc:Cfg h z c) (p:Int):dY (eO n (.agg c) p h) fun v e h'=>e=LV z p∧(e=0→v=BD z p.toNat)∧bo h h':=by
  unfold eO Ua Nw
  obtain ⟨t,pp,rfl,ht,hp⟩:=hc
  refine aJ.bind (AO ..) ?_
  rintro x h1 ⟨hb,g⟩
  simp only [au,iR hb,ck]
  refine aJ.bind (v_there hn (g.le hro) (Cfg.mk' (ht.grow g) (hp.grow g)) p) ?_
  rintro _ h2 ⟨rfl,g2⟩
  have t2:=g.trans g2
  refine aR.ifB (fun e1=>K6 ⟨rfl,fun h0=>?_,t2⟩) fun e1=>?_
  · simp at e1; exact (e1 h0).elim
  simp at e1
  have hm:NX z=true∧0≤p∧p<z.parts.length:=by
    unfold LV at e1
    split at e1
    · rename_i h1
      split at e1
      · rename_i h2; exact ⟨h1,h2⟩
      · cases e1
    · cases e1
  simp only [au,iR (g2.cl hb),ck]
  obtain ⟨q,rfl⟩:=gE hm.2.1
  refine aJ.bind (aoT (alK hm.1) (Cfg.mk' (ht.grow t2) (hp.grow t2)) (by omega)) ?_
  rintro _ h3 ⟨rfl,g3⟩
  exact K6 ⟨e1.symm,fun _=>rfl,t2.trans g3⟩
end Go.Proofs.YtlgbmkemfinogaaGreat.Sh
/- What the functions of 'colour' compute, and those of 'slices'. -/
namespace Go.Proofs.YtlgbmkemfinogaaGreat.Sh
open Go.Ai
@[simp] theorem z8 (n:Nat) (a b c:Int) (h:Heap) (k:Bool→Heap→ab):ca n a b c h k=k (jC a b c) h:=by
  unfold ca LA Fi vQ
  by_cases hc:a<b
  · simp [jC,hc,show ¬ b≤a by omega]
  · simp [jC,hc,show b≤a by omega, ← Int.not_lt]
@[simp] theorem NI (n:Nat) (a:Int) (h:Heap) (k:Bool→Heap→ab):da n a h k=k (jC a 1 16) h:=by
  unfold da TR N0; simp only [au,z8]
theorem u_Count (n:Nat) {fr co c:Int} (h1:jC fr 1 4096=true) (h2:jC co 1 16=true) (h3:0≤c) (h4:c<co) (h:Heap) (k:Int→Int→Heap→ab) :
    dP n fr co c h k=k ((fr-c+co-1)/co) 0 h:=by
  unfold dP Pk HA xO ym
  simp [jC] at h1 h2
  have e1:IntKind.i64.wrap (co-1)=co-1:=mP (by omega) (by omega)
  have e2:jC c 0 (co-1)=true:=by simp [jC]; omega
  have e3:jC fr 1 4096=true:=by simp [jC]; omega
  have e4:jC co 1 16=true:=by simp [jC]; omega
  have e5:IntKind.i64.wrap (fr-c)=fr-c:=mP (by omega) (by omega)
  have e6:IntKind.i64.wrap (fr-c+co)=fr-c+co:=mP (by omega) (by omega)
  have e7:IntKind.i64.wrap (fr-c+co-1)=fr-c+co-1:=mP (by omega) (by omega)
  simp only [au,z8,NI,e1,e2,e3,e4,Bool.not_true,e5,e6,e7,N6 (show co≠0 by omega)]
  by_cases hp:0≤fr-c+co-1
  · rw [Int.tdiv_eq_ediv_of_nonneg hp,mP]
    · have:0≤(fr-c+co-1)/co:=Int.ediv_nonneg hp (by omega)
      omega
    · have:=Int.ediv_le_self (b:=co) hp
      omega
  · omega
theorem u_Frame (n:Nat) {c i co:Int} (h2:jC co 1 16=true) (h3:0≤c) (h4:c<co) (h5:0≤i) (h6:i*co+c≤4095) (h:Heap) (k:Int→Int→Heap→ab) :
    dQ n c i co h k=k (i*co+c) 0 h:=by
  unfold dQ O1 Ge xP xy
  simp [jC] at h2
  have e1:IntKind.i64.wrap (co-1)=co-1:=mP (by omega) (by omega)
  have e2:jC c 0 (co-1)=true:=by simp [jC]; omega
  have e4:jC co 1 16=true:=by simp [jC]; omega
  have e5:IntKind.i64.wrap (4095-c)=4095-c:=mP (by omega) (by omega)
  have hq:i≤(4095-c)/co:=by rw [Int.le_ediv_iff_mul_le (by omega)]; omega
  have hq2:(4095-c)/co≤4095-c:=Int.ediv_le_self _ (by omega)
  have e6:IntKind.i64.wrap ((4095-c).tdiv co)=(4095-c)/co:=by
    rw [Int.tdiv_eq_ediv_of_nonneg (by omega),mP (by omega) (by omega)]
  have e7:jC i 0 ((4095-c)/co)=true:=by simp [jC]; omega
  have hm:0≤i*co:=Int.mul_nonneg h5 (by omega)
  have e8:IntKind.i64.wrap (i*co)=i*co:=mP (by omega) (by omega)
  have e9:IntKind.i64.wrap (i*co+c)=i*co+c:=mP (by omega) (by omega)
  simp only [au,z8,NI,e1,e2,e4,Bool.not_true,e5,e6,e7,e8,e9,N6 (show co≠0 by omega)]
@[simp] theorem anF (n:Nat) (a b:Int) (h:Heap) (k:Bool→Heap→ab):dA n a b h k=k (decide (a<b)) h:=by
  unfold dA LS ER vR vW ed JE Cp
  simp
@[simp] theorem ahI (n:Nat) (a:Int) (h:Heap) (k:Bool→Heap→ab):de n a h k=k false h:=by
  unfold de DE wT
  simp
def aaX (l:List Int) (x:Int) (i:Nat):Prop:=i≤l.length∧(l.Pairwise (· < ·)→(∀ j,j<i→nz l j<x)∧∀ j,i≤j→j<l.length→x≤nz l j)
theorem akN {l:List Int} (hs:l.Pairwise (· < ·)) {i j:Nat} (h:i≤j) (hj:j<l.length):nz l i≤nz l j:=by
  rw [nQ hj,nQ (by omega)]
  by_cases e:i=j
  · subst e; exact gJ _
  · exact Int.le_of_lt (List.pairwise_iff_getElem.1 hs i j (by omega) hj (by omega))
theorem v_BS_2 {n:Nat} {h:Heap} {v:AV} {l:List Int} {x:Int} (hv:dh h .i64 v l) (hs:l.length≤1099511627776):∀ (m lo hi:Nat),lo≤hi→hi≤l.length→hi-lo<m→
    (l.Pairwise (· < ·)→(∀ j,j<lo→nz l j<x)∧∀ j,hi≤j→j<l.length→x≤nz l j)→
    dY (fun k=>mr n (dA n) (de n) k m v x l.length lo hi h) fun r b h'=>h'=h∧∃ i:Nat,r=i∧aaX l x i∧b=decide (i<l.length∧nz l i=x):=by
  intro m
  induction m with
  | zero=>omega
  | succ m ih=>
    intro lo hi h1 h2 h3 hinv
    simp only [Fv]
    unfold mq nP lj
    refine aR.ifB (fun e=>?_) fun e=>?_
    · simp at e
      have e1:IntKind.i64.wrap ((lo:Int)+hi)=((lo+hi:Nat):Int):=by rw [mP (by omega) (by omega)]; omega
      have e2:IntKind.u64.wrap (((lo+hi:Nat):Int))=((lo+hi:Nat):Int):=ag4 (by omega) (by omega)
      have e3:∀ c,shrK .u64 (((lo+hi:Nat):Int)) 1 c=c (((lo+hi)/2:Nat):Int):=by
        intro c
        show afS ((1:Nat):Int) (fun n=>DA (shrF .u64 _ n) c)=_
        rw [NL,qZ]
        rfl
      have e4:IntKind.i64.wrap ((((lo+hi)/2:Nat):Int))=(((lo+hi)/2:Nat):Int):=mP (by omega) (by omega)
      have hm:(lo+hi)/2<l.length:=by omega
      simp only [au,e1,e2,e3,e4,hv.elN hm,anF,kP (show (lo+hi)/2≤9223372036854775806 by omega)]
      refine aR.ifB (fun e5=>?_) fun e5=>?_
      · simp at e5
        refine ih _ _ (by omega) h2 (by omega) fun hp=>⟨fun j hj=>?_,(hinv hp).2⟩
        exact Int.lt_of_le_of_lt (akN hp (show j≤(lo+hi)/2 by omega) hm) e5
      · simp at e5
        refine ih _ _ (by omega) (by omega) (by omega) fun hp=>⟨(hinv hp).1,fun j hj hj'=>?_⟩
        exact Int.le_trans e5 (akN hp hj hj')
    · simp at e
      have:lo=hi:=by omega
      subst this
      refine aR.ifB (fun e1=>?_) fun e1=>?_
      · simp at e1
        simp only [au,hv.elN e1,ahI]
        refine aR.ifB (fun e2=>?_) fun e2=>?_
        · simp at e2
          exact K6 ⟨rfl,lo,rfl,⟨h2,hinv⟩,by simp [e1,e2]⟩
        · simp at e2
          exact K6 ⟨rfl,lo,rfl,⟨h2,hinv⟩,by simp [e2]⟩
      · simp at e1
        exact K6 ⟨rfl,lo,rfl,⟨h2,hinv⟩,by simp; omega⟩
theorem v_BS {n:Nat} {h:Heap} {v:AV} {l:List Int} (hv:dh h .i64 v l) (hs:l.length≤1099511627776) (hn:l.length<n) (x:Int):dY (bB n v x h) fun r b h'=>h'=h∧∃ i:Nat,r=i∧aaX l x i∧b=decide (i<l.length∧nz l i=x):=by
  unfold bB qR oe
  simp only [hv.len]
  exact v_BS_2 hv hs n 0 l.length (by omega) (by omega) (by omega) fun hp=>⟨fun j hj=>by omega,fun j hj hj'=>by omega⟩
end Go.Proofs.YtlgbmkemfinogaaGreat.Sh
