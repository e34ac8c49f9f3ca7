/- The slices and the turns, by the code; what may be. -/
import Derived.Test.YtnlbfbiogfilfaaGreatPUPlanPUPlan4
import Derived.Test.YtnlbfbiogfilfaaGreatAiTblKs
set_option linter.all false
namespace Go.Proofs.YtnlbfbiogfilfaaGreat.Sh
open Go.Ai
theorem build4 (q:IntKind) (a b c d:Int) (k:AV→ah):uK [.int q 0,.int q 0,.int q 0,.int q 0] [(0,1,.int q a),(1,1,.int q b),(2,1,.int q c),(3,1,.int q d)] k=k (.agg [.int q a,.int q b,.int q c,.int q d]):=rfl
theorem v_shape {n:Nat} {z:bq} {h:ad} (hro:h.ro≤h.nx) {c:List AV} (hc:Cfg h z c) {p:Nat} (hp:p<z.parts.length) (ho:0≤(lI z p).order):aF (fb n (.agg c) p h) fun r h'=>r = .agg (Fs (Sw z p))∧be h h':=by
  unfold fb amr aeP
  obtain ⟨t,pp,rfl,ht,hps,S,hpt,hS⟩:=hc
  refine aF.bind (wh ..) ?_
  rintro x h1 ⟨hb,g⟩
  refine aF.bind (ahy (g.le hro) _ 0) ?_
  rintro y h2 ⟨hy,oy,g2⟩
  have t2:=g.trans g2
  simp only [au,jC (g2.cl hb),bg,eD.eld (hpt.grow t2) (show (0:Int)≤(p:Int) by omega) (show (p:Int)<_ by omega),iI]
  rw [show z.parts.getD p default=lI z p from rfl] at *
  refine aF.bind (asu (n:=8) (t2.le hro) (by rfl) (by rfl)) ?_
  rintro w h3 ⟨hw,ow,g3⟩
  have t3:=t2.trans g3
  simp only [au,jC ow.cl,bg,IL ho,min2,build4]
  refine ed.bind (Um (cs:=Fs (Sw z p)) (oy.grow g3) rfl (by show 0+4≤4; decide)) ?_
  intro h4 hp4
  rw [Wq _ _ (by rfl)] at hp4
  simp only [au,jC hp4.own.cl,bg]
  exact nT ⟨rfl,hp4.grow t3 (iE g.nx hy)⟩
theorem awj {z:bq} {p:Nat} (h:Yb z p=0):0≤(lI z p).order:=by
  unfold Yb at h
  split at h
  · split at h
    · rename_i hq
      simp [yk,kG] at hq
      omega
    · cases h
  · cases h
theorem aEA {n:Nat} {z:bq} (hn:fT n z) {t pp:AV} {x:Nat}:∀ (m i:Nat) (h:ad),h.ro≤h.nx→h.cl x (Hx z t pp)→dP h .i64 t z.gM→Parts h pp z.parts→i≤z.parts.length→z.parts.length-i<m→z.parts.length≤9223372036854775807→
    aF (fun k=>GI n (cT n) (da n) (ez n) (eS n) (fq n) (fb n) k m (.ptr x 0) z.parts.length i h) fun r h'=>r=(List.range' i (z.parts.length-i)).all (yK z)∧be h h':=by
  intro m
  induction m with
  | zero=>omega
  | succ m ih=>
    intro i h hro hb ht hp hi hm hl
    simp only [axx]
    unfold M8 Ux GB MH GB
    refine aL.ifB (fun e=>?_) fun e=>?_
    · simp at e
      have hr:List.range' i (z.parts.length-i)=i::List.range' (i+1) (z.parts.length-(i+1)):=by
        rw [show z.parts.length-i=(z.parts.length-(i+1))+1 by omega,List.range'_succ]
      rw [hr,List.all_cons]
      simp only [au,jC hb,bg,mt (show i≤9223372036854775806 by omega)]
      refine aF.bind (v_part hn hro (Cfg.mk' ht hp) e) ?_
      rintro _ h1 ⟨rfl,g1⟩
      have hb1:=g1.cl hb
      have go:yK z i=true→∀ h',be h h'→aL ap1 (fun k=>GI n (cT n) (da n) (ez n) (eS n) (fq n) (fb n) k m (.ptr x 0) z.parts.length ((i+1:Nat):Int) h')
          fun r=>r.1=(yK z i&&(List.range' (i+1) (z.parts.length-(i+1))).all (yK z))∧be h r.2:=by
        intro hs h' g'
        refine aL.mono (ih (i+1) h' (g'.le hro) (g'.cl hb) (ht.grow g') (hp.grow g') (by omega) (by omega) hl) ?_
        rintro ⟨r,h''⟩ ⟨q1,q2⟩
        exact ⟨by rw [q1,hs,Bool.true_and],g'.trans q2⟩
      refine aL.ifB (fun e1=>?_) fun e1=>?_
      · simp at e1
        exact go (by simp [yK,e1]) h1 g1
      simp at e1
      simp only [au,jC hb1,bg]
      refine aF.bind (v_shape (n:=n) (h:=h1.shut true) (z:=z) (iA _) (Cfg.shut (Cfg.mk' (ht.grow g1) (hp.grow g1))) e (awj e1)) ?_
      rintro _ h2 ⟨rfl,g2⟩
      have t2:=g1.trans g2.shut
      refine dM.bind (v_Most hn.small (t2.le hro) z (Sw z i)) ?_
      rintro v er h3 ⟨rfl,hv,g3⟩
      have t3:=t2.trans g3
      have hb3:=t3.cl hb
      simp only [au,jC hb3,bg]
      refine aL.ifB (fun e2=>nT ⟨?_,t3⟩) fun e2=>?_
      · simp at e2; simp [yK,e1,e2]
      simp at e2
      rw [hv e2]
      refine aL.ifB (fun e3=>nT ⟨?_,t3⟩) fun e3=>?_
      · simp at e3; simp [yK,e1,e2,Int.not_le.2 e3]
      · simp at e3
        exact go (by simp [yK,e1,e2,e3]) h3 t3
    · simp at e
      have:i=z.parts.length:=by omega
      subst this
      exact nT ⟨by simp,.refl⟩
theorem v_sliced {n:Nat} {z:bq} (hn:fT n z) {h:ad} (hro:h.ro≤h.nx) {c:List AV} (hc:Cfg h z c):aF (eQ n (.agg c) h) fun r h'=>r=Cx z∧be h h':=by
  unfold eQ aiR aaN M1 MN MO
  obtain ⟨t,pp,rfl,ht,hp⟩:=hc
  refine aF.bind (wh ..) ?_
  rintro x h1 ⟨hb,g⟩
  simp only [au,jC hb,bg]
  refine aL.ifB (fun e1=>nT ⟨by simp at e1; simp [Cx,Int.not_le.2 e1],g⟩) fun e1=>aL.ifB (fun e2=>nT ⟨by simp at e2; simp [Cx,Int.not_le.2 e2],g⟩) fun e2=>
    aL.ifB (fun e3=>nT ⟨by simp at e3; simp [Cx,Int.not_le.2 e3],g⟩) fun e3=>aL.ifB (fun e4=>nT ⟨by simp at e4; simp [Cx,Int.not_lt.2 e4],g⟩) fun e4=>?_
  simp at e1 e2 e3 e4
  refine aF.bind (afG n (Cfg.mk' (ht.grow g) (hp.grow g))) ?_
  rintro _ h2 ⟨rfl,g2⟩
  have t2:=g.trans g2
  have hb2:=g2.cl hb
  unfold MR
  simp only [au,jC hb2,bg]
  refine aL.ifB (fun e5=>nT ⟨by simp at e5; simp [Cx,e1,e2,e3,e4,e5],t2⟩) fun e5=>?_
  simp at e5
  refine aF.bind (aeY (by have:=hn.small; omega) h2 z) ?_
  rintro _ h3 ⟨rfl,g3⟩
  have t3:=t2.trans g3
  have hb3:=g3.cl hb2
  refine aL.ifB (fun e6=>nT ⟨by simp at e6; simp [Cx,e1,e2,e3,e4,e5,e6],t3⟩) fun e6=>?_
  simp at e6
  simp only [au,jC hb3,bg]
  refine dM.bind (v_Switch (by have:=hn.small; omega) h3 z _ _) ?_
  rintro v _ h4 ⟨rfl,hv,g4⟩
  have t4:=t3.trans g4
  have hb4:=g4.cl hb3
  unfold MJ
  simp only [au,jC hb4,bg]
  refine aL.ifB (fun e7=>nT ⟨by simp at e7; simp [Cx,e1,e2,e3,e4,e5,e6,e7],t4⟩) fun e7=>?_
  simp at e7
  rw [hv e7]
  refine aL.ifB (fun e8=>nT ⟨by simp at e8; simp [Cx,e1,e2,e3,e4,e5,e6,e7,Int.not_le.2 e8],t4⟩) fun e8=>?_
  simp at e8
  have hl:=hp.2.choose_spec.1
  simp only [hl.len]
  refine aL.mono (aEA hn n 0 h4 (t4.le hro) hb4 (ht.grow t4) (hp.grow t4) (by omega) (by have:=hn.parts; omega) hl.1) ?_
  rintro ⟨r,h'⟩ ⟨q1,q2⟩
  refine ⟨?_,t4.trans q2⟩
  rw [q1,Nat.sub_zero, ← List.range_eq_range']
  simp [Cx,e1,e2,e3,e4,e5,e6,e7,e8]
theorem aCZ {n:Nat} {z:bq} {h:ad} {t pp:AV} {x:Nat} (hb:h.cl x (Hx z t pp)) (hp:Parts h pp z.parts) (i:Int) (k:Bool→ad→ah) :
    dJ n i (.ptr x 0) h k=k (!kG i 0 (IntKind.i64.wrap (z.parts.length-1))) h:=by
  unfold dJ aai Ro
  simp only [au,jC hb,bg,hp.2.choose_spec.1.len,NZ]
theorem aAc {n:Nat} {z:bq} {h:ad} {t pp v:AV} {x:Nat} (hb:h.cl x (Hx z t pp)) (hp:Parts h pp z.parts) {l:List Int} (hv:dP h .i64 v l):∀ (m i:Nat),i≤l.length→l.length-i<m→
    aF (fun k=>sQ n (dJ n) k m v (.func Q2 [] [.ptr x 0]) l.length i h) fun r h'=>h'=h∧(r<0↔(l.drop i).all (fun p=>kG p 0 (IntKind.i64.wrap (z.parts.length-1)))=true):=by
  intro m
  induction m with
  | zero=>omega
  | succ m ih=>
    intro i hi hm
    simp only [Yp]
    unfold sK vK
    have c1:∀ y h k,oe (dJ n) (.func Q2 [] [.ptr x 0]) [.int .i64 y] h k=dJ n y (.ptr x 0) h fun u h=>k (.bool u) h:=fun _ _ _=>rfl
    refine aL.ifB (fun e=>?_) fun e=>?_
    · simp at e
      have hs:=hv.small
      rw [iH e,List.all_cons]
      simp only [au,hv.elN e,un e,c1,aCZ hb hp,mt (show i≤9223372036854775806 by omega)]
      refine aL.ifB (fun e1=>?_) fun e1=>?_
      · simp at e1
        exact nT ⟨rfl,by simp [e1]⟩
      · simp at e1
        refine aL.mono (ih (i+1) (by omega) (by omega)) ?_
        rintro ⟨r,h'⟩ ⟨q1,q2⟩
        exact ⟨q1,by rw [e1,Bool.true_and]; exact q2⟩
    · simp at e
      have:i=l.length:=by omega
      subst this
      exact nT ⟨rfl,by simp⟩
theorem v_turned {n:Nat} {z:bq} (hn:fT n z) {h:ad} {c:List AV} (hc:Cfg h z c):aF (eT n (.agg c) h) fun r h'=>r=Mx z∧be h h':=by
  unfold eT aiC aa1 ND
  obtain ⟨t,pp,rfl,ht,hp⟩:=hc
  refine aF.bind (wh ..) ?_
  rintro x h1 ⟨hb,g⟩
  simp only [au,jC hb,bg,(ht.grow g).len,NZ]
  refine aL.ifB (fun e1=>?_) fun e1=>nT ⟨by simp [Mx,e1],g⟩
  unfold dq zL vt dB CO xn
  simp only [au,(ht.grow g).len]
  refine aF.bind (aAc (n:=n) hb (hp.grow g) (ht.grow g) n 0 (by omega) (by have:=hn.gM; omega)) ?_
  rintro r _ ⟨rfl,hr⟩
  refine nT ⟨?_,g⟩
  rw [List.drop_zero] at hr
  rw [Mx,e1,Bool.true_and,Bool.eq_iff_iff, ← hr]
  simp
end Go.Proofs.YtnlbfbiogfilfaaGreat.Sh
/- Slices that grow by 'append', and what they change. -/
namespace Go.Ai
structure Chg (F:Nat→Prop) (h h':ad):Prop where
  nx:h.nx≤h'.nx
  ro:h'.ro=h.ro
  old:∀ b,b<h.nx→¬ F b→h'.get b=h.get b
theorem be.chg {h h':ad} (g:be h h') (F:Nat→Prop):Chg F h h':=⟨g.nx,g.ro,fun b hb _=>g.old b hb⟩
theorem Chg.trans {F:Nat→Prop} {h h' h'':ad} (a:Chg F h h') (b:Chg F h' h''):Chg F h h'':=⟨iE a.nx b.nx,b.ro.trans a.ro,fun c hc hf=>(b.old c (iy hc a.nx) hf).trans (a.old c hc hf)⟩
theorem Chg.mono {F G:Nat→Prop} {h h':ad} (a:Chg F h h') (hf:∀ b,b<h.nx→F b→G b):Chg G h h':=⟨a.nx,a.ro,fun c hc hg=>a.old c hc fun h=>hg (hf c hc h)⟩
theorem Chg.cl {F:Nat→Prop} {h h':ad} (a:Chg F h h') {b:Nat} {l:List AV} (hb:h.cl b l) (hf:¬ F b):h'.cl b l:=by
  obtain ⟨h1,rw_,q,h2⟩:=hb
  exact ⟨iy h1 a.nx,rw_,q,(a.old b h1 hf).trans h2⟩
theorem Chg.own {F:Nat→Prop} {h h':ad} (a:Chg F h h') {b:Nat} {l:List AV} {q:Nat} (o:Own h b l q) (hf:¬ F b):Own h' b l q:=
  ⟨iy o.lt a.nx,by rw [a.ro]; exact o.ro,(a.old b o.lt hf).trans o.get⟩
theorem Chg.le {F:Nat→Prop} {h h':ad} (g:Chg F h h') (hro:h.ro≤h.nx):h'.ro≤h'.nx:=by rw [g.ro]; exact iE hro g.nx
theorem Chg.grow {F:Nat→Prop} {h₀ h h':ad} (c:Chg F h h') (g:be h₀ h) (hf:∀ b,F b→h₀.nx≤b):be h₀ h':=
  ⟨iE g.nx c.nx,c.ro.trans g.ro,fun b hb=>(c.old b (iy hb g.nx) fun h=>by have:=hf b h; omega).trans (g.old b hb)⟩
theorem Put.chg {h h':ad} {b:Nat} {l:List AV} {q:Nat} (p:Put h b l q h'):Chg (· = b) h h':=⟨by rw [p.nx]; exact iA _,p.ro,fun c _ hc=>p.other c hc⟩
def AV.blk:AV→Option Nat
  | .slice b _ _ _ _=>some b
  | _=>none
def App (h:ad) (v:AV) (sz L:Nat) (l:List AV):Prop:=(v = .nilslice∧L=0∧l = [])∨∃ b,v = .slice b 0 L 0 true∧Own h b l sz∧l.length=L*sz∧0<L
theorem App.nil {h:ad} {sz:Nat}:App h .nilslice sz 0 []:=.inl ⟨rfl,rfl,rfl⟩
theorem App.len {h:ad} {v:AV} {sz L:Nat} {l:List AV} (a:App h v sz L l) (k:Int→ah):mX v k=k L:=by
  rcases a with ⟨rfl,rfl,_⟩ | ⟨b,rfl,_⟩<;>rfl
theorem App.chg {F:Nat→Prop} {h h':ad} {v:AV} {sz L:Nat} {l:List AV} (a:App h v sz L l) (c:Chg F h h') (hf:∀ b,v.blk=some b→¬ F b):App h' v sz L l:=by
  rcases a with a | ⟨b,rfl,o,h1,h2⟩
  · exact .inl a
  · exact .inr ⟨b,rfl,c.own o (hf b rfl),h1,h2⟩
theorem App.grow {h h':ad} {v:AV} {sz L:Nat} {l:List AV} (a:App h v sz L l) (g:be h h'):App h' v sz L l:=a.chg (g.chg fun _=>False) fun _ _ h=>h
theorem App.lt {h:ad} {v:AV} {sz L:Nat} {l:List AV} (a:App h v sz L l) {b:Nat} (hb:v.blk=some b):b<h.nx:=by
  rcases a with ⟨rfl,_,_⟩ | ⟨c,rfl,o,_,_⟩
  · cases hb
  · cases hb; exact o.lt
theorem Vv (v:AV) (h:ad) (c:AV→ad→ah):outK (some (v,h)) c=c v h:=rfl
theorem ahz {h:ad} {b:Nat} {l:List AV} {q:Nat} (o:Own h b l q):yV h b=some l:=by unfold yV; rw [o.get]
theorem age {h:ad} {b:Nat} {l:List AV} (o:h.cl b l):yV h b=some l:=by obtain ⟨_,_,_,e⟩:=o; unfold yV; rw [e]
theorem apv {β:Type} {h:ad} {b:Nat} {l:List AV} {q:Nat} (o:Own h b l q) (e:β) (k:List AV→Nat→β):avP h b e k=k l q:=by
  unfold avP
  have:Nat.blt b h.ro=false:=by rw [blt_eq]; simp; exact o.ro
  rw [this,o.get]
theorem afw {h:ad} {v:AV} {sz L n bx off ext:Nat} {o:Bool} {l lx new:List AV} (hro:h.ro≤h.nx) (ha:App h v sz L l) (hn:0<n) (hc:h.cl bx lx) (hs:sub lx off (n*sz)=some new) (hm:L+n≤1048576) :
    aF (sI h sz v (.slice bx off n ext o)) fun v' h'=>App h' v' sz (L+n) (l++new)∧v'.blk=some h.nx∧Chg (fun c=>v.blk=some c) h h':=by
  have hsh:acX h sz n (.slice bx off n ext o)=some new:=by
    show (Option.casesOn (yV h bx) none fun l=>sub l off (n*sz):Option (List AV))=_
    rw [age hc]; exact hs
  have hnew:new.length=n*sz:=by
    rw [zj] at hs
    split at hs
    · rename_i h1; cases hs; simp at h1 ⊢; omega
    · cases hs
  rcases ha with ⟨rfl,rfl,rfl⟩ | ⟨b,rfl,ow,hl,hL⟩
  · refine ⟨(.slice h.nx 0 n 0 true,h.add (.cells new true sz)),⟨.inr ⟨h.nx,by simp,⟨by simp,by simpa using hro,by rw [ad.gV,if_pos rfl]; simp⟩,by simpa using hnew,by omega⟩,rfl,(be.add).chg _⟩,fun k=>?_⟩
    unfold sI
    have:FY h sz .nilslice (.slice bx off n ext o)=some (.slice h.nx 0 n 0 true,h.add (.cells new true sz)):=by
      simp only [FY,aq6]
      rw [if_neg (by omega),if_neg (by unfold UH; omega),hsh]
      dsimp only
      rw [ad.gU]
    rw [this,Vv,EW,N6]; rfl
  · have hsub:sub l 0 (L*sz)=some l:=by rw [zj,List.drop_zero,if_pos (by omega), ← hl,List.take_length]
    refine ⟨(.slice h.nx 0 (L+n) 0 true,(h.set b .dead).add (.cells (l++new) true sz)),⟨.inr ⟨h.nx,rfl,⟨by simp,by simpa using hro,?_⟩,?_,by omega⟩,rfl,⟨by simp,by simp,fun c hc' hf=>?_⟩⟩,fun k=>?_⟩
    · show ((h.set b .dead).add _).get h.nx=_
      rw [ad.gV,if_pos (by simp)]
    · simp [hl,hnew,Nat.add_mul]
    · have hf':b≠c:=fun e=>hf (by rw [e]; rfl)
      show ((h.set b .dead).add _).get c=_
      rw [ad.gV,if_neg (by simp; omega),ad.gR _ hf']
    · unfold sI
      have:FY h sz (.slice b 0 L 0 true) (.slice bx off n ext o)=some (.slice h.nx 0 (L+n) 0 true,(h.set b .dead).add (.cells (l++new) true sz)):=by
        simp only [FY,aq6]
        rw [if_neg (by omega),if_neg (by omega),if_neg (by unfold UH; omega),ahz ow]
        dsimp only
        rw [hsub]
        dsimp only
        rw [hsh]
        dsimp only
        rw [if_pos trivial,apv ow]
        have h3:(Nat.beq sz sz&&Nat.ble (0+(L+0)*sz) (Ao l))=true:=by rw [uP,hl]; simp
        rw [h3]
        dsimp only
        rw [ad.gT,vJ,ad.gU]
        simp
      rw [this,Vv,EW,N6]; rfl
end Go.Ai
/- What may be, by the code. -/
namespace Go.Proofs.YtnlbfbiogfilfaaGreat.Sh
open Go.Ai
def Faults (h0 h:ad) (x L:Nat):Prop:=∃ v l,Own h x [v] 0∧App h v 2 L l∧h0.nx≤x∧∀ b,v.blk=some b→b≠x∧h0.nx≤b
theorem Faults.grow {h0 h h':ad} {x L:Nat} (f:Faults h0 h x L) (g:be h h'):Faults h0 h' x L:=by
  obtain ⟨v,l,h1,h2,h3,h4⟩:=f
  exact ⟨v,l,h1.grow g,h2.grow g,h3,h4⟩
theorem any_0 {v:AV}:([v]:List AV)[0]?=some v:=rfl
theorem build2 (q:IntKind) (a b:Int) (k:AV→ah):uK [.int q 0,.int q 0] [(0,1,.int q a),(1,1,.int q b)] k=k (.agg [.int q a,.int q b]):=rfl
theorem agd {n:Nat} {h0 h:ad} {x L:Nat} (hro:h.ro≤h.nx) (g:be h0 h) (f:Faults h0 h x L) (hL:L<1000) (may:Bool) (e at_:Int) :
    ed (dX n may e at_ (.ptr x 0) h) fun h'=>Faults h0 h' x (if may then L else L+1)∧be h0 h':=by
  unfold dX adj Uc
  refine aL.ifB (fun e1=>?_) fun e1=>?_
  · simp at e1
    subst e1
    obtain ⟨v,l,ho,ha,hx,hb⟩:=f
    simp only [au,jC ho.cl,any_0,build2]
    refine aF.bind (Dv (fun k=>by rfl)) ?_
    rintro _ h1 ⟨rfl,hc,g1⟩
    refine aF.bind (afw (g1.le hro) (ha.grow g1) (by omega) hc (by rw [zj]; rfl) (by omega)) ?_
    rintro v' h2 ⟨a2,b2,c2⟩
    have ho1:=ho.grow g1
    have ho2:=c2.own ho1 fun e=>(hb x e).1 rfl
    refine ed.bind (uI ho2 (by simp) (by rcases a2 with ⟨rfl,h3,_⟩ | ⟨b,rfl,_⟩<;>rfl)) ?_
    intro h3 p3
    have n1:=ho.lt
    have n2:=g1.nx
    refine ret0 ⟨⟨v',_,p3.own,a2.chg p3.chg fun b hb'=>by rw [b2] at hb'; cases hb'; omega,hx,fun b hb'=>?_⟩,?_⟩
    · rw [b2] at hb'
      cases hb'
      have:=g.nx
      exact ⟨by omega,by omega⟩
    · exact p3.grow (c2.grow (g.trans g1) fun b hb'=>(hb b hb').2) hx
  · simp at e1
    subst e1
    exact ret0 ⟨f,g⟩
theorem aGt {n:Nat} {z:bq} (hn:fT n z) {h0:ad} {t pp:AV} {x y N:Nat} (hN:N≤z.parts.length) (hN8:N≤8) (hro0:h0.ro≤h0.nx) (hb0:h0.cl x (Hx z t pp)) (ht0:dP h0 .i64 t z.gM) (hp0:Parts h0 pp z.parts) :
    ∀ (m i L:Nat) (h:ad),be h0 h→Faults h0 h y L→L<500+i→i≤N→N-i<m→
    aF (fun k=>QB n (dX n) (cT n) (da n) (eQ n) (eT n) (ez n) k m (.ptr x 0) (.ptr y 0) (.func Ut [] [.ptr y 0]) N i h)
      fun r h'=>(∃ L':Nat,(∀ k,mX r k=k L')∧(L'=0↔L=0∧(List.range' i (N-i)).all (fun p=>decide (Yb z p=0))=true))∧be h0 h':=by
  intro m
  induction m with
  | zero=>omega
  | succ m ih=>
    intro i L h g f hL hi hm
    have hro:=g.le hro0
    simp only [ay6]
    unfold Qi Ye
    refine aL.ifB (fun e=>?_) fun e=>?_
    · simp at e
      have hr:List.range' i (N-i)=i::List.range' (i+1) (N-(i+1)):=by
        rw [show N-i=(N-(i+1))+1 by omega,List.range'_succ]
      rw [hr,List.all_cons]
      simp only [au,jC (g.cl hb0),bg,mt (show i≤9223372036854775806 by omega)]
      refine aF.bind (v_part hn hro (Cfg.mk' (ht0.grow g) (hp0.grow g)) (by omega)) ?_
      rintro _ h1 ⟨rfl,g1⟩
      have c1:∀ b e a h k,Ca (dX n) (cT n) (da n) (eQ n) (eT n) (ez n) (.func Ut [] [.ptr y 0]) [.bool b,.int .i64 e,.int .i64 a] h k =
        dX n b e a (.ptr y 0) h fun h=>k (.tuple []) h:=fun _ _ _ _ _=>rfl
      simp only [au,c1]
      refine ed.bind (agd (g1.le hro) (g.trans g1) (f.grow g1) (by omega) _ _ _) ?_
      rintro h2 ⟨f2,g2⟩
      refine aL.mono (ih (i+1) _ h2 g2 f2 (by split<;>omega) (by omega) (by omega)) ?_
      · rintro ⟨r,h'⟩ ⟨⟨L',q1,q2⟩,q3⟩
        refine ⟨⟨L',q1,q2.trans ?_⟩,q3⟩
        by_cases hpe:Yb z i=0<;>simp [hpe]
    · simp at e
      have:i=N:=by omega
      subst this
      obtain ⟨v,l,ho,ha,hx,hb⟩:=f
      simp only [au,jC ho.cl,any_0]
      exact nT ⟨⟨L,ha.len,by simp⟩,g⟩
theorem v_Check {n:Nat} {z:bq} (hn:fT n z) {h:ad} (hro:h.ro≤h.nx) {c:List AV} (hc:Cfg h z c):aF (fQ n (.agg c) h) fun r h'=>(∃ L:Nat,(∀ k,mX r k=k L)∧(L=0↔PO z=true))∧be h h':=by
  unfold fQ al8 aeu
  obtain ⟨t,pp,rfl,ht,hp⟩:=hc
  refine aF.bind (wh ..) ?_
  rintro x h0 ⟨hb,g⟩
  have hro0:=g.le hro
  have ht0:=ht.grow g
  have hp0:=hp.grow g
  refine aF.bind (ahy hro0 [.nilslice] 0) ?_
  rintro y h3 ⟨hy,oy,g3⟩
  have f3:Faults h0 h3 y 0:=⟨.nilslice,[],oy,.nil,hy,fun b hb=>by cases hb⟩
  simp only [au,jC (g3.cl hb),bg]
  refine aF.bind (afG n (Cfg.mk' (ht0.grow g3) (hp0.grow g3))) ?_
  rintro _ h4 ⟨rfl,g4⟩
  refine ed.bind (agd ((g3.trans g4).le hro0) (g3.trans g4) (f3.grow g4) (by omega) _ _ _) ?_
  rintro h5 ⟨f5,g5⟩
  simp only [au,jC (g5.cl hb),bg]
  refine aF.bind (aeY (by have:=hn.small; omega) h5 z) ?_
  rintro _ h6 ⟨rfl,g6⟩
  refine ed.bind (agd ((g5.trans g6).le hro0) (g5.trans g6) (f5.grow g6) (by split<;>omega) _ _ _) ?_
  rintro h7 ⟨f7,g7⟩
  simp only [au,jC (g7.cl hb),bg]
  refine aF.bind (v_sliced hn (g7.le hro0) (Cfg.mk' (ht0.grow g7) (hp0.grow g7))) ?_
  rintro _ h8 ⟨rfl,g8⟩
  refine ed.bind (agd ((g7.trans g8).le hro0) (g7.trans g8) (f7.grow g8) (by split<;>split<;>omega) _ _ _) ?_
  rintro h9 ⟨f9,g9⟩
  simp only [au,jC (g9.cl hb),bg]
  refine aF.bind (v_turned hn (Cfg.mk' (ht0.grow g9) (hp0.grow g9))) ?_
  rintro _ h10 ⟨rfl,g10⟩
  refine ed.bind (agd ((g9.trans g10).le hro0) (g9.trans g10) (f9.grow g10) (by split<;>split<;>split<;>omega) _ _ _) ?_
  rintro h11 ⟨f11,g11⟩
  simp only [au,jC (g11.cl hb),bg,hp0.2.choose_spec.1.len,min2]
  have hmin:minZ (z.parts.length:Int) 8=((min z.parts.length 8:Nat):Int):=by unfold minZ; split<;>omega
  rw [hmin]
  refine aL.mono (aGt hn (N:=min z.parts.length 8) (by omega) (by omega) hro0 hb ht0 hp0 n 0 _ h11 g11 f11 (by split<;>split<;>split<;>split<;>omega) (by omega) (by have:=hn.small; omega)) ?_
  rintro ⟨r,h'⟩ ⟨⟨L,q1,q2⟩,q3⟩
  refine ⟨⟨L,q1,q2.trans ?_⟩,g.trans q3⟩
  rw [Nat.sub_zero, ← List.range_eq_range']
  simp only [PO,iw]
  cases sS z<;>by_cases hcz:Lq z=0<;>cases Cx z<;>cases Mx z<;>simp [hcz]
theorem v_May {n:Nat} {z:bq} (hn:fT n z) {h:ad} (hro:h.ro≤h.nx) {c:List AV} (hc:Cfg h z c):aF (gl n (.agg c) h) fun r h'=>r=PO z∧be h h':=by
  unfold gl asR alm
  obtain ⟨t,pp,rfl,ht,hp⟩:=hc
  refine aF.bind (wh ..) ?_
  rintro x h1 ⟨hb,g⟩
  simp only [au,jC hb,bg]
  refine aF.bind (v_Check hn (g.le hro) (Cfg.mk' (ht.grow g) (hp.grow g))) ?_
  rintro r h2 ⟨⟨L,q1,q2⟩,g2⟩
  simp only [au,q1]
  refine nT ⟨?_,g.trans g2⟩
  rw [Bool.eq_iff_iff, ← q2]
  simp
def HS (z:bq) (p:Int):Int:=if PO z then (if 0≤p∧p<z.parts.length then 0 else 270) else 5
theorem v_there {n:Nat} {z:bq} (hn:fT n z) {h:ad} (hro:h.ro≤h.nx) {c:List AV} (hc:Cfg h z c) (p:Int):aF (fR n (.agg c) p h) fun r h'=>r=HS z p∧be h h':=by
  unfold fR alw aev PS
  obtain ⟨t,pp,rfl,ht,hp⟩:=hc
  refine aF.bind (wh ..) ?_
  rintro x h1 ⟨hb,g⟩
  simp only [au,jC hb,bg]
  refine aF.bind (v_May hn (g.le hro) (Cfg.mk' (ht.grow g) (hp.grow g))) ?_
  rintro _ h2 ⟨rfl,g2⟩
  simp only [au,jC (g2.cl hb),bg,hp.2.choose_spec.1.len]
  refine aL.ifB (fun e1=>nT ⟨by simp at e1; simp [HS,e1],g.trans g2⟩) fun e1=>aL.ifB (fun e2=>nT ⟨by simp at e1 e2; simp [HS,e1]; omega,g.trans g2⟩) fun e2=>
    aL.ifB (fun e3=>nT ⟨by simp at e1 e2 e3; simp [HS,e1]; omega,g.trans g2⟩) fun e3=>nT ⟨by simp at e1 e2 e3; simp [HS,e1]; omega,g.trans g2⟩
theorem awq {z:bq} (h:PO z=true):z.gG≠0:=acZ (by simp [PO] at h; exact h.1)
theorem v_Total {n:Nat} {z:bq} (hn:fT n z) {h:ad} (hro:h.ro≤h.nx) {c:List AV} (hc:Cfg h z c) (p:Int):dM (fO n (.agg c) p h) fun v e h'=>e=HS z p∧(e=0→v=UN z p.toNat)∧be h h':=by
  unfold fO alf aew
  obtain ⟨t,pp,rfl,ht,hp⟩:=hc
  refine aF.bind (wh ..) ?_
  rintro x h1 ⟨hb,g⟩
  simp only [au,jC hb,bg]
  refine aF.bind (v_there hn (g.le hro) (Cfg.mk' (ht.grow g) (hp.grow g)) p) ?_
  rintro _ h2 ⟨rfl,g2⟩
  have t2:=g.trans g2
  refine aL.ifB (fun e1=>KS ⟨rfl,fun h0=>?_,t2⟩) fun e1=>?_
  · simp at e1; exact (e1 h0).elim
  simp at e1
  have hm:PO z=true∧0≤p∧p<z.parts.length:=by
    unfold HS at e1
    split at e1
    · rename_i h1
      split at e1
      · rename_i h2; exact ⟨h1,h2⟩
      · cases e1
    · cases e1
  simp only [au,jC (g2.cl hb),bg]
  obtain ⟨q,rfl⟩:=iM hm.2.1
  refine aF.bind (aFp (awq hm.1) (Cfg.mk' (ht.grow t2) (hp.grow t2)) (by omega)) ?_
  rintro _ h3 ⟨rfl,g3⟩
  exact KS ⟨e1.symm,fun _=>rfl,t2.trans g3⟩
end Go.Proofs.YtnlbfbiogfilfaaGreat.Sh
/- What the functions of 'colour' compute, and those of 'slices'. -/
namespace Go.Proofs.YtnlbfbiogfilfaaGreat.Sh
open Go.Ai
@[simp] theorem M0 (n:Nat) (a b c:Int) (h:ad) (k:Bool→ad→ah):cP n a b c h k=k (kG a b c) h:=by
  unfold cP adp T4 Hi
  by_cases hc:a<b
  · simp [kG,hc,show ¬ b≤a by omega]
  · simp [kG,hc,show b≤a by omega, ← Int.not_lt]
@[simp] theorem aeS (n:Nat) (a:Int) (h:ad) (k:Bool→ad→ah):dT n a h k=k (kG a 1 16) h:=by
  unfold dT alI aeM; simp only [au,M0]
theorem u_Count (n:Nat) {fr co c:Int} (h1:kG fr 1 4096=true) (h2:kG co 1 16=true) (h3:0≤c) (h4:c<co) (h:ad) (k:Int→Int→ad→ah) :
    eW n fr co c h k=k ((fr-c+co-1)/co) 0 h:=by
  unfold eW afc Ws Kn KL
  simp [kG] at h1 h2
  have e1:IntKind.i64.wrap (co-1)=co-1:=rK (by omega) (by omega)
  have e2:kG c 0 (co-1)=true:=by simp [kG]; omega
  have e3:kG fr 1 4096=true:=by simp [kG]; omega
  have e4:kG co 1 16=true:=by simp [kG]; omega
  have e5:IntKind.i64.wrap (fr-c)=fr-c:=rK (by omega) (by omega)
  have e6:IntKind.i64.wrap (fr-c+co)=fr-c+co:=rK (by omega) (by omega)
  have e7:IntKind.i64.wrap (fr-c+co-1)=fr-c+co-1:=rK (by omega) (by omega)
  simp only [au,M0,aeS,e1,e2,e3,e4,Bool.not_true,e5,e6,e7,ah7 (show co≠0 by omega)]
  by_cases hp:0≤fr-c+co-1
  · rw [Int.tdiv_eq_ediv_of_nonneg hp,rK]
    · have:0≤(fr-c+co-1)/co:=Int.ediv_nonneg hp (by omega)
      omega
    · have:=Int.ediv_le_self (b:=co) hp
      omega
  · omega
theorem u_Frame (n:Nat) {c i co:Int} (h2:kG co 1 16=true) (h3:0≤c) (h4:c<co) (h5:0≤i) (h6:i*co+c≤4095) (h:ad) (k:Int→Int→ad→ah) :
    eX n c i co h k=k (i*co+c) 0 h:=by
  unfold eX afv XB JY JJ
  simp [kG] at h2
  have e1:IntKind.i64.wrap (co-1)=co-1:=rK (by omega) (by omega)
  have e2:kG c 0 (co-1)=true:=by simp [kG]; omega
  have e4:kG co 1 16=true:=by simp [kG]; omega
  have e5:IntKind.i64.wrap (4095-c)=4095-c:=rK (by omega) (by omega)
  have hq:i≤(4095-c)/co:=by rw [Int.le_ediv_iff_mul_le (by omega)]; omega
  have hq2:(4095-c)/co≤4095-c:=Int.ediv_le_self _ (by omega)
  have e6:IntKind.i64.wrap ((4095-c).tdiv co)=(4095-c)/co:=by
    rw [Int.tdiv_eq_ediv_of_nonneg (by omega),rK (by omega) (by omega)]
  have e7:kG i 0 ((4095-c)/co)=true:=by simp [kG]; omega
  have hm:0≤i*co:=Int.mul_nonneg h5 (by omega)
  have e8:IntKind.i64.wrap (i*co)=i*co:=rK (by omega) (by omega)
  have e9:IntKind.i64.wrap (i*co+c)=i*co+c:=rK (by omega) (by omega)
  simp only [au,M0,aeS,e1,e2,e4,Bool.not_true,e5,e6,e7,e8,e9,ah7 (show co≠0 by omega)]
@[simp] theorem aEO (n:Nat) (a b:Int) (h:ad) (k:Bool→ad→ah):eO n a b h k=k (decide (a<b)) h:=by
  unfold eO acB Ur GM Hq fy aad Ra
  simp
@[simp] theorem ayv (n:Nat) (a:Int) (h:ad) (k:Bool→ad→ah):dV n a h k=k false h:=by
  unfold dV Ss IY
  simp
def as7 (l:List Int) (x:Int) (i:Nat):Prop:=i≤l.length∧(l.Pairwise (· < ·)→(∀ j,j<i→nz l j<x)∧∀ j,i≤j→j<l.length→x≤nz l j)
theorem aCd {l:List Int} (hs:l.Pairwise (· < ·)) {i j:Nat} (h:i≤j) (hj:j<l.length):nz l i≤nz l j:=by
  rw [un hj,un (by omega)]
  by_cases e:i=j
  · subst e; exact iS _
  · exact Int.le_of_lt (List.pairwise_iff_getElem.1 hs i j (by omega) hj (by omega))
theorem v_BS_2 {n:Nat} {h:ad} {v:AV} {l:List Int} {x:Int} (hv:dP h .i64 v l) (hs:l.length≤1099511627776):∀ (m lo hi:Nat),lo≤hi→hi≤l.length→hi-lo<m→
    (l.Pairwise (· < ·)→(∀ j,j<lo→nz l j<x)∧∀ j,hi≤j→j<l.length→x≤nz l j)→
    dM (fun k=>rl n (eO n) (dV n) k m v x l.length lo hi h) fun r b h'=>h'=h∧∃ i:Nat,r=i∧as7 l x i∧b=decide (i<l.length∧nz l i=x):=by
  intro m
  induction m with
  | zero=>omega
  | succ m ih=>
    intro lo hi h1 h2 h3 hinv
    simp only [UB]
    unfold rc uq oM
    refine aL.ifB (fun e=>?_) fun e=>?_
    · simp at e
      have e1:IntKind.i64.wrap ((lo:Int)+hi)=((lo+hi:Nat):Int):=by rw [rK (by omega) (by omega)]; omega
      have e2:IntKind.u64.wrap (((lo+hi:Nat):Int))=((lo+hi:Nat):Int):=wrap_u (by omega) (by omega)
      have e3:∀ c,shrK .u64 (((lo+hi:Nat):Int)) 1 c=c (((lo+hi)/2:Nat):Int):=by
        intro c
        show axl ((1:Nat):Int) (fun n=>SF (shrF .u64 _ n) c)=_
        rw [aaZ,E2]
        rfl
      have e4:IntKind.i64.wrap ((((lo+hi)/2:Nat):Int))=(((lo+hi)/2:Nat):Int):=rK (by omega) (by omega)
      have hm:(lo+hi)/2<l.length:=by omega
      simp only [au,e1,e2,e3,e4,hv.elN hm,aEO,mt (show (lo+hi)/2≤9223372036854775806 by omega)]
      refine aL.ifB (fun e5=>?_) fun e5=>?_
      · simp at e5
        refine ih _ _ (by omega) h2 (by omega) fun hp=>⟨fun j hj=>?_,(hinv hp).2⟩
        exact Int.lt_of_le_of_lt (aCd hp (show j≤(lo+hi)/2 by omega) hm) e5
      · simp at e5
        refine ih _ _ (by omega) (by omega) (by omega) fun hp=>⟨(hinv hp).1,fun j hj hj'=>?_⟩
        exact Int.le_trans e5 (aCd hp hj hj')
    · simp at e
      have:lo=hi:=by omega
      subst this
      refine aL.ifB (fun e1=>?_) fun e1=>?_
      · simp at e1
        simp only [au,hv.elN e1,ayv]
        refine aL.ifB (fun e2=>?_) fun e2=>?_
        · simp at e2
          exact KS ⟨rfl,lo,rfl,⟨h2,hinv⟩,by simp [e1,e2]⟩
        · simp at e2
          exact KS ⟨rfl,lo,rfl,⟨h2,hinv⟩,by simp [e2]⟩
      · simp at e1
        exact KS ⟨rfl,lo,rfl,⟨h2,hinv⟩,by simp; omega⟩
theorem v_BS {n:Nat} {h:ad} {v:AV} {l:List Int} (hv:dP h .i64 v l) (hs:l.length≤1099511627776) (hn:l.length<n) (x:Int):dM (b7 n v x h) fun r b h'=>h'=h∧∃ i:Nat,r=i∧as7 l x i∧b=decide (i<l.length∧nz l i=x):=by
  unfold b7 zU vy
  simp only [hv.len]
  exact v_BS_2 hv hs n 0 l.length (by omega) (by omega) (by omega) fun hp=>⟨fun j hj=>by omega,fun j hj hj'=>by omega⟩
end Go.Proofs.YtnlbfbiogfilfaaGreat.Sh
