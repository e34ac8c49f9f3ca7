/- The document's answer: the most that a call costs. -/
import Derived.Test.YtnlbfbiogfilfaaGreatPR1PR4
set_option linter.all false
namespace Go.Proofs.YtnlbfbiogfilfaaGreat.Sh
open Go.Ai
theorem vR {n:Int} (h0:0≤n) (h1:n<18446744073709551616):w64 n=n:=wrap_u h0 h1
structure Cheap (z:bq) (s:dt):Prop where
  miss:1≤z.miss∧z.miss≤65536
  fault:1≤z.fault∧z.fault≤65536
  step:1≤z.step∧z.step≤65536
  disk:1≤z.disk∧z.disk≤65536
  image:1≤s.image∧s.image≤8
  user:2≤s.user∧s.user≤4096
  limit:1≤s.limit∧s.limit≤5120
  nodes:1≤s.nodes∧s.nodes≤4096
theorem aD2 {z:bq} {s:dt} (hc:Lq z=0) (hs:mayS s=true):Cheap z s:=by
  have h1:amq z=true:=by
    unfold Lq at hc
    split at hc
    · assumption
    · cases hc
  simp [amq,qZ] at h1
  simp [mayS,kG] at hs
  refine ⟨by omega,by omega,by omega,by omega,by omega,by omega,by omega,by omega⟩
theorem azl {a b A B:Int} (h1:0≤a∧a≤A) (h2:0≤b∧b≤B):0≤a*b∧a*b≤A*B:=⟨Int.mul_nonneg h1.1 h2.1,Int.mul_le_mul h1.2 h2.2 h2.1 (by omega)⟩
theorem atr {z:bq} {s:dt} (c:Cheap z s):∀ b∈IQ z s,0≤b∧b≤1000000000000:=by
  obtain ⟨miss,fault,step,disk,image,user,limit,nodes⟩:=c
  have a1:w64 (2*z.miss)=2*z.miss:=vR (by omega) (by omega)
  have a2:aDm z=z.step+2*z.miss:=by unfold aDm; rw [a1]; exact vR (by omega) (by omega)
  have a3:w64 s.limit=s.limit:=vR (by omega) (by omega)
  have m1:=azl (a:=s.limit) (b:=z.step+2*z.miss) (A:=5120) (B:=196608) (by omega) (by omega)
  have a4:allC z s=s.limit*(z.step+2*z.miss):=by unfold allC; rw [a2,a3]; exact vR m1.1 (by omega)
  generalize s.limit*(z.step+2*z.miss)=al at *
  have a5:w64 s.user=s.user:=vR (by omega) (by omega)
  have a6:w64 (2*s.user)=2*s.user:=vR (by omega) (by omega)
  have a7:w64 (2*s.user+1)=2*s.user+1:=vR (by omega) (by omega)
  have m2:=azl (a:=2*s.user+1) (b:=z.step) (A:=8193) (B:=65536) (by omega) (by omega)
  have a8:azw z s=(2*s.user+1)*z.step+z.disk:=by
    unfold azw
    rw [a5,a6,a7,vR m2.1 (by omega)]
    exact vR (by omega) (by omega)
  generalize (2*s.user+1)*z.step=fr at *
  have a9:w64 s.nodes=s.nodes:=vR (by omega) (by omega)
  have a10:w64 (16*s.nodes)=16*s.nodes:=vR (by omega) (by omega)
  have m3:=azl (a:=16*s.nodes) (b:=z.miss) (A:=65536) (B:=65536) (by omega) (by omega)
  have a11:w64 (16*s.nodes*z.miss)=16*s.nodes*z.miss:=vR m3.1 (by omega)
  have b4:aCh z=113*z.miss:=vR (by omega) (by omega)
  have b5:aqx z=64*(z.step+2*z.miss):=by unfold aqx; rw [a2]; exact vR (by omega) (by omega)
  intro b hb
  unfold IQ at hb
  rw [a4,a8,a9,a10,a11,b4,b5] at hb
  generalize 16*s.nodes*z.miss=nm at *
  rw [vR (n:=17*z.miss) (by omega) (by omega),vR (n:=al+z.miss) (by omega) (by omega),vR (n:=z.miss+nm) (by omega) (by omega),vR (n:=z.miss+nm+al) (by omega) (by omega),vR (n:=z.step+z.miss) (by omega) (by omega),vR (n:=64*(z.step+z.miss)) (by omega) (by omega),
    vR (n:=64*(z.step+z.miss)+z.miss) (by omega) (by omega),vR (n:=26*z.miss) (by omega) (by omega),vR (n:=26*z.miss+z.fault) (by omega) (by omega),vR (n:=26*z.miss+z.fault+(fr+z.disk)) (by omega) (by omega),vR (n:=26*z.miss+z.fault+(fr+z.disk)+z.disk) (by omega) (by omega),
    vR (n:=64*z.miss) (by omega) (by omega),vR (n:=2*z.fault) (by omega) (by omega),vR (n:=64*z.miss+2*z.fault) (by omega) (by omega),vR (n:=2*(fr+z.disk)) (by omega) (by omega),vR (n:=64*z.miss+2*z.fault+2*(fr+z.disk)) (by omega) (by omega),
    vR (n:=64*z.miss+2*z.fault+2*(fr+z.disk)+z.disk) (by omega) (by omega)] at hb
  simp only [iP,List.not_mem_nil,or_false] at hb
  have hmx:∀ x y:Int,WY x y=x∨WY x y=y:=fun x y=>by unfold WY; split<;>simp
  rcases hb with h | h | h | h | h | h | h | h | h | h | h
  all_goals try (rw [h]; omega)
  rw [h]
  rcases hmx (113*z.miss) (64*(z.step+2*z.miss)) with h' | h'<;>(rw [h']; omega)
theorem aAx:∀ (l:List Int) (a:Int),a≤l.foldl WY a∧(∀ b∈l,b≤l.foldl WY a)∧(l.foldl WY a=a∨l.foldl WY a∈l)
  | [],a=>⟨iS _,fun b hb=>(nomatch hb),.inl rfl⟩
  | x::t,a=>by
    obtain ⟨h1,h2,h3⟩:=aAx t (WY a x)
    have hm:a≤WY a x∧x≤WY a x∧(WY a x=a∨WY a x=x):=by unfold WY; split<;>omega
    rw [List.foldl_cons]
    refine ⟨by omega,fun b hb=>?_,?_⟩
    · rcases iP.1 hb with rfl | hb
      · omega
      · exact h2 b hb
    · rcases h3 with h3 | h3
      · rcases hm.2.2 with h4 | h4
        · exact .inl (h3.trans h4)
        · exact .inr (iP.2 (.inl (h3.trans h4)))
      · exact .inr (ig _ h3)
theorem aB2 {z:bq} {s:dt} (c:Cheap z s) (k:Int):0≤zv z s k∧zv z s k≤1000000000000:=by
  unfold zv
  rw [iL]
  by_cases h:k.toNat<(IQ z s).length
  · rw [iv h]
    exact atr c _ (iU h)
  · rw [iK (by omega)]
    exact ⟨iS 0,by decide⟩
def aow (z:bq) (s:dt):Int:=w64 (w64 s.image*z.miss)
theorem aAu {z:bq} {s:dt} (c:Cheap z s):0≤aow z s∧aow z s≤524288:=by
  have a1:w64 s.image=s.image:=vR (by have:=c.image; omega) (by have:=c.image; omega)
  have m:=azl (a:=s.image) (b:=z.miss) (A:=8) (B:=65536) (by have:=c.image; omega) (by have:=c.miss; omega)
  unfold aow
  rw [a1,vR m.1 (by omega)]
  omega
theorem v_rWorst {n:Nat} (hn:10<n) (h:ad) (z:bq) (s:dt) (hc:Lq z=0) (hs:mayS s=true) {k:Int} (hk:0≤k):dM (dx n (.agg (Ko z)) (.agg (Fs s)) k h) fun v e h'=>e=0∧v=aow z s+zv z s k∧be h h':=by
  have c:=aD2 hc hs
  have c1:=aAu c
  have c2:=aB2 c k
  unfold dx MA EK
  refine aF.bind (wh ..) ?_
  rintro x h1 ⟨hb,g1⟩
  refine aF.bind (wh ..) ?_
  rintro y h3 ⟨hy,g3⟩
  have gg:=g1.trans g3
  simp only [au,jC (g3.cl hb),bg]
  refine aF.bind (axB n h3 z) ?_
  rintro _ h6 ⟨rfl,g6⟩
  have t0:(!((0:Int)==0))=false:=rfl
  rw [hc]
  simp only [au,t0,jC (g6.cl hy),bg]
  refine aF.bind (v_rMayS n h6 s) ?_
  rintro _ h9 ⟨rfl,g9⟩
  rw [hs]
  have g39:=g6.trans g9
  have t1:(!true)=false:=rfl
  simp only [au,t1,jC (g39.cl hy),jC (g39.cl (g3.cl hb)),bg]
  refine aF.bind (v_behind hn (h9.shut true) z s hk) ?_
  rintro _ h19 ⟨rfl,g19⟩
  have e1:IntKind.u64.wrap (IntKind.u64.wrap (IntKind.u64.wrap s.image*z.miss)+zv z s k)=aow z s+zv z s k:=vR (n:=aow z s+zv z s k) (by omega) (by omega)
  rw [e1]
  exact KS ⟨rfl,rfl,gg.trans (g39.trans g19.shut)⟩
theorem v_rMost {n:Nat} (hn:300<n) (h:ad) (z:bq) (s:dt) (hc:Lq z=0) (hs:mayS s=true):dM (cm n (.agg (Ko z)) (.agg (Fs s)) h) fun v e h'=>e=0∧v=ayK z s∧be h h':=by
  have c:=aD2 hc hs
  have c1:=aAu c
  obtain ⟨f1,f2,f3⟩:=aAx (IQ z s) 0
  have hM:ayK z s=aow z s+(IQ z s).foldl WY 0:=by
    unfold ayK
    have:(IQ z s).foldl WY 0≤1000000000000:=by
      rcases f3 with h | h
      · rw [h]; decide
      · exact (atr c _ h).2
    exact vR (n:=aow z s+_) (by omega) (by omega)
  unfold cm Oh FQ
  refine aF.bind (wh ..) ?_
  rintro x h1 ⟨hb,g1⟩
  refine aF.bind (wh ..) ?_
  rintro y h3 ⟨hy,g3⟩
  have gg:=g1.trans g3
  have hb3:=g3.cl hb
  have key:∀ (q i:Nat) (a:Int) (h':ad),be h3 h'→i≤256→256-i<q→0≤a→(∀ k:Nat,k<i→aow z s+zv z s k≤a)→(a=0∨∃ k:Nat,a=aow z s+zv z s k)→
      dM (fun k=>yF n (dx n) k q (.ptr x 0) (.ptr y 0) a (i:Int) h') fun v e h''=>e=0∧v=ayK z s∧be h3 h'':=by
    intro q
    induction q with
    | zero=>omega
    | succ q ih=>
      intro i a h' g hi hq ha0 hall hex
      simp only [akU]
      unfold yG Dw
      refine aL.ifB (fun e=>?_) fun e=>?_
      · simp at e
        have w1:IntKind.u8.wrap (i:Int)=(i:Int):=by simp only [IntKind.wrap,IntKind.signed,IntKind.bits]; simp; omega
        simp only [au,jC (g.cl hb3),jC (g.cl hy),bg,w1]
        refine dM.bind (v_rWorst (by omega) h' z s hc hs (k:=(i:Int)) (by omega)) ?_
        rintro _ _ h9 ⟨rfl,rfl,g9⟩
        have t0:(!((0:Int)==0))=false:=rfl
        simp only [au,t0,max2,mt (show i≤9223372036854775806 by omega)]
        have hm:a≤WY a (aow z s+zv z s i)∧aow z s+zv z s i≤WY a (aow z s+zv z s i)∧(WY a (aow z s+zv z s i)=a∨WY a (aow z s+zv z s i)=aow z s+zv z s i):=by unfold WY; split<;>omega
        refine ih (i+1) _ h9 (g.trans g9) (by clear hex hall; omega) (by clear hex hall; omega) (by clear hex hall; omega) (fun k hk=>?_) ?_
        · by_cases ek:k=i
          · subst ek; exact hm.2.1
          · have:=hall k (by omega); omega
        · rcases hm.2.2 with h4 | h4
          · rw [h4]; exact hex
          · exact .inr ⟨i,h4⟩
      · simp at e
        have:i=256:=by omega
        subst this
        refine KS ⟨rfl,?_,g⟩
        rw [hM]
        have hle:∀ k:Nat,zv z s k≤(IQ z s).foldl WY 0:=by
          intro k
          unfold zv
          rw [iL,iI]
          by_cases h:k<(IQ z s).length
          · rw [iv h]; exact f2 _ (iU h)
          · rw [iK (by omega)]; exact f1
        have hge:aow z s+(IQ z s).foldl WY 0≤a:=by
          rcases f3 with h4 | h4
          · have:=hall 0 (by omega)
            have h0:zv z s ((0:Nat):Int)=0:=rfl
            rw [h0] at this
            omega
          · obtain ⟨k,hk,h5⟩:=List.mem_iff_getElem.1 h4
            have hk':k<11:=hk
            have h6:=hall k (by omega)
            have h7:zv z s (k:Int)=(IQ z s)[k]:=by
              unfold zv
              rw [iL,iI,iv hk]; rfl
            have h8:=h7.trans h5
            omega
        rcases hex with h4 | ⟨k,h4⟩
        · omega
        · have:=hle k; omega
  refine aL.mono (key n 0 0 h3 .refl (by omega) (by omega) (iS 0) (fun k hk=>by omega) (.inl rfl)) ?_
  rintro ⟨v,e,h'⟩ ⟨e1,e2,e3⟩
  exact ⟨e1,e2,gg.trans e3⟩
end Go.Proofs.YtnlbfbiogfilfaaGreat.Sh
/- The document's answer: shapes, slices, turns. -/
namespace Go.Proofs.YtnlbfbiogfilfaaGreat.Sh
open Go.Ai
theorem v_rshape {n:Nat} {z:bq} {h:ad} (hro:h.ro≤h.nx) {c:List AV} (hc:Cfg h z c) {p:Nat} (hp:p<z.parts.length) (ho:0≤(lI z p).order):aF (cg n (.agg c) (p:Int) h) fun r h'=>r = .agg (Fs (Sw z p))∧be h h':=by
  unfold cg LZ EJ
  obtain ⟨t,pp,rfl,ht,hps,S,hpt,hS⟩:=hc
  refine aF.bind (wh ..) ?_
  rintro x h1 ⟨hb,g⟩
  refine aF.bind (ahy (g.le hro) _ 0) ?_
  rintro y h2 ⟨hy,oy,g2⟩
  have t2:=g.trans g2
  simp only [au,jC (g2.cl hb),bg,eD.eld (hpt.grow t2) (show (0:Int)≤(p:Int) by omega) (show (p:Int)<_ by omega),iI]
  rw [show z.parts.getD p default=lI z p from rfl] at *
  refine aF.bind (asu (n:=8) (t2.le hro) (by rfl) (by rfl)) ?_
  rintro w h3 ⟨hw,ow,g3⟩
  have t3:=t2.trans g3
  simp only [au,jC ow.cl,bg,IL ho,min2,build4]
  refine ed.bind (Um (cs:=Fs (Sw z p)) (oy.grow g3) rfl (by show 0+4≤4; decide)) ?_
  intro h4 hp4
  rw [Wq _ _ (by rfl)] at hp4
  simp only [au,jC hp4.own.cl,bg]
  exact nT ⟨rfl,hp4.grow t3 (iE g.nx hy)⟩
theorem aD7 {z:bq} {p:Nat} (h:Yb z p=0):mayS (Sw z p)=true:=by
  have hq:yk z p=true:=by
    unfold Yb at h
    split at h
    · split at h
      · assumption
      · cases h
    · cases h
  simp only [yk,iw] at hq
  obtain ⟨q1,q2,q3,_,_,q6,q7,_⟩:=hq
  simp [kG] at q1 q2 q3 q6 q7
  have im:N9 (lI z p)=1∨N9 (lI z p)=2∨N9 (lI z p)=4∨N9 (lI z p)=8:=by
    unfold N9
    have:(lI z p).order=0∨(lI z p).order=1∨(lI z p).order=2∨(lI z p).order=3:=by omega
    rcases this with e | e | e | e<;>rw [e]
    · exact .inl sh0
    · exact .inr (.inl sh1)
    · exact .inr (.inr (.inl sh2))
    · exact .inr (.inr (.inr sh3))
  have w1:IntKind.i64.wrap ((lI z p).user+(lI z p).slots)=(lI z p).user+(lI z p).slots:=rK (by omega) (by omega)
  have w2:IntKind.i64.wrap ((lI z p).user+(lI z p).slots-1)=(lI z p).user+(lI z p).slots-1:=rK (by omega) (by omega)
  have w3:IntKind.i64.wrap (16*(lI z p).gN)=16*(lI z p).gN:=rK (by omega) (by omega)
  have lim:1≤(Sw z p).limit∧(Sw z p).limit≤5120:=by
    show 1≤minZ _ _∧minZ _ _≤5120
    rw [w1,w2,w3]
    unfold minZ
    split<;>omega
  have e1:(Sw z p).image=N9 (lI z p):=rfl
  have e2:(Sw z p).user=(lI z p).user:=rfl
  have e3:(Sw z p).nodes=(lI z p).tables:=rfl
  simp only [mayS,kG,iw,Bool.or_eq_true,iz,e1,e2,e3]
  omega
theorem aE4 {n:Nat} {z:bq} {h:ad} {t pp:AV} {x:Nat} (hb:h.cl x (Hx z t pp)) (ht:dP h .i64 t z.gM) (hp:Parts h pp z.parts):∀ (m i:Nat),i≤z.gM.length→z.gM.length-i<m→
    aF (fun k=>uX n k m (.ptr x 0) (i:Int) h) fun r h'=>r=(!(z.gM.drop i).all fun p=>kG p 0 (IntKind.i64.wrap (z.parts.length-1)))∧h'=h:=by
  have hl:=hp.2.choose_spec.1.1
  have w1:IntKind.i64.wrap ((z.parts.length:Int)-1)=(z.parts.length:Int)-1:=rK (by omega) (by omega)
  intro m
  induction m with
  | zero=>omega
  | succ m ih=>
    intro i hi hm
    simp only [aiQ]
    unfold xH B6 xC
    have hs:=ht.small
    simp only [au,jC hb,bg,ht.len]
    refine aL.ifB (fun e=>?_) fun e=>?_
    · simp at e
      rw [iH e,List.all_cons]
      simp only [ht.elN e,un e]
      have hlen:=hp.2.choose_spec.1.len
      have go:kG z.gM[i] 0 (IntKind.i64.wrap (z.parts.length-1))=true→aF (fun k=>uX n k m (.ptr x 0) ((i+1:Nat):Int) h) fun r h'=>r=(!(kG z.gM[i] 0 (IntKind.i64.wrap (z.parts.length-1))&&(z.gM.drop (i+1)).all fun p=>kG p 0 (IntKind.i64.wrap (z.parts.length-1))))∧h'=h:=by
        intro h0
        rw [h0,Bool.true_and]
        exact ih (i+1) (by omega) (by omega)
      refine aL.ifB (fun e1=>?_) fun e1=>?_
      · refine nT ⟨?_,rfl⟩
        have:kG z.gM[i] 0 (IntKind.i64.wrap (z.parts.length-1))=false:=by
          rw [iz] at e1
          unfold kG
          rw [iJ (show ¬ 0≤z.gM[i] by omega)]; rfl
        rw [this]; rfl
      · simp only [au,jC hb,bg,hlen]
        rw [iD] at e1
        refine aL.ifB (fun e2=>?_) fun e2=>?_
        · refine nT ⟨?_,rfl⟩
          have:kG z.gM[i] 0 (IntKind.i64.wrap (z.parts.length-1))=false:=by
            simp at e2
            unfold kG
            rw [w1,iJ (show ¬ z.gM[i]≤(z.parts.length:Int)-1 by omega),Bool.and_false]
          rw [this]; rfl
        · have:kG z.gM[i] 0 (IntKind.i64.wrap (z.parts.length-1))=true:=by
            simp at e2
            unfold kG
            rw [w1,iO (show z.gM[i]≤(z.parts.length:Int)-1 by omega),iO (show 0≤z.gM[i] by omega)]; rfl
          simp only [au,mt (show i≤9223372036854775806 by omega)]
          exact go this
    · simp at e
      have:i=z.gM.length:=by omega
      subst this
      exact nT ⟨by simp,rfl⟩
theorem v_rturns {n:Nat} {z:bq} (hn:fT n z) {h:ad} {c:List AV} (hc:Cfg h z c):aF (cb n (.agg c) h) fun r h'=>r=(!Mx z)∧be h h':=by
  unfold cb Mq Es xP
  obtain ⟨t,pp,rfl,ht,hp⟩:=hc
  refine aF.bind (wh ..) ?_
  rintro x h1 ⟨hb,g⟩
  simp only [au,jC hb,bg,(ht.grow g).len]
  have bad:kG z.gM.length 1 64=false→aF (fun k:gA=>k true h1) fun r h'=>r=(!Mx z)∧be h h':=by
    intro h0
    refine nT ⟨?_,g⟩
    unfold Mx
    rw [h0]; rfl
  refine aL.ifB (fun e=>bad ?_) fun e=>?_
  · rw [iz] at e
    unfold kG
    rw [iJ (show ¬ 1≤(z.gM.length:Int) by omega)]; rfl
  rw [iD] at e
  refine aL.ifB (fun e2=>bad ?_) fun e2=>?_
  · rw [iz] at e2
    unfold kG
    rw [iJ (show ¬ (z.gM.length:Int)≤64 by omega),Bool.and_false]
  rw [iD] at e2
  have h0:kG z.gM.length 1 64=true:=by
    unfold kG
    rw [iO (show 1≤(z.gM.length:Int) by omega),iO (show (z.gM.length:Int)≤64 by omega)]; rfl
  refine aL.mono (aE4 hb (ht.grow g) (hp.grow g) n 0 (by omega) (by have:=hn.gM; omega)) ?_
  rintro ⟨r,h'⟩ ⟨q1,q2⟩
  dsimp only at q2
  subst q2
  refine ⟨q1.trans ?_,g⟩
  rw [List.drop_zero,Mx,h0,Bool.true_and]
end Go.Proofs.YtnlbfbiogfilfaaGreat.Sh
/- The document's answer: the slices of time. -/
namespace Go.Proofs.YtnlbfbiogfilfaaGreat.Sh
open Go.Ai
theorem aDw {n:Nat} {z:bq} (hn:fT n z) (hn3:300<n) (hcost:Lq z=0) {t pp:AV} {x:Nat}:∀ (m i:Nat) (h:ad),h.ro≤h.nx→h.cl x (Hx z t pp)→dP h .i64 t z.gM→Parts h pp z.parts→i≤z.parts.length→z.parts.length-i<m→
    aF (fun k=>ug n (aC n) (aR n) (bj n) (bX n) (cm n) (cg n) k m (.ptr x 0) (i:Int) h) fun r h'=>r=(!(List.range' i (z.parts.length-i)).all (yK z))∧be h h':=by
  intro m
  induction m with
  | zero=>omega
  | succ m ih=>
    intro i h hro hb ht hp hi hm
    have hl:=hp.2.choose_spec.1.1
    simp only [ahj]
    unfold wV AP wN
    simp only [au,jC hb,bg,hp.2.choose_spec.1.len]
    refine aL.ifB (fun e=>?_) fun e=>?_
    · simp at e
      have hr:List.range' i (z.parts.length-i)=i::List.range' (i+1) (z.parts.length-(i+1)):=by
        rw [show z.parts.length-i=(z.parts.length-(i+1))+1 by omega,List.range'_succ]
      rw [hr,List.all_cons]
      refine aF.bind (aFs hn hro (Cfg.mk' ht hp) e) ?_
      rintro _ h1 ⟨rfl,g1⟩
      have hb1:=g1.cl hb
      have go:yK z i=true→∀ h',be h h'→aL ap1 (fun k=>ug n (aC n) (aR n) (bj n) (bX n) (cm n) (cg n) k m (.ptr x 0) ((i+1:Nat):Int) h')
          fun r=>r.1=(!(yK z i&&(List.range' (i+1) (z.parts.length-(i+1))).all (yK z)))∧be h r.2:=by
        intro hs h' g'
        refine aL.mono (ih (i+1) h' (g'.le hro) (g'.cl hb) (ht.grow g') (hp.grow g') (by omega) (by omega)) ?_
        rintro ⟨r,h''⟩ ⟨q1,q2⟩
        exact ⟨by rw [q1,hs,Bool.true_and],g'.trans q2⟩
      simp only [au,mt (show i≤9223372036854775806 by omega)]
      refine aL.ifB (fun e1=>?_) fun e1=>?_
      · rw [ij] at e1
        simp only [au,jC hb1,bg]
        refine aF.bind (v_rshape (n:=n) (h:=h1.shut true) (z:=z) (iA _) (Cfg.shut (Cfg.mk' (ht.grow g1) (hp.grow g1))) e (awj e1)) ?_
        rintro _ h41 ⟨rfl,g41⟩
        have g2:=g1.trans g41.shut
        refine dM.bind (v_rMost hn3 _ z (Sw z i) hcost (aD7 e1)) ?_
        rintro _ _ h44 ⟨rfl,rfl,g44⟩
        have g3:=g2.trans g44
        have ask:asK z (Sw z i)=0:=by rw [aF2,if_pos hcost,aD7 e1]; rfl
        have ps:yK z i=decide (ayK z (Sw z i)≤z.slice):=by
          unfold yK
          rw [e1,ask]; rfl
        simp only [au,jC (g3.cl hb),bg]
        refine aL.ifB (fun e2=>?_) fun e2=>?_
        · refine nT ⟨?_,g3⟩
          rw [iz] at e2
          rw [ps,iJ (by omega)]; rfl
        · rw [iD] at e2
          exact go (by rw [ps]; exact iO (by omega)) _ g3
      · rw [iT] at e1
        exact go (by unfold yK; rw [iJ e1]; rfl) _ g1
    · simp at e
      have:i=z.parts.length:=by omega
      subst this
      exact nT ⟨by simp,.refl⟩
theorem aF8 {z:bq} (hm:sS z=true) (hc:Lq z=0):ON z (IntKind.i64.wrap (z.l1sets*z.l1ways)) z.tlb=0:=by
  simp only [sS,iw] at hm
  obtain ⟨_,_,_,h4,_,h6,h7,_⟩:=hm
  simp [SM,kG] at h4
  simp [kG] at h6 h7
  have m:=azl (a:=z.l1sets) (b:=z.l1ways) (A:=4096) (B:=16) (by omega) (by omega)
  have w:IntKind.i64.wrap (z.l1sets*z.l1ways)=z.l1sets*z.l1ways:=rK (by omega) (by omega)
  unfold ON
  rw [if_pos hc,w]
  have h8:kG (z.l1sets*z.l1ways) 0 65536=true:=by
    unfold kG
    rw [iO m.1,iO (show z.l1sets*z.l1ways≤65536 by omega)]; rfl
  have h9:kG z.tlb 0 64=true:=by
    unfold kG
    rw [iO (show 0≤z.tlb by omega),iO h7.2]; rfl
  rw [h8,h9]; rfl
theorem aGd {n:Nat} {z:bq} (hn:fT n z) (hn3:300<n) {h:ad} (hro:h.ro≤h.nx) {c:List AV} (hc:Cfg h z c):aF (bZ n (.agg c) h) fun r h'=>r=(!Cx z)∧be h h':=by
  unfold bZ Jw Dx
  obtain ⟨t,pp,rfl,ht,hp⟩:=hc
  refine aF.bind (wh ..) ?_
  rintro x h1 ⟨hb,g⟩
  have q4:∀ (k:fH) (b:Bool),rP n (aC n) (aR n) (bj n) (bX n) (cm n) (cg n) k (.ptr x 0) b h1=rT n (aC n) (aR n) (bj n) (bX n) (cm n) (cg n) k (.ptr x 0) (b||decide (4194304<z.pad)) h1:=by
    intro k b
    unfold rP
    cases b<;>simp only [au,jC hb,bg,Bool.false_or,Bool.true_or]
  have q5:∀ (k:fH) (b:Bool),rT n (aC n) (aR n) (bj n) (bX n) (cm n) (cg n) k (.ptr x 0) b h1=uj n (aC n) (aR n) (bj n) (bX n) (cm n) (cg n) k (.ptr x 0) (b||!decide (z.first<1099511627776)) h1:=by
    intro k b
    unfold rT
    cases b<;>simp only [au,jC hb,bg,Bool.false_or,Bool.true_or]
  have fin:∀ b:Bool,b=(decide (z.slice<1)||decide (4194304<z.slice))→aF (fun k=>rP n (aC n) (aR n) (bj n) (bX n) (cm n) (cg n) k (.ptr x 0) b h1) fun r h'=>r=(!Cx z)∧be h h':=by
    intro b hb'
    simp only [q4,q5]
    unfold uj
    have nl:∀ a b:Int,decide (a<b) = !decide (b≤a):=fun a b=>by rw [← HZ,Bool.not_not]
    have spl:Cx z=(!(b||decide (4194304<z.pad)||!decide (z.first<1099511627776))&&(!sS z||(!decide (Lq z=0)||
        (decide (ON z (IntKind.i64.wrap (z.l1sets*z.l1ways)) z.tlb=0)&&(decide (aqN z (IntKind.i64.wrap (z.l1sets*z.l1ways)) z.tlb≤z.pad)&&(List.range z.parts.length).all (yK z)))))):=by
      rw [hb']
      unfold Cx
      simp only [Bool.not_or,Bool.not_not,Bool.and_assoc,HZ]
      rw [← nl z.first 1099511627776]
    rw [spl]
    refine aL.ifB (fun e=>nT ⟨by rw [e]; rfl,g⟩) fun e=>?_
    rw [e,Bool.not_false,Bool.true_and]
    simp only [au,jC hb,bg]
    refine aF.bind (asZ n (Cfg.mk' (ht.grow g) (hp.grow g))) ?_
    rintro _ h12 ⟨rfl,g12⟩
    have g2:=g.trans g12
    have hb12:=g12.cl hb
    unfold w7
    refine aL.ifB (fun e1=>?_) fun e1=>?_
    · rw [Bool.not_eq_true'] at e1
      simp only [au]
      exact nT ⟨by rw [e1]; rfl,g2⟩
    · rw [Bool.not_eq_false'] at e1
      simp only [au,jC hb12,bg]
      refine aF.bind (axB n h12 z) ?_
      rintro _ h16 ⟨rfl,g16⟩
      have g3:=g2.trans g16
      have hb16:=g16.cl hb12
      refine aL.ifB (fun e2=>?_) fun e2=>?_
      · rw [Bool.not_eq_true',iT] at e2
        exact nT ⟨by rw [e1,iJ e2]; rfl,g3⟩
      · rw [Bool.not_eq_false',ij] at e2
        simp only [au,jC hb16,bg]
        refine dM.bind (aGW n h16 z _ _) ?_
        rintro v e' h28 ⟨rfl,hv,_,g28⟩
        have g4:=g3.trans g28
        have sw:=aF8 e1 e2
        rw [hv sw,e1,iO e2,iO sw]
        simp only [au,jC (g28.cl hb16),bg]
        refine aL.ifB (fun e3=>nT ⟨?_,g4⟩) fun e3=>?_
        · rw [iz] at e3
          rw [iJ (show ¬ aqN z (IntKind.i64.wrap (z.l1sets*z.l1ways)) z.tlb≤z.pad by omega)]; rfl
        · rw [iD] at e3
          rw [iO (show aqN z (IntKind.i64.wrap (z.l1sets*z.l1ways)) z.tlb≤z.pad by omega)]
          refine aL.mono (aDw hn hn3 e2 n 0 h28 (g4.le hro) (g28.cl hb16) (ht.grow g4) (hp.grow g4) (by omega) (by have:=hn.parts; omega)) ?_
          rintro ⟨r,h'⟩ ⟨q1,q2⟩
          refine ⟨q1.trans ?_,g4.trans q2⟩
          rw [Nat.sub_zero, ← List.range_eq_range']
          rfl
  simp only [au,jC hb,bg]
  refine aL.ifB (fun e=>?_) fun e=>?_
  · exact fin _ (by rw [e,Bool.true_or])
  · exact fin _ (by rw [e,Bool.false_or])
end Go.Proofs.YtnlbfbiogfilfaaGreat.Sh
/- The document's answer: what may be, what a partition has in all. -/
namespace Go.Proofs.YtnlbfbiogfilfaaGreat.Sh
open Go.Ai
def Flt (h0 h:ad) (v:AV) (L:Nat):Prop:=(∃ l,App h v 2 L l)∧∀ c,v.blk=some c→h0.nx≤c
theorem Flt.grow {h0 h h':ad} {v:AV} {L:Nat} (f:Flt h0 h v L) (g:be h h'):Flt h0 h' v L:=⟨f.1.imp fun _ a=>a.grow g,f.2⟩
theorem ate {h0 h:ad} (hro:h.ro≤h.nx) {v:AV} {L:Nat} (f:Flt h0 h v L) (hL:L<1000) (g:be h0 h) (a b:Int) :
    aF (fun k=>uK [.int .i64 0,.int .i64 0] [(0,1,.int .i64 a),(1,1,.int .i64 b)] fun x=>pZ h 1 [.int .i64 0,.int .i64 0] [(0,2,x)] fun y h2=>sI h2 2 v y k) fun v' h'=>Flt h0 h' v' (L+1)∧be h0 h':=by
  obtain ⟨⟨l,ha⟩,hb⟩:=f
  simp only [build2]
  refine aF.bind (Dv (fun k=>by rfl)) ?_
  rintro _ h1 ⟨rfl,hc,g1⟩
  refine aL.mono (afw (g1.le hro) (ha.grow g1) (by omega) hc (by rw [zj]; rfl) (by omega)) ?_
  rintro ⟨v',h2⟩ ⟨a2,b2,c2⟩
  have n1:=g1.nx
  have n0:=g.nx
  refine ⟨⟨⟨_,a2⟩,fun c e=>?_⟩,c2.grow (g.trans g1) hb⟩
  have e':v'.blk=some c:=e
  have b2':v'.blk=some h1.nx:=b2
  rw [b2'] at e'
  cases e'
  omega
def Rg (z:bq) (i:Nat):Prop:=(List.range' i (min z.parts.length 8-i)).all (fun p=>decide (Yb z p=0))=true
abbrev gf (h0:ad) (L:Nat) (C:Prop) (r:AV) (h':ad):Prop:=(∃ L':Nat,(∀ k,mX r k=k L')∧(L'=0↔L=0∧C))∧be h0 h'
structure CEnv (n:Nat) (z:bq) (h0:ad) (x:Nat) (t pp:AV):Prop where
  fit:fT n z
  n3:300<n
  ro:h0.ro≤h0.nx
  cl:h0.cl x (Hx z t pp)
  gM:dP h0 .i64 t z.gM
  parts:Parts h0 pp z.parts
theorem CEnv.cfg {n:Nat} {z:bq} {h0 h:ad} {x:Nat} {t pp:AV} (v:CEnv n z h0 x t pp) (g:be h0 h):Cfg h z (Hx z t pp):=Cfg.mk' (v.gM.grow g) (v.parts.grow g)
theorem aEH {n:Nat} {z:bq} {h0:ad} {x:Nat} {t pp:AV} (w:CEnv n z h0 x t pp):∀ (m i L:Nat) (h:ad) (v:AV),be h0 h→Flt h0 h v L→L<500+i→i≤8→8-i<m→
    aF (fun k=>uR n (aC n) (aR n) (bZ n) (cb n) (bj n) k m (.ptr x 0) v (i:Int) h) (gf h0 L (Rg z i)):=by
  intro m
  induction m with
  | zero=>omega
  | succ m ih=>
    intro i L h v g f hL hi hm
    have hro:=g.le w.ro
    have hp:=w.parts.grow g
    simp only [aiL]
    unfold xE
    simp only [au,jC (g.cl w.cl),bg,hp.2.choose_spec.1.len]
    have stop:min z.parts.length 8≤i→aF (fun k=>so n (aC n) (aR n) (bZ n) (cb n) (bj n) k (uR n (aC n) (aR n) (bZ n) (cb n) (bj n) k m) (.ptr x 0) v (i:Int) false h) (gf h0 L (Rg z i)):=by
      intro hle
      unfold so Cf
      obtain ⟨⟨l,ha⟩,_⟩:=f
      simp only [au]
      refine nT ⟨⟨L,ha.len,?_⟩,g⟩
      have:Rg z i:=by
        unfold Rg
        rw [show min z.parts.length 8-i=0 by omega]; rfl
      simp [this]
    refine aL.ifB (fun e=>?_) fun e=>?_
    · rw [iz] at e
      by_cases h8:i<8
      · have t8:decide ((i:Int)<8)=true:=iO (by omega)
        rw [t8]
        unfold so xI
        have hlt:i<z.parts.length:=by omega
        have hr:Rg z i↔Yb z i=0∧Rg z (i+1):=by
          unfold Rg
          rw [show min z.parts.length 8-i=(min z.parts.length 8-(i+1))+1 by omega,List.range'_succ,List.all_cons]
          simp
        simp only [au,jC (g.cl w.cl),bg]
        refine aF.bind (aFs w.fit hro (w.cfg g) hlt) ?_
        rintro _ h1 ⟨rfl,g1⟩
        have gg:=g.trans g1
        refine aL.ifB (fun e1=>?_) fun e1=>?_
        · rw [Bool.not_eq_true',iT] at e1
          refine aF.bind (ate (gg.le w.ro) (f.grow g1) (by omega) gg _ _) ?_
          rintro v' h2 ⟨f2,g2⟩
          simp only [au,mt (show i≤9223372036854775806 by omega)]
          refine aL.mono (ih (i+1) (L+1) h2 v' g2 f2 (by omega) (by omega) (by omega)) ?_
          rintro ⟨r,h'⟩ ⟨⟨L',q1,q2⟩,q3⟩
          refine ⟨⟨L',q1,q2.trans ?_⟩,q3⟩
          rw [hr]
          constructor
          · rintro ⟨h1,_⟩; omega
          · rintro ⟨_,h1,_⟩; exact (e1 h1).elim
        · rw [Bool.not_eq_false',ij] at e1
          simp only [au,mt (show i≤9223372036854775806 by omega)]
          refine aL.mono (ih (i+1) L h1 v gg (f.grow g1) (by omega) (by omega) (by omega)) ?_
          rintro ⟨r,h'⟩ ⟨⟨L',q1,q2⟩,q3⟩
          refine ⟨⟨L',q1,q2.trans ?_⟩,q3⟩
          rw [hr]
          simp [e1]
      · have t8:decide ((i:Int)<8)=false:=iJ (by omega)
        rw [t8]
        exact stop (by omega)
    · rw [iD] at e
      exact stop (by omega)
theorem azn {n:Nat} {z:bq} {h0:ad} {x:Nat} {t pp:AV} (w:CEnv n z h0 x t pp) {L:Nat} {h:ad} {v:AV} (g:be h0 h) (f:Flt h0 h v L) (hL:L<500) :
    aF (fun k=>uY n (aC n) (aR n) (bZ n) (cb n) (bj n) k (.ptr x 0) v h) (gf h0 L (Rg z 0)):=by
  unfold uY
  exact aEH w n 0 L h v g f (by omega) (by omega) (by have:=w.n3; omega)
theorem ay3 {n:Nat} {z:bq} {h0:ad} {x:Nat} {t pp:AV} (w:CEnv n z h0 x t pp) {L:Nat} {h:ad} {v:AV} (g:be h0 h) (f:Flt h0 h v L) (hL:L<450) :
    aF (fun k=>vd n (aC n) (aR n) (bZ n) (cb n) (bj n) k (.ptr x 0) v h) (gf h0 L (Mx z=true∧Rg z 0)):=by
  unfold vd
  simp only [au,jC (g.cl w.cl),bg]
  refine aF.bind (v_rturns w.fit (w.cfg g)) ?_
  rintro _ h1 ⟨rfl,g1⟩
  have gg:=g.trans g1
  refine aL.ifB (fun e1=>?_) fun e1=>?_
  · have e1:¬ Mx z=true:=by rw [Bool.not_eq_true'] at e1; rw [e1]; exact Bool.false_ne_true
    refine aF.bind (ate (gg.le w.ro) (f.grow g1) (by omega) gg _ _) ?_
    rintro v' h2 ⟨f2,g2⟩
    refine aL.mono (azn w g2 f2 (by omega)) ?_
    rintro ⟨r,h'⟩ ⟨⟨L',q1,q2⟩,q3⟩
    refine ⟨⟨L',q1,q2.trans ?_⟩,q3⟩
    constructor
    · rintro ⟨h1,_⟩; omega
    · rintro ⟨_,h1,_⟩; exact (e1 h1).elim
  · have e1:Mx z=true:=by rwa [Bool.not_eq_false'] at e1
    refine aL.mono (azn w gg (f.grow g1) (by omega)) ?_
    rintro ⟨r,h'⟩ ⟨⟨L',q1,q2⟩,q3⟩
    refine ⟨⟨L',q1,q2.trans ?_⟩,q3⟩
    simp [e1]
theorem ax6 {n:Nat} {z:bq} {h0:ad} {x:Nat} {t pp:AV} (w:CEnv n z h0 x t pp) {L:Nat} {h:ad} {v:AV} (g:be h0 h) (f:Flt h0 h v L) (hL:L<440) :
    aF (fun k=>uW n (aC n) (aR n) (bZ n) (cb n) (bj n) k (.ptr x 0) v h) (gf h0 L (Cx z=true∧(Mx z=true∧Rg z 0))):=by
  unfold uW
  simp only [au,jC (g.cl w.cl),bg]
  refine aF.bind (aGd w.fit w.n3 (g.le w.ro) (w.cfg g)) ?_
  rintro _ h1 ⟨rfl,g1⟩
  have gg:=g.trans g1
  refine aL.ifB (fun e1=>?_) fun e1=>?_
  · have e1:¬ Cx z=true:=by rw [Bool.not_eq_true'] at e1; rw [e1]; exact Bool.false_ne_true
    refine aF.bind (ate (gg.le w.ro) (f.grow g1) (by omega) gg _ _) ?_
    rintro v' h2 ⟨f2,g2⟩
    refine aL.mono (ay3 w g2 f2 (by omega)) ?_
    rintro ⟨r,h'⟩ ⟨⟨L',q1,q2⟩,q3⟩
    refine ⟨⟨L',q1,q2.trans ?_⟩,q3⟩
    constructor
    · rintro ⟨h1,_⟩; omega
    · rintro ⟨_,h1,_⟩; exact (e1 h1).elim
  · have e1:Cx z=true:=by rwa [Bool.not_eq_false'] at e1
    refine aL.mono (ay3 w gg (f.grow g1) (by omega)) ?_
    rintro ⟨r,h'⟩ ⟨⟨L',q1,q2⟩,q3⟩
    refine ⟨⟨L',q1,q2.trans ?_⟩,q3⟩
    simp [e1]
theorem ayU {n:Nat} {z:bq} {h0:ad} {x:Nat} {t pp:AV} (w:CEnv n z h0 x t pp) {L:Nat} {h:ad} {v:AV} (g:be h0 h) (f:Flt h0 h v L) (hL:L<430) :
    aF (fun k=>vf n (aC n) (aR n) (bZ n) (cb n) (bj n) k (.ptr x 0) v h) (gf h0 L (Lq z=0∧(Cx z=true∧(Mx z=true∧Rg z 0)))):=by
  unfold vf
  simp only [au,jC (g.cl w.cl),bg]
  refine aF.bind (axB n h z) ?_
  rintro _ h1 ⟨rfl,g1⟩
  have gg:=g.trans g1
  refine aL.ifB (fun e1=>?_) fun e1=>?_
  · rw [Bool.not_eq_true',iT] at e1
    refine aF.bind (ate (gg.le w.ro) (f.grow g1) (by omega) gg _ _) ?_
    rintro v' h2 ⟨f2,g2⟩
    refine aL.mono (ax6 w g2 f2 (by omega)) ?_
    rintro ⟨r,h'⟩ ⟨⟨L',q1,q2⟩,q3⟩
    refine ⟨⟨L',q1,q2.trans ?_⟩,q3⟩
    constructor
    · rintro ⟨h1,_⟩; omega
    · rintro ⟨_,h1,_⟩; exact (e1 h1).elim
  · rw [Bool.not_eq_false',ij] at e1
    refine aL.mono (ax6 w gg (f.grow g1) (by omega)) ?_
    rintro ⟨r,h'⟩ ⟨⟨L',q1,q2⟩,q3⟩
    refine ⟨⟨L',q1,q2.trans ?_⟩,q3⟩
    simp [e1]
theorem v_rCheck {n:Nat} {z:bq} (hn:fT n z) (hn3:300<n) {h:ad} (hro:h.ro≤h.nx) {c:List AV} (hc:Cfg h z c):aF (dU n (.agg c) h) fun r h'=>(∃ L:Nat,(∀ k,mX r k=k L)∧(L=0↔PO z=true))∧be h h':=by
  unfold dU Mh EO
  obtain ⟨t,pp,rfl,ht,hp⟩:=hc
  refine aF.bind (wh ..) ?_
  rintro x h1 ⟨hb,g⟩
  have w:CEnv n z h1 x t pp:=⟨hn,hn3,g.le hro,hb,ht.grow g,hp.grow g⟩
  have f0:Flt h1 h1 .nilslice 0:=⟨⟨[],.nil⟩,fun c e=>by cases e⟩
  simp only [au,jC hb,bg]
  refine aF.bind (asZ n (w.cfg .refl)) ?_
  rintro _ h4 ⟨rfl,g4⟩
  have may:PO z=true↔sS z=true∧(Lq z=0∧(Cx z=true∧(Mx z=true∧Rg z 0))):=by
    unfold PO Rg
    rw [Nat.sub_zero, ← List.range_eq_range']
    simp only [iw,iz]
  refine aL.ifB (fun e1=>?_) fun e1=>?_
  · rw [Bool.not_eq_true'] at e1
    refine aF.bind (ate (g4.le w.ro) (f0.grow g4) (by omega) g4 _ _) ?_
    rintro v' h2 ⟨f2,g2⟩
    refine aL.mono (ayU w g2 f2 (by omega)) ?_
    rintro ⟨r,h'⟩ ⟨⟨L',q1,q2⟩,q3⟩
    refine ⟨⟨L',q1,q2.trans ?_⟩,g.trans q3⟩
    rw [may,e1]
    simp
  · rw [Bool.not_eq_false'] at e1
    refine aL.mono (ayU w g4 (f0.grow g4) (by omega)) ?_
    rintro ⟨r,h'⟩ ⟨⟨L',q1,q2⟩,q3⟩
    refine ⟨⟨L',q1,q2.trans ?_⟩,g.trans q3⟩
    rw [may,e1]
    simp
theorem v_rMay {n:Nat} {z:bq} (hn:fT n z) (hn3:300<n) {h:ad} (hro:h.ro≤h.nx) {c:List AV} (hc:Cfg h z c):aF (eA n (.agg c) h) fun r h'=>r=PO z∧be h h':=by
  unfold eA O7 GS
  obtain ⟨t,pp,rfl,ht,hp⟩:=hc
  refine aF.bind (wh ..) ?_
  rintro x h1 ⟨hb,g⟩
  simp only [au,jC hb,bg]
  refine aF.bind (v_rCheck hn hn3 (g.le hro) (Cfg.mk' (ht.grow g) (hp.grow g))) ?_
  rintro r h2 ⟨⟨L,q1,q2⟩,g2⟩
  simp only [au,q1]
  refine nT ⟨?_,g.trans g2⟩
  rw [Bool.eq_iff_iff, ← q2]
  simp
theorem v_rthere {n:Nat} {z:bq} (hn:fT n z) (hn3:300<n) {h:ad} (hro:h.ro≤h.nx) {c:List AV} (hc:Cfg h z c) (p:Int):aF (dR n (.agg c) p h) fun r h'=>r=HS z p∧be h h':=by
  unfold dR Ma Ek xD
  obtain ⟨t,pp,rfl,ht,hp⟩:=hc
  refine aF.bind (wh ..) ?_
  rintro x h1 ⟨hb,g⟩
  simp only [au,jC hb,bg]
  refine aF.bind (v_rMay hn hn3 (g.le hro) (Cfg.mk' (ht.grow g) (hp.grow g))) ?_
  rintro _ h2 ⟨rfl,g2⟩
  simp only [au,jC (g2.cl hb),bg,hp.2.choose_spec.1.len]
  refine aL.ifB (fun e1=>nT ⟨by simp at e1; simp [HS,e1],g.trans g2⟩) fun e1=>aL.ifB (fun e2=>nT ⟨by simp at e1 e2; simp [HS,e1]; omega,g.trans g2⟩) fun e2=>
    aL.ifB (fun e3=>nT ⟨by simp at e1 e2 e3; simp [HS,e1]; omega,g.trans g2⟩) fun e3=>nT ⟨by simp at e1 e2 e3; simp [HS,e1]; omega,g.trans g2⟩
theorem v_rTotal {n:Nat} {z:bq} (hn:fT n z) (hn3:300<n) {h:ad} (hro:h.ro≤h.nx) {c:List AV} (hc:Cfg h z c) (p:Int):dM (dQ n (.agg c) p h) fun _ e h'=>e=HS z p∧be h h':=by
  unfold dQ Mv EQ
  obtain ⟨t,pp,rfl,ht,hp⟩:=hc
  refine aF.bind (wh ..) ?_
  rintro x h1 ⟨hb,g⟩
  simp only [au,jC hb,bg]
  refine aF.bind (v_rthere hn hn3 (g.le hro) (Cfg.mk' (ht.grow g) (hp.grow g)) p) ?_
  rintro _ h2 ⟨rfl,g2⟩
  have t2:=g.trans g2
  refine aL.ifB (fun e1=>KS ⟨rfl,t2⟩) fun e1=>?_
  simp at e1
  have hm:PO z=true∧0≤p∧p<z.parts.length:=by
    unfold HS at e1
    split at e1
    · rename_i h1
      split at e1
      · rename_i h2; exact ⟨h1,h2⟩
      · cases e1
    · cases e1
  obtain ⟨q,rfl⟩:=iM hm.2.1
  obtain ⟨_,S,hs,hS⟩:=hp.grow t2
  have hq:q<z.parts.length:=by have:=hm.2.2; omega
  simp only [au,jC (g2.cl hb),bg]
  simp only [aqt hs hq,(hS q hq).len]
  simp only [au,jC (g2.cl hb),bg,ah7 (awq hm.1)]
  exact KS ⟨e1.symm,t2⟩
end Go.Proofs.YtnlbfbiogfilfaaGreat.Sh
