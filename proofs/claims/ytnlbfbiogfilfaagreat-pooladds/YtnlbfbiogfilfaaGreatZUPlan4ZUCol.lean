/- The worst costs, by the code. -/
import Derived.Test.YtnlbfbiogfilfaaGreatZUPlanZUPlan3
import Derived.Test.YtnlbfbiogfilfaaGreatAiShKs
set_option linter.all false
namespace Go.Proofs.YtnlbfbiogfilfaaGreat.Sh
open Go.Ai
def OY (pc ps pm pp pa pf pv pw:Nat):List AV:=[.func jt [] [],.func kO [] [.ptr pm 0],.func kI [] [.ptr pa 0,.ptr pm 0],.func kG [] [.ptr pm 0,.ptr ps 0,.ptr pa 0],
  .func fX [] [.ptr pm 0],.func fV [] [.ptr pp 0],.func kH [] [.ptr pc 0,.ptr pm 0],.func tl [] [.ptr pv 0,.ptr pw 0],.func kR [] [.ptr pm 0,.ptr pc 0,.ptr pf 0],
  .func jB [] [.ptr pm 0,.ptr pc 0,.ptr pf 0],.func jt [] []]
structure BoundsAt (h:Heap) (z:CfgZ) (s:ShapeZ) (pc ps pm pp pa pf pv pw:Nat):Prop where
  fc:h.cl pc (G2 z)
  fs:h.cl ps (FC s)
  fm:At1 h pm .u64 z.miss
  fp:At1 h pp .u64 (pageC z)
  fa:At1 h pa .u64 (allC z s)
  ff:At1 h pf .u64 (azi z s)
  fv:h.cl pv [.func fX [] [.ptr pm 0]]
  fw:h.cl pw [.func fV [] [.ptr pp 0]]
theorem BoundsAt.grow {h h':Heap} {z:CfgZ} {s:ShapeZ} {pc ps pm pp pa pf pv pw:Nat} (b:BoundsAt h z s pc ps pm pp pa pf pv pw) (g:Grow h h'):BoundsAt h' z s pc ps pm pp pa pf pv pw:=
  ⟨g.cl b.fc,g.cl b.fs,g.cl b.fm,g.cl b.fp,g.cl b.fa,g.cl b.ff,g.cl b.fv,g.cl b.fw⟩
theorem fn_0 {f:Nat} {c:List AV}:([AV.func f [] c]:List AV)[0]?=some (.func f [] c):=rfl
theorem v_bounds {n:Nat} {h:Heap} (hro:h.ro≤h.nx) (z:CfgZ) (s:ShapeZ):Run1 (tc n (.agg (G2 z)) (.agg (FC s)) h) fun r h'=>∃ pc ps pm pp pa pf pv pw,r = .agg (OY pc ps pm pp pa pf pv pw)∧BoundsAt h' z s pc ps pm pp pa pf pv pw∧Grow h h':=by
  unfold tc XD Xw
  refine Run1.bind (zw ..) ?_
  rintro pc h1 ⟨c1,g1⟩
  refine Run1.bind (zw ..) ?_
  rintro ps h2 ⟨s2,g2⟩
  have c2:=g2.cl c1
  have t2:=g1.trans g2
  refine Run1.bind (aqf (t2.le hro) _ 0) ?_
  rintro q h3 ⟨hq,oq3,g3⟩
  have c3:=g3.cl c2
  have s3:=g3.cl s2
  have t3:=t2.trans g3
  simp only [cJ,Nat.reduceAdd,bM c3,gL]
  refine Run1.bind (avw (t3.le hro) rfl) ?_
  rintro pm h4 ⟨n4,o4,g4⟩
  have m4:=o4.cl
  have c4:=g4.cl c3
  have s4:=g4.cl s3
  have t4:=t3.trans g4
  simp only [cJ,Nat.reduceAdd,bM c4,bM m4,akG,gL]
  refine Run1.bind (avw (t4.le hro) rfl) ?_
  rintro pp h5 ⟨n5,o5,g5⟩
  have p5:=o5.cl
  have m5:=g5.cl m4
  have c5:=g5.cl c4
  have s5:=g5.cl s4
  have t5:=t4.trans g5
  simp only [cJ,Nat.reduceAdd,bM s5,bM p5,akG,gL]
  refine Run1.bind (avw (t5.le hro) rfl) ?_
  rintro pa h6 ⟨n6,o6,g6⟩
  have a6:=o6.cl
  have p6:=g6.cl p5
  have m6:=g6.cl m5
  have c6:=g6.cl c5
  have s6:=g6.cl s5
  have t6:=t5.trans g6
  simp only [cJ,Nat.reduceAdd,bM s6,bM c6,gL]
  refine Run1.bind (avw (t6.le hro) rfl) ?_
  rintro pf h7 ⟨n7,o7,g7⟩
  have t7:=t6.trans g7
  refine Run1.bind (avw (t7.le hro) rfl) ?_
  rintro pv h8 ⟨n8,o8,g8⟩
  have t8:=t7.trans g8
  refine Run1.bind (avw (t8.le hro) rfl) ?_
  rintro pw h9 ⟨n9,o9,g9⟩
  have t9:=t8.trans g9
  have v9:=g9.cl o8.cl
  simp only [cJ,Nat.reduceAdd,bM v9,bM o9.cl,fn_0]
  have g79:=g8.trans g9
  have g69:=g7.trans g79
  have g39:=g4.trans (g5.trans (g6.trans g69))
  refine Run0.bind (abC (cs:=OY pc ps pm pp pa pf pv pw) (oq3.grow g39) rfl (by show 0+11≤11; decide)) ?_
  intro h10 hp
  rw [aaD _ _ (by rfl)] at hp
  have gq:=hp.grow t9 (Nat.le_trans t2.nx hq)
  simp only [cJ,Nat.reduceAdd,bM hp.own.cl]
  have:sub (OY pc ps pm pp pa pf pv pw) 0 11=some (OY pc ps pm pp pa pf pv pw):=by rw [oB]; rfl
  simp only [cJ,Nat.reduceAdd,this]
  refine je ⟨pc,ps,pm,pp,pa,pf,pv,pw,rfl,?_,gq⟩
  have q3:=oq3.lt
  have k1:=g4.nx
  have k2:=g5.nx
  have k3:=g6.nx
  have k4:=g7.nx
  have k5:=g8.nx
  have k6:=c2.1
  have k7:=s2.1
  exact ⟨hp.cl (by omega) (g69.cl c6),hp.cl (by omega) (g69.cl s6),hp.cl (by omega) (g69.cl m6),hp.cl (by omega) (g69.cl p6),hp.cl (by omega) (g69.cl a6),hp.cl (by omega) (g79.cl o7.cl),hp.cl (by omega) v9,hp.cl (by omega) o9.cl⟩
noncomputable abbrev cfM (n:Nat):dD:=l8 (wm n) (tc n) (gx n) (gn n) (js n) (gX n) (gT n) (gV n) (gW n) (nF n) (gY n) (gA n)
theorem aBp {n:Nat} {h:Heap} {z:CfgZ} {s:ShapeZ} {pc ps pm pp pa pf pv pw:Nat} (b:BoundsAt h z s pc ps pm pp pa pf pv pw) {i:Nat} (hi:i<11) (k:AV→Heap→CRes) :
    cfM n ((OY pc ps pm pp pa pf pv pw).getD i default) [] h k=k (.int .u64 (nz (amz z s) i)) h:=by
  match i,hi with
  | 0,_=>exact rfl
  | 1,_=>exact v_f4 (n:=n) b.fm _
  | 2,_=>exact v_f5 (n:=n) b.fa b.fm _
  | 3,_=>exact v_f6 (n:=n) b.fm b.fs b.fa _
  | 4,_=>exact v_f1 (n:=n) b.fm _
  | 5,_=>exact v_f2 (n:=n) b.fp _
  | 6,_=>exact v_f7 (n:=n) b.fc b.fm _
  | 7,_=>exact v_f8 (n:=n) b.fv b.fw b.fm b.fp _
  | 8,_=>exact v_f9 (n:=n) b.fm b.fc b.ff _
  | 9,_=>exact v_f10 (n:=n) b.fm b.fc b.ff _
  | 10,_=>exact rfl
theorem v_Most_1 {n:Nat} {h:Heap} {z:CfgZ} {s:ShapeZ} {pc ps pm pp pa pf pv pw x y:Nat} (b:BoundsAt h z s pc ps pm pp pa pf pv pw) (hx:h.cl x (G2 z)) (hy:h.cl y (FC s)):∀ (m i:Nat) (a:Int),i≤11→11-i<m→
    Run2 (fun k=>Gw n (wm n) (tc n) (gx n) (gn n) (js n) (gX n) (gT n) (gV n) (gW n) (nF n) (gY n) (gA n) k m (.ptr x 0) (.ptr y 0) a (.agg (OY pc ps pm pp pa pf pv pw)) i h)
      fun v e h'=>h'=h∧e=0∧v=w64 (w64 (w64 s.image*z.miss)+((amz z s).drop i).foldl maxZ a):=by
  intro m
  induction m with
  | zero=>omega
  | succ m ih=>
    intro i a hi hm
    simp only [auJ]
    unfold OZ O8 XY
    refine RunG.ifB (fun e=>?_) fun e=>?_
    · simp at e
      have e':i<(amz z s).length:=by show i<11; omega
      have eF:i<(OY pc ps pm pp pa pf pv pw).length:=by show i<11; omega
      have hd:((OY pc ps pm pp pa pf pv pw)[i])=(OY pc ps pm pp pa pf pv pw).getD i default:=by rw [List.getD_eq_getElem?_getD,List.getElem?_eq_getElem eF]; rfl
      have key:=aBp (n:=n) b (i:=i) (by omega)
      unfold cfM at key
      rw [List.drop_eq_getElem_cons e',List.foldl_cons]
      simp only [cJ,Nat.reduceAdd,axc (l:=OY pc ps pm pp pa pf pv pw) (n:=11) (i:=i) rfl (by omega),hd,key,max2,fW (show i≤9223372036854775806 by omega)]
      have:=ih (i+1) (maxZ a (nz (amz z s) i)) (by omega) (by omega)
      rw [kC e'] at this ⊢
      exact this
    · simp at e
      have:i=11:=by omega
      subst this
      simp only [cJ,Nat.reduceAdd,bM hx,bM hy,gL]
      exact XA ⟨rfl,rfl,rfl⟩
theorem v_Most {n:Nat} (hn:100<n) {h:Heap} (hro:h.ro≤h.nx) (z:CfgZ) (s:ShapeZ):Run2 (yW n (.agg (G2 z)) (.agg (FC s)) h) fun v e h'=>e=asb z s∧(e=0→v=mostC z s)∧Grow h h':=by
  unfold yW ahT agE
  refine Run1.bind (zw ..) ?_
  rintro x h1 ⟨c1,g1⟩
  refine Run1.bind (zw ..) ?_
  rintro y h2 ⟨s2,g2⟩
  have c2:=g2.cl c1
  have t2:=g1.trans g2
  simp only [cJ,Nat.reduceAdd,bM c2,bM s2,gL]
  refine Run1.bind (v_asked (by omega) h2 z s) ?_
  rintro _ h3 ⟨rfl,g3⟩
  have t3:=t2.trans g3
  have c3:=g3.cl c2
  have s3:=g3.cl s2
  refine RunG.ifB (fun e1=>XA ⟨rfl,fun h0=>?_,t3⟩) fun e1=>?_
  · simp at e1; exact (e1 h0).elim
  simp at e1
  simp only [cJ,Nat.reduceAdd,bM c3,bM s3,gL]
  refine Run1.bind (v_bounds (t3.le hro) z s) ?_
  rintro _ h4 ⟨pc,ps,pm,pp,pa,pf,pv,pw,rfl,b,g4⟩
  refine RunG.mono (v_Most_1 b (g4.cl c3) (g4.cl s3) n 0 0 (by omega) (by omega)) ?_
  rintro ⟨v,e,h'⟩ ⟨q1,q2,q3⟩
  refine ⟨by rw [q2,e1],fun _=>?_,by rw [q1]; exact t3.trans g4⟩
  rw [q3]; rfl
end Go.Proofs.YtnlbfbiogfilfaaGreat.Sh
/- The slices and the turns, by the code; what may be. -/
namespace Go.Proofs.YtnlbfbiogfilfaaGreat.Sh
open Go.Ai
theorem build4 (q:IntKind) (a b c d:Int) (k:AV→CRes):yL [.int q 0,.int q 0,.int q 0,.int q 0] [(0,1,.int q a),(1,1,.int q b),(2,1,.int q c),(3,1,.int q d)] k=k (.agg [.int q a,.int q b,.int q c,.int q d]):=rfl
theorem v_shape {n:Nat} {z:CfgZ} {h:Heap} (hro:h.ro≤h.nx) {c:List AV} (hc:Cfg h z c) {p:Nat} (hp:p<z.parts.length) (ho:0≤(cL z p).order):Run1 (ww n (.agg c) p h) fun r h'=>r = .agg (FC (atP z p))∧Grow h h':=by
  unfold ww ach abJ
  obtain ⟨t,pp,rfl,ht,hps,S,hpt,hS⟩:=hc
  refine Run1.bind (zw ..) ?_
  rintro x h1 ⟨hb,g⟩
  refine Run1.bind (aqf (g.le hro) _ 0) ?_
  rintro y h2 ⟨hy,oy,g2⟩
  have t2:=g.trans g2
  simp only [cJ,Nat.reduceAdd,bM (g2.cl hb),gL,SlAt.eld (hpt.grow t2) (show (0:Int)≤(p:Int) by omega) (show (p:Int)<_ by omega),Int.toNat_natCast]
  rw [show z.parts.getD p default=cL z p from rfl] at *
  refine Run1.bind (asl (n:=8) (t2.le hro) (by rfl) (by rfl)) ?_
  rintro w h3 ⟨hw,ow,g3⟩
  have t3:=t2.trans g3
  simp only [cJ,Nat.reduceAdd,bM ow.cl,gL,TZ ho,min2,build4]
  refine Run0.bind (abC (cs:=FC (atP z p)) (oy.grow g3) rfl (by show 0+4≤4; decide)) ?_
  intro h4 hp4
  rw [aaD _ _ (by rfl)] at hp4
  simp only [cJ,Nat.reduceAdd,bM hp4.own.cl,gL]
  exact je ⟨rfl,hp4.grow t3 (Nat.le_trans g.nx hy)⟩
theorem ayE {z:CfgZ} {p:Nat} (h:ahM z p=0):0≤(cL z p).order:=by
  unfold ahM at h
  split at h
  · split at h
    · rename_i hq
      simp [sQ,cR] at hq
      omega
    · cases h
  · cases h
theorem azD {n:Nat} {z:CfgZ} (hn:Fits n z) {t pp:AV} {x:Nat}:∀ (m i:Nat) (h:Heap),h.ro≤h.nx→h.cl x (Es z t pp)→Ints h .i64 t z.turns→Parts h pp z.parts→i≤z.parts.length→z.parts.length-i<m→z.parts.length≤9223372036854775807→
    Run1 (fun k=>rr n (gm n) (gy n) (ns n) (te n) (yW n) (ww n) k m (.ptr x 0) z.parts.length i h) fun r h'=>r=(List.range' i (z.parts.length-i)).all (Ej z)∧Grow h h':=by
  intro m
  induction m with
  | zero=>omega
  | succ m ih=>
    intro i h hro hb ht hp hi hm hl
    simp only [arh]
    unfold Hy Hg QT vR He Hv QP vR He
    refine RunG.ifB (fun e=>?_) fun e=>?_
    · simp at e
      have hr:List.range' i (z.parts.length-i)=i::List.range' (i+1) (z.parts.length-(i+1)):=by
        rw [show z.parts.length-i=(z.parts.length-(i+1))+1 by omega,List.range'_succ]
      rw [hr,List.all_cons]
      simp only [cJ,Nat.reduceAdd,bM hb,gL,fW (show i≤9223372036854775806 by omega)]
      refine Run1.bind (v_part hn hro (Cfg.mk' ht hp) e) ?_
      rintro _ h1 ⟨rfl,g1⟩
      have hb1:=g1.cl hb
      have go:Ej z i=true→∀ h',Grow h h'→RunG ap1 (fun k=>rr n (gm n) (gy n) (ns n) (te n) (yW n) (ww n) k m (.ptr x 0) z.parts.length ((i+1:Nat):Int) h')
          fun r=>r.1=(Ej z i&&(List.range' (i+1) (z.parts.length-(i+1))).all (Ej z))∧Grow h r.2:=by
        intro hs h' g'
        refine RunG.mono (ih (i+1) h' (g'.le hro) (g'.cl hb) (ht.grow g') (hp.grow g') (by omega) (by omega) hl) ?_
        rintro ⟨r,h''⟩ ⟨q1,q2⟩
        exact ⟨by rw [q1,hs,Bool.true_and],g'.trans q2⟩
      refine RunG.ifB (fun e1=>?_) fun e1=>?_
      · simp at e1
        exact go (by simp [Ej,e1]) h1 g1
      simp at e1
      simp only [cJ,Nat.reduceAdd,bM hb1,gL]
      refine Run1.bind (v_shape (n:=n) (h:=h1.shut true) (z:=z) (Nat.le_refl _) (Cfg.shut (Cfg.mk' (ht.grow g1) (hp.grow g1))) e (ayE e1)) ?_
      rintro _ h2 ⟨rfl,g2⟩
      have t2:=g1.trans g2.shut
      refine Run2.bind (v_Most hn.small (t2.le hro) z (atP z i)) ?_
      rintro v er h3 ⟨rfl,hv,g3⟩
      have t3:=t2.trans g3
      have hb3:=t3.cl hb
      simp only [cJ,Nat.reduceAdd,bM hb3,gL]
      refine RunG.ifB (fun e2=>je ⟨?_,t3⟩) fun e2=>?_
      · simp at e2; simp [Ej,e1,e2]
      simp at e2
      rw [hv e2]
      refine RunG.ifB (fun e3=>je ⟨?_,t3⟩) fun e3=>?_
      · simp at e3; simp [Ej,e1,e2,Int.not_le.2 e3]
      · simp at e3
        exact go (by simp [Ej,e1,e2,e3]) h3 t3
    · simp at e
      have:i=z.parts.length:=by omega
      subst this
      exact je ⟨by simp,.refl⟩
theorem v_sliced {n:Nat} {z:CfgZ} (hn:Fits n z) {h:Heap} (hro:h.ro≤h.nx) {c:List AV} (hc:Cfg h z c):Run1 (s8 n (.agg c) h) fun r h'=>r=HD z∧Grow h h':=by
  unfold s8 XJ Yt RW RE Rd Rl QF Q7
  obtain ⟨t,pp,rfl,ht,hp⟩:=hc
  refine Run1.bind (zw ..) ?_
  rintro x h1 ⟨hb,g⟩
  simp only [cJ,Nat.reduceAdd,bM hb,gL]
  refine RunG.ifB (fun e1=>je ⟨by simp at e1; simp [HD,Int.not_le.2 e1],g⟩) fun e1=>RunG.ifB (fun e2=>je ⟨by simp at e2; simp [HD,Int.not_le.2 e2],g⟩) fun e2=>
    RunG.ifB (fun e3=>je ⟨by simp at e3; simp [HD,Int.not_le.2 e3],g⟩) fun e3=>RunG.ifB (fun e4=>je ⟨by simp at e4; simp [HD,Int.not_lt.2 e4],g⟩) fun e4=>?_
  simp at e1 e2 e3 e4
  refine Run1.bind (Vs n (Cfg.mk' (ht.grow g) (hp.grow g))) ?_
  rintro _ h2 ⟨rfl,g2⟩
  have t2:=g.trans g2
  have hb2:=g2.cl hb
  unfold Rn QV
  simp only [cJ,Nat.reduceAdd,bM hb2,gL]
  refine RunG.ifB (fun e5=>je ⟨by simp at e5; simp [HD,e1,e2,e3,e4,e5],t2⟩) fun e5=>?_
  simp at e5
  refine Run1.bind (TH (by have:=hn.small; omega) h2 z) ?_
  rintro _ h3 ⟨rfl,g3⟩
  have t3:=t2.trans g3
  have hb3:=g3.cl hb2
  refine RunG.ifB (fun e6=>je ⟨by simp at e6; simp [HD,e1,e2,e3,e4,e5,e6],t3⟩) fun e6=>?_
  simp at e6
  simp only [cJ,Nat.reduceAdd,bM hb3,gL]
  refine Run2.bind (v_Switch (by have:=hn.small; omega) h3 z _ _) ?_
  rintro v _ h4 ⟨rfl,hv,g4⟩
  have t4:=t3.trans g4
  have hb4:=g4.cl hb3
  unfold QQ QD
  simp only [cJ,Nat.reduceAdd,bM hb4,gL]
  refine RunG.ifB (fun e7=>je ⟨by simp at e7; simp [HD,e1,e2,e3,e4,e5,e6,e7],t4⟩) fun e7=>?_
  simp at e7
  rw [hv e7]
  refine RunG.ifB (fun e8=>je ⟨by simp at e8; simp [HD,e1,e2,e3,e4,e5,e6,e7,Int.not_le.2 e8],t4⟩) fun e8=>?_
  simp at e8
  have hl:=hp.2.choose_spec.1
  simp only [hl.len]
  refine RunG.mono (azD hn n 0 h4 (t4.le hro) hb4 (ht.grow t4) (hp.grow t4) (by omega) (by have:=hn.parts; omega) hl.1) ?_
  rintro ⟨r,h'⟩ ⟨q1,q2⟩
  refine ⟨?_,t4.trans q2⟩
  rw [q1,Nat.sub_zero, ← List.range_eq_range']
  simp [HD,e1,e2,e3,e4,e5,e6,e7,e8]
theorem axw {n:Nat} {z:CfgZ} {h:Heap} {t pp:AV} {x:Nat} (hb:h.cl x (Es z t pp)) (hp:Parts h pp z.parts) (i:Int) (k:Bool→Heap→CRes) :
    lY n i (.ptr x 0) h k=k (!cR i 0 (IntKind.i64.wrap (z.parts.length-1))) h:=by
  unfold lY Ov OB
  simp only [cJ,Nat.reduceAdd,bM hb,gL,hp.2.choose_spec.1.len,Bn]
theorem at5 {n:Nat} {z:CfgZ} {h:Heap} {t pp v:AV} {x:Nat} (hb:h.cl x (Es z t pp)) (hp:Parts h pp z.parts) {l:List Int} (hv:Ints h .i64 v l):∀ (m i:Nat),i≤l.length→l.length-i<m→
    Run1 (fun k=>jd n (lY n) k m v (.func pN [] [.ptr x 0]) l.length i h) fun r h'=>h'=h∧(r<0↔(l.drop i).all (fun p=>cR p 0 (IntKind.i64.wrap (z.parts.length-1)))=true):=by
  intro m
  induction m with
  | zero=>omega
  | succ m ih=>
    intro i hi hm
    simp only [Lx]
    unfold lK lJ pt
    have c1:∀ y h k,et (lY n) (.func pN [] [.ptr x 0]) [.int .i64 y] h k=lY n y (.ptr x 0) h fun u h=>k (.bool u) h:=fun _ _ _=>rfl
    refine RunG.ifB (fun e=>?_) fun e=>?_
    · simp at e
      have hs:=hv.small
      rw [List.drop_eq_getElem_cons e,List.all_cons]
      simp only [cJ,Nat.reduceAdd,hv.elN e,kC e,c1,axw hb hp,fW (show i≤9223372036854775806 by omega)]
      refine RunG.ifB (fun e1=>?_) fun e1=>?_
      · simp at e1
        exact je ⟨rfl,by simp [e1]⟩
      · simp at e1
        refine RunG.mono (ih (i+1) (by omega) (by omega)) ?_
        rintro ⟨r,h'⟩ ⟨q1,q2⟩
        exact ⟨q1,by rw [e1,Bool.true_and]; exact q2⟩
    · simp at e
      have:i=l.length:=by omega
      subst this
      exact je ⟨rfl,by simp⟩
theorem v_turned {n:Nat} {z:CfgZ} (hn:Fits n z) {h:Heap} {c:List AV} (hc:Cfg h z c):Run1 (s9 n (.agg c) h) fun r h'=>r=am2 z∧Grow h h':=by
  unfold s9 Yh Yf QS Ri
  obtain ⟨t,pp,rfl,ht,hp⟩:=hc
  refine Run1.bind (zw ..) ?_
  rintro x h1 ⟨hb,g⟩
  simp only [cJ,Nat.reduceAdd,bM hb,gL,(ht.grow g).len,Bn]
  refine RunG.ifB (fun e1=>?_) fun e1=>je ⟨by simp [am2,e1],g⟩
  unfold iS oM oJ jI qA qP
  simp only [cJ,Nat.reduceAdd,(ht.grow g).len]
  refine Run1.bind (at5 (n:=n) hb (hp.grow g) (ht.grow g) n 0 (by omega) (by have:=hn.turns; omega)) ?_
  rintro r _ ⟨rfl,hr⟩
  refine je ⟨?_,g⟩
  rw [List.drop_zero] at hr
  rw [am2,e1,Bool.true_and,Bool.eq_iff_iff, ← hr]
  simp
end Go.Proofs.YtnlbfbiogfilfaaGreat.Sh
/- Slices that grow by 'append', and what they change. -/
namespace Go.Ai
structure Chg (F:Nat→Prop) (h h':Heap):Prop where
  nx:h.nx≤h'.nx
  ro:h'.ro=h.ro
  old:∀ b,b<h.nx→¬ F b→h'.get b=h.get b
theorem Grow.chg {h h':Heap} (g:Grow h h') (F:Nat→Prop):Chg F h h':=⟨g.nx,g.ro,fun b hb _=>g.old b hb⟩
theorem Chg.trans {F:Nat→Prop} {h h' h'':Heap} (a:Chg F h h') (b:Chg F h' h''):Chg F h h'':=⟨Nat.le_trans a.nx b.nx,b.ro.trans a.ro,fun c hc hf=>(b.old c (Nat.lt_of_lt_of_le hc a.nx) hf).trans (a.old c hc hf)⟩
theorem Chg.mono {F G:Nat→Prop} {h h':Heap} (a:Chg F h h') (hf:∀ b,b<h.nx→F b→G b):Chg G h h':=⟨a.nx,a.ro,fun c hc hg=>a.old c hc fun h=>hg (hf c hc h)⟩
theorem Chg.cl {F:Nat→Prop} {h h':Heap} (a:Chg F h h') {b:Nat} {l:List AV} (hb:h.cl b l) (hf:¬ F b):h'.cl b l:=by
  obtain ⟨h1,rw_,q,h2⟩:=hb
  exact ⟨Nat.lt_of_lt_of_le h1 a.nx,rw_,q,(a.old b h1 hf).trans h2⟩
theorem Chg.own {F:Nat→Prop} {h h':Heap} (a:Chg F h h') {b:Nat} {l:List AV} {q:Nat} (o:Own h b l q) (hf:¬ F b):Own h' b l q:=
  ⟨Nat.lt_of_lt_of_le o.lt a.nx,by rw [a.ro]; exact o.ro,(a.old b o.lt hf).trans o.get⟩
theorem Chg.le {F:Nat→Prop} {h h':Heap} (g:Chg F h h') (hro:h.ro≤h.nx):h'.ro≤h'.nx:=by rw [g.ro]; exact Nat.le_trans hro g.nx
theorem Chg.grow {F:Nat→Prop} {h₀ h h':Heap} (c:Chg F h h') (g:Grow h₀ h) (hf:∀ b,F b→h₀.nx≤b):Grow h₀ h':=
  ⟨Nat.le_trans g.nx c.nx,c.ro.trans g.ro,fun b hb=>(c.old b (Nat.lt_of_lt_of_le hb g.nx) fun h=>by have:=hf b h; omega).trans (g.old b hb)⟩
theorem Put.chg {h h':Heap} {b:Nat} {l:List AV} {q:Nat} (p:Put h b l q h'):Chg (· = b) h h':=⟨by rw [p.nx]; exact Nat.le_refl _,p.ro,fun c _ hc=>p.other c hc⟩
def AV.blk:AV→Option Nat
  | .slice b _ _ _ _=>some b
  | _=>none
def App (h:Heap) (v:AV) (sz L:Nat) (l:List AV):Prop:=(v = .nilslice∧L=0∧l = [])∨∃ b,v = .slice b 0 L 0 true∧Own h b l sz∧l.length=L*sz∧0<L
theorem App.nil {h:Heap} {sz:Nat}:App h .nilslice sz 0 []:=.inl ⟨rfl,rfl,rfl⟩
theorem App.len {h:Heap} {v:AV} {sz L:Nat} {l:List AV} (a:App h v sz L l) (k:Int→CRes):fH v k=k L:=by
  rcases a with ⟨rfl,rfl,_⟩ | ⟨b,rfl,_⟩<;>rfl
theorem App.chg {F:Nat→Prop} {h h':Heap} {v:AV} {sz L:Nat} {l:List AV} (a:App h v sz L l) (c:Chg F h h') (hf:∀ b,v.blk=some b→¬ F b):App h' v sz L l:=by
  rcases a with a | ⟨b,rfl,o,h1,h2⟩
  · exact .inl a
  · exact .inr ⟨b,rfl,c.own o (hf b rfl),h1,h2⟩
theorem App.grow {h h':Heap} {v:AV} {sz L:Nat} {l:List AV} (a:App h v sz L l) (g:Grow h h'):App h' v sz L l:=a.chg (g.chg fun _=>False) fun _ _ h=>h
theorem App.lt {h:Heap} {v:AV} {sz L:Nat} {l:List AV} (a:App h v sz L l) {b:Nat} (hb:v.blk=some b):b<h.nx:=by
  rcases a with ⟨rfl,_,_⟩ | ⟨c,rfl,o,_,_⟩
  · cases hb
  · cases hb; exact o.lt
theorem Ih (v:AV) (h:Heap) (c:AV→Heap→CRes):outK (some (v,h)) c=c v h:=rfl
theorem agn {h:Heap} {b:Nat} {l:List AV} {q:Nat} (o:Own h b l q):ol h b=some l:=by unfold ol; rw [o.get]
theorem abx {h:Heap} {b:Nat} {l:List AV} (o:h.cl b l):ol h b=some l:=by obtain ⟨_,_,_,e⟩:=o; unfold ol; rw [e]
theorem ahS {β:Type} {h:Heap} {b:Nat} {l:List AV} {q:Nat} (o:Own h b l q) (e:β) (k:List AV→Nat→β):aoW h b e k=k l q:=by
  unfold aoW
  have:Nat.blt b h.ro=false:=by rw [blt_eq]; simp; exact o.ro
  rw [this,o.get]
theorem agS {h:Heap} {v:AV} {sz L n bx off ext:Nat} {o:Bool} {l lx new:List AV} (hro:h.ro≤h.nx) (ha:App h v sz L l) (hn:0<n) (hc:h.cl bx lx) (hs:sub lx off (n*sz)=some new) (hm:L+n≤1048576) :
    Run1 (mQ h sz v (.slice bx off n ext o)) fun v' h'=>App h' v' sz (L+n) (l++new)∧v'.blk=some h.nx∧Chg (fun c=>v.blk=some c) h h':=by
  have hsh:VB h sz n (.slice bx off n ext o)=some new:=by
    show (Option.casesOn (ol h bx) none fun l=>sub l off (n*sz):Option (List AV))=_
    rw [abx hc]; exact hs
  have hnew:new.length=n*sz:=by
    rw [oB] at hs
    split at hs
    · rename_i h1; cases hs; simp at h1 ⊢; omega
    · cases hs
  rcases ha with ⟨rfl,rfl,rfl⟩ | ⟨b,rfl,ow,hl,hL⟩
  · refine ⟨(.slice h.nx 0 n 0 true,h.add (.cells new true sz)),⟨.inr ⟨h.nx,by simp,⟨by simp,by simpa using hro,by rw [Heap.get_add,if_pos rfl]; simp⟩,by simpa using hnew,by omega⟩,rfl,(Grow.add).chg _⟩,fun k=>?_⟩
    unfold mQ
    have:sB h sz .nilslice (.slice bx off n ext o)=some (.slice h.nx 0 n 0 true,h.add (.cells new true sz)):=by
      simp only [sB,lenF]
      rw [if_neg (by omega),if_neg (by unfold TI; omega),hsh]
      dsimp only
      rw [Heap.newK_eq]
    rw [this,Ih,pQ,yq]; rfl
  · have hsub:sub l 0 (L*sz)=some l:=by rw [oB,List.drop_zero,if_pos (by omega), ← hl,List.take_length]
    refine ⟨(.slice h.nx 0 (L+n) 0 true,(h.set b .dead).add (.cells (l++new) true sz)),⟨.inr ⟨h.nx,rfl,⟨by simp,by simpa using hro,?_⟩,?_,by omega⟩,rfl,⟨by simp,by simp,fun c hc' hf=>?_⟩⟩,fun k=>?_⟩
    · show ((h.set b .dead).add _).get h.nx=_
      rw [Heap.get_add,if_pos (by simp)]
    · simp [hl,hnew,Nat.add_mul]
    · have hf':b≠c:=fun e=>hf (by rw [e]; rfl)
      show ((h.set b .dead).add _).get c=_
      rw [Heap.get_add,if_neg (by simp; omega),Heap.get_set_other _ hf']
    · unfold mQ
      have:sB h sz (.slice b 0 L 0 true) (.slice bx off n ext o)=some (.slice h.nx 0 (L+n) 0 true,(h.set b .dead).add (.cells (l++new) true sz)):=by
        simp only [sB,lenF]
        rw [if_neg (by omega),if_neg (by omega),if_neg (by unfold TI; omega),agn ow]
        dsimp only
        rw [hsub]
        dsimp only
        rw [hsh]
        dsimp only
        rw [if_pos trivial,ahS ow]
        have h3:(Nat.beq sz sz&&Nat.ble (0+(L+0)*sz) (mv l))=true:=by rw [jC,hl]; simp
        rw [h3]
        dsimp only
        rw [Heap.setK_eq,jz,Heap.newK_eq]
        simp
      rw [this,Ih,pQ,yq]; rfl
end Go.Ai
/- What may be, by the code. -/
namespace Go.Proofs.YtnlbfbiogfilfaaGreat.Sh
open Go.Ai
def Faults (h0 h:Heap) (x L:Nat):Prop:=∃ v l,Own h x [v] 0∧App h v 2 L l∧h0.nx≤x∧∀ b,v.blk=some b→b≠x∧h0.nx≤b
theorem Faults.grow {h0 h h':Heap} {x L:Nat} (f:Faults h0 h x L) (g:Grow h h'):Faults h0 h' x L:=by
  obtain ⟨v,l,h1,h2,h3,h4⟩:=f
  exact ⟨v,l,h1.grow g,h2.grow g,h3,h4⟩
theorem any_0 {v:AV}:([v]:List AV)[0]?=some v:=rfl
theorem build2 (q:IntKind) (a b:Int) (k:AV→CRes):yL [.int q 0,.int q 0] [(0,1,.int q a),(1,1,.int q b)] k=k (.agg [.int q a,.int q b]):=rfl
theorem UR {n:Nat} {h0 h:Heap} {x L:Nat} (hro:h.ro≤h.nx) (g:Grow h0 h) (f:Faults h0 h x L) (hL:L<1000) (may:Bool) (e at_:Int) :
    Run0 (mI n may e at_ (.ptr x 0) h) fun h'=>Faults h0 h' x (if may then L else L+1)∧Grow h0 h':=by
  unfold mI Q3 RL
  refine RunG.ifB (fun e1=>?_) fun e1=>?_
  · simp at e1
    subst e1
    obtain ⟨v,l,ho,ha,hx,hb⟩:=f
    simp only [cJ,Nat.reduceAdd,bM ho.cl,any_0,build2]
    refine Run1.bind (Ip (fun k=>by rfl)) ?_
    rintro _ h1 ⟨rfl,hc,g1⟩
    refine Run1.bind (agS (g1.le hro) (ha.grow g1) (by omega) hc (by rw [oB]; rfl) (by omega)) ?_
    rintro v' h2 ⟨a2,b2,c2⟩
    have ho1:=ho.grow g1
    have ho2:=c2.own ho1 fun e=>(hb x e).1 rfl
    refine Run0.bind (G1 ho2 (by simp) (by rcases a2 with ⟨rfl,h3,_⟩ | ⟨b,rfl,_⟩<;>rfl)) ?_
    intro h3 p3
    have n1:=ho.lt
    have n2:=g1.nx
    refine ret0 ⟨⟨v',_,p3.own,a2.chg p3.chg fun b hb'=>by rw [b2] at hb'; cases hb'; omega,hx,fun b hb'=>?_⟩,?_⟩
    · rw [b2] at hb'
      cases hb'
      have:=g.nx
      exact ⟨by omega,by omega⟩
    · exact p3.grow (c2.grow (g.trans g1) fun b hb'=>(hb b hb').2) hx
  · simp at e1
    subst e1
    exact ret0 ⟨f,g⟩
theorem aBf {n:Nat} {z:CfgZ} (hn:Fits n z) {h0:Heap} {t pp:AV} {x y N:Nat} (hN:N≤z.parts.length) (hN8:N≤8) (hro0:h0.ro≤h0.nx) (hb0:h0.cl x (Es z t pp)) (ht0:Ints h0 .i64 t z.turns) (hp0:Parts h0 pp z.parts) :
    ∀ (m i L:Nat) (h:Heap),Grow h0 h→Faults h0 h y L→L<500+i→i≤N→N-i<m→
    Run1 (fun k=>Dd n (mI n) (gm n) (gy n) (s8 n) (s9 n) (ns n) k m (.ptr x 0) (.ptr y 0) (.func rT [] [.ptr y 0]) N i h)
      fun r h'=>(∃ L':Nat,(∀ k,fH r k=k L')∧(L'=0↔L=0∧(List.range' i (N-i)).all (fun p=>decide (ahM z p=0))=true))∧Grow h0 h':=by
  intro m
  induction m with
  | zero=>omega
  | succ m ih=>
    intro i L h g f hL hi hm
    have hro:=g.le hro0
    simp only [asP]
    unfold JD KT Vq
    refine RunG.ifB (fun e=>?_) fun e=>?_
    · simp at e
      have hr:List.range' i (N-i)=i::List.range' (i+1) (N-(i+1)):=by
        rw [show N-i=(N-(i+1))+1 by omega,List.range'_succ]
      rw [hr,List.all_cons]
      simp only [cJ,Nat.reduceAdd,bM (g.cl hb0),gL,fW (show i≤9223372036854775806 by omega)]
      refine Run1.bind (v_part hn hro (Cfg.mk' (ht0.grow g) (hp0.grow g)) (by omega)) ?_
      rintro _ h1 ⟨rfl,g1⟩
      have c1:∀ b e a h k,io (mI n) (gm n) (gy n) (s8 n) (s9 n) (ns n) (.func rT [] [.ptr y 0]) [.bool b,.int .i64 e,.int .i64 a] h k =
        mI n b e a (.ptr y 0) h fun h=>k (.tuple []) h:=fun _ _ _ _ _=>rfl
      simp only [cJ,Nat.reduceAdd,c1]
      refine Run0.bind (UR (g1.le hro) (g.trans g1) (f.grow g1) (by omega) _ _ _) ?_
      rintro h2 ⟨f2,g2⟩
      refine RunG.mono (ih (i+1) _ h2 g2 f2 (by split<;>omega) (by omega) (by omega)) ?_
      · rintro ⟨r,h'⟩ ⟨⟨L',q1,q2⟩,q3⟩
        refine ⟨⟨L',q1,q2.trans ?_⟩,q3⟩
        by_cases hpe:ahM z i=0<;>simp [hpe]
    · simp at e
      have:i=N:=by omega
      subst this
      obtain ⟨v,l,ho,ha,hx,hb⟩:=f
      simp only [cJ,Nat.reduceAdd,bM ho.cl,any_0]
      exact je ⟨⟨L,ha.len,by simp⟩,g⟩
theorem v_Check {n:Nat} {z:CfgZ} (hn:Fits n z) {h:Heap} (hro:h.ro≤h.nx) {c:List AV} (hc:Cfg h z c):Run1 (EP n (.agg c) h) fun r h'=>(∃ L:Nat,(∀ k,fH r k=k L)∧(L=0↔Qm z=true))∧Grow h h':=by
  unfold EP aby acz
  obtain ⟨t,pp,rfl,ht,hp⟩:=hc
  refine Run1.bind (zw ..) ?_
  rintro x h0 ⟨hb,g⟩
  have hro0:=g.le hro
  have ht0:=ht.grow g
  have hp0:=hp.grow g
  refine Run1.bind (aqf hro0 [.nilslice] 0) ?_
  rintro y h3 ⟨hy,oy,g3⟩
  have f3:Faults h0 h3 y 0:=⟨.nilslice,[],oy,.nil,hy,fun b hb=>by cases hb⟩
  simp only [cJ,Nat.reduceAdd,bM (g3.cl hb),gL]
  refine Run1.bind (Vs n (Cfg.mk' (ht0.grow g3) (hp0.grow g3))) ?_
  rintro _ h4 ⟨rfl,g4⟩
  refine Run0.bind (UR ((g3.trans g4).le hro0) (g3.trans g4) (f3.grow g4) (by omega) _ _ _) ?_
  rintro h5 ⟨f5,g5⟩
  simp only [cJ,Nat.reduceAdd,bM (g5.cl hb),gL]
  refine Run1.bind (TH (by have:=hn.small; omega) h5 z) ?_
  rintro _ h6 ⟨rfl,g6⟩
  refine Run0.bind (UR ((g5.trans g6).le hro0) (g5.trans g6) (f5.grow g6) (by split<;>omega) _ _ _) ?_
  rintro h7 ⟨f7,g7⟩
  simp only [cJ,Nat.reduceAdd,bM (g7.cl hb),gL]
  refine Run1.bind (v_sliced hn (g7.le hro0) (Cfg.mk' (ht0.grow g7) (hp0.grow g7))) ?_
  rintro _ h8 ⟨rfl,g8⟩
  refine Run0.bind (UR ((g7.trans g8).le hro0) (g7.trans g8) (f7.grow g8) (by split<;>split<;>omega) _ _ _) ?_
  rintro h9 ⟨f9,g9⟩
  simp only [cJ,Nat.reduceAdd,bM (g9.cl hb),gL]
  refine Run1.bind (v_turned hn (Cfg.mk' (ht0.grow g9) (hp0.grow g9))) ?_
  rintro _ h10 ⟨rfl,g10⟩
  refine Run0.bind (UR ((g9.trans g10).le hro0) (g9.trans g10) (f9.grow g10) (by split<;>split<;>split<;>omega) _ _ _) ?_
  rintro h11 ⟨f11,g11⟩
  simp only [cJ,Nat.reduceAdd,bM (g11.cl hb),gL,hp0.2.choose_spec.1.len,min2]
  have hmin:minZ (z.parts.length:Int) 8=((min z.parts.length 8:Nat):Int):=by unfold minZ; split<;>omega
  rw [hmin]
  refine RunG.mono (aBf hn (N:=min z.parts.length 8) (by omega) (by omega) hro0 hb ht0 hp0 n 0 _ h11 g11 f11 (by split<;>split<;>split<;>split<;>omega) (by omega) (by have:=hn.small; omega)) ?_
  rintro ⟨r,h'⟩ ⟨⟨L,q1,q2⟩,q3⟩
  refine ⟨⟨L,q1,q2.trans ?_⟩,g.trans q3⟩
  rw [Nat.sub_zero, ← List.range_eq_range']
  simp only [Qm,Bool.and_eq_true]
  cases qG z<;>by_cases hcz:anl z=0<;>cases HD z<;>cases am2 z<;>simp [hcz]
theorem v_May {n:Nat} {z:CfgZ} (hn:Fits n z) {h:Heap} (hro:h.ro≤h.nx) {c:List AV} (hc:Cfg h z c):Run1 (i9 n (.agg c) h) fun r h'=>r=Qm z∧Grow h h':=by
  unfold i9 alp alY
  obtain ⟨t,pp,rfl,ht,hp⟩:=hc
  refine Run1.bind (zw ..) ?_
  rintro x h1 ⟨hb,g⟩
  simp only [cJ,Nat.reduceAdd,bM hb,gL]
  refine Run1.bind (v_Check hn (g.le hro) (Cfg.mk' (ht.grow g) (hp.grow g))) ?_
  rintro r h2 ⟨⟨L,q1,q2⟩,g2⟩
  simp only [cJ,Nat.reduceAdd,q1]
  refine je ⟨?_,g.trans g2⟩
  rw [Bool.eq_iff_iff, ← q2]
  simp
def DT (z:CfgZ) (p:Int):Int:=if Qm z then (if 0≤p∧p<z.parts.length then 0 else 270) else 5
theorem v_there {n:Nat} {z:CfgZ} (hn:Fits n z) {h:Heap} (hro:h.ro≤h.nx) {c:List AV} (hc:Cfg h z c) (p:Int):Run1 (Eg n (.agg c) p h) fun r h'=>r=DT z p∧Grow h h':=by
  unfold Eg abL acy U6 Vz
  obtain ⟨t,pp,rfl,ht,hp⟩:=hc
  refine Run1.bind (zw ..) ?_
  rintro x h1 ⟨hb,g⟩
  simp only [cJ,Nat.reduceAdd,bM hb,gL]
  refine Run1.bind (v_May hn (g.le hro) (Cfg.mk' (ht.grow g) (hp.grow g))) ?_
  rintro _ h2 ⟨rfl,g2⟩
  simp only [cJ,Nat.reduceAdd,bM (g2.cl hb),gL,hp.2.choose_spec.1.len]
  refine RunG.ifB (fun e1=>je ⟨by simp at e1; simp [DT,e1],g.trans g2⟩) fun e1=>RunG.ifB (fun e2=>je ⟨by simp at e1 e2; simp [DT,e1]; omega,g.trans g2⟩) fun e2=>
    RunG.ifB (fun e3=>je ⟨by simp at e1 e2 e3; simp [DT,e1]; omega,g.trans g2⟩) fun e3=>je ⟨by simp at e1 e2 e3; simp [DT,e1]; omega,g.trans g2⟩
theorem aye {z:CfgZ} (h:Qm z=true):z.colours≠0:=aeg (by simp [Qm] at h; exact h.1)
theorem azV {n:Nat} {z:CfgZ} (hn:Fits n z) {h:Heap} (hro:h.ro≤h.nx) {c:List AV} (hc:Cfg h z c) (p:Int):Run2 (qi n (.agg c) p h) fun v e h'=>e=DT z p∧(e=0→v=vj z p.toNat)∧Grow h h':=by
  unfold qi abN abQ
  obtain ⟨t,pp,rfl,ht,hp⟩:=hc
  refine Run1.bind (zw ..) ?_
  rintro x h1 ⟨hb,g⟩
  simp only [cJ,Nat.reduceAdd,bM hb,gL]
  refine Run1.bind (v_there hn (g.le hro) (Cfg.mk' (ht.grow g) (hp.grow g)) p) ?_
  rintro _ h2 ⟨rfl,g2⟩
  have t2:=g.trans g2
  refine RunG.ifB (fun e1=>XA ⟨rfl,fun h0=>?_,t2⟩) fun e1=>?_
  · simp at e1; exact (e1 h0).elim
  simp at e1
  have hm:Qm z=true∧0≤p∧p<z.parts.length:=by
    unfold DT at e1
    split at e1
    · rename_i h1
      split at e1
      · rename_i h2; exact ⟨h1,h2⟩
      · cases e1
    · cases e1
  simp only [cJ,Nat.reduceAdd,bM (g2.cl hb),gL]
  obtain ⟨q,rfl⟩:=Int.eq_ofNat_of_zero_le hm.2.1
  refine Run1.bind (az2 (aye hm.1) (Cfg.mk' (ht.grow t2) (hp.grow t2)) (by omega)) ?_
  rintro _ h3 ⟨rfl,g3⟩
  exact XA ⟨e1.symm,fun _=>rfl,t2.trans g3⟩
end Go.Proofs.YtnlbfbiogfilfaaGreat.Sh
/- What the functions of 'colour' compute, and those of 'slices'. -/
namespace Go.Proofs.YtnlbfbiogfilfaaGreat.Sh
open Go.Ai
@[simp] theorem A8 (n:Nat) (a b c:Int) (h:Heap) (k:Bool→Heap→CRes):ft n a b c h k=k (cR a b c) h:=by
  unfold ft QK RC Ld JH
  by_cases hc:a<b
  · simp [cR,hc,show ¬ b≤a by omega]
  · simp [cR,hc,show b≤a by omega, ← Int.not_lt]
@[simp] theorem TF (n:Nat) (a:Int) (h:Heap) (k:Bool→Heap→CRes):kh n a h k=k (cR a 1 16) h:=by
  unfold kh ab5 acx; simp only [cJ,Nat.reduceAdd,A8]
theorem u_Count (n:Nat) {fr co c:Int} (h1:cR fr 1 4096=true) (h2:cR co 1 16=true) (h3:0≤c) (h4:c<co) (h:Heap) (k:Int→Int→Heap→CRes) :
    ue n fr co c h k=k ((fr-c+co-1)/co) 0 h:=by
  unfold ue Uu Ut NQ NV Om Nk
  simp [cR] at h1 h2
  have e1:IntKind.i64.wrap (co-1)=co-1:=jU (by omega) (by omega)
  have e2:cR c 0 (co-1)=true:=by simp [cR]; omega
  have e3:cR fr 1 4096=true:=by simp [cR]; omega
  have e4:cR co 1 16=true:=by simp [cR]; omega
  have e5:IntKind.i64.wrap (fr-c)=fr-c:=jU (by omega) (by omega)
  have e6:IntKind.i64.wrap (fr-c+co)=fr-c+co:=jU (by omega) (by omega)
  have e7:IntKind.i64.wrap (fr-c+co-1)=fr-c+co-1:=jU (by omega) (by omega)
  simp only [cJ,Nat.reduceAdd,A8,TF,e1,e2,e3,e4,Bool.not_true,e5,e6,e7,ary (show co≠0 by omega)]
  by_cases hp:0≤fr-c+co-1
  · rw [Int.tdiv_eq_ediv_of_nonneg hp,jU]
    · have:0≤(fr-c+co-1)/co:=Int.ediv_nonneg hp (by omega)
      omega
    · have:=Int.ediv_le_self (b:=co) hp
      omega
  · omega
theorem u_Frame (n:Nat) {c i co:Int} (h2:cR co 1 16=true) (h3:0≤c) (h4:c<co) (h5:0≤i) (h6:i*co+c≤4095) (h:Heap) (k:Int→Int→Heap→CRes) :
    uD n c i co h k=k (i*co+c) 0 h:=by
  unfold uD Uf Ud Oc Oi Nw Nh
  simp [cR] at h2
  have e1:IntKind.i64.wrap (co-1)=co-1:=jU (by omega) (by omega)
  have e2:cR c 0 (co-1)=true:=by simp [cR]; omega
  have e4:cR co 1 16=true:=by simp [cR]; omega
  have e5:IntKind.i64.wrap (4095-c)=4095-c:=jU (by omega) (by omega)
  have hq:i≤(4095-c)/co:=by rw [Int.le_ediv_iff_mul_le (by omega)]; omega
  have hq2:(4095-c)/co≤4095-c:=Int.ediv_le_self _ (by omega)
  have e6:IntKind.i64.wrap ((4095-c).tdiv co)=(4095-c)/co:=by
    rw [Int.tdiv_eq_ediv_of_nonneg (by omega),jU (by omega) (by omega)]
  have e7:cR i 0 ((4095-c)/co)=true:=by simp [cR]; omega
  have hm:0≤i*co:=Int.mul_nonneg h5 (by omega)
  have e8:IntKind.i64.wrap (i*co)=i*co:=jU (by omega) (by omega)
  have e9:IntKind.i64.wrap (i*co+c)=i*co+c:=jU (by omega) (by omega)
  simp only [cJ,Nat.reduceAdd,A8,TF,e1,e2,e4,Bool.not_true,e5,e6,e7,e8,e9,ary (show co≠0 by omega)]
@[simp] theorem azt (n:Nat) (a b:Int) (h:Heap) (k:Bool→Heap→CRes):rY n a b h k=k (decide (a<b)) h:=by
  unfold rY Re QG KN KV K0 Ku xA Og N0
  simp
@[simp] theorem atw (n:Nat) (a:Int) (h:Heap) (k:Bool→Heap→CRes):mn n a h k=k false h:=by
  unfold mn Fn FU
  simp
def alG (l:List Int) (x:Int) (i:Nat):Prop:=i≤l.length∧(l.Pairwise (· < ·)→(∀ j,j<i→nz l j<x)∧∀ j,i≤j→j<l.length→x≤nz l j)
theorem avL {l:List Int} (hs:l.Pairwise (· < ·)) {i j:Nat} (h:i≤j) (hj:j<l.length):nz l i≤nz l j:=by
  rw [kC hj,kC (by omega)]
  by_cases e:i=j
  · subst e; exact Int.le_refl _
  · exact Int.le_of_lt (List.pairwise_iff_getElem.1 hs i j (by omega) hj (by omega))
theorem v_BS_2 {n:Nat} {h:Heap} {v:AV} {l:List Int} {x:Int} (hv:Ints h .i64 v l) (hs:l.length≤1099511627776):∀ (m lo hi:Nat),lo≤hi→hi≤l.length→hi-lo<m→
    (l.Pairwise (· < ·)→(∀ j,j<lo→nz l j<x)∧∀ j,hi≤j→j<l.length→x≤nz l j)→
    Run2 (fun k=>ib n (rY n) (mn n) k m v x l.length lo hi h) fun r b h'=>h'=h∧∃ i:Nat,r=i∧alG l x i∧b=decide (i<l.length∧nz l i=x):=by
  intro m
  induction m with
  | zero=>omega
  | succ m ih=>
    intro lo hi h1 h2 h3 hinv
    simp only [HL]
    unfold jY ki nk nh nb
    refine RunG.ifB (fun e=>?_) fun e=>?_
    · simp at e
      have e1:IntKind.i64.wrap ((lo:Int)+hi)=((lo+hi:Nat):Int):=by rw [jU (by omega) (by omega)]; omega
      have e2:IntKind.u64.wrap (((lo+hi:Nat):Int))=((lo+hi:Nat):Int):=wrap_u (by omega) (by omega)
      have e3:∀ c,shrK .u64 (((lo+hi:Nat):Int)) 1 c=c (((lo+hi)/2:Nat):Int):=by
        intro c
        show aqw ((1:Nat):Int) (fun n=>rD (shrF .u64 _ n) c)=_
        rw [ama,lW]
        rfl
      have e4:IntKind.i64.wrap ((((lo+hi)/2:Nat):Int))=(((lo+hi)/2:Nat):Int):=jU (by omega) (by omega)
      have hm:(lo+hi)/2<l.length:=by omega
      simp only [cJ,Nat.reduceAdd,e1,e2,e3,e4,hv.elN hm,azt,fW (show (lo+hi)/2≤9223372036854775806 by omega)]
      refine RunG.ifB (fun e5=>?_) fun e5=>?_
      · simp at e5
        refine ih _ _ (by omega) h2 (by omega) fun hp=>⟨fun j hj=>?_,(hinv hp).2⟩
        exact Int.lt_of_le_of_lt (avL hp (show j≤(lo+hi)/2 by omega) hm) e5
      · simp at e5
        refine ih _ _ (by omega) (by omega) (by omega) fun hp=>⟨(hinv hp).1,fun j hj hj'=>?_⟩
        exact Int.le_trans e5 (avL hp hj hj')
    · simp at e
      have:lo=hi:=by omega
      subst this
      refine RunG.ifB (fun e1=>?_) fun e1=>?_
      · simp at e1
        simp only [cJ,Nat.reduceAdd,hv.elN e1,atw]
        refine RunG.ifB (fun e2=>?_) fun e2=>?_
        · simp at e2
          exact XA ⟨rfl,lo,rfl,⟨h2,hinv⟩,by simp [e1,e2]⟩
        · simp at e2
          exact XA ⟨rfl,lo,rfl,⟨h2,hinv⟩,by simp [e2]⟩
      · simp at e1
        exact XA ⟨rfl,lo,rfl,⟨h2,hinv⟩,by simp; omega⟩
theorem v_BS {n:Nat} {h:Heap} {v:AV} {l:List Int} (hv:Ints h .i64 v l) (hs:l.length≤1099511627776) (hn:l.length<n) (x:Int):Run2 (dQ n v x h) fun r b h'=>h'=h∧∃ i:Nat,r=i∧alG l x i∧b=decide (i<l.length∧nz l i=x):=by
  unfold dQ oi oO
  simp only [hv.len]
  exact v_BS_2 hv hs n 0 l.length (by omega) (by omega) (by omega) fun hp=>⟨fun j hj=>by omega,fun j hj hj'=>by omega⟩
end Go.Proofs.YtnlbfbiogfilfaaGreat.Sh
