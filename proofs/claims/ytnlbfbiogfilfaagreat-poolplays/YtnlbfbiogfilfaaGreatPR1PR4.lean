/- The document's answer: sizes, colours, quotas of a partition (cofferdamref11), costs (cofferdamref10). -/
import Derived.Test.YtnlbfbiogfilfaaGreatPUPlan5PUCol
set_option linter.all false
namespace Go.Proofs.YtnlbfbiogfilfaaGreat.Sh
open Go.Ai
theorem avt (a UH:Int):SM a UH=(decide (0<a)&&(andZ a (IntKind.i64.wrap (a-1))==0)&&decide (a≤UH)):=by
  unfold SM kG
  by_cases h1:0<a
  · have:decide (1≤a)=true:=iO (by omega)
    rw [this,iO h1]
    cases decide (a≤UH)<;>simp
  · have:decide (1≤a)=false:=iJ (by omega)
    rw [this,iJ h1]
    simp
theorem aFP (n:Nat) (a:Int) (h:ad) (k:Bool→ad→ah):aN n a h k=k (decide (0<a)&&(andZ a (IntKind.i64.wrap (a-1))==0)) h:=by
  unfold aN Ml Ey xK
  simp only [au]
  by_cases hc:0<a<;>simp [hc]
theorem axZ (n:Nat) (a:Int) (h:ad) (k:Bool→ad→ah):bK n a h k=k (qZ 1 a) h:=by
  unfold bK PP Ht zt
  simp only [au]
  by_cases hc:a<1
  · simp [hc,qZ,show ¬ 1≤a by omega]
  · simp [hc,qZ,show 1≤a by omega, ← Int.not_lt]
theorem aan (n:Nat) (a b c:Int) (h:ad) (k:Bool→ad→ah):bw n a b c h k=k (kG a b c) h:=by
  unfold bw JQ Df wW
  simp only [au]
  by_cases hc:a<b
  · simp [kG,hc,show ¬ b≤a by omega]
  · simp [kG,hc,show b≤a by omega, ← Int.not_lt]
theorem ams (n:Nat) (a b c:Int) (h:ad) (k:Bool→ad→ah):bR n a b c h k=k (kG a b c) h:=by
  unfold bR KP De wT
  simp only [au]
  by_cases hc:a<b
  · simp [kG,hc,show ¬ b≤a by omega]
  · simp [kG,hc,show b≤a by omega, ← Int.not_lt]
theorem HZ (a b:Int):(!decide (a<b))=decide (b≤a):=by
  by_cases h:a<b
  · rw [iO h,iJ (by omega)]; rfl
  · rw [iJ h,iO (by omega)]; rfl
theorem atJ (n:Nat) {h1:ad} {z:bq} {t p:AV} {x:Nat} (hb:h1.cl x (Hx z t p)) {L:Nat} (hlen:∀ k,mX p k=k (L:Int)) (v b:Bool) :
    aF (fun k=>rh n (aN n) k (.ptr x 0) v b h1) fun r h'=>r=(!(v&&(b&&(kG z.ways 1 16&&(kG z.l1ways 1 16&&kG z.tlb 1 64)))&&kG L 1 8))∧h'=h1:=by
  have q3:∀ (k:cn) (b:Bool),rh n (aN n) k (.ptr x 0) v b h1=ra n (aN n) k (.ptr x 0) v (b&&(!decide (z.ways<1))) h1:=by
    intro k b
    unfold rh
    cases b<;>simp only [au,jC hb,bg,Bool.false_and,Bool.true_and]
  have q4:∀ (k:cn) (b:Bool),ra n (aN n) k (.ptr x 0) v b h1=rq n (aN n) k (.ptr x 0) v (b&&(!decide (16<z.ways))) h1:=by
    intro k b
    unfold ra
    cases b<;>simp only [au,jC hb,bg,Bool.false_and,Bool.true_and]
  have q5:∀ (k:cn) (b:Bool),rq n (aN n) k (.ptr x 0) v b h1=ri n (aN n) k (.ptr x 0) v (b&&(!decide (z.l1ways<1))) h1:=by
    intro k b
    unfold rq
    cases b<;>simp only [au,jC hb,bg,Bool.false_and,Bool.true_and]
  have q6:∀ (k:cn) (b:Bool),ri n (aN n) k (.ptr x 0) v b h1=rx n (aN n) k (.ptr x 0) v (b&&(!decide (16<z.l1ways))) h1:=by
    intro k b
    unfold ri
    cases b<;>simp only [au,jC hb,bg,Bool.false_and,Bool.true_and]
  have q7:∀ (k:cn) (b:Bool),rx n (aN n) k (.ptr x 0) v b h1=qY n (aN n) k (.ptr x 0) v (b&&(!decide (z.tlb<1))) h1:=by
    intro k b
    unfold rx
    cases b<;>simp only [au,jC hb,bg,Bool.false_and,Bool.true_and]
  have q8:∀ (k:cn) (b:Bool),qY n (aN n) k (.ptr x 0) v b h1=qX n (aN n) k (.ptr x 0) v (b&&(!decide (64<z.tlb))) h1:=by
    intro k b
    unfold qY
    cases b<;>simp only [au,jC hb,bg,Bool.false_and,Bool.true_and]
  have q9:∀ (k:cn) (b:Bool),qX n (aN n) k (.ptr x 0) v b h1=rv n (aN n) k (.ptr x 0) (!(v&&b)) h1:=by
    intro k b
    unfold qX
    cases v<;>simp only [au,Bool.false_and,Bool.true_and,Bool.not_false,Bool.not_true]
  have q0:∀ (k:cn) (b:Bool),rv n (aN n) k (.ptr x 0) b h1=k (b||(decide ((L:Int)<1)||decide (8<(L:Int)))) h1:=by
    intro k b
    unfold rv vP vS
    cases b
    · simp only [au,jC hb,bg,hlen,Bool.false_or]
      cases decide ((L:Int)<1)<;>simp only [au,Bool.false_or,Bool.true_or]
    · simp only [au,Bool.true_or]
  simp only [q3,q4,q5,q6,q7,q8,q9,q0]
  refine nT ⟨?_,rfl⟩
  simp only [HZ]
  unfold kG
  have e1:(decide ((L:Int)<1)||decide (8<(L:Int))) = !(decide (1≤(L:Int))&&decide ((L:Int)≤8)):=by
    rw [Bool.not_and, ← HZ, ← HZ,Bool.not_not,Bool.not_not]
  rw [e1]
  cases v<;>cases b<;>simp only [Bool.false_and,Bool.true_and,Bool.and_false,Bool.and_true,Bool.not_false,Bool.not_true,Bool.true_or,Bool.false_or,Bool.not_and,Bool.and_assoc]
  simp only [Bool.or_assoc]
theorem asZ (n:Nat) {h:ad} {z:bq} {c:List AV} (hc:Cfg h z c):aF (aC n (.agg c) h) fun r h'=>r=(!sS z)∧be h h':=by
  unfold aC HH B8
  obtain ⟨t,p,rfl,ht,hp⟩:=hc
  refine aF.bind (wh ..) ?_
  rintro x h1 ⟨hb,g⟩
  have hlen:=(hp.grow g).2.choose_spec.1.len
  have s12:∀ v:Bool,aF (fun k=>pI n (aN n) k (.ptr x 0) v h1) fun r h'=>r=(!(v&&(SM z.l1sets 4096&&(kG z.ways 1 16&&(kG z.l1ways 1 16&&kG z.tlb 1 64)))&&kG z.parts.length 1 8))∧h'=h1:=by
    intro v
    unfold pI
    simp only [au,jC hb,bg,aFP]
    rw [avt]
    refine aL.ifB (fun e=>?_) fun e=>?_
    · rw [e,Bool.true_and,HZ]
      exact atJ n hb hlen v _
    · rw [e,Bool.false_and]
      exact atJ n hb hlen v false
  simp only [au,jC hb,bg,aFP]
  have fin:∀ v:Bool,(v=(SM z.gG 16&&(kG z.frames 1 4096&&(z.frames.tmod z.gG==0))))→aF (fun k=>pI n (aN n) k (.ptr x 0) v h1) fun r h'=>r=(!sS z)∧be h h':=by
    intro v hv
    refine aL.mono (s12 v) ?_
    rintro ⟨r,h'⟩ ⟨e1,rfl⟩
    refine ⟨e1.trans ?_,g⟩
    rw [hv]
    unfold sS
    simp only [Bool.and_assoc]
  have no:∀ v:Bool,(SM z.gG 16&&kG z.frames 1 4096)=false→v=false→aF (fun k=>pI n (aN n) k (.ptr x 0) v h1) fun r h'=>r=(!sS z)∧be h h':=by
    intro v h1 h2
    refine fin v ?_
    rw [h2, ← Bool.and_assoc,h1,Bool.false_and]
  have q13:∀ (k:cn) (b:Bool),qM n (aN n) k (.ptr x 0) b h1=qN n (aN n) k (.ptr x 0) (b&&!decide (z.frames<1)) h1:=by
    intro k b
    unfold qM
    cases b<;>simp only [au,jC hb,bg,Bool.false_and,Bool.true_and]
  have q10:∀ (k:cn) (b:Bool),qN n (aN n) k (.ptr x 0) b h1=sG n (aN n) k (.ptr x 0) (b&&!decide (4096<z.frames)) h1:=by
    intro k b
    unfold qN
    cases b<;>simp only [au,jC hb,bg,Bool.false_and,Bool.true_and]
  have s13:∀ b:Bool,b=SM z.gG 16→aF (fun k=>qM n (aN n) k (.ptr x 0) b h1) fun r h'=>r=(!sS z)∧be h h':=by
    intro b hb'
    simp only [q13,q10]
    have e2:(b&&!decide (z.frames<1)&&!decide (4096<z.frames))=(SM z.gG 16&&kG z.frames 1 4096):=by
      rw [hb',HZ,HZ,Bool.and_assoc]; rfl
    rw [e2]
    unfold sG
    refine aL.ifB (fun e=>?_) fun e=>no false e rfl
    have hz:z.gG≠0:=by
      simp [SM,kG] at e; omega
    simp only [au,jC hb,bg,aqo hz]
    exact fin _ (by rw [← Bool.and_assoc,e,Bool.true_and])
  refine aL.ifB (fun e=>?_) fun e=>?_
  · exact s13 _ (by rw [avt,e,Bool.true_and,HZ])
  · exact s13 _ (by rw [avt,e,Bool.false_and])
theorem axB (n:Nat) (h:ad) (z:bq):aF (aR n (.agg (Ko z)) h) fun r h'=>r=Lq z∧be h h':=by
  unfold aR Md El
  refine aF.bind (wh ..) ?_
  rintro x h1 ⟨hb,g⟩
  have q0:∀ (k:dy) (b:Bool),sq n (bK n) k (.ptr x 0) b h1=sC n (bK n) k (.ptr x 0) (b||(!qZ 1 z.miss)) h1:=by
    intro k b
    unfold sq
    cases b<;>simp only [au,jC hb,bg,axZ,Bool.false_or,Bool.true_or]
  have q1:∀ (k:dy) (b:Bool),sC n (bK n) k (.ptr x 0) b h1=sy n (bK n) k (.ptr x 0) (b||decide (z.llc<z.l1)) h1:=by
    intro k b
    unfold sC
    cases b<;>simp only [au,jC hb,bg,axZ,Bool.false_or,Bool.true_or]
  have q2:∀ (k:dy) (b:Bool),sy n (bK n) k (.ptr x 0) b h1=sr n (bK n) k (.ptr x 0) (b||decide (z.miss<z.llc)) h1:=by
    intro k b
    unfold sy
    cases b<;>simp only [au,jC hb,bg,axZ,Bool.false_or,Bool.true_or]
  have q3:∀ (k:dy) (b:Bool),sr n (bK n) k (.ptr x 0) b h1=sD n (bK n) k (.ptr x 0) (b||(!qZ 1 z.fault)) h1:=by
    intro k b
    unfold sr
    cases b<;>simp only [au,jC hb,bg,axZ,Bool.false_or,Bool.true_or]
  have q4:∀ (k:dy) (b:Bool),sD n (bK n) k (.ptr x 0) b h1=sB n (bK n) k (.ptr x 0) (b||(!qZ 1 z.step)) h1:=by
    intro k b
    unfold sD
    cases b<;>simp only [au,jC hb,bg,axZ,Bool.false_or,Bool.true_or]
  have q5:∀ (k:dy) (b:Bool),sB n (bK n) k (.ptr x 0) b h1=uT n (bK n) k (b||(!qZ 1 z.disk)) h1:=by
    intro k b
    unfold sB
    cases b<;>simp only [au,jC hb,bg,axZ,Bool.false_or,Bool.true_or]
  have fin:∀ b:Bool,b=((!qZ 1 z.l1)||(!qZ 1 z.llc))→aF (fun k=>sq n (bK n) k (.ptr x 0) b h1) fun r h'=>r=Lq z∧be h h':=by
    intro b hb'
    simp only [q0,q1,q2,q3,q4,q5]
    unfold uT
    have e1:(b||(!qZ 1 z.miss)||decide (z.llc<z.l1)||decide (z.miss<z.llc)||(!qZ 1 z.fault)||(!qZ 1 z.step)||(!qZ 1 z.disk)) = !amq z:=by
      rw [hb']
      unfold amq
      have a1:((!qZ 1 z.l1)||(!qZ 1 z.llc)||(!qZ 1 z.miss)||decide (z.llc<z.l1)||decide (z.miss<z.llc)) = !(qZ 1 z.l1&&(qZ z.l1 z.llc&&qZ z.llc z.miss)):=by
        rw [Bool.eq_iff_iff]
        simp [qZ]
        omega
      rw [a1]
      cases qZ 1 z.l1<;>cases qZ z.l1 z.llc<;>cases qZ z.llc z.miss<;>cases qZ 1 z.fault<;>cases qZ 1 z.step<;>cases qZ 1 z.disk<;>rfl
    rw [e1]
    unfold Lq
    cases amq z
    · exact nT ⟨rfl,g⟩
    · exact nT ⟨rfl,g⟩
  simp only [au,jC hb,bg,axZ]
  refine aL.ifB (fun e=>?_) fun e=>?_
  · exact fin _ (by rw [e,Bool.true_or])
  · exact fin _ (by rw [e,Bool.false_or])
end Go.Proofs.YtnlbfbiogfilfaaGreat.Sh
/- The document's answer: a partition's colours, its quotas. -/
namespace Go.Proofs.YtnlbfbiogfilfaaGreat.Sh
open Go.Ai
theorem aqt {h:ad} {pp:AV} {n:Nat} {f:Nat→eK} {S:Nat→AV} (s:eD h pp 8 n fun i=>Ij (f i) (S i)) {p:Nat} (hp:p<n) (K:AV→AV→ah):agV 8 pp (p:Int) (fun x=>fld 0 h x 1 false K)=K (elP pp 8 (p:Int)) (S p):=by
  rw [s.ia (by omega) (by omega)]
  obtain ⟨b,off,l,d1,d2,d3,d4⟩:=s.at_ (i:=(p:Int)) (by omega) (by omega)
  rw [iI] at d4
  rw [d1]
  have d5:l[off+0]?=some (S p):=by
    have:=congrArg (·[0]?) d4
    simp only [List.getElem?_take,List.getElem?_drop] at this
    simpa [Ij] using this
  rw [fld_of d2 d5,Nat.add_zero]
theorem v_rhas_1 {n:Nat} {h:ad} {v:AV} {l:List Int} {x:Int} (hv:dP h .i64 v l):∀ (m i:Nat),i≤l.length→l.length-i<m→
    aF (fun k=>zg n k m v x (i:Int) h) fun r h'=>r=decide (x∈l.drop i)∧h'=h:=by
  intro m
  induction m with
  | zero=>omega
  | succ m ih=>
    intro i hi hm
    simp only [amC]
    unfold zG EI
    simp only [hv.len]
    refine aL.ifB (fun e=>?_) fun e=>?_
    · simp at e
      have hs:=hv.small
      rw [iH e]
      simp only [au,hv.elN e,un e,mt (show i≤9223372036854775806 by omega)]
      refine aL.ifB (fun e1=>?_) fun e1=>?_
      · simp at e1
        exact nT ⟨by simp [e1],rfl⟩
      · simp at e1
        refine aL.mono (ih (i+1) (by omega) (by omega)) ?_
        rintro ⟨r,h'⟩ ⟨h1,h2⟩
        refine ⟨h1.trans (decide_eq_decide.2 ?_),h2⟩
        exact ⟨ig _,fun h=>(iP.1 h).resolve_left fun e=>e1 e.symm⟩
    · simp at e
      have:i=l.length:=by omega
      subst this
      exact nT ⟨by simp,rfl⟩
theorem v_rhas {n:Nat} {h:ad} {v:AV} {l:List Int} (hv:dP h .i64 v l) (hn:l.length<n) (x:Int):aF (cD n v x h) fun r h'=>r=decide (x∈l)∧h'=h:=by
  unfold cD Pg GU
  exact v_rhas_1 hv n 0 (by omega) (by omega)
abbrev kRC:=gt
theorem aBH {R:Type} {ap:kRC→R→ah} {Q:R→Prop} {n:Nat} {z:bq} (hn:fT n z) {h:ad} {t pp v5:AV} {x p i:Nat} {S:Nat→AV} (hb:h.cl x (Hx z t pp)) (hs:eD h pp 8 z.parts.length fun i=>Ij (z.parts.getD i default) (S i)) (hS:∀ i,i<z.parts.length→dP h .i64 (S i) (z.parts.getD i default).gH)
    (hp:p≤z.parts.length) {l:List Int} (hv:dP h .i64 v5 l) (hi:i<l.length) {J:kRC→Int→AV→AV→Int→ad→ah}:∀ (m j:Nat),j≤p→p-j<m→
    (((z.parts.take p).drop j).all (fun q=>!decide (l[i]∈q.gH))=true→aL ap (fun k=>J k (p:Int) (.ptr x 0) v5 ((i+1:Nat):Int) h) Q)→(((z.parts.take p).drop j).all (fun q=>!decide (l[i]∈q.gH))=false→aL ap (fun k=>k true h) Q)→
    aL ap (fun k=>tt n (cD n) k (J k) m (p:Int) (.ptr x 0) v5 (i:Int) (j:Int) h) Q:=by
  intro m
  induction m with
  | zero=>omega
  | succ m ih=>
    intro j hj hm hgo hno
    simp only [afi]
    unfold vT zd
    have hsm:=hv.small
    have hps:=hs.1
    refine aL.ifB (fun e=>?_) fun e=>?_
    · simp at e
      have hlt:j<(z.parts.take p).length:=by simp; omega
      rw [iH hlt,List.all_cons] at hgo hno
      have hg:(z.parts.take p)[j]=z.parts.getD j default:=by rw [List.getElem_take,amg (by omega)]
      rw [hg] at hgo hno
      simp only [au,jC hb,bg]
      simp only [aqt hs (show j<z.parts.length by omega),hv.elN hi,un hi]
      refine aF.bind (v_rhas (hS j (by omega)) (hn.gH j (by omega)) l[i]) ?_
      rintro _ h2 ⟨rfl,rfl⟩
      refine aL.ifB (fun e1=>?_) fun e1=>?_
      · exact hno (by rw [e1]; rfl)
      · rw [e1] at hgo hno
        simp only [au,mt (show j≤9223372036854775806 by omega)]
        exact ih (j+1) (by omega) (by omega) (fun ha=>hgo (by rw [ha]; rfl)) (fun ha=>hno (by rw [ha]; rfl))
    · simp at e
      have:j=p:=by omega
      subst this
      simp only [au,mt (show i≤9223372036854775806 by omega)]
      exact hgo (by rw [List.drop_eq_nil_of_le (by simp; omega)]; rfl)
theorem aBz {n:Nat} {z:bq} (hn:fT n z) {h:ad} {t pp v5:AV} {x p:Nat} {S:Nat→AV} (hb:h.cl x (Hx z t pp)) (hs:eD h pp 8 z.parts.length fun i=>Ij (z.parts.getD i default) (S i)) (hS:∀ i,i<z.parts.length→dP h .i64 (S i) (z.parts.getD i default).gH)
    (hp:p≤z.parts.length) (hpn:p<n) {l:List Int} (hv:dP h .i64 v5 l):∀ (m i:Nat),i≤l.length→l.length-i<m→
    aF (fun k=>rp n (cD n) k m (p:Int) (.ptr x 0) v5 (i:Int) h) fun r h'=>r=(!G5 z (z.parts.take p) (LE l i) (l.drop i))∧h'=h:=by
  intro m
  induction m with
  | zero=>omega
  | succ m ih=>
    intro i hi hm
    simp only [af2]
    unfold vV zX vX tx
    have hsm:=hv.small
    simp only [hv.len]
    refine aL.ifB (fun e=>?_) fun e=>?_
    · simp at e
      rw [iH e,TL]
      simp only [hv.elN e,un e]
      have no:(decide (0≤l[i])&&(decide (l[i]<z.gG)&&ZT (LE l i) l[i]))=false→aF (fun k:kRC=>k true h) fun r h'=>r=(!(decide (0≤l[i])&&(decide (l[i]<z.gG)&&(ZT (LE l i) l[i]&&(((z.parts.take p).all fun q=>!decide (l[i]∈q.gH))&&G5 z (z.parts.take p) (some l[i]) (l.drop (i+1)))))))∧h'=h:=by
        intro h0
        refine nT ⟨?_,rfl⟩
        revert h0
        cases decide (0≤l[i])<;>cases decide (l[i]<z.gG)<;>cases ZT (LE l i) l[i]<;>simp
      have go:decide (0≤l[i])=true→decide (l[i]<z.gG)=true→ZT (LE l i) l[i]=true→aF (fun k=>tt n (cD n) k (rp n (cD n) k m) n (p:Int) (.ptr x 0) v5 (i:Int) ((0:Nat):Int) h) fun r h'=>r=(!(decide (0≤l[i])&&(decide (l[i]<z.gG)&&(ZT (LE l i) l[i]&&(((z.parts.take p).all fun q=>!decide (l[i]∈q.gH))&&G5 z (z.parts.take p) (some l[i]) (l.drop (i+1)))))))∧h'=h:=by
        intro h1 h2 h3
        rw [h1,h2,h3]
        refine aBH hn hb hs hS hp hv e (J:=fun k=>rp n (cD n) k m) n 0 (by omega) (by omega) (fun ha=>?_) (fun ha=>?_)
        · rw [List.drop_zero] at ha
          refine aL.mono (ih (i+1) (by omega) (by omega)) ?_
          rintro ⟨r,h'⟩ ⟨q1,q2⟩
          have:LE l (i+1)=some l[i]:=by unfold LE; rw [if_neg (by omega)]; simp [un e]
          rw [this] at q1
          exact ⟨by rw [q1,ha]; rfl,q2⟩
        · rw [List.drop_zero] at ha
          exact nT ⟨by rw [ha]; rfl,rfl⟩
      refine aL.ifB (fun e1=>?_) fun e1=>?_
      · simp only [au]
        refine no ?_
        rw [yA] at e1
        rw [iJ (show ¬ 0≤l[i] by simp at e1; omega)]; rfl
      · rw [yA] at e1
        have h0:decide (0≤l[i])=true:=by simp at e1; simpa using e1
        simp only [au,jC hb,bg]
        refine aL.ifB (fun e2=>?_) fun e2=>?_
        · refine no ?_
          have:decide (l[i]<z.gG)=false:=by simpa using e2
          rw [h0,this]; rfl
        · have h1:decide (l[i]<z.gG)=true:=by simpa using e2
          refine aL.ifB (fun e3=>?_) fun e3=>?_
          · simp at e3
            have hw1:IntKind.i64.wrap ((i:Int)-1)=((i-1:Nat):Int):=by rw [rK (by omega) (by omega)]; omega
            have pv:LE l i=some (nz l (i-1)):=by unfold LE; rw [if_neg (by omega)]
            have af:ZT (LE l i) l[i]=decide (nz l (i-1)<l[i]):=by rw [pv]; rfl
            simp only [hw1,hv.elN (show i-1<l.length by omega)]
            refine aL.ifB (fun e4=>?_) fun e4=>?_
            · refine no ?_
              rw [af]
              have:decide (nz l (i-1)<l[i])=false:=by simpa using e4
              rw [h0,h1,this]; rfl
            · exact go h0 h1 (by rw [af]; simpa using e4)
          · simp at e3
            have i0:i=0:=by omega
            exact go h0 h1 (by unfold LE; rw [if_pos i0]; rfl)
    · simp at e
      have:i=l.length:=by omega
      subst this
      exact nT ⟨by simp [G5],rfl⟩
theorem aFa {n:Nat} {z:bq} (hn:fT n z) {h:ad} {c:List AV} (hc:Cfg h z c) {p:Nat} (hp:p<z.parts.length):aF (dD n (.agg c) (p:Int) h) fun r h'=>r=(!afl z p)∧be h h':=by
  unfold dD H0 Cp
  obtain ⟨t,pp,rfl,ht,hps,S,hpt,hS⟩:=hc
  refine aF.bind (wh ..) ?_
  rintro x h1 ⟨hb,g⟩
  simp only [au,jC hb,bg]
  simp only [aqt (hpt.grow g) hp,((hS p hp).grow g).len]
  refine aL.ifB (fun e=>?_) fun e=>?_
  · rw [ij] at e
    have e':(z.parts.getD p default).gH = []:=iq (by omega)
    refine nT ⟨?_,g⟩
    unfold afl lI
    rw [e']; rfl
  · rw [iT] at e
    have e':0<(z.parts.getD p default).gH.length:=by omega
    refine aL.mono (aBz hn hb (hpt.grow g) (fun i hi=>(hS i hi).grow g) (by omega) (by have:=hn.parts; omega) ((hS p hp).grow g) n 0 (by omega) (by have:=hn.gH p hp; omega)) ?_
    rintro ⟨r,h'⟩ ⟨q1,q2⟩
    dsimp only at q2
    subst q2
    refine ⟨q1.trans ?_,g⟩
    unfold afl lI
    rw [List.drop_zero,iO e',Bool.and_true]
    rfl
end Go.Proofs.YtnlbfbiogfilfaaGreat.Sh
/- The document's answer: a partition's quotas; what is wrong with a partition. -/
namespace Go.Proofs.YtnlbfbiogfilfaaGreat.Sh
open Go.Ai
abbrev kRQ:=gx
theorem aEj {h:ad} {pp:AV} {n:Nat} {f:Nat→eK} {S:Nat→AV} (s:eD h pp 8 n fun i=>Ij (f i) (S i)) {p:Nat} (hp:p<n):∃ a,∀ K:AV→Int→ah,agV 8 pp (p:Int) (fun x=>oq .i64 7 h x K)=K a (f p).slots:=by
  obtain ⟨b,off,l,d1,d2,d3,d4⟩:=s.at_ (i:=(p:Int)) (by omega) (by omega)
  rw [iI] at d4
  have d5:l[off+7]?=some (.int .i64 (f p).slots):=by
    have:=congrArg (·[7]?) d4
    simp only [List.getElem?_take,List.getElem?_drop] at this
    simpa [Ij] using this
  exact ⟨_,fun K=>by rw [s.ia (by omega) (by omega),d1,fldI_of d2 d5]⟩
theorem aCG {R:Type} {ap:kRQ→R→ah} {Q:R→Prop} {n:Nat} {z:bq} {h:ad} {t pp:AV} {x y p:Nat} {S:Nat→AV} (hb:h.cl x (Hx z t pp)) (hs:eD h pp 8 z.parts.length fun i=>Ij (z.parts.getD i default) (S i)) (hp:p<z.parts.length) {f1} :
    ∀ (m j:Nat) (a:Int),j≤p+1→p+1-j<m→aL ap (fun k=>wU n f1 (bw n) k (.ptr x 0) (.ptr y 0) (alT ((z.parts.take (p+1)).drop j) a) h) Q→
    aL ap (fun k=>wY n f1 (bw n) k m (p:Int) (.ptr x 0) (.ptr y 0) a (j:Int) h) Q:=by
  intro m
  induction m with
  | zero=>omega
  | succ m ih=>
    intro j a hj hm hgo
    simp only [ag6]
    unfold wR wX
    have hps:=hs.1
    refine aL.ifB (fun e=>?_) fun e=>?_
    · simp at e
      have hlt:j<(z.parts.take (p+1)).length:=by simp; omega
      have hg:(z.parts.take (p+1))[j]=z.parts.getD j default:=by rw [List.getElem_take,amg (by omega)]
      rw [iH hlt,alT,List.foldl_cons,hg] at hgo
      obtain ⟨aS,hS⟩:=aEj hs (show j<z.parts.length by omega)
      simp only [au,jC hb,bg]
      simp only [hS]
      simp only [au,aan,mt (show j≤9223372036854775806 by omega)]
      refine aL.ifB (fun e1=>?_) fun e1=>?_
      · rw [if_pos e1] at hgo
        simp only [au,jC hb,bg]
        simp only [hS]
        exact ih (j+1) _ (by omega) (by omega) hgo
      · rw [if_neg (by rw [e1]; exact Bool.false_ne_true)] at hgo
        exact ih (j+1) _ (by omega) (by omega) hgo
    · simp at e
      have:j=p+1:=by omega
      subst this
      rw [List.drop_eq_nil_of_le (by simp; omega)] at hgo
      exact hgo
theorem aGN {n:Nat} {z:bq} (hn:fT n z) {h:ad} (hro:h.ro≤h.nx) {c:List AV} (hc:Cfg h z c) {p:Nat} (hp:p<z.parts.length):aF (dK n (.agg c) (p:Int) h) fun r h'=>r=(!yk z p)∧be h h':=by
  unfold dK JV Dd
  obtain ⟨t,pp,rfl,ht,hps,S,hpt,hS⟩:=hc
  refine aF.bind (wh ..) ?_
  rintro x h1 ⟨hb,g⟩
  simp only [au,jC hb,bg,eD.eld (hpt.grow g) (show (0:Int)≤(p:Int) by omega) (show (p:Int)<_ by omega),iI]
  refine aF.bind (asu (n:=8) (g.le hro) (by rfl) (by rfl)) ?_
  rintro y h2 ⟨hy,ho,g2⟩
  have gg:=g.trans g2
  have hb2:=g2.cl hb
  have hl:=hpt.1
  have hpn:=hn.parts
  rw [show z.parts.getD p default=lI z p from rfl] at *
  have q4:∀ (k:kRQ) (b:Bool),rQ n (aC n) (bw n) k (p:Int) (.ptr x 0) (.ptr y 0) b h2=rO n (aC n) (bw n) k (p:Int) (.ptr x 0) (.ptr y 0) (b||(!kG (lI z p).tables 4 4096)) h2:=by
    intro k b
    unfold rQ
    cases b<;>simp only [au,jC ho.cl,bg,aan,Bool.false_or,Bool.true_or]
  have q5:∀ (k:kRQ) (b:Bool),rO n (aC n) (bw n) k (p:Int) (.ptr x 0) (.ptr y 0) b h2=rN n (aC n) (bw n) k (p:Int) (.ptr x 0) (.ptr y 0) (b||(!kG (lI z p).spaces 1 4096)) h2:=by
    intro k b
    unfold rO
    cases b<;>simp only [au,jC ho.cl,bg,aan,Bool.false_or,Bool.true_or]
  have q6:∀ (k:kRQ) (b:Bool),rN n (aC n) (bw n) k (p:Int) (.ptr x 0) (.ptr y 0) b h2=rS n (aC n) (bw n) k (p:Int) (.ptr x 0) (.ptr y 0) (b||(!kG (lI z p).gO 1 4096)) h2:=by
    intro k b
    unfold rN
    cases b<;>simp only [au,jC ho.cl,bg,aan,Bool.false_or,Bool.true_or]
  have q7:∀ (k:kRQ) (b:Bool),rS n (aC n) (bw n) k (p:Int) (.ptr x 0) (.ptr y 0) b h2=rR n (aC n) (bw n) k (p:Int) (.ptr x 0) (.ptr y 0) (b||(!kG (lI z p).gN 1 4096)) h2:=by
    intro k b
    unfold rS
    cases b<;>simp only [au,jC ho.cl,bg,aan,Bool.false_or,Bool.true_or]
  have q8:∀ (k:kRQ) (b:Bool),rR n (aC n) (bw n) k (p:Int) (.ptr x 0) (.ptr y 0) b h2=uh n (aC n) (bw n) k (p:Int) (.ptr x 0) (.ptr y 0) (b||(!kG (lI z p).slots 1 1024)) h2:=by
    intro k b
    unfold rR
    cases b<;>simp only [au,jC ho.cl,bg,aan,Bool.false_or,Bool.true_or]
  have fin:∀ b:Bool,b=(!kG (lI z p).order 0 3||!kG (lI z p).user 2 4096)→aF (fun k=>rQ n (aC n) (bw n) k (p:Int) (.ptr x 0) (.ptr y 0) b h2) fun r h'=>r=(!yk z p)∧be h h':=by
    intro b hb'
    simp only [q4,q5,q6,q7,q8]
    unfold uh
    have all:(b||!kG (lI z p).tables 4 4096||!kG (lI z p).spaces 1 4096||!kG (lI z p).gO 1 4096||!kG (lI z p).gN 1 4096||!kG (lI z p).slots 1 1024) =
        !(kG (lI z p).order 0 3&&(kG (lI z p).user 2 4096&&(kG (lI z p).tables 4 4096&&(kG (lI z p).spaces 1 4096&&(kG (lI z p).gO 1 4096&&(kG (lI z p).gN 1 4096&&kG (lI z p).slots 1 1024)))))):=by
      rw [hb']
      simp only [Bool.not_and,Bool.or_assoc]
    have spl:yk z p=((kG (lI z p).order 0 3&&(kG (lI z p).user 2 4096&&(kG (lI z p).tables 4 4096&&(kG (lI z p).spaces 1 4096&&(kG (lI z p).gO 1 4096&&(kG (lI z p).gN 1 4096&&kG (lI z p).slots 1 1024))))))&&
        (decide (alT (z.parts.take (p+1)) 0≤1024)&&(!sS z||(decide (N9 (lI z p)≤amL z)&&decide (aCO (lI z p)≤UN z p))))):=by
      unfold yk
      simp only [Bool.and_assoc]
    rw [all,spl]
    refine aL.ifB (fun e=>?_) fun e=>?_
    · rw [Bool.not_eq_true'] at e
      exact nT ⟨by rw [e]; rfl,gg⟩
    · rw [Bool.not_eq_false'] at e
      have hord:0≤(lI z p).order:=by
        rw [iw] at e
        have:=e.1
        simp [kG] at this
        omega
      rw [e,Bool.true_and]
      refine aCG hb2 (hpt.grow gg) hp n 0 0 (by omega) (by omega) ?_
      rw [List.drop_zero]
      unfold wU ui
      refine aL.ifB (fun e8=>nT ⟨by simp at e8; simp [Int.not_le.2 e8],gg⟩) fun e8=>?_
      have e8':decide (alT (z.parts.take (p+1)) 0≤1024)=true:=by simp at e8; simpa using e8
      rw [e8',Bool.true_and]
      simp only [au,jC ho.cl,jC hb2,bg,IL hord]
      refine aF.bind (asZ n (Cfg.mk' (ht.grow gg) ⟨hps,S,hpt.grow gg,fun i hi=>(hS i hi).grow gg⟩)) ?_
      rintro _ h42 ⟨rfl,g42⟩
      have g24:=gg.trans g42
      rw [Bool.not_not]
      refine aL.ifB (fun e9=>?_) fun e9=>nT ⟨by rw [e9]; rfl,g24⟩
      have hz:=acZ e9
      rw [e9]
      have hb42:=g42.cl hb2
      have ho42:=g42.cl ho.cl
      simp only [au,jC ho42,jC hb42,bg,ah7 hz,((hS p hp).grow g24).len]
      refine aL.ifB (fun e10=>?_) fun e10=>?_
      · refine nT ⟨?_,g24⟩
        have h10:decide (N9 (lI z p)≤amL z)=false:=by
          have:amL z<N9 (lI z p):=of_decide_eq_true e10
          exact iJ (by omega)
        rw [h10]; rfl
      · refine nT ⟨?_,g24⟩
        have h10:decide (N9 (lI z p)≤amL z)=true:=by
          have:¬ amL z<N9 (lI z p):=of_decide_eq_false e10
          exact iO (by omega)
        rw [h10]
        show decide (UN z p<aCO (lI z p))=_
        rw [← HZ]
        simp
  simp only [au,jC ho.cl,bg,aan]
  refine aL.ifB (fun e=>?_) fun e=>?_
  · exact fin _ (by rw [e,Bool.true_or])
  · exact fin _ (by rw [e,Bool.false_or])
theorem aFs {n:Nat} {z:bq} (hn:fT n z) {h:ad} (hro:h.ro≤h.nx) {c:List AV} (hc:Cfg h z c) {p:Nat} (hp:p<z.parts.length):aF (bj n (.agg c) (p:Int) h) fun r h'=>r=Yb z p∧be h h':=by
  unfold bj Of FR
  obtain ⟨t,pp,rfl,ht,hps⟩:=hc
  refine aF.bind (wh ..) ?_
  rintro x h1 ⟨hb,g⟩
  simp only [au,jC hb,bg]
  refine aF.bind (aFa hn (Cfg.mk' (ht.grow g) (hps.grow g)) hp) ?_
  rintro _ h2 ⟨rfl,g2⟩
  have gg:=g.trans g2
  refine aL.ifB (fun e1=>?_) fun e1=>?_
  · rw [Bool.not_eq_true'] at e1
    exact nT ⟨by unfold Yb; rw [e1]; rfl,gg⟩
  · rw [Bool.not_eq_false'] at e1
    simp only [au,jC (g2.cl hb),bg]
    refine aF.bind (aGN hn (gg.le hro) (Cfg.mk' (ht.grow gg) (hps.grow gg)) hp) ?_
    rintro _ h3 ⟨rfl,g3⟩
    refine aL.ifB (fun e2=>?_) fun e2=>?_
    · rw [Bool.not_eq_true'] at e2
      exact nT ⟨by unfold Yb; rw [e1,e2]; rfl,gg.trans g3⟩
    · rw [Bool.not_eq_false'] at e2
      exact nT ⟨by unfold Yb; rw [e1,e2]; rfl,gg.trans g3⟩
end Go.Proofs.YtnlbfbiogfilfaaGreat.Sh
/- The document's answer: what things cost (cofferdamref10). -/
namespace Go.Proofs.YtnlbfbiogfilfaaGreat.Sh
open Go.Ai
theorem aGk (z:bq):Lq z=0∨Lq z=100:=by unfold Lq; split<;>simp
theorem aGW (n:Nat) (h:ad) (z:bq) (a b:Int):dM (bX n (.agg (Ko z)) a b h) fun v e h'=>e=ON z a b∧(e=0→v=aqN z a b)∧(e≠0→v=0)∧be h h':=by
  unfold bX Kq Dr wS
  refine aF.bind (wh ..) ?_
  rintro x h1 ⟨hb,g⟩
  simp only [au,jC hb,bg]
  refine aF.bind (axB n h1 z) ?_
  rintro _ h2 ⟨rfl,g2⟩
  have gg:=g.trans g2
  have hb2:=g2.cl hb
  simp only [au,jC hb2,bg,ams]
  refine aL.ifB (fun e1=>KS ⟨?_,?_,fun _=>rfl,gg⟩) fun e1=>aL.ifB (fun e2=>KS ⟨?_,?_,fun _=>rfl,gg⟩) fun e2=>aL.ifB (fun e3=>KS ⟨?_,?_,fun _=>rfl,gg⟩) fun e3=>KS ⟨?_,?_,?_,gg⟩
  · simp at e1
    rcases aGk z with h0 | h0
    · exact (e1 h0).elim
    · simp [ON,e1,h0]
  · intro h0; cases h0
  · simp at e1 e2; simp [ON,e1,e2]
  · intro h0; cases h0
  · simp at e1 e2 e3; simp [ON,e1,e2,e3]
  · intro h0; cases h0
  · simp at e1 e2 e3; simp [ON,e1,e2,e3]
  · intro _; rfl
  · intro h0; exact (h0 rfl).elim
def mayS (s:dt):Bool:=(decide (s.image=1)||(decide (s.image=2)||(decide (s.image=4)||decide (s.image=8))))&&(kG s.user 2 4096&&(kG s.limit 1 5120&&kG s.nodes 1 4096))
theorem v_rMayS (n:Nat) (h:ad) (s:dt):aF (eu n (.agg (Fs s)) h) fun r h'=>r=mayS s∧be h h':=by
  unfold eu PY GR
  refine aF.bind (wh ..) ?_
  rintro x h1 ⟨hb,g⟩
  have s5:∀ (k:fk) (b:Bool),ur n (bR n) k (.ptr x 0) b h1=k (b&&(kG s.user 2 4096&&(kG s.limit 1 5120&&kG s.nodes 1 4096))) h1:=by
    intro k b
    unfold ur zi zp zh
    cases b
    · simp only [au,Bool.false_and]
    · simp only [au,jC hb,bg,ams,Bool.true_and]
      cases kG s.user 2 4096
      · simp only [au,Bool.false_and]
      · simp only [au,jC hb,bg,ams,Bool.true_and]
        cases kG s.limit 1 5120
        · simp only [au,Bool.false_and]
        · simp only [au,jC hb,bg,ams,Bool.true_and]
  have s4:∀ (k:fk) (b:Bool),uw n (bR n) k (.ptr x 0) b h1=ur n (bR n) k (.ptr x 0) (b||(s.image==8)) h1:=by
    intro k b
    unfold uw
    cases b<;>simp only [au,jC hb,bg,Bool.false_or,Bool.true_or]
  have s3:∀ (k:fk) (b:Bool),uv n (bR n) k (.ptr x 0) b h1=uw n (bR n) k (.ptr x 0) (b||(s.image==4)) h1:=by
    intro k b
    unfold uv
    cases b<;>simp only [au,jC hb,bg,Bool.false_or,Bool.true_or]
  have fin:∀ b:Bool,b=((s.image==1)||(s.image==2))→aF (fun k=>uv n (bR n) k (.ptr x 0) b h1) fun r h'=>r=mayS s∧be h h':=by
    intro b hb'
    simp only [s3,s4,s5]
    refine nT ⟨?_,g⟩
    rw [hb']
    unfold mayS
    have d:∀ a:Int,(s.image==a)=decide (s.image=a):=fun a=>by
      by_cases h:s.image=a<;>simp [h]
    simp only [d,Bool.or_assoc]
  simp only [au,jC hb,bg]
  refine aL.ifB (fun e=>?_) fun e=>?_
  · exact fin _ (by rw [e,Bool.true_or])
  · exact fin _ (by rw [e,Bool.false_or])
theorem aF2 (z:bq) (s:dt):asK z s=if Lq z=0 then (if mayS s then 0 else 2) else Lq z:=rfl
def zv (z:bq) (s:dt) (k:Int):Int:=(IQ z s).getD k.toNat 0
theorem asS {n:Nat} {g:bS} (h:ad) (z:bq) (s:dt) {k:Int} (hk:0≤k) (h7:k≠7):aF (rJ n g (.agg (Ko z)) (.agg (Fs s)) k h) fun r h'=>r=zv z s k∧be h h':=by
  unfold rJ yI
  refine aF.bind (wh ..) ?_
  rintro x h1 ⟨hb,g1⟩
  refine aF.bind (wh ..) ?_
  rintro y h3 ⟨hy,g3⟩
  have gg:=g1.trans g3
  simp only [au,jC (g3.cl hb),jC hy,bg]
  refine aL.ifB (fun e=>?_) fun e1=>aL.ifB (fun e=>?_) fun e2=>aL.ifB (fun e=>?_) fun e3=>aL.ifB (fun e=>?_) fun e4=>aL.ifB (fun e=>?_) fun e5=>aL.ifB (fun e=>?_) fun e6=>aL.ifB (fun e=>?_) fun e7=>aL.ifB (fun e=>?_) fun e8=>aL.ifB (fun e=>?_) fun e9=>?_
  · simp at e; subst e; exact nT ⟨rfl,gg⟩
  · simp at e; subst e; exact nT ⟨rfl,gg⟩
  · simp at e; subst e; exact nT ⟨rfl,gg⟩
  · simp at e; subst e; exact nT ⟨rfl,gg⟩
  · simp at e; subst e; exact nT ⟨rfl,gg⟩
  · simp at e; subst e; exact nT ⟨rfl,gg⟩
  · simp at e; exact (h7 e).elim
  · simp at e; subst e; exact nT ⟨rfl,gg⟩
  · simp at e; subst e; exact nT ⟨rfl,gg⟩
  · simp at e1 e2 e3 e4 e5 e6 e7 e8 e9
    refine nT ⟨?_,gg⟩
    unfold zv
    by_cases h0:k=0
    · subst h0; rfl
    by_cases h10:k=10
    · subst h10; rfl
    · have:11≤k.toNat:=by omega
      rw [iL,iK (by show 11≤_; omega)]; rfl
theorem v_behind {n:Nat} (hn:10<n) (h:ad) (z:bq) (s:dt) {k:Int} (hk:0≤k):aF (dI n (.agg (Ko z)) (.agg (Fs s)) k h) fun r h'=>r=zv z s k∧be h h':=by
  unfold dI
  obtain ⟨m,rfl⟩:∃ m,n=m+2:=⟨n-2,by omega⟩
  have e:cx (m+2) (m+2)=rJ (m+2) (cx (m+2) (m+1)):=Vm ..
  rw [e]
  by_cases h7:k=7
  · subst h7
    unfold rJ yI
    refine aF.bind (wh ..) ?_
    rintro x h1 ⟨hb,g1⟩
    refine aF.bind (wh ..) ?_
    rintro y h3 ⟨hy,g3⟩
    have gg:=g1.trans g3
    have d:∀ a:Int,a≠7→((7:Int)==a)=false:=fun a ha=>by rw [iT]; exact fun e=>ha e.symm
    have d7:((7:Int)==7)=true:=rfl
    simp only [au,jC (g3.cl hb),jC hy,bg,d 1 (by decide),d 2 (by decide),d 3 (by decide),d 4 (by decide),d 5 (by decide),d 6 (by decide),d7]
    have e':cx (m+2) (m+1)=rJ (m+2) (cx (m+2) m):=Vm ..
    rw [e']
    refine aF.bind (asS (h3.shut true) z s (k:=4) (by decide) (by decide)) ?_
    rintro _ h45 ⟨rfl,g45⟩
    have g45':=g45.shut
    simp only [au,jC (g45'.cl (g3.cl hb)),jC (g45'.cl hy),bg]
    refine aF.bind (asS _ z s (k:=5) (by decide) (by decide)) ?_
    rintro _ h49 ⟨rfl,g49⟩
    simp only [au,max2]
    exact nT ⟨rfl,gg.trans (g45'.trans g49)⟩
  · exact asS h z s hk h7
end Go.Proofs.YtnlbfbiogfilfaaGreat.Sh
