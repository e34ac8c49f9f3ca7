/- What the functions of 'plan' and 'cost' compute. -/
import Derived.Test.YtpoobhhdgjgdgaaGreatPaUText
import Derived.Test.YtpoobhhdgjgdgaaGreatAiTblKs
set_option linter.all false
namespace Go.Proofs.YtpoobhhdgjgdgaaGreat.Sh
open Go.Ai
@[simp] theorem wk (n:Nat) (a b c:Int) (h:Heap) (k:Bool→Heap→aa):bZ n a b c h k=k (jd a b c) h:=by
  unfold bZ Mk Fw vq
  by_cases hc:a<b
  · simp [jd,hc,show ¬ b≤a by omega]
  · simp [jd,hc,show b≤a by omega, ← Int.not_lt]
@[simp] theorem u_plan_power (n:Nat) (a b:Int) (h:Heap) (k:Bool→Heap→aa):ei n a b h k=k (WO a b) h:=by
  unfold ei Qx HZ xi
  cases hc:jd a 1 b<;>simp [hc,WO]
theorem Iz (n:Nat) {h:Heap} {z:bA} {c:List AV} (hc:Cfg h z c):aM (bV n (.agg c) h) fun r h'=>r=nK z∧aY h h':=by
  unfold bV Jb CU tB tU uu uv tW tD tY
  obtain ⟨t,p,rfl,ht,hps,S,hp,hS⟩:=hc
  refine aM.bind (m7 ..) ?_
  rintro x h1 ⟨hb,g⟩
  simp [gS hb,qr]
  refine aH.ifB (fun e1=>?_) fun e1=>jL ⟨by simp [nK,e1],g⟩
  have hnz:z.eY≠0:=by
    simp [WO,jd] at e1; omega
  refine aH.ifB (fun e2=>?_) fun e2=>jL ⟨by simp [nK,e1,e2],g⟩
  simp only [PR hnz]
  refine aH.ifB (fun e3=>?_) fun e3=>jL ⟨by simp [nK,e1,e2,e3],g⟩
  refine aH.ifB (fun e4=>?_) fun e4=>jL ⟨by simp [nK,e1,e2,e3,e4],g⟩
  refine aH.ifB (fun e5=>?_) fun e5=>jL ⟨by simp [nK,e1,e2,e3,e4,e5],g⟩
  refine aH.ifB (fun e6=>?_) fun e6=>jL ⟨by simp [nK,e1,e2,e3,e4,e5,e6],g⟩
  refine aH.ifB (fun e7=>?_) fun e7=>jL ⟨by simp [nK,e1,e2,e3,e4,e5,e6,e7],g⟩
  simp only [bI.len hp]
  exact jL ⟨by simp [nK,e1,e2,e3,e4,e5,e6,e7],g⟩
theorem aeh (n:Nat) {h:Heap} {z:bA} {c:List AV} (hc:Cfg h z c) (hz:z.eY≠0):aM (dn n (.agg c) h) fun r h'=>r=ail z∧aY h h':=by
  unfold dn Wf KJ
  obtain ⟨t,p,rfl,ht,hps,S,hp,hS⟩:=hc
  refine aM.bind (m7 ..) ?_
  rintro x h1 ⟨hb,g⟩
  simp [gS hb,qr]
  simp only [abw hz]
  exact jL ⟨rfl,g⟩
theorem aiU {n:Nat} {h:Heap} {v:AV} {l:List Int} (hv:cK h .u64 v l):∀ (m i:Nat),i≤l.length→l.length-i<m→
    aM (fun k=>Di n k m v l.length i h) fun r h'=>r=(if (l.drop i).all (tz 1) then 0 else 100)∧h'=h:=by
  intro m
  induction m with
  | zero=>omega
  | succ m ih=>
    intro i hi hm
    show aH ap1 (fun k=>wP n k (Di n k m) v l.length i h) _
    unfold wP Cm wS
    refine aH.ifB (fun e=>?_) fun e=>?_
    · simp at e
      have hs:=hv.small
      rw [gc e,List.all_cons]
      simp only [aB,hv.elN e,LH e,jq (show i≤9223372036854775806 by omega)]
      refine aH.ifB (fun e1=>?_) fun e1=>aH.ifB (fun e2=>?_) fun e2=>?_
      · simp at e1
        exact jL ⟨by simp [tz]; omega,rfl⟩
      · simp at e2
        exact jL ⟨by simp [tz]; omega,rfl⟩
      · simp at e1 e2
        refine aH.mono (ih (i+1) (by omega) (by omega)) ?_
        rintro ⟨r,h'⟩ ⟨h1,h2⟩
        exact ⟨by rw [h1]; simp [tz,e1,e2],h2⟩
    · simp at e
      have:i=l.length:=by omega
      subst this
      exact jL ⟨by simp,rfl⟩
def rise (last:Int):List Int→Bool
  | []=>true
  | x::l=>tz last x&&rise x l
theorem aie {n:Nat} {h:Heap} {v w:AV} {l:List Int} (hv:cK h .u64 v l) {q:Int} (h3:aM (fun k=>w8 n k w h) fun r h'=>r=q∧aY h h'):∀ (m i:Nat) (last:Int),i≤l.length→l.length-i<m→
    aM (fun k=>Dl n k m w last v l.length i h) fun r h'=>r=(if rise last (l.drop i) then q else 100)∧aY h h':=by
  intro m
  induction m with
  | zero=>omega
  | succ m ih=>
    intro i last hi hm
    show aH ap1 (fun k=>xt n k (Dl n k m) w last v l.length i h) _
    unfold xt wR
    refine aH.ifB (fun e=>?_) fun e=>?_
    · simp at e
      have hs:=hv.small
      rw [gc e,rise]
      simp only [aB,hv.elN e,LH e,jq (show i≤9223372036854775806 by omega)]
      refine aH.ifB (fun e1=>?_) fun e1=>aH.ifB (fun e2=>?_) fun e2=>?_
      · simp at e1
        exact jL ⟨by simp [tz]; omega,.refl⟩
      · simp at e2
        exact jL ⟨by simp [tz]; omega,.refl⟩
      · simp at e1 e2
        refine aH.mono (ih (i+1) l[i] (by omega) (by omega)) ?_
        rintro ⟨r,h'⟩ ⟨h1,h2⟩
        exact ⟨by rw [h1]; simp [tz,e1,e2],h2⟩
    · simp at e
      have:i=l.length:=by omega
      subst this
      refine aH.mono h3 ?_
      rintro ⟨r,h'⟩ ⟨h1,h2⟩
      exact ⟨by simpa [rise] using h1,h2⟩
theorem HU {n:Nat} (hn:4≤n) (h:Heap) (z:bA):aM (b7 n (.agg (zE z)) h) fun r h'=>r=aak z∧aY h h':=by
  unfold b7 P9 HV
  refine aM.bind (m7 ..) ?_
  rintro x h1 ⟨hb,g⟩
  simp only [aB,gS hb,zE]
  refine aM.bind (aeC (q:=.u64) [z.l1,z.llc,z.miss] (fun k=>by rfl) (by simp)) ?_
  rintro v h2 ⟨hv,g2⟩
  simp only [hv.len]
  have hb2:=g2.cl hb
  refine aH.mono (aie (q:=if tz 1 z.fault&&(tz 1 z.step&&tz 1 z.disk) then 0 else 100) hv ?_ n 0 1 (by simp) (by simp; omega)) ?_
  · unfold w8
    simp only [aB,gS hb2,zE]
    refine aM.bind (aeC (q:=.u64) [z.fault,z.step,z.disk] (fun k=>by rfl) (by simp)) ?_
    rintro v3 h3 ⟨hv3,g3⟩
    simp only [hv3.len]
    refine aH.mono (aiU hv3 n 0 (by simp) (by simp; omega)) ?_
    rintro ⟨r,h'⟩ ⟨e1,e2⟩
    exact ⟨by rw [e1]; simp,by rw [e2]; exact g3⟩
  · rintro ⟨r,h'⟩ ⟨e1,e2⟩
    refine ⟨?_,g.trans (g2.trans e2)⟩
    rw [e1]
    simp only [List.drop_zero,rise,aak,apS,Bool.and_true]
    rcases Bool.eq_false_or_eq_true (tz 1 z.l1) with a | a<;>rcases Bool.eq_false_or_eq_true (tz z.l1 z.llc) with b | b<;>rcases Bool.eq_false_or_eq_true (tz z.llc z.miss) with c | c<;>simp [a,b,c]
theorem aqL {n:Nat} {h:Heap} {v:AV} {l:List Int} {x:Int} (hv:cK h .i64 v l):∀ (m i:Nat),i≤l.length→l.length-i<m→(∀ j,j<i→nz l j≠x)→
    aM (fun k=>nO n k m v x l.length i h) fun r h'=>h'=h∧((r = -1∧x∉l)∨∃ j:Nat,r=j∧j<l.length∧nz l j=x):=by
  intro m
  induction m with
  | zero=>omega
  | succ m ih=>
    intro i hi hm hj
    show aH ap1 (fun k=>mn n k (nO n k m) v x l.length i h) _
    unfold mn nN
    refine aH.ifB (fun e=>?_) fun e=>?_
    · simp at e
      have hs:=hv.small
      simp only [aB,hv.elN e,jq (show i≤9223372036854775806 by omega)]
      refine aH.ifB (fun e1=>?_) fun e1=>?_
      · simp at e1
        exact jL ⟨rfl,.inr ⟨i,rfl,e,e1.symm⟩⟩
      · simp at e1
        refine ih (i+1) (by omega) (by omega) fun j hj'=>?_
        by_cases e2:j=i
        · subst e2; exact fun e=>e1 e.symm
        · exact hj j (by omega)
    · simp at e
      refine jL ⟨rfl,.inl ⟨rfl,fun hx=>?_⟩⟩
      obtain ⟨j,h1,h2⟩:=List.getElem_of_mem hx
      exact hj j (by omega) (by rw [LH h1]; exact h2)
theorem v_Index {n:Nat} {h:Heap} {v:AV} {l:List Int} (hv:cK h .i64 v l) (hn:l.length<n) (x:Int) :
    aM (cx n v x h) fun r h'=>h'=h∧((r = -1∧x∉l)∨∃ j:Nat,r=j∧j<l.length∧nz l j=x):=by
  unfold cx rt oS
  simp only [hv.len]
  exact aqL hv n 0 (by omega) (by omega) fun j hj=>by omega
theorem Zy {n:Nat} {h:Heap} {v:AV} {l:List Int} (hv:cK h .i64 v l) (hn:l.length<n) (x:Int):aM (al n v x h) fun r h'=>r=decide (x∈l)∧h'=h:=by
  unfold al qh ny
  refine aM.bind (v_Index hv hn x) ?_
  rintro r _ ⟨rfl,⟨rfl,hx⟩ | ⟨j,rfl,hj,hx⟩⟩
  · exact jL ⟨by simp [hx],rfl⟩
  · refine jL ⟨?_,rfl⟩
    have:x∈l:=by rw [← hx,LH hj]; exact gn hj
    simp [this]
theorem ab2 {α:Type} [Inhabited α] {l:List α} {i:Nat} (h:i<l.length):l.getD i default=l[i]:=by rw [gh,fU h]; rfl
theorem ann {R:Type} {ap:UT→R→aa} {Q:R→Prop} {n:Nat} {w v2 v5 v16:AV} {v1 v17:Int} {ps:List cU} {S:Nat→AV} {x i:Int} {J:UT→Int→AV→AV→AV→Int→Int→Heap→aa} :
    ∀ (m j:Nat) (h:Heap),h.ro≤h.nx→bI h w 8 ps.length (fun i=>tJ (ps.getD i default) (S i))→(∀ i,i<ps.length→cK h .i64 (S i) (ps.getD i default).eZ)→(∀ i,i<ps.length→(ps.getD i default).eZ.length<n)→
    j≤ps.length→ps.length-j<m→
    ((ps.drop j).all (fun q=>!decide (x∈q.eZ))=true→∀ h',aY h h'→aH ap (fun k=>J k v1 v2 v5 v16 v17 (IntKind.i64.wrap (i+1)) h') Q)→
    ((ps.drop j).all (fun q=>!decide (x∈q.eZ))=false→∀ h',aY h h'→aH ap (fun k=>k false h') Q)→
    aH ap (fun k=>uj n (al n) k (J k) m v1 v2 v5 x v16 v17 i w ps.length j h) Q:=by
  intro m
  induction m with
  | zero=>omega
  | succ m ih=>
    intro j h hro hw hS hn hj hm hgo hno
    show aH ap (fun k=>tK n (al n) k (J k) (uj n (al n) k (J k) m) v1 v2 v5 x v16 v17 i w ps.length j h) Q
    unfold tK yl
    refine aH.ifB (fun e=>?_) fun e=>?_
    · simp at e
      have hs:=hw.1
      simp only [aB,hw.eld (i:=(j:Int)) (by omega) (by omega),gd,jq (show j≤9223372036854775806 by omega)]
      refine aM.bind (G1 (n:=8) hro (by rfl) (by rfl)) ?_
      rintro y h1 ⟨hy,ho,g⟩
      simp only [aB,gS ho.cl,tJ]
      refine aM.bind (Zy ((hS j e).grow g) (hn j e) x) ?_
      rintro r _ ⟨rfl,rfl⟩
      rw [gc e,List.all_cons] at hgo hno
      rw [ab2 e]
      refine aH.ifB (fun e1=>?_) fun e1=>?_
      · simp at e1
        exact hno (by simp [e1]) _ g
      · simp only [f8] at e1
        simp only [e1,decide_false,Bool.not_false,Bool.true_and] at hgo hno
        exact ih (j+1) _ (g.le hro) (hw.grow g) (fun i hi=>(hS i hi).grow g) hn (by omega) (by omega) (fun ha h' g'=>hgo ha h' (g.trans g')) (fun ha h' g'=>hno ha h' (g.trans g'))
    · simp at e
      have:j=ps.length:=by omega
      subst this
      simp only [aB]
      exact hgo (by simp) h .refl
def KY (l:List Int) (i:Nat):Option Int:=if i=0 then none else some (nz l (i-1))
structure dm (n:Nat) (z:bA):Prop where
  small:100<n
  fh:z.fh.length<n
  parts:z.parts.length<n
  eZ:∀ i,i<z.parts.length→(z.parts.getD i default).eZ.length<n
theorem W9 {ps:List cU} {p i:Nat} (hi:i<(ps.take p).length):(ps.take p).getD i default=ps.getD i default:=by
  simp at hi
  rw [ab2 (by simp; omega),ab2 (by omega),List.getElem_take]
theorem anh {n:Nat} {z:bA} (hn:dm n z) {t pp v:AV} {S:Nat→AV} {x p:Nat} (hp:p≤z.parts.length) (hsh:pp.shut=true) (l:List Int):∀ (m i:Nat) (h:Heap),h.ro≤h.nx→h.cl x (qr z t pp)→
    bI h pp 8 z.parts.length (fun i=>tJ (z.parts.getD i default) (S i))→(∀ i,i<z.parts.length→cK h .i64 (S i) (z.parts.getD i default).eZ)→cK h .i64 v l→
    i≤l.length→l.length-i<m→
    aM (fun k=>qN n (al n) k m p (.ptr x 0) v v l.length i h) fun r h'=>r=(zq z (z.parts.take p) (KY l i) (l.drop i)&&decide (0<l.length))∧aY h h':=by
  intro m
  induction m with
  | zero=>omega
  | succ m ih=>
    intro i h hro hb hw hS hv hi hm
    show aH ap1 (fun k=>tr n (al n) k (qN n (al n) k m) p (.ptr x 0) v v l.length i h) _
    unfold tr xQ tR qH
    have hs:=hv.small
    refine aH.ifB (fun e=>?_) fun e=>?_
    · simp at e
      obtain ⟨w,hw',hsl⟩:=hw.take (v:=pp) hsh (i:=(p:Int)) (by omega) (by omega)
      rw [gd] at hw'
      have hlen:(z.parts.take p).length=p:=by simp; omega
      have fin:(∀ y,KY l i=some y→y<l[i])→0≤l[i]→l[i]<z.eY→
          aH ap1 (fun k=>uj n (al n) k (qN n (al n) k m) n p (.ptr x 0) v l[i] v l.length i w p ((0:Nat):Int) h)
            (fun r=>r.1=(zq z (z.parts.take p) (KY l i) (l.drop i)&&decide (0<l.length))∧aY h r.2):=by
        intro h1 h2 h3
        have c1:ZF (KY l i) l[i]=true:=by
          unfold ZF
          cases hq:KY l i with
          | none=>rfl
          | some y=>simpa using h1 y hq
        have key:=ann (ap:=ap1) (n:=n) (w:=w) (v2:=.ptr x 0) (v5:=v) (v16:=v) (v1:=p) (v17:=l.length) (ps:=z.parts.take p) (S:=S) (x:=l[i]) (i:=i) (J:=fun k=>qN n (al n) k m)
          (Q:=fun r=>r.1=(zq z (z.parts.take p) (KY l i) (l.drop i)&&decide (0<l.length))∧aY h r.2) n 0 h hro
          (by
            rw [hlen]
            obtain ⟨q1,q2⟩:=hw'
            refine ⟨q1,?_⟩
            rcases q2 with q2 | ⟨b,off,ext,opn,q2,q3⟩
            · exact .inl q2
            · refine .inr ⟨b,off,ext,opn,q2,fun h0=>?_⟩
              obtain ⟨cl,q3,q4⟩:=q3 h0
              exact ⟨cl,q3,fun j hj=>by have:=q4 j hj; dsimp only at this ⊢; rw [W9 (by omega)]; exact this⟩)
          (fun j hj=>by rw [W9 hj]; exact hS j (by rw [hlen] at hj; omega)) (fun j hj=>by rw [W9 hj]; exact hn.eZ j (by rw [hlen] at hj; omega)) (by omega) (by rw [hlen]; have:=hn.parts; omega)
          (fun ha h' g=>by
            rw [jq (show i≤9223372036854775806 by omega)]
            refine aH.mono (ih (i+1) h' (g.le hro) (g.cl hb) (hw.grow g) (fun i hi=>(hS i hi).grow g) (hv.grow g) (by omega) (by omega)) ?_
            rintro ⟨r,h''⟩ ⟨e1,e2⟩
            refine ⟨?_,g.trans e2⟩
            rw [gc e,Fu,c1]
            have:KY l (i+1)=some l[i]:=by unfold KY; rw [if_neg (by omega)]; simp [LH e]
            rw [this] at e1
            rw [List.drop_zero] at ha
            rw [ha]
            simpa [h2,h3] using e1)
          (fun ha h' g=>by
            refine jL ⟨?_,g⟩
            rw [gc e,Fu]
            rw [List.drop_zero] at ha
            rw [ha]
            simp)
        rw [hlen] at key
        exact key
      simp only [aB,gS hb,qr,hv.elN e,LH e,hsl,bI.len hw']
      have no:(decide (0≤l[i])=false∨decide (l[i]<z.eY)=false∨ZF (KY l i) l[i]=false)→(false=(zq z (z.parts.take p) (KY l i) (l.drop i)&&decide (0<l.length))∧aY h h):=by
        intro h0
        refine ⟨?_,.refl⟩
        rw [gc e,Fu]
        rcases h0 with h0 | h0 | h0<;>rw [h0]<;>simp
      refine aH.ifB (fun e1=>?_) fun e1=>aH.ifB (fun e2=>?_) fun e2=>aH.ifB (fun e3=>?_) fun e3=>?_
      · exact jL (no (.inl (by simp at e1 ⊢; omega)))
      · exact jL (no (.inr (.inl (by simpa using e2))))
      · simp at e1 e2 e3
        have hw1:IntKind.i64.wrap ((i:Int)-1)=((i-1:Nat):Int):=by rw [m9 (by omega) (by omega)]; omega
        have pv:KY l i=some (nz l (i-1)):=by unfold KY; rw [if_neg (by omega)]
        simp only [hw1,hv.elN (show i-1<l.length by omega)]
        refine aH.ifB (fun e4=>?_) fun e4=>?_
        · exact jL (no (.inr (.inr (by rw [pv]; simpa [ZF] using e4))))
        · simp at e4
          exact fin (fun y hy=>by rw [pv] at hy; cases hy; exact e4) e1 e2
      · simp at e1 e2 e3
        have i0:i=0:=by omega
        exact fin (fun y hy=>by unfold KY at hy; rw [if_pos i0] at hy; cases hy) e1 e2
    · simp at e
      have:i=l.length:=by omega
      subst this
      simp only [hv.len]
      simp only [aB]
      exact jL ⟨by simp [zq],.refl⟩
theorem aqR {n:Nat} {z:bA} (hn:dm n z) {h:Heap} (hro:h.ro≤h.nx) {c:List AV} (hc:Cfg h z c) {p:Nat} (hp:p<z.parts.length):aM (dE n (.agg c) p h) fun r h'=>r=aa0 z p∧aY h h':=by
  unfold dE IM B6
  obtain ⟨t,pp,rfl,ht,hps,S,hpt,hS⟩:=hc
  refine aM.bind (m7 ..) ?_
  rintro x h1 ⟨hb,g⟩
  obtain ⟨b,off,l,e1,e2,e3,e4⟩:=(hpt.grow g).at_ (i:=(p:Int)) (by omega) (by omega)
  rw [gd] at e4
  have e5:l[off]?=some (S p):=by
    have:=congrArg (·[0]?) e4
    simpa [tJ] using this
  simp only [aB,gS hb,qr,bI.ia (hpt.grow g) (show (0:Int)≤(p:Int) by omega) (show (p:Int)<_ by omega),e1,gS e2,e5,((hS p hp).grow g).len]
  refine aH.mono (anh hn (p:=p) (by omega) hps _ n 0 h1 (g.le hro) hb (hpt.grow g) (fun i hi=>(hS i hi).grow g) ((hS p hp).grow g) (by omega) (by have:=hn.eZ p hp; omega)) ?_
  rintro ⟨r,h'⟩ ⟨q1,q2⟩
  exact ⟨by rw [q1]; simp [aa0,jH,KY],g.trans q2⟩
end Go.Proofs.YtpoobhhdgjgdgaaGreat.Sh
/- What a partition's quotas are, by the code. -/
namespace Go.Proofs.YtpoobhhdgjgdgaaGreat.Sh
open Go.Ai
theorem Cfg.mk' {h:Heap} {z:bA} {t p:AV} (ht:cK h .i64 t z.fh) (hp:di h p z.parts):Cfg h z (qr z t p):=⟨t,p,rfl,ht,hp⟩
theorem Cfg.shut {h:Heap} {z:bA} {c:List AV} (p:Cfg h z c):Cfg (h.shut true) z c:=p
theorem v_total {n:Nat} {z:bA} (hz:z.eY≠0) {h:Heap} {c:List AV} (hc:Cfg h z c) {p:Nat} (hp:p<z.parts.length):aM (dF n (.agg c) p h) fun r h'=>r=ab7 z p∧aY h h':=by
  unfold dF PS H6
  obtain ⟨t,pp,rfl,ht,hps,S,hpt,hS⟩:=hc
  refine aM.bind (m7 ..) ?_
  rintro x h1 ⟨hb,g⟩
  obtain ⟨b,off,l,e1,e2,e3,e4⟩:=(hpt.grow g).at_ (i:=(p:Int)) (by omega) (by omega)
  rw [gd] at e4
  have e5:l[off]?=some (S p):=by
    have:=congrArg (·[0]?) e4
    simpa [tJ] using this
  simp only [aB,gS hb,bC,bI.ia (hpt.grow g) (show (0:Int)≤(p:Int) by omega) (show (p:Int)<_ by omega),e1,gS e2,e5,((hS p hp).grow g).len]
  refine aM.bind (aeh n (h:=h1.shut true) (z:=z) (Cfg.shut (Cfg.mk' (ht.grow g) ⟨hps,S,hpt.grow g,fun i hi=>(hS i hi).grow g⟩)) hz) ?_
  rintro _ h2 ⟨rfl,g2⟩
  exact jL ⟨rfl,g.trans g2.shut⟩
theorem apg {R:Type} {ap:ajK→R→aa} {Q:R→Prop} {n:Nat} {w v2 v5:AV} {v1:Int} {ps:List cU} {S:Nat→AV} {f1 f2 f3 f4} :
    ∀ (m j:Nat) (a:Int) (h:Heap),h.ro≤h.nx→bI h w 8 ps.length (fun i=>tJ (ps.getD i default) (S i))→
    j≤ps.length→ps.length-j<m→
    (∀ h',aY h h'→aH ap (fun k=>vN n f1 f2 f3 f4 k v1 v2 v5 (alU (ps.drop j) a) h') Q)→f4=bZ n→
    aH ap (fun k=>vG n f1 f2 f3 f4 k m v1 v2 v5 a w ps.length j h) Q:=by
  intro m
  induction m with
  | zero=>omega
  | succ m ih=>
    intro j a h hro hw hj hm hgo hf
    simp only [agl]
    unfold vf vZ
    refine aH.ifB (fun e=>?_) fun e=>?_
    · simp at e
      have hs:=hw.1
      subst hf
      simp only [aB,hw.eld (i:=(j:Int)) (by omega) (by omega),gd,jq (show j≤9223372036854775806 by omega)]
      refine aM.bind (G1 (n:=8) hro (by rfl) (by rfl)) ?_
      rintro y h1 ⟨hy,ho,g⟩
      simp only [aB,gS ho.cl,bC,wk]
      rw [gc e,alU,List.foldl_cons] at hgo
      rw [ab2 e]
      refine aH.ifB (fun e1=>?_) fun e1=>?_
      · rw [if_pos e1] at hgo
        exact ih (j+1) _ _ (g.le hro) (hw.grow g) (by omega) (by omega) (fun h' g'=>hgo h' (g.trans g')) rfl
      · rw [if_neg (by simp [e1])] at hgo
        exact ih (j+1) _ _ (g.le hro) (hw.grow g) (by omega) (by omega) (fun h' g'=>hgo h' (g.trans g')) rfl
    · simp at e
      have:j=ps.length:=by omega
      subst this
      have:=hgo h .refl
      rw [List.drop_length] at this
      exact this
@[simp] theorem idxAK_0 (a b c:AV) (k:AV→aa):aeA 1 3 false (.agg [a,b,c]) 0 k=k a:=by
  show nV (Nat.mul 0 1) (fun o=>oC (sub [a,b,c] o 1) fun l=>oC (HE false l) k)=_
  simp [nP,HE]
@[simp] theorem idxAK_1 (a b c:AV) (k:AV→aa):aeA 1 3 false (.agg [a,b,c]) 1 k=k b:=by
  show nV (Nat.mul 1 1) (fun o=>oC (sub [a,b,c] o 1) fun l=>oC (HE false l) k)=_
  simp [nP,HE]
@[simp] theorem idxAK_2 (a b c:AV) (k:AV→aa):aeA 1 3 false (.agg [a,b,c]) 2 k=k c:=by
  show nV (Nat.mul 2 1) (fun o=>oC (sub [a,b,c] o 1) fun l=>oC (HE false l) k)=_
  simp [nP,HE]
theorem wr01:IntKind.i64.wrap (0+1)=1:=by decide
theorem wr12:IntKind.i64.wrap (1+1)=2:=by decide
theorem wr23:IntKind.i64.wrap (2+1)=3:=by decide
theorem build3 (q:IntKind) (a b c:Int) (k:AV→aa):kM [.int q 0,.int q 0,.int q 0] [(0,1,.int q a),(1,1,.int q b),(2,1,.int q c)] k=k (.agg [.int q a,.int q b,.int q c]):=rfl
theorem lt03:decide ((0:Int)<3)=true:=rfl
theorem lt13:decide ((1:Int)<3)=true:=rfl
theorem lt23:decide ((2:Int)<3)=true:=rfl
theorem lt33:decide ((3:Int)<3)=false:=rfl
theorem v_quotas {n:Nat} {z:bA} (hn:dm n z) {h:Heap} (hro:h.ro≤h.nx) {c:List AV} (hc:Cfg h z c) {p:Nat} (hp:p<z.parts.length):aM (dK n (.agg c) p h) fun r h'=>r=qt z p∧aY h h':=by
  unfold dK Mi Fc vM vQ
  obtain ⟨m,rfl⟩:∃ m,n=m+4:=⟨n-4,by have:=hn.small; omega⟩
  have hc0:=hc
  obtain ⟨t,pp,rfl,ht,hps,S,hpt,hS⟩:=hc
  refine aM.bind (m7 ..) ?_
  rintro x h1 ⟨hb,g⟩
  simp only [aB,gS hb,bC,bI.eld (hpt.grow g) (show (0:Int)≤(p:Int) by omega) (show (p:Int)<_ by omega),gd]
  refine aM.bind (G1 (n:=8) (g.le hro) (by rfl) (by rfl)) ?_
  rintro y h2 ⟨hy,ho,g2⟩
  have gg:=g.trans g2
  have hb2:=g2.cl hb
  simp only [aB,gS ho.cl,bC,wk]
  rw [show z.parts.getD p default=jH z p from rfl] at *
  refine aH.ifB (fun e1=>jL ⟨by simp at e1; simp [qt,e1],gg⟩) fun e1=>aH.ifB (fun e2=>jL ⟨by simp at e2; simp [qt,e2],gg⟩) fun e2=>aH.ifB (fun e3=>jL ⟨by simp at e3; simp [qt,e3],gg⟩) fun e3=>?_
  simp only [build3,afW,vx]
  simp only [aB,idxAK_0,idxAK_1,idxAK_2,wr01,wr12,wr23,lt03,lt13,lt23,lt33,wk]
  refine aH.ifB (fun e4=>jL ⟨by simp at e4; simp [qt,e4],gg⟩) fun e4=>aH.ifB (fun e5=>jL ⟨by simp at e5; simp [qt,e5],gg⟩) fun e5=>aH.ifB (fun e6=>jL ⟨by simp at e6; simp [qt,e6],gg⟩) fun e6=>?_
  unfold AD
  simp only [aB,gS hb2,bC]
  have hpl:=hpt.1
  obtain ⟨w,hw,hsl⟩:=(hpt.grow gg).take hps (i:=((p+1:Nat):Int)) (by omega) (by omega)
  rw [jq (show p≤9223372036854775806 by omega),gd] at *
  simp only [jq (show p≤9223372036854775806 by omega),hsl,bI.len hw]
  have hlen:(z.parts.take (p+1)).length=p+1:=by simp; omega
  have hw':bI h2 w 8 (z.parts.take (p+1)).length fun i=>tJ ((z.parts.take (p+1)).getD i default) (S i):=by
    rw [hlen]
    obtain ⟨q1,q2⟩:=hw
    refine ⟨q1,?_⟩
    rcases q2 with q2 | ⟨b,off,ext,opn,q2,q3⟩
    · exact .inl q2
    · refine .inr ⟨b,off,ext,opn,q2,fun h0=>?_⟩
      obtain ⟨cl,q3,q4⟩:=q3 h0
      exact ⟨cl,q3,fun j hj=>by have:=q4 j hj; dsimp only at this ⊢; rw [W9 (by omega)]; exact this⟩
  have key:=apg (ap:=ap1) (n:=m+4) (w:=w) (v2:=.ptr x 0) (v5:=.ptr y 0) (v1:=p) (ps:=z.parts.take (p+1)) (S:=S) (f1:=dF (m+4)) (f2:=bV (m+4)) (f3:=dn (m+4)) (f4:=bZ (m+4))
    (Q:=fun r=>r.1=qt z p∧aY h r.2) (m+4) 0 0 h2 (gg.le hro) hw' (by omega) (by rw [hlen]; have:=hn.parts; omega) (fun h3 g3=>?_) rfl
  · rw [hlen] at key
    exact key
  rw [List.drop_zero]
  have g23:=gg.trans g3
  have ho3:=(ho.grow g3).cl
  have hb3:=g3.cl hb2
  unfold vN vY vg
  simp only [aB,gS ho3,bC,wk]
  simp only [Bool.not_eq_false'] at e1 e2 e3 e4 e5 e6
  refine aH.ifB (fun e7=>jL ⟨by simp at e7; simp [qt,e7],g23⟩) fun e7=>aH.ifB (fun e8=>jL ⟨by simp at e8; simp [qt,Int.not_le.2 e8],g23⟩) fun e8=>?_
  simp at e7 e8
  simp only [aB,gS hb3,bC]
  refine aM.bind (Iz (m+4) (Cfg.mk' (ht.grow g23) ⟨hps,S,hpt.grow g23,fun i hi=>(hS i hi).grow g23⟩)) ?_
  rintro _ h4 ⟨rfl,g4⟩
  have g24:=g23.trans g4
  refine aH.ifB (fun e9=>jL ⟨?_,g24⟩) fun e9=>?_
  · simp at e9
    simp [qt,e1,e2,e3,e4,e5,e6,e7,e8,e9]
  simp at e9
  have hz:=afu e9
  have ho4:=g4.cl ho3
  have hb4:=g4.cl hb3
  have hord:0≤(jH z p).order:=by simp [jd] at e1; omega
  simp only [aB,gS ho4,gS hb4,bC,abl hord]
  refine aM.bind (aeh (m+4) (Cfg.mk' (ht.grow g24) ⟨hps,S,hpt.grow g24,fun i hi=>(hS i hi).grow g24⟩) hz) ?_
  rintro _ h5 ⟨rfl,g5⟩
  have g25:=g24.trans g5
  refine aH.ifB (fun e10=>?_) fun e10=>jL ⟨?_,g25⟩
  · simp at e10
    simp only [aB,gS (g5.cl ho4),gS (g5.cl hb4),bC]
    refine aM.bind (v_total (n:=m+4) (h:=h5.shut true) hz (Cfg.shut (Cfg.mk' (ht.grow g25) ⟨hps,S,hpt.grow g25,fun i hi=>(hS i hi).grow g25⟩)) hp) ?_
    rintro _ h6 ⟨rfl,g6⟩
    refine jL ⟨?_,g25.trans g6.shut⟩
    have h10:Qe (jH z p)≤ail z:=by unfold Qe; omega
    have h11:qt z p=decide (needZ (jH z p)≤ab7 z p):=by simp [qt,e1,e2,e3,e4,e5,e6,e7,e8,e9,h10]
    show (!decide (ab7 z p<needZ (jH z p)))=qt z p
    rw [h11,Bool.eq_iff_iff]
    simp
  · simp at e10
    have h10:¬ Qe (jH z p)≤ail z:=by unfold Qe; omega
    simp [qt,e1,e2,e3,e4,e5,e6,e7,e8,e9,h10]
theorem v_part {n:Nat} {z:bA} (hn:dm n z) {h:Heap} (hro:h.ro≤h.nx) {c:List AV} (hc:Cfg h z c) {p:Nat} (hp:p<z.parts.length):aM (cM n (.agg c) p h) fun r h'=>r=Uk z p∧aY h h':=by
  unfold cM V2 Lo
  obtain ⟨t,pp,rfl,ht,hps⟩:=hc
  refine aM.bind (m7 ..) ?_
  rintro x h1 ⟨hb,g⟩
  simp only [aB,gS hb,bC]
  refine aM.bind (aqR hn (g.le hro) (Cfg.mk' (ht.grow g) (hps.grow g)) hp) ?_
  rintro _ h2 ⟨rfl,g2⟩
  have gg:=g.trans g2
  refine aH.ifB (fun e1=>?_) fun e1=>?_
  · simp at e1
    exact jL ⟨by simp [Uk,e1],gg⟩
  · simp at e1
    simp only [aB,gS (g2.cl hb),bC]
    refine aM.bind (v_quotas hn (gg.le hro) (Cfg.mk' (ht.grow gg) (hps.grow gg)) hp) ?_
    rintro _ h3 ⟨rfl,g3⟩
    refine aH.ifB (fun e2=>?_) fun e2=>?_
    · simp at e2
      exact jL ⟨by simp [Uk,e1,e2],gg.trans g3⟩
    · simp at e2
      exact jL ⟨by simp [Uk,e1,e2],gg.trans g3⟩
end Go.Proofs.YtpoobhhdgjgdgaaGreat.Sh
/- What things cost, by the code. -/
namespace Go.Proofs.YtpoobhhdgjgdgaaGreat.Sh
open Go.Ai
@[simp] theorem XR (n:Nat) (a b c:Int) (h:Heap) (k:Bool→Heap→aa):cL n a b c h k=k (jd a b c) h:=by
  unfold cL LA Fm wc
  by_cases hc:a<b
  · simp [jd,hc,show ¬ b≤a by omega]
  · simp [jd,hc,show b≤a by omega, ← Int.not_lt]
theorem v_Switch {n:Nat} (hn:4≤n) (h:Heap) (z:bA) (a b:Int):dr (de n (.agg (zE z)) a b h) fun v e h'=>e=Xa z a b∧(e=0→v=aqg z a b)∧aY h h':=by
  unfold de Mo Fo vL
  refine aM.bind (m7 ..) ?_
  rintro x h1 ⟨hb,g⟩
  simp only [aB,gS hb,bC]
  refine aM.bind (HU hn h1 z) ?_
  rintro _ h2 ⟨rfl,g2⟩
  have gg:=g.trans g2
  have hb2:=g2.cl hb
  simp only [aB,gS hb2,bC,XR]
  refine aH.ifB (fun e1=>EV ⟨?_,?_,gg⟩) fun e1=>aH.ifB (fun e2=>EV ⟨?_,?_,gg⟩) fun e2=>aH.ifB (fun e3=>EV ⟨?_,?_,gg⟩) fun e3=>EV ⟨?_,?_,gg⟩
  · simp at e1; simp [Xa,e1]
  · intro h0; simp at e1; exact (e1 h0).elim
  · simp at e1 e2; simp [Xa,e1,e2]
  · intro h0; cases h0
  · simp at e1 e2 e3; simp [Xa,e1,e2,e3]
  · intro h0; cases h0
  · simp at e1 e2 e3; simp [Xa,e1,e2,e3]
  · intro _; rfl
theorem aqO {n:Nat} {x:Nat} {h:Heap} {s:dg} (hb:h.cl x (zf s)) (i:Bool) (f1):aM (fun k=>xy n f1 (cL n) k (.ptr x 0) i h) fun r h'=>h'=h∧r=if i&&(jd s.user 2 4096&&(jd s.limit 1 5120&&jd s.nodes 1 4096)) then 0 else 2:=by
  unfold xy wL xG wT
  simp only [aB,gS hb,bC,XR]
  cases i<;>cases h1:jd s.user 2 4096<;>cases h2:jd s.limit 1 5120<;>cases h3:jd s.nodes 1 4096<;>exact jL ⟨rfl,by simp⟩
theorem aqK {n:Nat} {y:Nat} {h:Heap} {s:dg} (hb:h.cl y (zf s)) (f1):∀ (m i:Nat) (b:Bool),i≤4→4-i<m→aM (fun k=>xg n f1 (cL n) k m (.ptr y 0) b i h) fun r h'=>h'=h∧
    r=if (b||(List.range' i (4-i)).any fun j=>s.image==IntKind.i64.wrap (shlF .i64 1 j))&&(jd s.user 2 4096&&(jd s.limit 1 5120&&jd s.nodes 1 4096)) then 0 else 2:=by
  intro m
  induction m with
  | zero=>omega
  | succ m ih=>
    intro i b hi hm
    simp only [ahT]
    unfold w9 xE
    refine aH.ifB (fun e=>?_) fun e=>?_
    · simp at e
      simp only [aB,gS hb,bC,jq (show i≤9223372036854775806 by omega),abl (fP i),gd]
      have hr:List.range' i (4-i)=i::List.range' (i+1) (4-(i+1)):=by
        rw [show 4-i=(4-(i+1))+1 by omega,List.range'_succ]
      rw [hr,List.any_cons]
      refine aH.ifB (fun e1=>?_) fun e1=>?_
      · subst e1
        refine aH.mono (ih (i+1) true (by omega) (by omega)) ?_
        rintro ⟨r,h'⟩ ⟨q1,q2⟩
        exact ⟨q1,by rw [q2]; simp⟩
      · subst e1
        refine aH.mono (ih (i+1) _ (by omega) (by omega)) ?_
        rintro ⟨r,h'⟩ ⟨q1,q2⟩
        exact ⟨q1,by rw [Bool.false_or]; exact q2⟩
    · simp at e
      have:i=4:=by omega
      subst this
      refine aH.mono (aqO hb b f1) ?_
      rintro ⟨r,h'⟩ ⟨q1,q2⟩
      exact ⟨q1,by rw [q2]; simp⟩
theorem v_asked {n:Nat} (hn:10≤n) (h:Heap) (z:bA) (s:dg):aM (du n (.agg (zE z)) (.agg (zf s)) h) fun r h'=>r=ah7 z s∧aY h h':=by
  unfold du PL H2
  refine aM.bind (m7 ..) ?_
  rintro x h1 ⟨hb,g⟩
  refine aM.bind (m7 ..) ?_
  rintro y h2 ⟨hb2,g2⟩
  simp only [aB,gS (g2.cl hb),bC]
  refine aM.bind (HU (by omega) h2 z) ?_
  rintro _ h3 ⟨rfl,g3⟩
  have gg:=g.trans (g2.trans g3)
  have hb3:=g3.cl hb2
  refine aH.ifB (fun e1=>jL ⟨?_,gg⟩) fun e1=>?_
  · simp at e1; simp [ah7,e1]
  simp at e1
  refine aH.mono (aqK hb3 (b7 n) n 0 false (by omega) (by omega)) ?_
  rintro ⟨r,h'⟩ ⟨q1,q2⟩
  refine ⟨?_,by rw [q1]; exact gg⟩
  rw [q2]
  have hr:(List.range' 0 (4-0)).any (fun j=>s.image==IntKind.i64.wrap (shlF .i64 1 j))=(decide (s.image=1)||(decide (s.image=2)||(decide (s.image=4)||decide (s.image=8)))):=by
    show (s.image==1||(s.image==2||(s.image==4||(s.image==8||false))))=_
    rw [Bool.or_false]; rfl
  rw [hr,ah7,if_pos e1,Bool.false_or]
abbrev At1 (h:Heap) (x:Nat) (q:IntKind) (v:Int):Prop:=h.cl x [.int q v]
theorem YT {q:IntKind} {v:Int}:([AV.int q v]:List AV)[0]?=some (.int q v):=rfl
theorem v_f1 {n:Nat} {h:Heap} {x:Nat} {m:Int} (hx:At1 h x .u64 m) (k:Int→Heap→aa):bT n (.ptr x 0) h k=k (w64 (113*m)) h:=by
  unfold bT Ef yx
  simp only [aB,gS hx,YT]; rfl
theorem v_f2 {n:Nat} {h:Heap} {x:Nat} {m:Int} (hx:At1 h x .u64 m) (k:Int→Heap→aa):bS n (.ptr x 0) h k=k (w64 (64*m)) h:=by
  unfold bS ET yT
  simp only [aB,gS hx,YT]; rfl
theorem v_f4 {n:Nat} {h:Heap} {x:Nat} {m:Int} (hx:At1 h x .u64 m) (k:Int→Heap→aa):ci n (.ptr x 0) h k=k (w64 (17*m)) h:=by
  unfold ci Ez x4
  simp only [aB,gS hx,YT]; rfl
theorem v_f5 {n:Nat} {h:Heap} {x y:Nat} {a m:Int} (hx:At1 h x .u64 a) (hy:At1 h y .u64 m) (k:Int→Heap→aa):cb n (.ptr x 0) (.ptr y 0) h k=k (w64 (a+m)) h:=by
  unfold cb E2 xR
  simp only [aB,gS hx,gS hy,YT]; rfl
theorem v_f6 {n:Nat} {h:Heap} {x y w:Nat} {s:dg} {a m:Int} (hx:At1 h x .u64 m) (hy:h.cl y (zf s)) (hw:At1 h w .u64 a) (k:Int→Heap→aa) :
    cm n (.ptr x 0) (.ptr y 0) (.ptr w 0) h k=k (w64 (w64 (m+w64 (w64 (16*w64 s.nodes)*m))+a)) h:=by
  unfold cm En yp
  simp only [aB,gS hx,gS hy,gS hw,YT,bC]; rfl
theorem v_f7 {n:Nat} {h:Heap} {x y:Nat} {z:bA} {m:Int} (hx:h.cl x (zE z)) (hy:At1 h y .u64 m) (k:Int→Heap→aa):b9 n (.ptr x 0) (.ptr y 0) h k=k (w64 (w64 (64*w64 (z.step+m))+m)) h:=by
  unfold b9 EZ xU
  simp only [aB,gS hx,gS hy,YT,bC]; rfl
theorem v_f9 {n:Nat} {h:Heap} {x y w:Nat} {z:bA} {m f:Int} (hx:At1 h x .u64 m) (hy:h.cl y (zE z)) (hw:At1 h w .u64 f) (k:Int→Heap→aa) :
    ck n (.ptr x 0) (.ptr y 0) (.ptr w 0) h k=k (w64 (w64 (w64 (w64 (26*m)+z.fault)+f)+z.disk)) h:=by
  unfold ck Ev yC
  simp only [aB,gS hx,gS hy,gS hw,YT,bC]; rfl
theorem v_f10 {n:Nat} {h:Heap} {x y w:Nat} {z:bA} {m f:Int} (hx:At1 h x .u64 m) (hy:h.cl y (zE z)) (hw:At1 h w .u64 f) (k:Int→Heap→aa) :
    bU n (.ptr x 0) (.ptr y 0) (.ptr w 0) h k=k (w64 (w64 (w64 (w64 (64*m)+w64 (2*z.fault))+w64 (2*f))+z.disk)) h:=by
  unfold bU C6 wE
  simp only [aB,gS hx,gS hy,gS hw,YT,bC]; rfl
theorem max2 (q:IntKind) (a b:Int) (k:AV→aa):tg true [.int q a,.int q b] k=k (.int q (maxZ a b)):=by
  show oC (some (.int q (if ltF a b then b else a))) k=_
  rw [kg]; simp [maxZ]
theorem min2 (q:IntKind) (a b:Int) (k:AV→aa):tg false [.int q a,.int q b] k=k (.int q (minZ a b)):=by
  show oC (some (.int q (if ltF b a then b else a))) k=_
  rw [kg]; simp [minZ]
theorem v_f8 {n:Nat} {h:Heap} {x y p u:Nat} {m a:Int} (hx:h.cl x [.func mZ [] [.ptr p 0]]) (hy:h.cl y [.func mT [] [.ptr u 0]]) (hp:At1 h p .u64 m) (hu:At1 h u .u64 a) (k:Int→Heap→aa) :
    cI n (.ptr x 0) (.ptr y 0) h k=k (maxZ (w64 (113*m)) (w64 (64*a))) h:=by
  unfold cI EW yw
  have c1:∀ h k,pW (bT n) (bS n) (cw n) (ci n) (cb n) (cm n) (b9 n) (ck n) (bU n) (.func mZ [] [.ptr p 0]) [] h k =
      bT n (.ptr p 0) h fun u h=>k (.int .u64 u) h:=fun _ _=>rfl
  have c2:∀ h k,pW (bT n) (bS n) (cw n) (ci n) (cb n) (cm n) (b9 n) (ck n) (bU n) (.func mT [] [.ptr u 0]) [] h k =
      bS n (.ptr u 0) h fun u h=>k (.int .u64 u) h:=fun _ _=>rfl
  have e1:([AV.func mZ [] [.ptr p 0]]:List AV)[0]?=some (.func mZ [] [.ptr p 0]):=rfl
  have e2:([AV.func mT [] [.ptr u 0]]:List AV)[0]?=some (.func mT [] [.ptr u 0]):=rfl
  have b0:(h.shut true).back h.ro=h:=by cases h; rfl
  simp only [aB,gS hx,e1,c1,v_f1 hp.shut,b0,gS hy,e2,c2,v_f2 hu,max2]
end Go.Proofs.YtpoobhhdgjgdgaaGreat.Sh
/- The worst costs, by the code. -/
namespace Go.Proofs.YtpoobhhdgjgdgaaGreat.Sh
open Go.Ai
def FL (pc ps pm pp pa pf pv pw:Nat):List AV:=[.func tI [] [],.func yh [] [.ptr pm 0],.func xZ [] [.ptr pa 0,.ptr pm 0],.func yf [] [.ptr pm 0,.ptr ps 0,.ptr pa 0],
  .func mZ [] [.ptr pm 0],.func mT [] [.ptr pp 0],.func yk [] [.ptr pc 0,.ptr pm 0],.func EX [] [.ptr pv 0,.ptr pw 0],.func yu [] [.ptr pm 0,.ptr pc 0,.ptr pf 0],
  .func wH [] [.ptr pm 0,.ptr pc 0,.ptr pf 0],.func tI [] []]
structure BoundsAt (h:Heap) (z:bA) (s:dg) (pc ps pm pp pa pf pv pw:Nat):Prop where
  fc:h.cl pc (zE z)
  fs:h.cl ps (zf s)
  fm:At1 h pm .u64 z.miss
  fp:At1 h pp .u64 (pageC z)
  fa:At1 h pa .u64 (allC z s)
  ff:At1 h pf .u64 (apJ z s)
  fv:h.cl pv [.func mZ [] [.ptr pm 0]]
  fw:h.cl pw [.func mT [] [.ptr pp 0]]
theorem fn_0 {f:Nat} {c:List AV}:([AV.func f [] c]:List AV)[0]?=some (.func f [] c):=rfl
theorem v_bounds {n:Nat} {h:Heap} (hro:h.ro≤h.nx) (z:bA) (s:dg):aM (dc n (.agg (zE z)) (.agg (zf s)) h) fun r h'=>∃ pc ps pm pp pa pf pv pw,r = .agg (FL pc ps pm pp pa pf pv pw)∧BoundsAt h' z s pc ps pm pp pa pf pv pw∧aY h h':=by
  unfold dc LD FB
  refine aM.bind (m7 ..) ?_
  rintro pc h1 ⟨c1,g1⟩
  refine aM.bind (m7 ..) ?_
  rintro ps h2 ⟨s2,g2⟩
  have c2:=g2.cl c1
  have t2:=g1.trans g2
  refine aM.bind (DV (t2.le hro) _ 0) ?_
  rintro q h3 ⟨hq,oq3,g3⟩
  have c3:=g3.cl c2
  have s3:=g3.cl s2
  have t3:=t2.trans g3
  simp only [aB,gS c3,bC]
  refine aM.bind (akZ (t3.le hro) rfl) ?_
  rintro pm h4 ⟨n4,o4,g4⟩
  have m4:=o4.cl
  have c4:=g4.cl c3
  have s4:=g4.cl s3
  have t4:=t3.trans g4
  simp only [aB,gS c4,gS m4,YT,bC]
  refine aM.bind (akZ (t4.le hro) rfl) ?_
  rintro pp h5 ⟨n5,o5,g5⟩
  have p5:=o5.cl
  have m5:=g5.cl m4
  have c5:=g5.cl c4
  have s5:=g5.cl s4
  have t5:=t4.trans g5
  simp only [aB,gS s5,gS p5,YT,bC]
  refine aM.bind (akZ (t5.le hro) rfl) ?_
  rintro pa h6 ⟨n6,o6,g6⟩
  have a6:=o6.cl
  have p6:=g6.cl p5
  have m6:=g6.cl m5
  have c6:=g6.cl c5
  have s6:=g6.cl s5
  have t6:=t5.trans g6
  simp only [aB,gS s6,gS c6,bC]
  refine aM.bind (akZ (t6.le hro) rfl) ?_
  rintro pf h7 ⟨n7,o7,g7⟩
  have t7:=t6.trans g7
  refine aM.bind (akZ (t7.le hro) rfl) ?_
  rintro pv h8 ⟨n8,o8,g8⟩
  have t8:=t7.trans g8
  refine aM.bind (akZ (t8.le hro) rfl) ?_
  rintro pw h9 ⟨n9,o9,g9⟩
  have t9:=t8.trans g9
  have v9:=g9.cl o8.cl
  simp only [aB,gS v9,gS o9.cl,fn_0]
  have g79:=g8.trans g9
  have g69:=g7.trans g79
  have g39:=g4.trans (g5.trans (g6.trans g69))
  refine dl.bind (Qv (cs:=FL pc ps pm pp pa pf pv pw) (oq3.grow g39) rfl (by show 0+11≤11; decide)) ?_
  intro h10 hp
  rw [Ix _ _ (by rfl)] at hp
  have gq:=hp.grow t9 (ga t2.nx hq)
  simp only [aB,gS hp.own.cl]
  have:sub (FL pc ps pm pp pa pf pv pw) 0 11=some (FL pc ps pm pp pa pf pv pw):=by rw [nP]; rfl
  simp only [aB,this]
  refine jL ⟨pc,ps,pm,pp,pa,pf,pv,pw,rfl,?_,gq⟩
  have q3:=oq3.lt
  have k1:=g4.nx
  have k2:=g5.nx
  have k3:=g6.nx
  have k4:=g7.nx
  have k5:=g8.nx
  have k6:=c2.1
  have k7:=s2.1
  exact ⟨hp.cl (by omega) (g69.cl c6),hp.cl (by omega) (g69.cl s6),hp.cl (by omega) (g69.cl m6),hp.cl (by omega) (g69.cl p6),hp.cl (by omega) (g69.cl a6),hp.cl (by omega) (g79.cl o7.cl),hp.cl (by omega) v9,hp.cl (by omega) o9.cl⟩
noncomputable abbrev cfM (n:Nat):bf:=qx (du n) (dc n) (bT n) (bS n) (cw n) (ci n) (cb n) (cm n) (b9 n) (cI n) (ck n) (bU n)
theorem aqS {n:Nat} {h:Heap} {z:bA} {s:dg} {pc ps pm pp pa pf pv pw:Nat} (b:BoundsAt h z s pc ps pm pp pa pf pv pw) {i:Nat} (hi:i<11) (k:AV→Heap→aa) :
    cfM n ((FL pc ps pm pp pa pf pv pw).getD i default) [] h k=k (.int .u64 (nz (abW z s) i)) h:=by
  match i,hi with
  | 0,_=>exact rfl
  | 1,_=>exact v_f4 (n:=n) b.fm _
  | 2,_=>exact v_f5 (n:=n) b.fa b.fm _
  | 3,_=>exact v_f6 (n:=n) b.fm b.fs b.fa _
  | 4,_=>exact v_f1 (n:=n) b.fm _
  | 5,_=>exact v_f2 (n:=n) b.fp _
  | 6,_=>exact v_f7 (n:=n) b.fc b.fm _
  | 7,_=>exact v_f8 (n:=n) b.fv b.fw b.fm b.fp _
  | 8,_=>exact v_f9 (n:=n) b.fm b.fc b.ff _
  | 9,_=>exact v_f10 (n:=n) b.fm b.fc b.ff _
  | 10,_=>exact rfl
theorem v_Most_1 {n:Nat} {h:Heap} {z:bA} {s:dg} {pc ps pm pp pa pf pv pw x y:Nat} (b:BoundsAt h z s pc ps pm pp pa pf pv pw) (hx:h.cl x (zE z)) (hy:h.cl y (zf s)):∀ (m i:Nat) (a:Int),i≤11→11-i<m→
    dr (fun k=>zu n (du n) (dc n) (bT n) (bS n) (cw n) (ci n) (cb n) (cm n) (b9 n) (cI n) (ck n) (bU n) k m (.ptr x 0) (.ptr y 0) a (.agg (FL pc ps pm pp pa pf pv pw)) i h)
      fun v e h'=>h'=h∧e=0∧v=w64 (w64 (w64 s.image*z.miss)+((abW z s).drop i).foldl maxZ a):=by
  intro m
  induction m with
  | zero=>omega
  | succ m ih=>
    intro i a hi hm
    simp only [ajN]
    unfold zO Fs
    refine aH.ifB (fun e=>?_) fun e=>?_
    · simp at e
      have e':i<(abW z s).length:=by show i<11; omega
      have eF:i<(FL pc ps pm pp pa pf pv pw).length:=by show i<11; omega
      have hd:((FL pc ps pm pp pa pf pv pw)[i])=(FL pc ps pm pp pa pf pv pw).getD i default:=by rw [gh,fU eF]; rfl
      have key:=aqS (n:=n) b (i:=i) (by omega)
      unfold cfM at key
      rw [gc e',List.foldl_cons]
      simp only [aB,idxA_of (l:=FL pc ps pm pp pa pf pv pw) (n:=11) (i:=i) rfl (by omega),hd,key,max2,jq (show i≤9223372036854775806 by omega)]
      have:=ih (i+1) (maxZ a (nz (abW z s) i)) (by omega) (by omega)
      rw [LH e'] at this ⊢
      exact this
    · simp at e
      have:i=11:=by omega
      subst this
      simp only [aB,gS hx,gS hy,bC]
      exact EV ⟨rfl,rfl,rfl⟩
theorem v_Most {n:Nat} (hn:100<n) {h:Heap} (hro:h.ro≤h.nx) (z:bA) (s:dg):dr (dA n (.agg (zE z)) (.agg (zf s)) h) fun v e h'=>e=ah7 z s∧(e=0→v=mostC z s)∧aY h h':=by
  unfold dA Vn KB
  refine aM.bind (m7 ..) ?_
  rintro x h1 ⟨c1,g1⟩
  refine aM.bind (m7 ..) ?_
  rintro y h2 ⟨s2,g2⟩
  have c2:=g2.cl c1
  have t2:=g1.trans g2
  simp only [aB,gS c2,gS s2,bC]
  refine aM.bind (v_asked (by omega) h2 z s) ?_
  rintro _ h3 ⟨rfl,g3⟩
  have t3:=t2.trans g3
  have c3:=g3.cl c2
  have s3:=g3.cl s2
  refine aH.ifB (fun e1=>EV ⟨rfl,fun h0=>?_,t3⟩) fun e1=>?_
  · simp at e1; exact (e1 h0).elim
  simp at e1
  simp only [aB,gS c3,gS s3,bC]
  refine aM.bind (v_bounds (t3.le hro) z s) ?_
  rintro _ h4 ⟨pc,ps,pm,pp,pa,pf,pv,pw,rfl,b,g4⟩
  refine aH.mono (v_Most_1 b (g4.cl c3) (g4.cl s3) n 0 0 (by omega) (by omega)) ?_
  rintro ⟨v,e,h'⟩ ⟨q1,q2,q3⟩
  refine ⟨by rw [q2,e1],fun _=>?_,by rw [q1]; exact t3.trans g4⟩
  rw [q3]; rfl
end Go.Proofs.YtpoobhhdgjgdgaaGreat.Sh
