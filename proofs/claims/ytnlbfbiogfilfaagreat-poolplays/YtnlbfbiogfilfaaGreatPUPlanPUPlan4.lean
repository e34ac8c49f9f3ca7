/- What the functions of 'plan' and 'cost' compute. -/
import Derived.Test.YtnlbfbiogfilfaaGreatPaPText
import Derived.Test.YtnlbfbiogfilfaaGreatAiTblKs
set_option linter.all false
namespace Go.Proofs.YtnlbfbiogfilfaaGreat.Sh
open Go.Ai
@[simp] theorem NZ (n:Nat) (a b c:Int) (h:ad) (k:Bool→ad→ah):cW n a b c h k=k (kG a b c) h:=by
  unfold cW ajd aaJ M9
  by_cases hc:a<b
  · simp [kG,hc,show ¬ b≤a by omega]
  · simp [kG,hc,show b≤a by omega, ← Int.not_lt]
@[simp] theorem u_plan_power (n:Nat) (a b:Int) (h:ad) (k:Bool→ad→ah):fM n a b h k=k (SM a b) h:=by
  unfold fM amx aeB Qc
  cases hc:kG a 1 b<;>simp [hc,SM]
theorem afG (n:Nat) {h:ad} {z:bq} {c:List AV} (hc:Cfg h z c):aF (cT n (.agg c) h) fun r h'=>r=sS z∧be h h':=by
  unfold cT afW XH Jb Kw Jx Jm I6 JM Ju
  obtain ⟨t,p,rfl,ht,hps,S,hp,hS⟩:=hc
  refine aF.bind (wh ..) ?_
  rintro x h1 ⟨hb,g⟩
  simp [jC hb,Hx]
  refine aL.ifB (fun e1=>?_) fun e1=>nT ⟨by simp [sS,e1],g⟩
  have hnz:z.gG≠0:=by
    simp [SM,kG] at e1; omega
  refine aL.ifB (fun e2=>?_) fun e2=>nT ⟨by simp [sS,e1,e2],g⟩
  simp only [aqo hnz]
  refine aL.ifB (fun e3=>?_) fun e3=>nT ⟨by simp [sS,e1,e2,e3],g⟩
  refine aL.ifB (fun e4=>?_) fun e4=>nT ⟨by simp [sS,e1,e2,e3,e4],g⟩
  refine aL.ifB (fun e5=>?_) fun e5=>nT ⟨by simp [sS,e1,e2,e3,e4,e5],g⟩
  refine aL.ifB (fun e6=>?_) fun e6=>nT ⟨by simp [sS,e1,e2,e3,e4,e5,e6],g⟩
  refine aL.ifB (fun e7=>?_) fun e7=>nT ⟨by simp [sS,e1,e2,e3,e4,e5,e6,e7],g⟩
  simp only [eD.len hp]
  exact nT ⟨by simp [sS,e1,e2,e3,e4,e5,e6,e7],g⟩
theorem awT (n:Nat) {h:ad} {z:bq} {c:List AV} (hc:Cfg h z c) (hz:z.gG≠0):aF (eZ n (.agg c) h) fun r h'=>r=amL z∧be h h':=by
  unfold eZ aqi aic
  obtain ⟨t,p,rfl,ht,hps,S,hp,hS⟩:=hc
  refine aF.bind (wh ..) ?_
  rintro x h1 ⟨hb,g⟩
  simp [jC hb,Hx]
  simp only [ah7 hz]
  exact nT ⟨rfl,g⟩
theorem ayl {n:Nat} {h:ad} {v:AV} {l:List Int} (hv:dP h .u64 v l):∀ (m i:Nat),i≤l.length→l.length-i<m→
    aF (fun k=>XK n k m v l.length i h) fun r h'=>r=(if (l.drop i).all (qZ 1) then 0 else 100)∧h'=h:=by
  intro m
  induction m with
  | zero=>omega
  | succ m ih=>
    intro i hi hm
    show aL ap1 (fun k=>PA n k (XK n k m) v l.length i h) _
    unfold PA Xm P3
    refine aL.ifB (fun e=>?_) fun e=>?_
    · simp at e
      have hs:=hv.small
      rw [iH e,List.all_cons]
      simp only [au,hv.elN e,un e,mt (show i≤9223372036854775806 by omega)]
      refine aL.ifB (fun e1=>?_) fun e1=>aL.ifB (fun e2=>?_) fun e2=>?_
      · simp at e1
        exact nT ⟨by simp [qZ]; omega,rfl⟩
      · simp at e2
        exact nT ⟨by simp [qZ]; omega,rfl⟩
      · simp at e1 e2
        refine aL.mono (ih (i+1) (by omega) (by omega)) ?_
        rintro ⟨r,h'⟩ ⟨h1,h2⟩
        exact ⟨by rw [h1]; simp [qZ,e1,e2],h2⟩
    · simp at e
      have:i=l.length:=by omega
      subst this
      exact nT ⟨by simp,rfl⟩
def rise (last:Int):List Int→Bool
  | []=>true
  | x::l=>qZ last x&&rise x l
theorem azq {n:Nat} {h:ad} {v w:AV} {l:List Int} (hv:dP h .u64 v l) {q:Int} (h3:aF (fun k=>Qy n k w h) fun r h'=>r=q∧be h h'):∀ (m i:Nat) (last:Int),i≤l.length→l.length-i<m→
    aF (fun k=>Yg n k m w last v l.length i h) fun r h'=>r=(if rise last (l.drop i) then q else 100)∧be h h':=by
  intro m
  induction m with
  | zero=>omega
  | succ m ih=>
    intro i last hi hm
    show aL ap1 (fun k=>PB n k (Yg n k m) w last v l.length i h) _
    unfold PB P6
    refine aL.ifB (fun e=>?_) fun e=>?_
    · simp at e
      have hs:=hv.small
      rw [iH e,rise]
      simp only [au,hv.elN e,un e,mt (show i≤9223372036854775806 by omega)]
      refine aL.ifB (fun e1=>?_) fun e1=>aL.ifB (fun e2=>?_) fun e2=>?_
      · simp at e1
        exact nT ⟨by simp [qZ]; omega,.refl⟩
      · simp at e2
        exact nT ⟨by simp [qZ]; omega,.refl⟩
      · simp at e1 e2
        refine aL.mono (ih (i+1) l[i] (by omega) (by omega)) ?_
        rintro ⟨r,h'⟩ ⟨h1,h2⟩
        exact ⟨by rw [h1]; simp [qZ,e1,e2],h2⟩
    · simp at e
      have:i=l.length:=by omega
      subst this
      refine aL.mono h3 ?_
      rintro ⟨r,h'⟩ ⟨h1,h2⟩
      exact ⟨by simpa [rise] using h1,h2⟩
theorem aeY {n:Nat} (hn:4≤n) (h:ad) (z:bq):aF (da n (.agg (Ko z)) h) fun r h'=>r=Lq z∧be h h':=by
  unfold da amH aeL
  refine aF.bind (wh ..) ?_
  rintro x h1 ⟨hb,g⟩
  simp only [au,jC hb,Ko]
  refine aF.bind (awk (q:=.u64) [z.l1,z.llc,z.miss] (fun k=>by rfl) (by simp)) ?_
  rintro v h2 ⟨hv,g2⟩
  simp only [hv.len]
  have hb2:=g2.cl hb
  refine aL.mono (azq (q:=if qZ 1 z.fault&&(qZ 1 z.step&&qZ 1 z.disk) then 0 else 100) hv ?_ n 0 1 (by simp) (by simp; omega)) ?_
  · unfold Qy
    simp only [au,jC hb2,Ko]
    refine aF.bind (awk (q:=.u64) [z.fault,z.step,z.disk] (fun k=>by rfl) (by simp)) ?_
    rintro v3 h3 ⟨hv3,g3⟩
    simp only [hv3.len]
    refine aL.mono (ayl hv3 n 0 (by simp) (by simp; omega)) ?_
    rintro ⟨r,h'⟩ ⟨e1,e2⟩
    exact ⟨by rw [e1]; simp,by rw [e2]; exact g3⟩
  · rintro ⟨r,h'⟩ ⟨e1,e2⟩
    refine ⟨?_,g.trans (g2.trans e2)⟩
    rw [e1]
    simp only [List.drop_zero,rise,Lq,amq,Bool.and_true]
    rcases Bool.eq_false_or_eq_true (qZ 1 z.l1) with a | a<;>rcases Bool.eq_false_or_eq_true (qZ z.l1 z.llc) with b | b<;>rcases Bool.eq_false_or_eq_true (qZ z.llc z.miss) with c | c<;>simp [a,b,c]
theorem aGQ {n:Nat} {h:ad} {v:AV} {l:List Int} {x:Int} (hv:dP h .i64 v l):∀ (m i:Nat),i≤l.length→l.length-i<m→(∀ j,j<i→nz l j≠x)→
    aF (fun k=>y5 n k m v x l.length i h) fun r h'=>h'=h∧((r = -1∧x∉l)∨∃ j:Nat,r=j∧j<l.length∧nz l j=x):=by
  intro m
  induction m with
  | zero=>omega
  | succ m ih=>
    intro i hi hm hj
    show aL ap1 (fun k=>vA n k (y5 n k m) v x l.length i h) _
    unfold vA yS
    refine aL.ifB (fun e=>?_) fun e=>?_
    · simp at e
      have hs:=hv.small
      simp only [au,hv.elN e,mt (show i≤9223372036854775806 by omega)]
      refine aL.ifB (fun e1=>?_) fun e1=>?_
      · simp at e1
        exact nT ⟨rfl,.inr ⟨i,rfl,e,e1.symm⟩⟩
      · simp at e1
        refine ih (i+1) (by omega) (by omega) fun j hj'=>?_
        by_cases e2:j=i
        · subst e2; exact fun e=>e1 e.symm
        · exact hj j (by omega)
    · simp at e
      refine nT ⟨rfl,.inl ⟨rfl,fun hx=>?_⟩⟩
      obtain ⟨j,h1,h2⟩:=List.getElem_of_mem hx
      exact hj j (by omega) (by rw [un h1]; exact h2)
theorem aFJ {n:Nat} {h:ad} {v:AV} {l:List Int} (hv:dP h .i64 v l) (hn:l.length<n) (x:Int) :
    aF (cL n v x h) fun r h'=>h'=h∧((r = -1∧x∉l)∨∃ j:Nat,r=j∧j<l.length∧nz l j=x):=by
  unfold cL Gr AM
  simp only [hv.len]
  exact aGQ hv n 0 (by omega) (by omega) fun j hj=>by omega
theorem aEf {n:Nat} {h:ad} {v:AV} {l:List Int} (hv:dP h .i64 v l) (hn:l.length<n) (x:Int):aF (bE n v x h) fun r h'=>r=decide (x∈l)∧h'=h:=by
  unfold bE DE ya
  refine aF.bind (aFJ hv hn x) ?_
  rintro r _ ⟨rfl,⟨rfl,hx⟩ | ⟨j,rfl,hj,hx⟩⟩
  · exact nT ⟨by simp [hx],rfl⟩
  · refine nT ⟨?_,rfl⟩
    have:x∈l:=by rw [← hx,un hj]; exact iU hj
    simp [this]
theorem amg {α:Type} [Inhabited α] {l:List α} {i:Nat} (h:i<l.length):l.getD i default=l[i]:=by rw [iL,iv h]; rfl
theorem aDb {R:Type} {ap:aok→R→ah} {Q:R→Prop} {n:Nat} {w v2 v5 v16:AV} {v1 v17:Int} {ps:List eK} {S:Nat→AV} {x i:Int} {J:aok→Int→AV→AV→AV→Int→Int→ad→ah} :
    ∀ (m j:Nat) (h:ad),h.ro≤h.nx→eD h w 8 ps.length (fun i=>Ij (ps.getD i default) (S i))→(∀ i,i<ps.length→dP h .i64 (S i) (ps.getD i default).gH)→(∀ i,i<ps.length→(ps.getD i default).gH.length<n)→
    j≤ps.length→ps.length-j<m→
    ((ps.drop j).all (fun q=>!decide (x∈q.gH))=true→∀ h',be h h'→aL ap (fun k=>J k v1 v2 v5 v16 v17 (IntKind.i64.wrap (i+1)) h') Q)→
    ((ps.drop j).all (fun q=>!decide (x∈q.gH))=false→∀ h',be h h'→aL ap (fun k=>k false h') Q)→
    aL ap (fun k=>JR n (bE n) k (J k) m v1 v2 v5 x v16 v17 i w ps.length j h) Q:=by
  intro m
  induction m with
  | zero=>omega
  | succ m ih=>
    intro j h hro hw hS hn hj hm hgo hno
    show aL ap (fun k=>Jv n (bE n) k (J k) (JR n (bE n) k (J k) m) v1 v2 v5 x v16 v17 i w ps.length j h) Q
    unfold Jv Rh
    refine aL.ifB (fun e=>?_) fun e=>?_
    · simp at e
      have hs:=hw.1
      simp only [au,hw.eld (i:=(j:Int)) (by omega) (by omega),iI,mt (show j≤9223372036854775806 by omega)]
      refine aF.bind (asu (n:=8) hro (by rfl) (by rfl)) ?_
      rintro y h1 ⟨hy,ho,g⟩
      simp only [au,jC ho.cl,Ij]
      refine aF.bind (aEf ((hS j e).grow g) (hn j e) x) ?_
      rintro r _ ⟨rfl,rfl⟩
      rw [iH e,List.all_cons] at hgo hno
      rw [amg e]
      refine aL.ifB (fun e1=>?_) fun e1=>?_
      · simp at e1
        exact hno (by simp [e1]) _ g
      · simp only [iD] at e1
        simp only [e1,decide_false,Bool.not_false,Bool.true_and] at hgo hno
        exact ih (j+1) _ (g.le hro) (hw.grow g) (fun i hi=>(hS i hi).grow g) hn (by omega) (by omega) (fun ha h' g'=>hgo ha h' (g.trans g')) (fun ha h' g'=>hno ha h' (g.trans g'))
    · simp at e
      have:j=ps.length:=by omega
      subst this
      simp only [au]
      exact hgo (by simp) h .refl
def LE (l:List Int) (i:Nat):Option Int:=if i=0 then none else some (nz l (i-1))
structure fT (n:Nat) (z:bq):Prop where
  small:100<n
  gM:z.gM.length<n
  parts:z.parts.length<n
  gH:∀ i,i<z.parts.length→(z.parts.getD i default).gH.length<n
theorem aqs {ps:List eK} {p i:Nat} (hi:i<(ps.take p).length):(ps.take p).getD i default=ps.getD i default:=by
  simp at hi
  rw [amg (by simp; omega),amg (by omega),List.getElem_take]
theorem aCY {n:Nat} {z:bq} (hn:fT n z) {t pp v:AV} {S:Nat→AV} {x p:Nat} (hp:p≤z.parts.length) (hsh:pp.shut=true) (l:List Int):∀ (m i:Nat) (h:ad),h.ro≤h.nx→h.cl x (Hx z t pp)→
    eD h pp 8 z.parts.length (fun i=>Ij (z.parts.getD i default) (S i))→(∀ i,i<z.parts.length→dP h .i64 (S i) (z.parts.getD i default).gH)→dP h .i64 v l→
    i≤l.length→l.length-i<m→
    aF (fun k=>E0 n (bE n) k m p (.ptr x 0) v v l.length i h) fun r h'=>r=(G5 z (z.parts.take p) (LE l i) (l.drop i)&&decide (0<l.length))∧be h h':=by
  intro m
  induction m with
  | zero=>omega
  | succ m ih=>
    intro i h hro hb hw hS hv hi hm
    show aL ap1 (fun k=>KJ n (bE n) k (E0 n (bE n) k m) p (.ptr x 0) v v l.length i h) _
    unfold KJ Rq JI E1
    have hs:=hv.small
    refine aL.ifB (fun e=>?_) fun e=>?_
    · simp at e
      obtain ⟨w,hw',hsl⟩:=hw.take (v:=pp) hsh (i:=(p:Int)) (by omega) (by omega)
      rw [iI] at hw'
      have hlen:(z.parts.take p).length=p:=by simp; omega
      have fin:(∀ y,LE l i=some y→y<l[i])→0≤l[i]→l[i]<z.gG→
          aL ap1 (fun k=>JR n (bE n) k (E0 n (bE n) k m) n p (.ptr x 0) v l[i] v l.length i w p ((0:Nat):Int) h)
            (fun r=>r.1=(G5 z (z.parts.take p) (LE l i) (l.drop i)&&decide (0<l.length))∧be h r.2):=by
        intro h1 h2 h3
        have c1:ZT (LE l i) l[i]=true:=by
          unfold ZT
          cases hq:LE l i with
          | none=>rfl
          | some y=>simpa using h1 y hq
        have key:=aDb (ap:=ap1) (n:=n) (w:=w) (v2:=.ptr x 0) (v5:=v) (v16:=v) (v1:=p) (v17:=l.length) (ps:=z.parts.take p) (S:=S) (x:=l[i]) (i:=i) (J:=fun k=>E0 n (bE n) k m)
          (Q:=fun r=>r.1=(G5 z (z.parts.take p) (LE l i) (l.drop i)&&decide (0<l.length))∧be h r.2) n 0 h hro
          (by
            rw [hlen]
            obtain ⟨q1,q2⟩:=hw'
            refine ⟨q1,?_⟩
            rcases q2 with q2 | ⟨b,off,ext,opn,q2,q3⟩
            · exact .inl q2
            · refine .inr ⟨b,off,ext,opn,q2,fun h0=>?_⟩
              obtain ⟨cl,q3,q4⟩:=q3 h0
              exact ⟨cl,q3,fun j hj=>by have:=q4 j hj; dsimp only at this ⊢; rw [aqs (by omega)]; exact this⟩)
          (fun j hj=>by rw [aqs hj]; exact hS j (by rw [hlen] at hj; omega)) (fun j hj=>by rw [aqs hj]; exact hn.gH j (by rw [hlen] at hj; omega)) (by omega) (by rw [hlen]; have:=hn.parts; omega)
          (fun ha h' g=>by
            rw [mt (show i≤9223372036854775806 by omega)]
            refine aL.mono (ih (i+1) h' (g.le hro) (g.cl hb) (hw.grow g) (fun i hi=>(hS i hi).grow g) (hv.grow g) (by omega) (by omega)) ?_
            rintro ⟨r,h''⟩ ⟨e1,e2⟩
            refine ⟨?_,g.trans e2⟩
            rw [iH e,TL,c1]
            have:LE l (i+1)=some l[i]:=by unfold LE; rw [if_neg (by omega)]; simp [un e]
            rw [this] at e1
            rw [List.drop_zero] at ha
            rw [ha]
            simpa [h2,h3] using e1)
          (fun ha h' g=>by
            refine nT ⟨?_,g⟩
            rw [iH e,TL]
            rw [List.drop_zero] at ha
            rw [ha]
            simp)
        rw [hlen] at key
        exact key
      simp only [au,jC hb,Hx,hv.elN e,un e,hsl,eD.len hw']
      have no:(decide (0≤l[i])=false∨decide (l[i]<z.gG)=false∨ZT (LE l i) l[i]=false)→(false=(G5 z (z.parts.take p) (LE l i) (l.drop i)&&decide (0<l.length))∧be h h):=by
        intro h0
        refine ⟨?_,.refl⟩
        rw [iH e,TL]
        rcases h0 with h0 | h0 | h0<;>rw [h0]<;>simp
      refine aL.ifB (fun e1=>?_) fun e1=>aL.ifB (fun e2=>?_) fun e2=>aL.ifB (fun e3=>?_) fun e3=>?_
      · exact nT (no (.inl (by simp at e1 ⊢; omega)))
      · exact nT (no (.inr (.inl (by simpa using e2))))
      · simp at e1 e2 e3
        have hw1:IntKind.i64.wrap ((i:Int)-1)=((i-1:Nat):Int):=by rw [rK (by omega) (by omega)]; omega
        have pv:LE l i=some (nz l (i-1)):=by unfold LE; rw [if_neg (by omega)]
        simp only [hw1,hv.elN (show i-1<l.length by omega)]
        refine aL.ifB (fun e4=>?_) fun e4=>?_
        · exact nT (no (.inr (.inr (by rw [pv]; simpa [ZT] using e4))))
        · simp at e4
          exact fin (fun y hy=>by rw [pv] at hy; cases hy; exact e4) e1 e2
      · simp at e1 e2 e3
        have i0:i=0:=by omega
        exact fin (fun y hy=>by unfold LE at hy; rw [if_pos i0] at hy; cases hy) e1 e2
    · simp at e
      have:i=l.length:=by omega
      subst this
      simp only [hv.len]
      simp only [au]
      exact nT ⟨by simp [G5],.refl⟩
theorem aG0 {n:Nat} {z:bq} (hn:fT n z) {h:ad} (hro:h.ro≤h.nx) {c:List AV} (hc:Cfg h z c) {p:Nat} (hp:p<z.parts.length):aF (ft n (.agg c) p h) fun r h'=>r=afl z p∧be h h':=by
  unfold ft afY W4
  obtain ⟨t,pp,rfl,ht,hps,S,hpt,hS⟩:=hc
  refine aF.bind (wh ..) ?_
  rintro x h1 ⟨hb,g⟩
  obtain ⟨b,off,l,e1,e2,e3,e4⟩:=(hpt.grow g).at_ (i:=(p:Int)) (by omega) (by omega)
  rw [iI] at e4
  have e5:l[off]?=some (S p):=by
    have:=congrArg (·[0]?) e4
    simpa [Ij] using this
  simp only [au,jC hb,Hx,eD.ia (hpt.grow g) (show (0:Int)≤(p:Int) by omega) (show (p:Int)<_ by omega),e1,jC e2,e5,((hS p hp).grow g).len]
  refine aL.mono (aCY hn (p:=p) (by omega) hps _ n 0 h1 (g.le hro) hb (hpt.grow g) (fun i hi=>(hS i hi).grow g) ((hS p hp).grow g) (by omega) (by have:=hn.gH p hp; omega)) ?_
  rintro ⟨r,h'⟩ ⟨q1,q2⟩
  exact ⟨by rw [q1]; simp [afl,lI,LE],g.trans q2⟩
end Go.Proofs.YtnlbfbiogfilfaaGreat.Sh
/- What a partition's quotas are, by the code. -/
namespace Go.Proofs.YtnlbfbiogfilfaaGreat.Sh
open Go.Ai
theorem Cfg.mk' {h:ad} {z:bq} {t p:AV} (ht:dP h .i64 t z.gM) (hp:Parts h p z.parts):Cfg h z (Hx z t p):=⟨t,p,rfl,ht,hp⟩
theorem Cfg.shut {h:ad} {z:bq} {c:List AV} (p:Cfg h z c):Cfg (h.shut true) z c:=p
theorem aFp {n:Nat} {z:bq} (hz:z.gG≠0) {h:ad} {c:List AV} (hc:Cfg h z c) {p:Nat} (hp:p<z.parts.length):aF (eP n (.agg c) p h) fun r h'=>r=UN z p∧be h h':=by
  unfold eP al9 aeO
  obtain ⟨t,pp,rfl,ht,hps,S,hpt,hS⟩:=hc
  refine aF.bind (wh ..) ?_
  rintro x h1 ⟨hb,g⟩
  obtain ⟨b,off,l,e1,e2,e3,e4⟩:=(hpt.grow g).at_ (i:=(p:Int)) (by omega) (by omega)
  rw [iI] at e4
  have e5:l[off]?=some (S p):=by
    have:=congrArg (·[0]?) e4
    simpa [Ij] using this
  simp only [au,jC hb,bg,eD.ia (hpt.grow g) (show (0:Int)≤(p:Int) by omega) (show (p:Int)<_ by omega),e1,jC e2,e5,((hS p hp).grow g).len]
  refine aF.bind (awT n (h:=h1.shut true) (z:=z) (Cfg.shut (Cfg.mk' (ht.grow g) ⟨hps,S,hpt.grow g,fun i hi=>(hS i hi).grow g⟩)) hz) ?_
  rintro _ h2 ⟨rfl,g2⟩
  exact nT ⟨rfl,g.trans g2.shut⟩
theorem aEl {R:Type} {ap:aAs→R→ah} {Q:R→Prop} {n:Nat} {w v2 v5:AV} {v1:Int} {ps:List eK} {S:Nat→AV} {f1 f2 f3 f4} :
    ∀ (m j:Nat) (a:Int) (h:ad),h.ro≤h.nx→eD h w 8 ps.length (fun i=>Ij (ps.getD i default) (S i))→
    j≤ps.length→ps.length-j<m→
    (∀ h',be h h'→aL ap (fun k=>Na n f1 f2 f3 f4 k v1 v2 v5 (alT (ps.drop j) a) h') Q)→f4=cW n→
    aL ap (fun k=>M2 n f1 f2 f3 f4 k m v1 v2 v5 a w ps.length j h) Q:=by
  intro m
  induction m with
  | zero=>omega
  | succ m ih=>
    intro j a h hro hw hj hm hgo hf
    simp only [axo]
    unfold MZ Nu
    refine aL.ifB (fun e=>?_) fun e=>?_
    · simp at e
      have hs:=hw.1
      subst hf
      simp only [au,hw.eld (i:=(j:Int)) (by omega) (by omega),iI,mt (show j≤9223372036854775806 by omega)]
      refine aF.bind (asu (n:=8) hro (by rfl) (by rfl)) ?_
      rintro y h1 ⟨hy,ho,g⟩
      simp only [au,jC ho.cl,bg,NZ]
      rw [iH e,alT,List.foldl_cons] at hgo
      rw [amg e]
      refine aL.ifB (fun e1=>?_) fun e1=>?_
      · rw [if_pos e1] at hgo
        exact ih (j+1) _ _ (g.le hro) (hw.grow g) (by omega) (by omega) (fun h' g'=>hgo h' (g.trans g')) rfl
      · rw [if_neg (by simp [e1])] at hgo
        exact ih (j+1) _ _ (g.le hro) (hw.grow g) (by omega) (by omega) (fun h' g'=>hgo h' (g.trans g')) rfl
    · simp at e
      have:j=ps.length:=by omega
      subst this
      have:=hgo h .refl
      rw [List.drop_length] at this
      exact this
@[simp] theorem idxAK_0 (a b c:AV) (k:AV→ah):apC 1 3 false (.agg [a,b,c]) 0 k=k a:=by
  show zK (Nat.mul 0 1) (fun o=>oC (sub [a,b,c] o 1) fun l=>oC (adV false l) k)=_
  simp [zj,adV]
@[simp] theorem idxAK_1 (a b c:AV) (k:AV→ah):apC 1 3 false (.agg [a,b,c]) 1 k=k b:=by
  show zK (Nat.mul 1 1) (fun o=>oC (sub [a,b,c] o 1) fun l=>oC (adV false l) k)=_
  simp [zj,adV]
@[simp] theorem idxAK_2 (a b c:AV) (k:AV→ah):apC 1 3 false (.agg [a,b,c]) 2 k=k c:=by
  show zK (Nat.mul 2 1) (fun o=>oC (sub [a,b,c] o 1) fun l=>oC (adV false l) k)=_
  simp [zj,adV]
theorem wr01:IntKind.i64.wrap (0+1)=1:=by decide
theorem wr12:IntKind.i64.wrap (1+1)=2:=by decide
theorem wr23:IntKind.i64.wrap (2+1)=3:=by decide
theorem build3 (q:IntKind) (a b c:Int) (k:AV→ah):uK [.int q 0,.int q 0,.int q 0] [(0,1,.int q a),(1,1,.int q b),(2,1,.int q c)] k=k (.agg [.int q a,.int q b,.int q c]):=rfl
theorem lt03:decide ((0:Int)<3)=true:=rfl
theorem lt13:decide ((1:Int)<3)=true:=rfl
theorem lt23:decide ((2:Int)<3)=true:=rfl
theorem lt33:decide ((3:Int)<3)=false:=rfl
theorem v_quotas {n:Nat} {z:bq} (hn:fT n z) {h:ad} (hro:h.ro≤h.nx) {c:List AV} (hc:Cfg h z c) {p:Nat} (hp:p<z.parts.length):aF (fC n (.agg c) p h) fun r h'=>r=yk z p∧be h h':=by
  unfold fC aja aaW NG Nt
  obtain ⟨m,rfl⟩:∃ m,n=m+4:=⟨n-4,by have:=hn.small; omega⟩
  have hc0:=hc
  obtain ⟨t,pp,rfl,ht,hps,S,hpt,hS⟩:=hc
  refine aF.bind (wh ..) ?_
  rintro x h1 ⟨hb,g⟩
  simp only [au,jC hb,bg,eD.eld (hpt.grow g) (show (0:Int)≤(p:Int) by omega) (show (p:Int)<_ by omega),iI]
  refine aF.bind (asu (n:=8) (g.le hro) (by rfl) (by rfl)) ?_
  rintro y h2 ⟨hy,ho,g2⟩
  have gg:=g.trans g2
  have hb2:=g2.cl hb
  simp only [au,jC ho.cl,bg,NZ]
  rw [show z.parts.getD p default=lI z p from rfl] at *
  refine aL.ifB (fun e1=>nT ⟨by simp at e1; simp [yk,e1],gg⟩) fun e1=>aL.ifB (fun e2=>nT ⟨by simp at e2; simp [yk,e2],gg⟩) fun e2=>aL.ifB (fun e3=>nT ⟨by simp at e3; simp [yk,e3],gg⟩) fun e3=>?_
  simp only [build3,aw3,NW]
  simp only [au,idxAK_0,idxAK_1,idxAK_2,wr01,wr12,wr23,lt03,lt13,lt23,lt33,NZ]
  refine aL.ifB (fun e4=>nT ⟨by simp at e4; simp [yk,e4],gg⟩) fun e4=>aL.ifB (fun e5=>nT ⟨by simp at e5; simp [yk,e5],gg⟩) fun e5=>aL.ifB (fun e6=>nT ⟨by simp at e6; simp [yk,e6],gg⟩) fun e6=>?_
  unfold Uz
  simp only [au,jC hb2,bg]
  have hpl:=hpt.1
  obtain ⟨w,hw,hsl⟩:=(hpt.grow gg).take hps (i:=((p+1:Nat):Int)) (by omega) (by omega)
  rw [mt (show p≤9223372036854775806 by omega),iI] at *
  simp only [mt (show p≤9223372036854775806 by omega),hsl,eD.len hw]
  have hlen:(z.parts.take (p+1)).length=p+1:=by simp; omega
  have hw':eD h2 w 8 (z.parts.take (p+1)).length fun i=>Ij ((z.parts.take (p+1)).getD i default) (S i):=by
    rw [hlen]
    obtain ⟨q1,q2⟩:=hw
    refine ⟨q1,?_⟩
    rcases q2 with q2 | ⟨b,off,ext,opn,q2,q3⟩
    · exact .inl q2
    · refine .inr ⟨b,off,ext,opn,q2,fun h0=>?_⟩
      obtain ⟨cl,q3,q4⟩:=q3 h0
      exact ⟨cl,q3,fun j hj=>by have:=q4 j hj; dsimp only at this ⊢; rw [aqs (by omega)]; exact this⟩
  have key:=aEl (ap:=ap1) (n:=m+4) (w:=w) (v2:=.ptr x 0) (v5:=.ptr y 0) (v1:=p) (ps:=z.parts.take (p+1)) (S:=S) (f1:=eP (m+4)) (f2:=cT (m+4)) (f3:=eZ (m+4)) (f4:=cW (m+4))
    (Q:=fun r=>r.1=yk z p∧be h r.2) (m+4) 0 0 h2 (gg.le hro) hw' (by omega) (by rw [hlen]; have:=hn.parts; omega) (fun h3 g3=>?_) rfl
  · rw [hlen] at key
    exact key
  rw [List.drop_zero]
  have g23:=gg.trans g3
  have ho3:=(ho.grow g3).cl
  have hb3:=g3.cl hb2
  unfold Na MW Nh
  simp only [au,jC ho3,bg,NZ]
  simp only [Bool.not_eq_false'] at e1 e2 e3 e4 e5 e6
  refine aL.ifB (fun e7=>nT ⟨by simp at e7; simp [yk,e7],g23⟩) fun e7=>aL.ifB (fun e8=>nT ⟨by simp at e8; simp [yk,Int.not_le.2 e8],g23⟩) fun e8=>?_
  simp at e7 e8
  simp only [au,jC hb3,bg]
  refine aF.bind (afG (m+4) (Cfg.mk' (ht.grow g23) ⟨hps,S,hpt.grow g23,fun i hi=>(hS i hi).grow g23⟩)) ?_
  rintro _ h4 ⟨rfl,g4⟩
  have g24:=g23.trans g4
  refine aL.ifB (fun e9=>nT ⟨?_,g24⟩) fun e9=>?_
  · simp at e9
    simp [yk,e1,e2,e3,e4,e5,e6,e7,e8,e9]
  simp at e9
  have hz:=acZ e9
  have ho4:=g4.cl ho3
  have hb4:=g4.cl hb3
  have hord:0≤(lI z p).order:=by simp [kG] at e1; omega
  simp only [au,jC ho4,jC hb4,bg,IL hord]
  refine aF.bind (awT (m+4) (Cfg.mk' (ht.grow g24) ⟨hps,S,hpt.grow g24,fun i hi=>(hS i hi).grow g24⟩) hz) ?_
  rintro _ h5 ⟨rfl,g5⟩
  have g25:=g24.trans g5
  refine aL.ifB (fun e10=>?_) fun e10=>nT ⟨?_,g25⟩
  · simp at e10
    simp only [au,jC (g5.cl ho4),jC (g5.cl hb4),bg]
    refine aF.bind (aFp (n:=m+4) (h:=h5.shut true) hz (Cfg.shut (Cfg.mk' (ht.grow g25) ⟨hps,S,hpt.grow g25,fun i hi=>(hS i hi).grow g25⟩)) hp) ?_
    rintro _ h6 ⟨rfl,g6⟩
    refine nT ⟨?_,g25.trans g6.shut⟩
    have h10:N9 (lI z p)≤amL z:=by unfold N9; omega
    have h11:yk z p=decide (aCO (lI z p)≤UN z p):=by simp [yk,e1,e2,e3,e4,e5,e6,e7,e8,e9,h10]
    show (!decide (UN z p<aCO (lI z p)))=yk z p
    rw [h11,Bool.eq_iff_iff]
    simp
  · simp at e10
    have h10:¬ N9 (lI z p)≤amL z:=by unfold N9; omega
    simp [yk,e1,e2,e3,e4,e5,e6,e7,e8,e9,h10]
theorem v_part {n:Nat} {z:bq} (hn:fT n z) {h:ad} (hro:h.ro≤h.nx) {c:List AV} (hc:Cfg h z c) {p:Nat} (hp:p<z.parts.length):aF (ez n (.agg c) p h) fun r h'=>r=Yb z p∧be h h':=by
  unfold ez ao9 ahl
  obtain ⟨t,pp,rfl,ht,hps⟩:=hc
  refine aF.bind (wh ..) ?_
  rintro x h1 ⟨hb,g⟩
  simp only [au,jC hb,bg]
  refine aF.bind (aG0 hn (g.le hro) (Cfg.mk' (ht.grow g) (hps.grow g)) hp) ?_
  rintro _ h2 ⟨rfl,g2⟩
  have gg:=g.trans g2
  refine aL.ifB (fun e1=>?_) fun e1=>?_
  · simp at e1
    exact nT ⟨by simp [Yb,e1],gg⟩
  · simp at e1
    simp only [au,jC (g2.cl hb),bg]
    refine aF.bind (v_quotas hn (gg.le hro) (Cfg.mk' (ht.grow gg) (hps.grow gg)) hp) ?_
    rintro _ h3 ⟨rfl,g3⟩
    refine aL.ifB (fun e2=>?_) fun e2=>?_
    · simp at e2
      exact nT ⟨by simp [Yb,e1,e2],gg.trans g3⟩
    · simp at e2
      exact nT ⟨by simp [Yb,e1,e2],gg.trans g3⟩
end Go.Proofs.YtnlbfbiogfilfaaGreat.Sh
/- What things cost, by the code. -/
namespace Go.Proofs.YtnlbfbiogfilfaaGreat.Sh
open Go.Ai
@[simp] theorem arn (n:Nat) (a b c:Int) (h:ad) (k:Bool→ad→ah):et n a b c h k=k (kG a b c) h:=by
  unfold et aiS aaX MP
  by_cases hc:a<b
  · simp [kG,hc,show ¬ b≤a by omega]
  · simp [kG,hc,show b≤a by omega, ← Int.not_lt]
theorem v_Switch {n:Nat} (hn:4≤n) (h:ad) (z:bq) (a b:Int):dM (eS n (.agg (Ko z)) a b h) fun v e h'=>e=ON z a b∧(e=0→v=aqN z a b)∧be h h':=by
  unfold eS aiM aa0 MM
  refine aF.bind (wh ..) ?_
  rintro x h1 ⟨hb,g⟩
  simp only [au,jC hb,bg]
  refine aF.bind (aeY hn h1 z) ?_
  rintro _ h2 ⟨rfl,g2⟩
  have gg:=g.trans g2
  have hb2:=g2.cl hb
  simp only [au,jC hb2,bg,arn]
  refine aL.ifB (fun e1=>KS ⟨?_,?_,gg⟩) fun e1=>aL.ifB (fun e2=>KS ⟨?_,?_,gg⟩) fun e2=>aL.ifB (fun e3=>KS ⟨?_,?_,gg⟩) fun e3=>KS ⟨?_,?_,gg⟩
  · simp at e1; simp [ON,e1]
  · intro h0; simp at e1; exact (e1 h0).elim
  · simp at e1 e2; simp [ON,e1,e2]
  · intro h0; cases h0
  · simp at e1 e2 e3; simp [ON,e1,e2,e3]
  · intro h0; cases h0
  · simp at e1 e2 e3; simp [ON,e1,e2,e3]
  · intro _; rfl
theorem sh0:IntKind.i64.wrap (an4 .i64 1 (0:Int).toNat)=1:=by decide
theorem sh1:IntKind.i64.wrap (an4 .i64 1 (1:Int).toNat)=2:=by decide
theorem sh2:IntKind.i64.wrap (an4 .i64 1 (2:Int).toNat)=4:=by decide
theorem sh3:IntKind.i64.wrap (an4 .i64 1 (3:Int).toNat)=8:=by decide
theorem aGp {n:Nat} {x:Nat} {h:ad} {s:dt} (hb:h.cl x (Fs s)) (i:Bool) (f1):aF (fun k=>Pq n f1 (et n) k (.ptr x 0) i h) fun r h'=>h'=h∧r=if i&&(kG s.user 2 4096&&(kG s.limit 1 5120&&kG s.nodes 1 4096)) then 0 else 2:=by
  unfold Pq Pr PJ Qu
  simp only [au,jC hb,bg,arn]
  cases i<;>cases h1:kG s.user 2 4096<;>cases h2:kG s.limit 1 5120<;>cases h3:kG s.nodes 1 4096<;>exact nT ⟨rfl,by simp⟩
theorem aGj {n:Nat} {y:Nat} {h:ad} {s:dt} (hb:h.cl y (Fs s)) (f1):∀ (m i:Nat) (b:Bool),i≤4→4-i<m→aF (fun k=>Qr n f1 (et n) k m (.ptr y 0) b i h) fun r h'=>h'=h∧
    r=if (b||(List.range' i (4-i)).any fun j=>s.image==IntKind.i64.wrap (an4 .i64 1 j))&&(kG s.user 2 4096&&(kG s.limit 1 5120&&kG s.nodes 1 4096)) then 0 else 2:=by
  intro m
  induction m with
  | zero=>omega
  | succ m ih=>
    intro i b hi hm
    simp only [ayQ]
    unfold Qm PR
    refine aL.ifB (fun e=>?_) fun e=>?_
    · simp at e
      simp only [au,jC hb,bg,mt (show i≤9223372036854775806 by omega),IL (il i),iI]
      have hr:List.range' i (4-i)=i::List.range' (i+1) (4-(i+1)):=by
        rw [show 4-i=(4-(i+1))+1 by omega,List.range'_succ]
      rw [hr,List.any_cons]
      refine aL.ifB (fun e1=>?_) fun e1=>?_
      · subst e1
        refine aL.mono (ih (i+1) true (by omega) (by omega)) ?_
        rintro ⟨r,h'⟩ ⟨q1,q2⟩
        exact ⟨q1,by rw [q2]; simp⟩
      · subst e1
        refine aL.mono (ih (i+1) _ (by omega) (by omega)) ?_
        rintro ⟨r,h'⟩ ⟨q1,q2⟩
        exact ⟨q1,by rw [Bool.false_or]; exact q2⟩
    · simp at e
      have:i=4:=by omega
      subst this
      refine aL.mono (aGp hb b f1) ?_
      rintro ⟨r,h'⟩ ⟨q1,q2⟩
      exact ⟨q1,by rw [q2]; simp⟩
theorem v_asked {n:Nat} (hn:10≤n) (h:ad) (z:bq) (s:dt):aF (fd n (.agg (Ko z)) (.agg (Fs s)) h) fun r h'=>r=asK z s∧be h h':=by
  unfold fd amm ae8
  refine aF.bind (wh ..) ?_
  rintro x h1 ⟨hb,g⟩
  refine aF.bind (wh ..) ?_
  rintro y h2 ⟨hb2,g2⟩
  simp only [au,jC (g2.cl hb),bg]
  refine aF.bind (aeY (by omega) h2 z) ?_
  rintro _ h3 ⟨rfl,g3⟩
  have gg:=g.trans (g2.trans g3)
  have hb3:=g3.cl hb2
  refine aL.ifB (fun e1=>nT ⟨?_,gg⟩) fun e1=>?_
  · simp at e1; simp [asK,e1]
  simp at e1
  refine aL.mono (aGj hb3 (da n) n 0 false (by omega) (by omega)) ?_
  rintro ⟨r,h'⟩ ⟨q1,q2⟩
  refine ⟨?_,by rw [q1]; exact gg⟩
  rw [q2]
  have hr:(List.range' 0 (4-0)).any (fun j=>s.image==IntKind.i64.wrap (an4 .i64 1 j))=(decide (s.image=1)||(decide (s.image=2)||(decide (s.image=4)||decide (s.image=8)))):=by
    show (s.image==1||(s.image==2||(s.image==4||(s.image==8||false))))=_
    rw [Bool.or_false]; rfl
  rw [hr,asK,if_pos e1,Bool.false_or]
abbrev At1 (h:ad) (x:Nat) (q:IntKind) (v:Int):Prop:=h.cl x [.int q v]
theorem arD {q:IntKind} {v:Int}:([AV.int q v]:List AV)[0]?=some (.int q v):=rfl
theorem v_f1 {n:Nat} {h:ad} {x:Nat} {m:Int} (hx:At1 h x .u64 m) (k:Int→ad→ah):cM n (.ptr x 0) h k=k (w64 (113*m)) h:=by
  unfold cM ZK Rr
  simp only [au,jC hx,arD]; rfl
theorem v_f2 {n:Nat} {h:ad} {x:Nat} {m:Int} (hx:At1 h x .u64 m) (k:Int→ad→ah):cQ n (.ptr x 0) h k=k (w64 (64*m)) h:=by
  unfold cQ Z9 QC
  simp only [au,jC hx,arD]; rfl
theorem v_f4 {n:Nat} {h:ad} {x:Nat} {m:Int} (hx:At1 h x .u64 m) (k:Int→ad→ah):db n (.ptr x 0) h k=k (w64 (17*m)) h:=by
  unfold db aay Rt
  simp only [au,jC hx,arD]; rfl
theorem v_f5 {n:Nat} {h:ad} {x y:Nat} {a m:Int} (hx:At1 h x .u64 a) (hy:At1 h y .u64 m) (k:Int→ad→ah):dc n (.ptr x 0) (.ptr y 0) h k=k (w64 (a+m)) h:=by
  unfold dc aat QG
  simp only [au,jC hx,jC hy,arD]; rfl
theorem v_f6 {n:Nat} {h:ad} {x y w:Nat} {s:dt} {a m:Int} (hx:At1 h x .u64 m) (hy:h.cl y (Fs s)) (hw:At1 h w .u64 a) (k:Int→ad→ah) :
    dh n (.ptr x 0) (.ptr y 0) (.ptr w 0) h k=k (w64 (w64 (m+w64 (w64 (16*w64 s.nodes)*m))+a)) h:=by
  unfold dh ZZ QJ
  simp only [au,jC hx,jC hy,jC hw,arD,bg]; rfl
theorem v_f7 {n:Nat} {h:ad} {x y:Nat} {z:bq} {m:Int} (hx:h.cl x (Ko z)) (hy:At1 h y .u64 m) (k:Int→ad→ah):di n (.ptr x 0) (.ptr y 0) h k=k (w64 (w64 (64*w64 (z.step+m))+m)) h:=by
  unfold di aac QH
  simp only [au,jC hx,jC hy,arD,bg]; rfl
theorem v_f9 {n:Nat} {h:ad} {x y w:Nat} {z:bq} {m f:Int} (hx:At1 h x .u64 m) (hy:h.cl y (Ko z)) (hw:At1 h w .u64 f) (k:Int→ad→ah) :
    dg n (.ptr x 0) (.ptr y 0) (.ptr w 0) h k=k (w64 (w64 (w64 (w64 (26*m)+z.fault)+f)+z.disk)) h:=by
  unfold dg Zv Rm
  simp only [au,jC hx,jC hy,jC hw,arD,bg]; rfl
theorem v_f10 {n:Nat} {h:ad} {x y w:Nat} {z:bq} {m f:Int} (hx:At1 h x .u64 m) (hy:h.cl y (Ko z)) (hw:At1 h w .u64 f) (k:Int→ad→ah) :
    cR n (.ptr x 0) (.ptr y 0) (.ptr w 0) h k=k (w64 (w64 (w64 (w64 (64*m)+w64 (2*z.fault))+w64 (2*f))+z.disk)) h:=by
  unfold cR Xj OP
  simp only [au,jC hx,jC hy,jC hw,arD,bg]; rfl
theorem max2 (q:IntKind) (a b:Int) (k:AV→ah):Ui true [.int q a,.int q b] k=k (.int q (WY a b)):=by
  show oC (some (.int q (if ltF a b then b else a))) k=_
  rw [yA]; simp [WY]
theorem min2 (q:IntKind) (a b:Int) (k:AV→ah):Ui false [.int q a,.int q b] k=k (.int q (minZ a b)):=by
  show oC (some (.int q (if ltF b a then b else a))) k=_
  rw [yA]; simp [minZ]
theorem v_f8 {n:Nat} {h:ad} {x y p u:Nat} {m a:Int} (hx:h.cl x [.func wm [] [.ptr p 0]]) (hy:h.cl y [.func wE [] [.ptr u 0]]) (hp:At1 h p .u64 m) (hu:At1 h u .u64 a) (k:Int→ad→ah) :
    d6 n (.ptr x 0) (.ptr y 0) h k=k (WY (w64 (113*m)) (w64 (64*a))) h:=by
  unfold d6 Z7 Q6
  have c1:∀ h k,Ds (cM n) (cQ n) (dv n) (db n) (dc n) (dh n) (di n) (dg n) (cR n) (.func wm [] [.ptr p 0]) [] h k =
      cM n (.ptr p 0) h fun u h=>k (.int .u64 u) h:=fun _ _=>rfl
  have c2:∀ h k,Ds (cM n) (cQ n) (dv n) (db n) (dc n) (dh n) (di n) (dg n) (cR n) (.func wE [] [.ptr u 0]) [] h k =
      cQ n (.ptr u 0) h fun u h=>k (.int .u64 u) h:=fun _ _=>rfl
  have e1:([AV.func wm [] [.ptr p 0]]:List AV)[0]?=some (.func wm [] [.ptr p 0]):=rfl
  have e2:([AV.func wE [] [.ptr u 0]]:List AV)[0]?=some (.func wE [] [.ptr u 0]):=rfl
  have b0:(h.shut true).back h.ro=h:=by cases h; rfl
  simp only [au,jC hx,e1,c1,v_f1 hp.shut,b0,jC hy,e2,c2,v_f2 hu,max2]
end Go.Proofs.YtnlbfbiogfilfaaGreat.Sh
/- The worst costs, by the code. -/
namespace Go.Proofs.YtnlbfbiogfilfaaGreat.Sh
open Go.Ai
def aaS (pc ps pm pp pa pf pv pw:Nat):List AV:=[.func Ji [] [],.func Ri [] [.ptr pm 0],.func Rb [] [.ptr pa 0,.ptr pm 0],.func Rd [] [.ptr pm 0,.ptr ps 0,.ptr pa 0],
  .func wm [] [.ptr pm 0],.func wE [] [.ptr pp 0],.func Rf [] [.ptr pc 0,.ptr pm 0],.func Z5 [] [.ptr pv 0,.ptr pw 0],.func QZ [] [.ptr pm 0,.ptr pc 0,.ptr pf 0],
  .func OC [] [.ptr pm 0,.ptr pc 0,.ptr pf 0],.func Ji [] []]
structure BoundsAt (h:ad) (z:bq) (s:dt) (pc ps pm pp pa pf pv pw:Nat):Prop where
  fc:h.cl pc (Ko z)
  fs:h.cl ps (Fs s)
  fm:At1 h pm .u64 z.miss
  fp:At1 h pp .u64 (aDm z)
  fa:At1 h pa .u64 (allC z s)
  ff:At1 h pf .u64 (azw z s)
  fv:h.cl pv [.func wm [] [.ptr pm 0]]
  fw:h.cl pw [.func wE [] [.ptr pp 0]]
theorem fn_0 {f:Nat} {c:List AV}:([AV.func f [] c]:List AV)[0]?=some (.func f [] c):=rfl
theorem v_bounds {n:Nat} {h:ad} (hro:h.ro≤h.nx) (z:bq) (s:dt):aF (eV n (.agg (Ko z)) (.agg (Fs s)) h) fun r h'=>∃ pc ps pm pp pa pf pv pw,r = .agg (aaS pc ps pm pp pa pf pv pw)∧BoundsAt h' z s pc ps pm pp pa pf pv pw∧be h h':=by
  unfold eV aiu aaG
  refine aF.bind (wh ..) ?_
  rintro pc h1 ⟨c1,g1⟩
  refine aF.bind (wh ..) ?_
  rintro ps h2 ⟨s2,g2⟩
  have c2:=g2.cl c1
  have t2:=g1.trans g2
  refine aF.bind (ahy (t2.le hro) _ 0) ?_
  rintro q h3 ⟨hq,oq3,g3⟩
  have c3:=g3.cl c2
  have s3:=g3.cl s2
  have t3:=t2.trans g3
  simp only [au,jC c3,bg]
  refine aF.bind (aAJ (t3.le hro) rfl) ?_
  rintro pm h4 ⟨n4,o4,g4⟩
  have m4:=o4.cl
  have c4:=g4.cl c3
  have s4:=g4.cl s3
  have t4:=t3.trans g4
  simp only [au,jC c4,jC m4,arD,bg]
  refine aF.bind (aAJ (t4.le hro) rfl) ?_
  rintro pp h5 ⟨n5,o5,g5⟩
  have p5:=o5.cl
  have m5:=g5.cl m4
  have c5:=g5.cl c4
  have s5:=g5.cl s4
  have t5:=t4.trans g5
  simp only [au,jC s5,jC p5,arD,bg]
  refine aF.bind (aAJ (t5.le hro) rfl) ?_
  rintro pa h6 ⟨n6,o6,g6⟩
  have a6:=o6.cl
  have p6:=g6.cl p5
  have m6:=g6.cl m5
  have c6:=g6.cl c5
  have s6:=g6.cl s5
  have t6:=t5.trans g6
  simp only [au,jC s6,jC c6,bg]
  refine aF.bind (aAJ (t6.le hro) rfl) ?_
  rintro pf h7 ⟨n7,o7,g7⟩
  have t7:=t6.trans g7
  refine aF.bind (aAJ (t7.le hro) rfl) ?_
  rintro pv h8 ⟨n8,o8,g8⟩
  have t8:=t7.trans g8
  refine aF.bind (aAJ (t8.le hro) rfl) ?_
  rintro pw h9 ⟨n9,o9,g9⟩
  have t9:=t8.trans g9
  have v9:=g9.cl o8.cl
  simp only [au,jC v9,jC o9.cl,fn_0]
  have g79:=g8.trans g9
  have g69:=g7.trans g79
  have g39:=g4.trans (g5.trans (g6.trans g69))
  refine ed.bind (Um (cs:=aaS pc ps pm pp pa pf pv pw) (oq3.grow g39) rfl (by show 0+11≤11; decide)) ?_
  intro h10 hp
  rw [Wq _ _ (by rfl)] at hp
  have gq:=hp.grow t9 (iE t2.nx hq)
  simp only [au,jC hp.own.cl]
  have:sub (aaS pc ps pm pp pa pf pv pw) 0 11=some (aaS pc ps pm pp pa pf pv pw):=by rw [zj]; rfl
  simp only [au,this]
  refine nT ⟨pc,ps,pm,pp,pa,pf,pv,pw,rfl,?_,gq⟩
  have q3:=oq3.lt
  have k1:=g4.nx
  have k2:=g5.nx
  have k3:=g6.nx
  have k4:=g7.nx
  have k5:=g8.nx
  have k6:=c2.1
  have k7:=s2.1
  exact ⟨hp.cl (by omega) (g69.cl c6),hp.cl (by omega) (g69.cl s6),hp.cl (by omega) (g69.cl m6),hp.cl (by omega) (g69.cl p6),hp.cl (by omega) (g69.cl a6),hp.cl (by omega) (g79.cl o7.cl),hp.cl (by omega) v9,hp.cl (by omega) o9.cl⟩
noncomputable abbrev cfM (n:Nat):aW:=Eo (fd n) (eV n) (cM n) (cQ n) (dv n) (db n) (dc n) (dh n) (di n) (d6 n) (dg n) (cR n)
theorem aGw {n:Nat} {h:ad} {z:bq} {s:dt} {pc ps pm pp pa pf pv pw:Nat} (b:BoundsAt h z s pc ps pm pp pa pf pv pw) {i:Nat} (hi:i<11) (k:AV→ad→ah) :
    cfM n ((aaS pc ps pm pp pa pf pv pw).getD i default) [] h k=k (.int .u64 (nz (IQ z s) i)) h:=by
  match i,hi with
  | 0,_=>exact rfl
  | 1,_=>exact v_f4 (n:=n) b.fm _
  | 2,_=>exact v_f5 (n:=n) b.fa b.fm _
  | 3,_=>exact v_f6 (n:=n) b.fm b.fs b.fa _
  | 4,_=>exact v_f1 (n:=n) b.fm _
  | 5,_=>exact v_f2 (n:=n) b.fp _
  | 6,_=>exact v_f7 (n:=n) b.fc b.fm _
  | 7,_=>exact v_f8 (n:=n) b.fv b.fw b.fm b.fp _
  | 8,_=>exact v_f9 (n:=n) b.fm b.fc b.ff _
  | 9,_=>exact v_f10 (n:=n) b.fm b.fc b.ff _
  | 10,_=>exact rfl
theorem v_Most_1 {n:Nat} {h:ad} {z:bq} {s:dt} {pc ps pm pp pa pf pv pw x y:Nat} (b:BoundsAt h z s pc ps pm pp pa pf pv pw) (hx:h.cl x (Ko z)) (hy:h.cl y (Fs s)):∀ (m i:Nat) (a:Int),i≤11→11-i<m→
    dM (fun k=>TI n (fd n) (eV n) (cM n) (cQ n) (dv n) (db n) (dc n) (dh n) (di n) (d6 n) (dg n) (cR n) k m (.ptr x 0) (.ptr y 0) a (.agg (aaS pc ps pm pp pa pf pv pw)) i h)
      fun v e h'=>h'=h∧e=0∧v=w64 (w64 (w64 s.image*z.miss)+((IQ z s).drop i).foldl WY a):=by
  intro m
  induction m with
  | zero=>omega
  | succ m ih=>
    intro i a hi hm
    simp only [azU]
    unfold TM aaM
    refine aL.ifB (fun e=>?_) fun e=>?_
    · simp at e
      have e':i<(IQ z s).length:=by show i<11; omega
      have eF:i<(aaS pc ps pm pp pa pf pv pw).length:=by show i<11; omega
      have hd:((aaS pc ps pm pp pa pf pv pw)[i])=(aaS pc ps pm pp pa pf pv pw).getD i default:=by rw [iL,iv eF]; rfl
      have key:=aGw (n:=n) b (i:=i) (by omega)
      unfold cfM at key
      rw [iH e',List.foldl_cons]
      simp only [au,aCq (l:=aaS pc ps pm pp pa pf pv pw) (n:=11) (i:=i) rfl (by omega),hd,key,max2,mt (show i≤9223372036854775806 by omega)]
      have:=ih (i+1) (WY a (nz (IQ z s) i)) (by omega) (by omega)
      rw [un e'] at this ⊢
      exact this
    · simp at e
      have:i=11:=by omega
      subst this
      simp only [au,jC hx,jC hy,bg]
      exact KS ⟨rfl,rfl,rfl⟩
theorem v_Most {n:Nat} (hn:100<n) {h:ad} (hro:h.ro≤h.nx) (z:bq) (s:dt):dM (fq n (.agg (Ko z)) (.agg (Fs s)) h) fun v e h'=>e=asK z s∧(e=0→v=ayK z s)∧be h h':=by
  unfold fq apd ahI
  refine aF.bind (wh ..) ?_
  rintro x h1 ⟨c1,g1⟩
  refine aF.bind (wh ..) ?_
  rintro y h2 ⟨s2,g2⟩
  have c2:=g2.cl c1
  have t2:=g1.trans g2
  simp only [au,jC c2,jC s2,bg]
  refine aF.bind (v_asked (by omega) h2 z s) ?_
  rintro _ h3 ⟨rfl,g3⟩
  have t3:=t2.trans g3
  have c3:=g3.cl c2
  have s3:=g3.cl s2
  refine aL.ifB (fun e1=>KS ⟨rfl,fun h0=>?_,t3⟩) fun e1=>?_
  · simp at e1; exact (e1 h0).elim
  simp at e1
  simp only [au,jC c3,jC s3,bg]
  refine aF.bind (v_bounds (t3.le hro) z s) ?_
  rintro _ h4 ⟨pc,ps,pm,pp,pa,pf,pv,pw,rfl,b,g4⟩
  refine aL.mono (v_Most_1 b (g4.cl c3) (g4.cl s3) n 0 0 (by omega) (by omega)) ?_
  rintro ⟨v,e,h'⟩ ⟨q1,q2,q3⟩
  refine ⟨by rw [q2,e1],fun _=>?_,by rw [q1]; exact t3.trans g4⟩
  rw [q3]; rfl
end Go.Proofs.YtnlbfbiogfilfaaGreat.Sh
