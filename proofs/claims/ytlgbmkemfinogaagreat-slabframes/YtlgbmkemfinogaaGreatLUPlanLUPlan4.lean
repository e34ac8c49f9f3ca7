/- What the functions of 'plan' and 'cost' compute. -/
import Derived.Test.YtlgbmkemfinogaaGreatPaLText
import Derived.Test.YtlgbmkemfinogaaGreatAiTblKs
set_option linter.all false
namespace Go.Proofs.YtlgbmkemfinogaaGreat.Sh
open Go.Ai
@[simp] theorem Ad (n:Nat) (a b c:Int) (h:Heap) (k:Bool→Heap→ab):cj n a b c h k=k (jC a b c) h:=by
  unfold cj Q4 JZ zv
  by_cases hc:a<b
  · simp [jC,hc,show ¬ b≤a by omega]
  · simp [jC,hc,show b≤a by omega, ← Int.not_lt]
@[simp] theorem u_plan_power (n:Nat) (a b:Int) (h:Heap) (k:Bool→Heap→ab):eM n a b h k=k (aa4 a b) h:=by
  unfold eM TU Nz BA
  cases hc:jC a 1 b<;>simp [hc,aa4]
theorem OC (n:Nat) {h:Heap} {z:br} {c:List AV} (hc:Cfg h z c):aJ (ce n (.agg c) h) fun r h'=>r=sL z∧bo h h':=by
  unfold ce Ow Gh xx xt xC xN xw xH yr
  obtain ⟨t,p,rfl,ht,hps,S,hp,hS⟩:=hc
  refine aJ.bind (AO ..) ?_
  rintro x h1 ⟨hb,g⟩
  simp [iR hb,Bt]
  refine aR.ifB (fun e1=>?_) fun e1=>mQ ⟨by simp [sL,e1],g⟩
  have hnz:z.fB≠0:=by
    simp [aa4,jC] at e1; omega
  refine aR.ifB (fun e2=>?_) fun e2=>mQ ⟨by simp [sL,e1,e2],g⟩
  simp only [JP hnz]
  refine aR.ifB (fun e3=>?_) fun e3=>mQ ⟨by simp [sL,e1,e2,e3],g⟩
  refine aR.ifB (fun e4=>?_) fun e4=>mQ ⟨by simp [sL,e1,e2,e3,e4],g⟩
  refine aR.ifB (fun e5=>?_) fun e5=>mQ ⟨by simp [sL,e1,e2,e3,e4,e5],g⟩
  refine aR.ifB (fun e6=>?_) fun e6=>mQ ⟨by simp [sL,e1,e2,e3,e4,e5,e6],g⟩
  refine aR.ifB (fun e7=>?_) fun e7=>mQ ⟨by simp [sL,e1,e2,e3,e4,e5,e6,e7],g⟩
  simp only [dF.len hp]
  exact mQ ⟨by simp [sL,e1,e2,e3,e4,e5,e6,e7],g⟩
theorem ae2 (n:Nat) {h:Heap} {z:br} {c:List AV} (hc:Cfg h z c) (hz:z.fB≠0):aJ (dT n (.agg c) h) fun r h'=>r=ahu z∧bo h h':=by
  unfold dT Xt Qw
  obtain ⟨t,p,rfl,ht,hps,S,hp,hS⟩:=hc
  refine aJ.bind (AO ..) ?_
  rintro x h1 ⟨hb,g⟩
  simp [iR hb,Bt]
  simp only [N6 hz]
  exact mQ ⟨rfl,g⟩
theorem aiz {n:Nat} {h:Heap} {v:AV} {l:List Int} (hv:dh h .u64 v l):∀ (m i:Nat),i≤l.length→l.length-i<m→
    aJ (fun k=>Hh n k m v l.length i h) fun r h'=>r=(if (l.drop i).all (xR 1) then 0 else 100)∧h'=h:=by
  intro m
  induction m with
  | zero=>omega
  | succ m ih=>
    intro i hi hm
    show aR ap1 (fun k=>BU n k (Hh n k m) v l.length i h) _
    unfold BU HD BF
    refine aR.ifB (fun e=>?_) fun e=>?_
    · simp at e
      have hs:=hv.small
      rw [gx e,List.all_cons]
      simp only [au,hv.elN e,nQ e,kP (show i≤9223372036854775806 by omega)]
      refine aR.ifB (fun e1=>?_) fun e1=>aR.ifB (fun e2=>?_) fun e2=>?_
      · simp at e1
        exact mQ ⟨by simp [xR]; omega,rfl⟩
      · simp at e2
        exact mQ ⟨by simp [xR]; omega,rfl⟩
      · simp at e1 e2
        refine aR.mono (ih (i+1) (by omega) (by omega)) ?_
        rintro ⟨r,h'⟩ ⟨h1,h2⟩
        exact ⟨by rw [h1]; simp [xR,e1,e2],h2⟩
    · simp at e
      have:i=l.length:=by omega
      subst this
      exact mQ ⟨by simp,rfl⟩
def rise (last:Int):List Int→Bool
  | []=>true
  | x::l=>xR last x&&rise x l
theorem ah9 {n:Nat} {h:Heap} {v w:AV} {l:List Int} (hv:dh h .u64 v l) {q:Int} (h3:aJ (fun k=>BQ n k w h) fun r h'=>r=q∧bo h h'):∀ (m i:Nat) (last:Int),i≤l.length→l.length-i<m→
    aJ (fun k=>Hy n k m w last v l.length i h) fun r h'=>r=(if rise last (l.drop i) then q else 100)∧bo h h':=by
  intro m
  induction m with
  | zero=>omega
  | succ m ih=>
    intro i last hi hm
    show aR ap1 (fun k=>BN n k (Hy n k m) w last v l.length i h) _
    unfold BN Bj
    refine aR.ifB (fun e=>?_) fun e=>?_
    · simp at e
      have hs:=hv.small
      rw [gx e,rise]
      simp only [au,hv.elN e,nQ e,kP (show i≤9223372036854775806 by omega)]
      refine aR.ifB (fun e1=>?_) fun e1=>aR.ifB (fun e2=>?_) fun e2=>?_
      · simp at e1
        exact mQ ⟨by simp [xR]; omega,.refl⟩
      · simp at e2
        exact mQ ⟨by simp [xR]; omega,.refl⟩
      · simp at e1 e2
        refine aR.mono (ih (i+1) l[i] (by omega) (by omega)) ?_
        rintro ⟨r,h'⟩ ⟨h1,h2⟩
        exact ⟨by rw [h1]; simp [xR,e1,e2],h2⟩
    · simp at e
      have:i=l.length:=by omega
      subst this
      refine aR.mono h3 ?_
      rintro ⟨r,h'⟩ ⟨h1,h2⟩
      exact ⟨by simpa [rise] using h1,h2⟩
theorem N4 {n:Nat} (hn:4≤n) (h:Heap) (z:br):aJ (cp n (.agg (Ey z)) h) fun r h'=>r=abw z∧bo h h':=by
  unfold cp Uc NT
  refine aJ.bind (AO ..) ?_
  rintro x h1 ⟨hb,g⟩
  simp only [au,iR hb,Ey]
  refine aJ.bind (Qo (q:=.u64) [z.l1,z.llc,z.miss] (fun k=>by rfl) (by simp)) ?_
  rintro v h2 ⟨hv,g2⟩
  simp only [hv.len]
  have hb2:=g2.cl hb
  refine aR.mono (ah9 (q:=if xR 1 z.fault&&(xR 1 z.step&&xR 1 z.disk) then 0 else 100) hv ?_ n 0 1 (by simp) (by simp; omega)) ?_
  · unfold BQ
    simp only [au,iR hb2,Ey]
    refine aJ.bind (Qo (q:=.u64) [z.fault,z.step,z.disk] (fun k=>by rfl) (by simp)) ?_
    rintro v3 h3 ⟨hv3,g3⟩
    simp only [hv3.len]
    refine aR.mono (aiz hv3 n 0 (by simp) (by simp; omega)) ?_
    rintro ⟨r,h'⟩ ⟨e1,e2⟩
    exact ⟨by rw [e1]; simp,by rw [e2]; exact g3⟩
  · rintro ⟨r,h'⟩ ⟨e1,e2⟩
    refine ⟨?_,g.trans (g2.trans e2)⟩
    rw [e1]
    simp only [List.drop_zero,rise,abw,aos,Bool.and_true]
    rcases Bool.eq_false_or_eq_true (xR 1 z.l1) with a | a<;>rcases Bool.eq_false_or_eq_true (xR z.l1 z.llc) with b | b<;>rcases Bool.eq_false_or_eq_true (xR z.llc z.miss) with c | c<;>simp [a,b,c]
theorem apl {n:Nat} {h:Heap} {v:AV} {l:List Int} {x:Int} (hv:dh h .i64 v l):∀ (m i:Nat),i≤l.length→l.length-i<m→(∀ j,j<i→nz l j≠x)→
    aJ (fun k=>qF n k m v x l.length i h) fun r h'=>h'=h∧((r = -1∧x∉l)∨∃ j:Nat,r=j∧j<l.length∧nz l j=x):=by
  intro m
  induction m with
  | zero=>omega
  | succ m ih=>
    intro i hi hm hj
    show aR ap1 (fun k=>oi n k (qF n k m) v x l.length i h) _
    unfold oi qG
    refine aR.ifB (fun e=>?_) fun e=>?_
    · simp at e
      have hs:=hv.small
      simp only [au,hv.elN e,kP (show i≤9223372036854775806 by omega)]
      refine aR.ifB (fun e1=>?_) fun e1=>?_
      · simp at e1
        exact mQ ⟨rfl,.inr ⟨i,rfl,e,e1.symm⟩⟩
      · simp at e1
        refine ih (i+1) (by omega) (by omega) fun j hj'=>?_
        by_cases e2:j=i
        · subst e2; exact fun e=>e1 e.symm
        · exact hj j (by omega)
    · simp at e
      refine mQ ⟨rfl,.inl ⟨rfl,fun hx=>?_⟩⟩
      obtain ⟨j,h1,h2⟩:=List.getElem_of_mem hx
      exact hj j (by omega) (by rw [nQ h1]; exact h2)
theorem aoO {n:Nat} {h:Heap} {v:AV} {l:List Int} (hv:dh h .i64 v l) (hn:l.length<n) (x:Int) :
    aJ (bW n v x h) fun r h'=>h'=h∧((r = -1∧x∉l)∨∃ j:Nat,r=j∧j<l.length∧nz l j=x):=by
  unfold bW vz rh
  simp only [hv.len]
  exact apl hv n 0 (by omega) (by omega) fun j hj=>by omega
theorem anu {n:Nat} {h:Heap} {v:AV} {l:List Int} (hv:dh h .i64 v l) (hn:l.length<n) (x:Int):aJ (aQ n v x h) fun r h'=>r=decide (x∈l)∧h'=h:=by
  unfold aQ tv pZ
  refine aJ.bind (aoO hv hn x) ?_
  rintro r _ ⟨rfl,⟨rfl,hx⟩ | ⟨j,rfl,hj,hx⟩⟩
  · exact mQ ⟨by simp [hx],rfl⟩
  · refine mQ ⟨?_,rfl⟩
    have:x∈l:=by rw [← hx,nQ hj]; exact gL hj
    simp [this]
theorem ab9 {α:Type} [Inhabited α] {l:List α} {i:Nat} (h:i<l.length):l.getD i default=l[i]:=by rw [gD,gk h]; rfl
theorem amD {R:Type} {ap:WE→R→ab} {Q:R→Prop} {n:Nat} {w v2 v5 v16:AV} {v1 v17:Int} {ps:List dR} {S:Nat→AV} {x i:Int} {J:WE→Int→AV→AV→AV→Int→Int→Heap→ab} :
    ∀ (m j:Nat) (h:Heap),h.ro≤h.nx→dF h w 8 ps.length (fun i=>A3 (ps.getD i default) (S i))→(∀ i,i<ps.length→dh h .i64 (S i) (ps.getD i default).fC)→(∀ i,i<ps.length→(ps.getD i default).fC.length<n)→
    j≤ps.length→ps.length-j<m→
    ((ps.drop j).all (fun q=>!decide (x∈q.fC))=true→∀ h',bo h h'→aR ap (fun k=>J k v1 v2 v5 v16 v17 (IntKind.i64.wrap (i+1)) h') Q)→
    ((ps.drop j).all (fun q=>!decide (x∈q.fC))=false→∀ h',bo h h'→aR ap (fun k=>k false h') Q)→
    aR ap (fun k=>xY n (aQ n) k (J k) m v1 v2 v5 x v16 v17 i w ps.length j h) Q:=by
  intro m
  induction m with
  | zero=>omega
  | succ m ih=>
    intro j h hro hw hS hn hj hm hgo hno
    show aR ap (fun k=>xo n (aQ n) k (J k) (xY n (aQ n) k (J k) m) v1 v2 v5 x v16 v17 i w ps.length j h) Q
    unfold xo CJ
    refine aR.ifB (fun e=>?_) fun e=>?_
    · simp at e
      have hs:=hw.1
      simp only [au,hw.eld (i:=(j:Int)) (by omega) (by omega),gy,kP (show j≤9223372036854775806 by omega)]
      refine aJ.bind (agX (n:=8) hro (by rfl) (by rfl)) ?_
      rintro y h1 ⟨hy,ho,g⟩
      simp only [au,iR ho.cl,A3]
      refine aJ.bind (anu ((hS j e).grow g) (hn j e) x) ?_
      rintro r _ ⟨rfl,rfl⟩
      rw [gx e,List.all_cons] at hgo hno
      rw [ab9 e]
      refine aR.ifB (fun e1=>?_) fun e1=>?_
      · simp at e1
        exact hno (by simp [e1]) _ g
      · simp only [gt] at e1
        simp only [e1,decide_false,Bool.not_false,Bool.true_and] at hgo hno
        exact ih (j+1) _ (g.le hro) (hw.grow g) (fun i hi=>(hS i hi).grow g) hn (by omega) (by omega) (fun ha h' g'=>hgo ha h' (g.trans g')) (fun ha h' g'=>hno ha h' (g.trans g'))
    · simp at e
      have:j=ps.length:=by omega
      subst this
      simp only [au]
      exact hgo (by simp) h .refl
def QI (l:List Int) (i:Nat):Option Int:=if i=0 then none else some (nz l (i-1))
structure Fits (n:Nat) (z:br):Prop where
  small:100<n
  fH:z.fH.length<n
  parts:z.parts.length<n
  fC:∀ i,i<z.parts.length→(z.parts.getD i default).fC.length<n
theorem Yv {ps:List dR} {p i:Nat} (hi:i<(ps.take p).length):(ps.take p).getD i default=ps.getD i default:=by
  simp at hi
  rw [ab9 (by simp; omega),ab9 (by omega),List.getElem_take]
theorem al0 {n:Nat} {z:br} (hn:Fits n z) {t pp v:AV} {S:Nat→AV} {x p:Nat} (hp:p≤z.parts.length) (hsh:pp.shut=true) (l:List Int):∀ (m i:Nat) (h:Heap),h.ro≤h.nx→h.cl x (Bt z t pp)→
    dF h pp 8 z.parts.length (fun i=>A3 (z.parts.getD i default) (S i))→(∀ i,i<z.parts.length→dh h .i64 (S i) (z.parts.getD i default).fC)→dh h .i64 v l→
    i≤l.length→l.length-i<m→
    aJ (fun k=>uz n (aQ n) k m p (.ptr x 0) v v l.length i h) fun r h'=>r=(Ej z (z.parts.take p) (QI l i) (l.drop i)&&decide (0<l.length))∧bo h h':=by
  intro m
  induction m with
  | zero=>omega
  | succ m ih=>
    intro i h hro hb hw hS hv hi hm
    show aR ap1 (fun k=>yb n (aQ n) k (uz n (aQ n) k m) p (.ptr x 0) v v l.length i h) _
    unfold yb CR xV ux
    have hs:=hv.small
    refine aR.ifB (fun e=>?_) fun e=>?_
    · simp at e
      obtain ⟨w,hw',hsl⟩:=hw.take (v:=pp) hsh (i:=(p:Int)) (by omega) (by omega)
      rw [gy] at hw'
      have hlen:(z.parts.take p).length=p:=by simp; omega
      have fin:(∀ y,QI l i=some y→y<l[i])→0≤l[i]→l[i]<z.fB→
          aR ap1 (fun k=>xY n (aQ n) k (uz n (aQ n) k m) n p (.ptr x 0) v l[i] v l.length i w p ((0:Nat):Int) h)
            (fun r=>r.1=(Ej z (z.parts.take p) (QI l i) (l.drop i)&&decide (0<l.length))∧bo h r.2):=by
        intro h1 h2 h3
        have c1:aaL (QI l i) l[i]=true:=by
          unfold aaL
          cases hq:QI l i with
          | none=>rfl
          | some y=>simpa using h1 y hq
        have key:=amD (ap:=ap1) (n:=n) (w:=w) (v2:=.ptr x 0) (v5:=v) (v16:=v) (v1:=p) (v17:=l.length) (ps:=z.parts.take p) (S:=S) (x:=l[i]) (i:=i) (J:=fun k=>uz n (aQ n) k m)
          (Q:=fun r=>r.1=(Ej z (z.parts.take p) (QI l i) (l.drop i)&&decide (0<l.length))∧bo h r.2) n 0 h hro
          (by
            rw [hlen]
            obtain ⟨q1,q2⟩:=hw'
            refine ⟨q1,?_⟩
            rcases q2 with q2 | ⟨b,off,ext,opn,q2,q3⟩
            · exact .inl q2
            · refine .inr ⟨b,off,ext,opn,q2,fun h0=>?_⟩
              obtain ⟨cl,q3,q4⟩:=q3 h0
              exact ⟨cl,q3,fun j hj=>by have:=q4 j hj; dsimp only at this ⊢; rw [Yv (by omega)]; exact this⟩)
          (fun j hj=>by rw [Yv hj]; exact hS j (by rw [hlen] at hj; omega)) (fun j hj=>by rw [Yv hj]; exact hn.fC j (by rw [hlen] at hj; omega)) (by omega) (by rw [hlen]; have:=hn.parts; omega)
          (fun ha h' g=>by
            rw [kP (show i≤9223372036854775806 by omega)]
            refine aR.mono (ih (i+1) h' (g.le hro) (g.cl hb) (hw.grow g) (fun i hi=>(hS i hi).grow g) (hv.grow g) (by omega) (by omega)) ?_
            rintro ⟨r,h''⟩ ⟨e1,e2⟩
            refine ⟨?_,g.trans e2⟩
            rw [gx e,JY,c1]
            have:QI l (i+1)=some l[i]:=by unfold QI; rw [if_neg (by omega)]; simp [nQ e]
            rw [this] at e1
            rw [List.drop_zero] at ha
            rw [ha]
            simpa [h2,h3] using e1)
          (fun ha h' g=>by
            refine mQ ⟨?_,g⟩
            rw [gx e,JY]
            rw [List.drop_zero] at ha
            rw [ha]
            simp)
        rw [hlen] at key
        exact key
      simp only [au,iR hb,Bt,hv.elN e,nQ e,hsl,dF.len hw']
      have no:(decide (0≤l[i])=false∨decide (l[i]<z.fB)=false∨aaL (QI l i) l[i]=false)→(false=(Ej z (z.parts.take p) (QI l i) (l.drop i)&&decide (0<l.length))∧bo h h):=by
        intro h0
        refine ⟨?_,.refl⟩
        rw [gx e,JY]
        rcases h0 with h0 | h0 | h0<;>rw [h0]<;>simp
      refine aR.ifB (fun e1=>?_) fun e1=>aR.ifB (fun e2=>?_) fun e2=>aR.ifB (fun e3=>?_) fun e3=>?_
      · exact mQ (no (.inl (by simp at e1 ⊢; omega)))
      · exact mQ (no (.inr (.inl (by simpa using e2))))
      · simp at e1 e2 e3
        have hw1:IntKind.i64.wrap ((i:Int)-1)=((i-1:Nat):Int):=by rw [mP (by omega) (by omega)]; omega
        have pv:QI l i=some (nz l (i-1)):=by unfold QI; rw [if_neg (by omega)]
        simp only [hw1,hv.elN (show i-1<l.length by omega)]
        refine aR.ifB (fun e4=>?_) fun e4=>?_
        · exact mQ (no (.inr (.inr (by rw [pv]; simpa [aaL] using e4))))
        · simp at e4
          exact fin (fun y hy=>by rw [pv] at hy; cases hy; exact e4) e1 e2
      · simp at e1 e2 e3
        have i0:i=0:=by omega
        exact fin (fun y hy=>by unfold QI at hy; rw [if_pos i0] at hy; cases hy) e1 e2
    · simp at e
      have:i=l.length:=by omega
      subst this
      simp only [hv.len]
      simp only [au]
      exact mQ ⟨by simp [Ej],.refl⟩
theorem apV {n:Nat} {z:br} (hn:Fits n z) {h:Heap} (hro:h.ro≤h.nx) {c:List AV} (hc:Cfg h z c) {p:Nat} (hp:p<z.parts.length):aJ (d6 n (.agg c) p h) fun r h'=>r=ab1 z p∧bo h h':=by
  unfold d6 Ok HE
  obtain ⟨t,pp,rfl,ht,hps,S,hpt,hS⟩:=hc
  refine aJ.bind (AO ..) ?_
  rintro x h1 ⟨hb,g⟩
  obtain ⟨b,off,l,e1,e2,e3,e4⟩:=(hpt.grow g).at_ (i:=(p:Int)) (by omega) (by omega)
  rw [gy] at e4
  have e5:l[off]?=some (S p):=by
    have:=congrArg (·[0]?) e4
    simpa [A3] using this
  simp only [au,iR hb,Bt,dF.ia (hpt.grow g) (show (0:Int)≤(p:Int) by omega) (show (p:Int)<_ by omega),e1,iR e2,e5,((hS p hp).grow g).len]
  refine aR.mono (al0 hn (p:=p) (by omega) hps _ n 0 h1 (g.le hro) hb (hpt.grow g) (fun i hi=>(hS i hi).grow g) ((hS p hp).grow g) (by omega) (by have:=hn.fC p hp; omega)) ?_
  rintro ⟨r,h'⟩ ⟨q1,q2⟩
  exact ⟨by rw [q1]; simp [ab1,jk,QI],g.trans q2⟩
end Go.Proofs.YtlgbmkemfinogaaGreat.Sh
/- What a partition's quotas are, by the code. -/
namespace Go.Proofs.YtlgbmkemfinogaaGreat.Sh
open Go.Ai
theorem Cfg.mk' {h:Heap} {z:br} {t p:AV} (ht:dh h .i64 t z.fH) (hp:Parts h p z.parts):Cfg h z (Bt z t p):=⟨t,p,rfl,ht,hp⟩
theorem Cfg.shut {h:Heap} {z:br} {c:List AV} (p:Cfg h z c):Cfg (h.shut true) z c:=p
theorem aoT {n:Nat} {z:br} (hz:z.fB≠0) {h:Heap} {c:List AV} (hc:Cfg h z c) {p:Nat} (hp:p<z.parts.length):aJ (dD n (.agg c) p h) fun r h'=>r=BD z p∧bo h h':=by
  unfold dD TO NG
  obtain ⟨t,pp,rfl,ht,hps,S,hpt,hS⟩:=hc
  refine aJ.bind (AO ..) ?_
  rintro x h1 ⟨hb,g⟩
  obtain ⟨b,off,l,e1,e2,e3,e4⟩:=(hpt.grow g).at_ (i:=(p:Int)) (by omega) (by omega)
  rw [gy] at e4
  have e5:l[off]?=some (S p):=by
    have:=congrArg (·[0]?) e4
    simpa [A3] using this
  simp only [au,iR hb,ck,dF.ia (hpt.grow g) (show (0:Int)≤(p:Int) by omega) (show (p:Int)<_ by omega),e1,iR e2,e5,((hS p hp).grow g).len]
  refine aJ.bind (ae2 n (h:=h1.shut true) (z:=z) (Cfg.shut (Cfg.mk' (ht.grow g) ⟨hps,S,hpt.grow g,fun i hi=>(hS i hi).grow g⟩)) hz) ?_
  rintro _ h2 ⟨rfl,g2⟩
  exact mQ ⟨rfl,g.trans g2.shut⟩
theorem aom {R:Type} {ap:aiJ→R→ab} {Q:R→Prop} {n:Nat} {w v2 v5:AV} {v1:Int} {ps:List dR} {S:Nat→AV} {f1 f2 f3 f4} :
    ∀ (m j:Nat) (a:Int) (h:Heap),h.ro≤h.nx→dF h w 8 ps.length (fun i=>A3 (ps.getD i default) (S i))→
    j≤ps.length→ps.length-j<m→
    (∀ h',bo h h'→aR ap (fun k=>Aa n f1 f2 f3 f4 k v1 v2 v5 (alw (ps.drop j) a) h') Q)→f4=cj n→
    aR ap (fun k=>zL n f1 f2 f3 f4 k m v1 v2 v5 a w ps.length j h) Q:=by
  intro m
  induction m with
  | zero=>omega
  | succ m ih=>
    intro j a h hro hw hj hm hgo hf
    simp only [af6]
    unfold zt zH
    refine aR.ifB (fun e=>?_) fun e=>?_
    · simp at e
      have hs:=hw.1
      subst hf
      simp only [au,hw.eld (i:=(j:Int)) (by omega) (by omega),gy,kP (show j≤9223372036854775806 by omega)]
      refine aJ.bind (agX (n:=8) hro (by rfl) (by rfl)) ?_
      rintro y h1 ⟨hy,ho,g⟩
      simp only [au,iR ho.cl,ck,Ad]
      rw [gx e,alw,List.foldl_cons] at hgo
      rw [ab9 e]
      refine aR.ifB (fun e1=>?_) fun e1=>?_
      · rw [if_pos e1] at hgo
        exact ih (j+1) _ _ (g.le hro) (hw.grow g) (by omega) (by omega) (fun h' g'=>hgo h' (g.trans g')) rfl
      · rw [if_neg (by simp [e1])] at hgo
        exact ih (j+1) _ _ (g.le hro) (hw.grow g) (by omega) (by omega) (fun h' g'=>hgo h' (g.trans g')) rfl
    · simp at e
      have:j=ps.length:=by omega
      subst this
      have:=hgo h .refl
      rw [List.drop_length] at this
      exact this
@[simp] theorem idxAK_0 (a b c:AV) (k:AV→ab):acM 1 3 false (.agg [a,b,c]) 0 k=k a:=by
  show qX (Nat.mul 0 1) (fun o=>oC (sub [a,b,c] o 1) fun l=>oC (MO false l) k)=_
  simp [pN,MO]
@[simp] theorem idxAK_1 (a b c:AV) (k:AV→ab):acM 1 3 false (.agg [a,b,c]) 1 k=k b:=by
  show qX (Nat.mul 1 1) (fun o=>oC (sub [a,b,c] o 1) fun l=>oC (MO false l) k)=_
  simp [pN,MO]
@[simp] theorem idxAK_2 (a b c:AV) (k:AV→ab):acM 1 3 false (.agg [a,b,c]) 2 k=k c:=by
  show qX (Nat.mul 2 1) (fun o=>oC (sub [a,b,c] o 1) fun l=>oC (MO false l) k)=_
  simp [pN,MO]
theorem wr01:IntKind.i64.wrap (0+1)=1:=by decide
theorem wr12:IntKind.i64.wrap (1+1)=2:=by decide
theorem wr23:IntKind.i64.wrap (2+1)=3:=by decide
theorem build3 (q:IntKind) (a b c:Int) (k:AV→ab):tw [.int q 0,.int q 0,.int q 0] [(0,1,.int q a),(1,1,.int q b),(2,1,.int q c)] k=k (.agg [.int q a,.int q b,.int q c]):=rfl
theorem lt03:decide ((0:Int)<3)=true:=rfl
theorem lt13:decide ((1:Int)<3)=true:=rfl
theorem lt23:decide ((2:Int)<3)=true:=rfl
theorem lt33:decide ((3:Int)<3)=false:=rfl
theorem v_quotas {n:Nat} {z:br} (hn:Fits n z) {h:Heap} (hro:h.ro≤h.nx) {c:List AV} (hc:Cfg h z c) {p:Nat} (hp:p<z.parts.length):aJ (ez n (.agg c) p h) fun r h'=>r=ug z p∧bo h h':=by
  unfold ez Rk JQ zV zx
  obtain ⟨m,rfl⟩:∃ m,n=m+4:=⟨n-4,by have:=hn.small; omega⟩
  have hc0:=hc
  obtain ⟨t,pp,rfl,ht,hps,S,hpt,hS⟩:=hc
  refine aJ.bind (AO ..) ?_
  rintro x h1 ⟨hb,g⟩
  simp only [au,iR hb,ck,dF.eld (hpt.grow g) (show (0:Int)≤(p:Int) by omega) (show (p:Int)<_ by omega),gy]
  refine aJ.bind (agX (n:=8) (g.le hro) (by rfl) (by rfl)) ?_
  rintro y h2 ⟨hy,ho,g2⟩
  have gg:=g.trans g2
  have hb2:=g2.cl hb
  simp only [au,iR ho.cl,ck,Ad]
  rw [show z.parts.getD p default=jk z p from rfl] at *
  refine aR.ifB (fun e1=>mQ ⟨by simp at e1; simp [ug,e1],gg⟩) fun e1=>aR.ifB (fun e2=>mQ ⟨by simp at e2; simp [ug,e2],gg⟩) fun e2=>aR.ifB (fun e3=>mQ ⟨by simp at e3; simp [ug,e3],gg⟩) fun e3=>?_
  simp only [build3,afK,zr]
  simp only [au,idxAK_0,idxAK_1,idxAK_2,wr01,wr12,wr23,lt03,lt13,lt23,lt33,Ad]
  refine aR.ifB (fun e4=>mQ ⟨by simp at e4; simp [ug,e4],gg⟩) fun e4=>aR.ifB (fun e5=>mQ ⟨by simp at e5; simp [ug,e5],gg⟩) fun e5=>aR.ifB (fun e6=>mQ ⟨by simp at e6; simp [ug,e6],gg⟩) fun e6=>?_
  unfold E9
  simp only [au,iR hb2,ck]
  have hpl:=hpt.1
  obtain ⟨w,hw,hsl⟩:=(hpt.grow gg).take hps (i:=((p+1:Nat):Int)) (by omega) (by omega)
  rw [kP (show p≤9223372036854775806 by omega),gy] at *
  simp only [kP (show p≤9223372036854775806 by omega),hsl,dF.len hw]
  have hlen:(z.parts.take (p+1)).length=p+1:=by simp; omega
  have hw':dF h2 w 8 (z.parts.take (p+1)).length fun i=>A3 ((z.parts.take (p+1)).getD i default) (S i):=by
    rw [hlen]
    obtain ⟨q1,q2⟩:=hw
    refine ⟨q1,?_⟩
    rcases q2 with q2 | ⟨b,off,ext,opn,q2,q3⟩
    · exact .inl q2
    · refine .inr ⟨b,off,ext,opn,q2,fun h0=>?_⟩
      obtain ⟨cl,q3,q4⟩:=q3 h0
      exact ⟨cl,q3,fun j hj=>by have:=q4 j hj; dsimp only at this ⊢; rw [Yv (by omega)]; exact this⟩
  have key:=aom (ap:=ap1) (n:=m+4) (w:=w) (v2:=.ptr x 0) (v5:=.ptr y 0) (v1:=p) (ps:=z.parts.take (p+1)) (S:=S) (f1:=dD (m+4)) (f2:=ce (m+4)) (f3:=dT (m+4)) (f4:=cj (m+4))
    (Q:=fun r=>r.1=ug z p∧bo h r.2) (m+4) 0 0 h2 (gg.le hro) hw' (by omega) (by rw [hlen]; have:=hn.parts; omega) (fun h3 g3=>?_) rfl
  · rw [hlen] at key
    exact key
  rw [List.drop_zero]
  have g23:=gg.trans g3
  have ho3:=(ho.grow g3).cl
  have hb3:=g3.cl hb2
  unfold Aa zX zJ
  simp only [au,iR ho3,ck,Ad]
  simp only [Bool.not_eq_false'] at e1 e2 e3 e4 e5 e6
  refine aR.ifB (fun e7=>mQ ⟨by simp at e7; simp [ug,e7],g23⟩) fun e7=>aR.ifB (fun e8=>mQ ⟨by simp at e8; simp [ug,Int.not_le.2 e8],g23⟩) fun e8=>?_
  simp at e7 e8
  simp only [au,iR hb3,ck]
  refine aJ.bind (OC (m+4) (Cfg.mk' (ht.grow g23) ⟨hps,S,hpt.grow g23,fun i hi=>(hS i hi).grow g23⟩)) ?_
  rintro _ h4 ⟨rfl,g4⟩
  have g24:=g23.trans g4
  refine aR.ifB (fun e9=>mQ ⟨?_,g24⟩) fun e9=>?_
  · simp at e9
    simp [ug,e1,e2,e3,e4,e5,e6,e7,e8,e9]
  simp at e9
  have hz:=Up e9
  have ho4:=g4.cl ho3
  have hb4:=g4.cl hb3
  have hord:0≤(jk z p).order:=by simp [jC] at e1; omega
  simp only [au,iR ho4,iR hb4,ck,ND hord]
  refine aJ.bind (ae2 (m+4) (Cfg.mk' (ht.grow g24) ⟨hps,S,hpt.grow g24,fun i hi=>(hS i hi).grow g24⟩) hz) ?_
  rintro _ h5 ⟨rfl,g5⟩
  have g25:=g24.trans g5
  refine aR.ifB (fun e10=>?_) fun e10=>mQ ⟨?_,g25⟩
  · simp at e10
    simp only [au,iR (g5.cl ho4),iR (g5.cl hb4),ck]
    refine aJ.bind (aoT (n:=m+4) (h:=h5.shut true) hz (Cfg.shut (Cfg.mk' (ht.grow g25) ⟨hps,S,hpt.grow g25,fun i hi=>(hS i hi).grow g25⟩)) hp) ?_
    rintro _ h6 ⟨rfl,g6⟩
    refine mQ ⟨?_,g25.trans g6.shut⟩
    have h10:TN (jk z p)≤ahu z:=by unfold TN; omega
    have h11:ug z p=decide (needZ (jk z p)≤BD z p):=by simp [ug,e1,e2,e3,e4,e5,e6,e7,e8,e9,h10]
    show (!decide (BD z p<needZ (jk z p)))=ug z p
    rw [h11,Bool.eq_iff_iff]
    simp
  · simp at e10
    have h10:¬ TN (jk z p)≤ahu z:=by unfold TN; omega
    simp [ug,e1,e2,e3,e4,e5,e6,e7,e8,e9,h10]
theorem v_part {n:Nat} {z:br} (hn:Fits n z) {h:Heap} (hro:h.ro≤h.nx) {c:List AV} (hc:Cfg h z c) {p:Nat} (hp:p<z.parts.length):aJ (dp n (.agg c) p h) fun r h'=>r=WT z p∧bo h h':=by
  unfold dp Xo PK
  obtain ⟨t,pp,rfl,ht,hps⟩:=hc
  refine aJ.bind (AO ..) ?_
  rintro x h1 ⟨hb,g⟩
  simp only [au,iR hb,ck]
  refine aJ.bind (apV hn (g.le hro) (Cfg.mk' (ht.grow g) (hps.grow g)) hp) ?_
  rintro _ h2 ⟨rfl,g2⟩
  have gg:=g.trans g2
  refine aR.ifB (fun e1=>?_) fun e1=>?_
  · simp at e1
    exact mQ ⟨by simp [WT,e1],gg⟩
  · simp at e1
    simp only [au,iR (g2.cl hb),ck]
    refine aJ.bind (v_quotas hn (gg.le hro) (Cfg.mk' (ht.grow gg) (hps.grow gg)) hp) ?_
    rintro _ h3 ⟨rfl,g3⟩
    refine aR.ifB (fun e2=>?_) fun e2=>?_
    · simp at e2
      exact mQ ⟨by simp [WT,e1,e2],gg.trans g3⟩
    · simp at e2
      exact mQ ⟨by simp [WT,e1,e2],gg.trans g3⟩
end Go.Proofs.YtlgbmkemfinogaaGreat.Sh
/- What things cost, by the code. -/
namespace Go.Proofs.YtlgbmkemfinogaaGreat.Sh
open Go.Ai
@[simp] theorem Z8 (n:Nat) (a b c:Int) (h:Heap) (k:Bool→Heap→ab):dl n a b c h k=k (jC a b c) h:=by
  unfold dl Ri JJ zO
  by_cases hc:a<b
  · simp [jC,hc,show ¬ b≤a by omega]
  · simp [jC,hc,show b≤a by omega, ← Int.not_lt]
theorem v_Switch {n:Nat} (hn:4≤n) (h:Heap) (z:br) (a b:Int):dY (dM n (.agg (Ey z)) a b h) fun v e h'=>e=Yw z a b∧(e=0→v=aoX z a b)∧bo h h':=by
  unfold dM Rp JU zD
  refine aJ.bind (AO ..) ?_
  rintro x h1 ⟨hb,g⟩
  simp only [au,iR hb,ck]
  refine aJ.bind (N4 hn h1 z) ?_
  rintro _ h2 ⟨rfl,g2⟩
  have gg:=g.trans g2
  have hb2:=g2.cl hb
  simp only [au,iR hb2,ck,Z8]
  refine aR.ifB (fun e1=>K6 ⟨?_,?_,gg⟩) fun e1=>aR.ifB (fun e2=>K6 ⟨?_,?_,gg⟩) fun e2=>aR.ifB (fun e3=>K6 ⟨?_,?_,gg⟩) fun e3=>K6 ⟨?_,?_,gg⟩
  · simp at e1; simp [Yw,e1]
  · intro h0; simp at e1; exact (e1 h0).elim
  · simp at e1 e2; simp [Yw,e1,e2]
  · intro h0; cases h0
  · simp at e1 e2 e3; simp [Yw,e1,e2,e3]
  · intro h0; cases h0
  · simp at e1 e2 e3; simp [Yw,e1,e2,e3]
  · intro _; rfl
theorem sh1:IntKind.i64.wrap (YO .i64 1 (1:Int).toNat)=2:=by decide
theorem sh2:IntKind.i64.wrap (YO .i64 1 (2:Int).toNat)=4:=by decide
theorem apw {n:Nat} {x:Nat} {h:Heap} {s:dH} (hb:h.cl x (Dy s)) (i:Bool) (f1):aJ (fun k=>BR n f1 (dl n) k (.ptr x 0) i h) fun r h'=>h'=h∧r=if i&&(jC s.user 2 4096&&(jC s.limit 1 5120&&jC s.nodes 1 4096)) then 0 else 2:=by
  unfold BR Bz BL BS
  simp only [au,iR hb,ck,Z8]
  cases i<;>cases h1:jC s.user 2 4096<;>cases h2:jC s.limit 1 5120<;>cases h3:jC s.nodes 1 4096<;>exact mQ ⟨rfl,by simp⟩
theorem apx {n:Nat} {y:Nat} {h:Heap} {s:dH} (hb:h.cl y (Dy s)) (f1):∀ (m i:Nat) (b:Bool),i≤4→4-i<m→aJ (fun k=>BT n f1 (dl n) k m (.ptr y 0) b i h) fun r h'=>h'=h∧
    r=if (b||(List.range' i (4-i)).any fun j=>s.image==IntKind.i64.wrap (YO .i64 1 j))&&(jC s.user 2 4096&&(jC s.limit 1 5120&&jC s.nodes 1 4096)) then 0 else 2:=by
  intro m
  induction m with
  | zero=>omega
  | succ m ih=>
    intro i b hi hm
    simp only [ahg]
    unfold BG Bb
    refine aR.ifB (fun e=>?_) fun e=>?_
    · simp at e
      simp only [au,iR hb,ck,kP (show i≤9223372036854775806 by omega),ND (gd i),gy]
      have hr:List.range' i (4-i)=i::List.range' (i+1) (4-(i+1)):=by
        rw [show 4-i=(4-(i+1))+1 by omega,List.range'_succ]
      rw [hr,List.any_cons]
      refine aR.ifB (fun e1=>?_) fun e1=>?_
      · subst e1
        refine aR.mono (ih (i+1) true (by omega) (by omega)) ?_
        rintro ⟨r,h'⟩ ⟨q1,q2⟩
        exact ⟨q1,by rw [q2]; simp⟩
      · subst e1
        refine aR.mono (ih (i+1) _ (by omega) (by omega)) ?_
        rintro ⟨r,h'⟩ ⟨q1,q2⟩
        exact ⟨q1,by rw [Bool.false_or]; exact q2⟩
    · simp at e
      have:i=4:=by omega
      subst this
      refine aR.mono (apw hb b f1) ?_
      rintro ⟨r,h'⟩ ⟨q1,q2⟩
      exact ⟨q1,by rw [q2]; simp⟩
theorem v_asked {n:Nat} (hn:10≤n) (h:Heap) (z:br) (s:dH):aJ (dW n (.agg (Ey z)) (.agg (Dy s)) h) fun r h'=>r=ah0 z s∧bo h h':=by
  unfold dW T4 NU
  refine aJ.bind (AO ..) ?_
  rintro x h1 ⟨hb,g⟩
  refine aJ.bind (AO ..) ?_
  rintro y h2 ⟨hb2,g2⟩
  simp only [au,iR (g2.cl hb),ck]
  refine aJ.bind (N4 (by omega) h2 z) ?_
  rintro _ h3 ⟨rfl,g3⟩
  have gg:=g.trans (g2.trans g3)
  have hb3:=g3.cl hb2
  refine aR.ifB (fun e1=>mQ ⟨?_,gg⟩) fun e1=>?_
  · simp at e1; simp [ah0,e1]
  simp at e1
  refine aR.mono (apx hb3 (cp n) n 0 false (by omega) (by omega)) ?_
  rintro ⟨r,h'⟩ ⟨q1,q2⟩
  refine ⟨?_,by rw [q1]; exact gg⟩
  rw [q2]
  have hr:(List.range' 0 (4-0)).any (fun j=>s.image==IntKind.i64.wrap (YO .i64 1 j))=(decide (s.image=1)||(decide (s.image=2)||(decide (s.image=4)||decide (s.image=8)))):=by
    show (s.image==1||(s.image==2||(s.image==4||(s.image==8||false))))=_
    rw [Bool.or_false]; rfl
  rw [hr,ah0,if_pos e1,Bool.false_or]
abbrev At1 (h:Heap) (x:Nat) (q:IntKind) (v:Int):Prop:=h.cl x [.int q v]
theorem Zk {q:IntKind} {v:Int}:([AV.int q v]:List AV)[0]?=some (.int q v):=rfl
theorem v_f1 {n:Nat} {h:Heap} {x:Nat} {m:Int} (hx:At1 h x .u64 m) (k:Int→Heap→ab):b8 n (.ptr x 0) h k=k (w64 (113*m)) h:=by
  unfold b8 Jv Ck
  simp only [au,iR hx,Zk]; rfl
theorem v_f2 {n:Nat} {h:Heap} {x:Nat} {m:Int} (hx:At1 h x .u64 m) (k:Int→Heap→ab):bZ n (.ptr x 0) h k=k (w64 (64*m)) h:=by
  unfold bZ Jq Cs
  simp only [au,iR hx,Zk]; rfl
theorem v_f4 {n:Nat} {h:Heap} {x:Nat} {m:Int} (hx:At1 h x .u64 m) (k:Int→Heap→ab):cu n (.ptr x 0) h k=k (w64 (17*m)) h:=by
  unfold cu Jw B4
  simp only [au,iR hx,Zk]; rfl
theorem v_f5 {n:Nat} {h:Heap} {x y:Nat} {a m:Int} (hx:At1 h x .u64 a) (hy:At1 h y .u64 m) (k:Int→Heap→ab):cq n (.ptr x 0) (.ptr y 0) h k=k (w64 (a+m)) h:=by
  unfold cq Jr Cq
  simp only [au,iR hx,iR hy,Zk]; rfl
theorem v_f6 {n:Nat} {h:Heap} {x y w:Nat} {s:dH} {a m:Int} (hx:At1 h x .u64 m) (hy:h.cl y (Dy s)) (hw:At1 h w .u64 a) (k:Int→Heap→ab) :
    ct n (.ptr x 0) (.ptr y 0) (.ptr w 0) h k=k (w64 (w64 (m+w64 (w64 (16*w64 s.nodes)*m))+a)) h:=by
  unfold ct Ju Ch
  simp only [au,iR hx,iR hy,iR hw,Zk,ck]; rfl
theorem v_f7 {n:Nat} {h:Heap} {x y:Nat} {z:br} {m:Int} (hx:h.cl x (Ey z)) (hy:At1 h y .u64 m) (k:Int→Heap→ab):cv n (.ptr x 0) (.ptr y 0) h k=k (w64 (w64 (64*w64 (z.step+m))+m)) h:=by
  unfold cv IU CI
  simp only [au,iR hx,iR hy,Zk,ck]; rfl
theorem v_f9 {n:Nat} {h:Heap} {x y w:Nat} {z:br} {m f:Int} (hx:At1 h x .u64 m) (hy:h.cl y (Ey z)) (hw:At1 h w .u64 f) (k:Int→Heap→ab) :
    cr n (.ptr x 0) (.ptr y 0) (.ptr w 0) h k=k (w64 (w64 (w64 (w64 (26*m)+z.fault)+f)+z.disk)) h:=by
  unfold cr Jg Ci
  simp only [au,iR hx,iR hy,iR hw,Zk,ck]; rfl
theorem v_f10 {n:Nat} {h:Heap} {x y w:Nat} {z:br} {m f:Int} (hx:At1 h x .u64 m) (hy:h.cl y (Ey z)) (hw:At1 h w .u64 f) (k:Int→Heap→ab) :
    cb n (.ptr x 0) (.ptr y 0) (.ptr w 0) h k=k (w64 (w64 (w64 (w64 (64*m)+w64 (2*z.fault))+w64 (2*f))+z.disk)) h:=by
  unfold cb GV A2
  simp only [au,iR hx,iR hy,iR hw,Zk,ck]; rfl
theorem max2 (q:IntKind) (a b:Int) (k:AV→ab):NJ true [.int q a,.int q b] k=k (.int q (maxZ a b)):=by
  show oC (some (.int q (if ltF a b then b else a))) k=_
  rw [nw]; simp [maxZ]
theorem min2 (q:IntKind) (a b:Int) (k:AV→ab):NJ false [.int q a,.int q b] k=k (.int q (minZ a b)):=by
  show oC (some (.int q (if ltF b a then b else a))) k=_
  rw [nw]; simp [minZ]
theorem v_f8 {n:Nat} {h:Heap} {x y p u:Nat} {m a:Int} (hx:h.cl x [.func oU [] [.ptr p 0]]) (hy:h.cl y [.func oP [] [.ptr u 0]]) (hp:At1 h p .u64 m) (hu:At1 h u .u64 a) (k:Int→Heap→ab) :
    dj n (.ptr x 0) (.ptr y 0) h k=k (maxZ (w64 (113*m)) (w64 (64*a))) h:=by
  unfold dj Jk Cg
  have c1:∀ h k,tj (b8 n) (bZ n) (cO n) (cu n) (cq n) (ct n) (cv n) (cr n) (cb n) (.func oU [] [.ptr p 0]) [] h k =
      b8 n (.ptr p 0) h fun u h=>k (.int .u64 u) h:=fun _ _=>rfl
  have c2:∀ h k,tj (b8 n) (bZ n) (cO n) (cu n) (cq n) (ct n) (cv n) (cr n) (cb n) (.func oP [] [.ptr u 0]) [] h k =
      bZ n (.ptr u 0) h fun u h=>k (.int .u64 u) h:=fun _ _=>rfl
  have e1:([AV.func oU [] [.ptr p 0]]:List AV)[0]?=some (.func oU [] [.ptr p 0]):=rfl
  have e2:([AV.func oP [] [.ptr u 0]]:List AV)[0]?=some (.func oP [] [.ptr u 0]):=rfl
  have b0:(h.shut true).back h.ro=h:=by cases h; rfl
  simp only [au,iR hx,e1,c1,v_f1 hp.shut,b0,iR hy,e2,c2,v_f2 hu,max2]
end Go.Proofs.YtlgbmkemfinogaaGreat.Sh
/- The worst costs, by the code. -/
namespace Go.Proofs.YtlgbmkemfinogaaGreat.Sh
open Go.Ai
def JK (pc ps pm pp pa pf pv pw:Nat):List AV:=[.func ye [] [],.func B8 [] [.ptr pm 0],.func B0 [] [.ptr pa 0,.ptr pm 0],.func B1 [] [.ptr pm 0,.ptr ps 0,.ptr pa 0],
  .func oU [] [.ptr pm 0],.func oP [] [.ptr pp 0],.func Ct [] [.ptr pc 0,.ptr pm 0],.func Js [] [.ptr pv 0,.ptr pw 0],.func Cw [] [.ptr pm 0,.ptr pc 0,.ptr pf 0],
  .func AP [] [.ptr pm 0,.ptr pc 0,.ptr pf 0],.func ye [] []]
structure BoundsAt (h:Heap) (z:br) (s:dH) (pc ps pm pp pa pf pv pw:Nat):Prop where
  fc:h.cl pc (Ey z)
  fs:h.cl ps (Dy s)
  fm:At1 h pm .u64 z.miss
  fp:At1 h pp .u64 (pageC z)
  fa:At1 h pa .u64 (allC z s)
  ff:At1 h pf .u64 (an1 z s)
  fv:h.cl pv [.func oU [] [.ptr pm 0]]
  fw:h.cl pw [.func oP [] [.ptr pp 0]]
theorem fn_0 {f:Nat} {c:List AV}:([AV.func f [] c]:List AV)[0]?=some (.func f [] c):=rfl
theorem v_bounds {n:Nat} {h:Heap} (hro:h.ro≤h.nx) (z:br) (s:dH):aJ (dI n (.agg (Ey z)) (.agg (Dy s)) h) fun r h'=>∃ pc ps pm pp pa pf pv pw,r = .agg (JK pc ps pm pp pa pf pv pw)∧BoundsAt h' z s pc ps pm pp pa pf pv pw∧bo h h':=by
  unfold dI RA JL
  refine aJ.bind (AO ..) ?_
  rintro pc h1 ⟨c1,g1⟩
  refine aJ.bind (AO ..) ?_
  rintro ps h2 ⟨s2,g2⟩
  have c2:=g2.cl c1
  have t2:=g1.trans g2
  refine aJ.bind (aeY (t2.le hro) _ 0) ?_
  rintro q h3 ⟨hq,oq3,g3⟩
  have c3:=g3.cl c2
  have s3:=g3.cl s2
  have t3:=t2.trans g3
  simp only [au,iR c3,ck]
  refine aJ.bind (aj6 (t3.le hro) rfl) ?_
  rintro pm h4 ⟨n4,o4,g4⟩
  have m4:=o4.cl
  have c4:=g4.cl c3
  have s4:=g4.cl s3
  have t4:=t3.trans g4
  simp only [au,iR c4,iR m4,Zk,ck]
  refine aJ.bind (aj6 (t4.le hro) rfl) ?_
  rintro pp h5 ⟨n5,o5,g5⟩
  have p5:=o5.cl
  have m5:=g5.cl m4
  have c5:=g5.cl c4
  have s5:=g5.cl s4
  have t5:=t4.trans g5
  simp only [au,iR s5,iR p5,Zk,ck]
  refine aJ.bind (aj6 (t5.le hro) rfl) ?_
  rintro pa h6 ⟨n6,o6,g6⟩
  have a6:=o6.cl
  have p6:=g6.cl p5
  have m6:=g6.cl m5
  have c6:=g6.cl c5
  have s6:=g6.cl s5
  have t6:=t5.trans g6
  simp only [au,iR s6,iR c6,ck]
  refine aJ.bind (aj6 (t6.le hro) rfl) ?_
  rintro pf h7 ⟨n7,o7,g7⟩
  have t7:=t6.trans g7
  refine aJ.bind (aj6 (t7.le hro) rfl) ?_
  rintro pv h8 ⟨n8,o8,g8⟩
  have t8:=t7.trans g8
  refine aJ.bind (aj6 (t8.le hro) rfl) ?_
  rintro pw h9 ⟨n9,o9,g9⟩
  have t9:=t8.trans g9
  have v9:=g9.cl o8.cl
  simp only [au,iR v9,iR o9.cl,fn_0]
  have g79:=g8.trans g9
  have g69:=g7.trans g79
  have g39:=g4.trans (g5.trans (g6.trans g69))
  refine dz.bind (Yu (cs:=JK pc ps pm pp pa pf pv pw) (oq3.grow g39) rfl (by show 0+11≤11; decide)) ?_
  intro h10 hp
  rw [VU _ _ (by rfl)] at hp
  have gq:=hp.grow t9 (gu t2.nx hq)
  simp only [au,iR hp.own.cl]
  have:sub (JK pc ps pm pp pa pf pv pw) 0 11=some (JK pc ps pm pp pa pf pv pw):=by rw [pN]; rfl
  simp only [au,this]
  refine mQ ⟨pc,ps,pm,pp,pa,pf,pv,pw,rfl,?_,gq⟩
  have q3:=oq3.lt
  have k1:=g4.nx
  have k2:=g5.nx
  have k3:=g6.nx
  have k4:=g7.nx
  have k5:=g8.nx
  have k6:=c2.1
  have k7:=s2.1
  exact ⟨hp.cl (by omega) (g69.cl c6),hp.cl (by omega) (g69.cl s6),hp.cl (by omega) (g69.cl m6),hp.cl (by omega) (g69.cl p6),hp.cl (by omega) (g69.cl a6),hp.cl (by omega) (g79.cl o7.cl),hp.cl (by omega) v9,hp.cl (by omega) o9.cl⟩
noncomputable abbrev cfM (n:Nat):aO:=uh (dW n) (dI n) (b8 n) (bZ n) (cO n) (cu n) (cq n) (ct n) (cv n) (dj n) (cr n) (cb n)
theorem ape {n:Nat} {h:Heap} {z:br} {s:dH} {pc ps pm pp pa pf pv pw:Nat} (b:BoundsAt h z s pc ps pm pp pa pf pv pw) {i:Nat} (hi:i<11) (k:AV→Heap→ab) :
    cfM n ((JK pc ps pm pp pa pf pv pw).getD i default) [] h k=k (.int .u64 (nz (acq z s) i)) h:=by
  match i,hi with
  | 0,_=>exact rfl
  | 1,_=>exact v_f4 (n:=n) b.fm _
  | 2,_=>exact v_f5 (n:=n) b.fa b.fm _
  | 3,_=>exact v_f6 (n:=n) b.fm b.fs b.fa _
  | 4,_=>exact v_f1 (n:=n) b.fm _
  | 5,_=>exact v_f2 (n:=n) b.fp _
  | 6,_=>exact v_f7 (n:=n) b.fc b.fm _
  | 7,_=>exact v_f8 (n:=n) b.fv b.fw b.fm b.fp _
  | 8,_=>exact v_f9 (n:=n) b.fm b.fc b.ff _
  | 9,_=>exact v_f10 (n:=n) b.fm b.fc b.ff _
  | 10,_=>exact rfl
theorem v_Most_1 {n:Nat} {h:Heap} {z:br} {s:dH} {pc ps pm pp pa pf pv pw x y:Nat} (b:BoundsAt h z s pc ps pm pp pa pf pv pw) (hx:h.cl x (Ey z)) (hy:h.cl y (Dy s)):∀ (m i:Nat) (a:Int),i≤11→11-i<m→
    dY (fun k=>Eo n (dW n) (dI n) (b8 n) (bZ n) (cO n) (cu n) (cq n) (ct n) (cv n) (dj n) (cr n) (cb n) k m (.ptr x 0) (.ptr y 0) a (.agg (JK pc ps pm pp pa pf pv pw)) i h)
      fun v e h'=>h'=h∧e=0∧v=w64 (w64 (w64 s.image*z.miss)+((acq z s).drop i).foldl maxZ a):=by
  intro m
  induction m with
  | zero=>omega
  | succ m ih=>
    intro i a hi hm
    simp only [ai1]
    unfold EB JS
    refine aR.ifB (fun e=>?_) fun e=>?_
    · simp at e
      have e':i<(acq z s).length:=by show i<11; omega
      have eF:i<(JK pc ps pm pp pa pf pv pw).length:=by show i<11; omega
      have hd:((JK pc ps pm pp pa pf pv pw)[i])=(JK pc ps pm pp pa pf pv pw).getD i default:=by rw [gD,gk eF]; rfl
      have key:=ape (n:=n) b (i:=i) (by omega)
      unfold cfM at key
      rw [gx e',List.foldl_cons]
      simp only [au,aoF (l:=JK pc ps pm pp pa pf pv pw) (n:=11) (i:=i) rfl (by omega),hd,key,max2,kP (show i≤9223372036854775806 by omega)]
      have:=ih (i+1) (maxZ a (nz (acq z s) i)) (by omega) (by omega)
      rw [nQ e'] at this ⊢
      exact this
    · simp at e
      have:i=11:=by omega
      subst this
      simp only [au,iR hx,iR hy,ck]
      exact K6 ⟨rfl,rfl,rfl⟩
theorem v_Most {n:Nat} (hn:100<n) {h:Heap} (hro:h.ro≤h.nx) (z:br) (s:dH):dY (d0 n (.agg (Ey z)) (.agg (Dy s)) h) fun v e h'=>e=ah0 z s∧(e=0→v=mostC z s)∧bo h h':=by
  unfold d0 Wy Qx
  refine aJ.bind (AO ..) ?_
  rintro x h1 ⟨c1,g1⟩
  refine aJ.bind (AO ..) ?_
  rintro y h2 ⟨s2,g2⟩
  have c2:=g2.cl c1
  have t2:=g1.trans g2
  simp only [au,iR c2,iR s2,ck]
  refine aJ.bind (v_asked (by omega) h2 z s) ?_
  rintro _ h3 ⟨rfl,g3⟩
  have t3:=t2.trans g3
  have c3:=g3.cl c2
  have s3:=g3.cl s2
  refine aR.ifB (fun e1=>K6 ⟨rfl,fun h0=>?_,t3⟩) fun e1=>?_
  · simp at e1; exact (e1 h0).elim
  simp at e1
  simp only [au,iR c3,iR s3,ck]
  refine aJ.bind (v_bounds (t3.le hro) z s) ?_
  rintro _ h4 ⟨pc,ps,pm,pp,pa,pf,pv,pw,rfl,b,g4⟩
  refine aR.mono (v_Most_1 b (g4.cl c3) (g4.cl s3) n 0 0 (by omega) (by omega)) ?_
  rintro ⟨v,e,h'⟩ ⟨q1,q2,q3⟩
  refine ⟨by rw [q2,e1],fun _=>?_,by rw [q1]; exact t3.trans g4⟩
  rw [q3]; rfl
end Go.Proofs.YtlgbmkemfinogaaGreat.Sh
