/- What the functions of 'plan' and 'cost' compute. -/
import Derived.Test.YtpoobhhdgjgdgaaGreatPaUText
import Derived.Test.YtpoobhhdgjgdgaaGreatAiTblKs
set_option linter.all false
namespace Go.Proofs.YtpoobhhdgjgdgaaGreat.Sh
open Go.Ai
@[simp] theorem wt (n:Nat) (a b c:Int) (h:Heap) (k:Bool→Heap→aa):b9 n a b c h k=k (ji a b c) h:=by
  unfold b9 Mz F2 uX
  by_cases hc:a<b
  · simp [ji,hc,show ¬ b≤a by omega]
  · simp [ji,hc,show b≤a by omega, ← Int.not_lt]
@[simp] theorem u_plan_power (n:Nat) (a b:Int) (h:Heap) (k:Bool→Heap→aa):d7 n a b h k=k (VH a b) h:=by
  unfold d7 QW II xd
  cases hc:ji a 1 b<;>simp [hc,VH]
theorem JN (n:Nat) {h:Heap} {z:bA} {c:List AV} (hc:Cfg h z c):aR (bW n (.agg c) h) fun r h'=>r=nQ z∧ba h h':=by
  unfold bW JS Cn tG tA tf un um ta tv
  obtain ⟨t,p,rfl,ht,hps,S,hp,hS⟩:=hc
  refine aR.bind (mr ..) ?_
  rintro x h1 ⟨hb,g⟩
  simp [gU hb,ry]
  refine aJ.ifB (fun e1=>?_) fun e1=>jT ⟨by simp [nQ,e1],g⟩
  have hnz:z.eZ≠0:=by
    simp [VH,ji] at e1; omega
  refine aJ.ifB (fun e2=>?_) fun e2=>jT ⟨by simp [nQ,e1,e2],g⟩
  simp only [aho hnz]
  refine aJ.ifB (fun e3=>?_) fun e3=>jT ⟨by simp [nQ,e1,e2,e3],g⟩
  refine aJ.ifB (fun e4=>?_) fun e4=>jT ⟨by simp [nQ,e1,e2,e3,e4],g⟩
  refine aJ.ifB (fun e5=>?_) fun e5=>jT ⟨by simp [nQ,e1,e2,e3,e4,e5],g⟩
  refine aJ.ifB (fun e6=>?_) fun e6=>jT ⟨by simp [nQ,e1,e2,e3,e4,e5,e6],g⟩
  refine aJ.ifB (fun e7=>?_) fun e7=>jT ⟨by simp [nQ,e1,e2,e3,e4,e5,e6,e7],g⟩
  simp only [bK.len hp]
  exact jT ⟨by simp [nQ,e1,e2,e3,e4,e5,e6,e7],g⟩
theorem aeJ (n:Nat) {h:Heap} {z:bA} {c:List AV} (hc:Cfg h z c) (hz:z.eZ≠0):aR (dp n (.agg c) h) fun r h'=>r=ajX z∧ba h h':=by
  unfold dp Wg Li
  obtain ⟨t,p,rfl,ht,hps,S,hp,hS⟩:=hc
  refine aR.bind (mr ..) ?_
  rintro x h1 ⟨hb,g⟩
  simp [gU hb,ry]
  simp only [abt hz]
  exact jT ⟨rfl,g⟩
theorem ajk {n:Nat} {h:Heap} {v:AV} {l:List Int} (hv:cQ h .u64 v l):∀ (m i:Nat),i≤l.length→l.length-i<m→
    aR (fun k=>Dp n k m v l.length i h) fun r h'=>r=(if (l.drop i).all (tR 1) then 0 else 100)∧h'=h:=by
  intro m
  induction m with
  | zero=>omega
  | succ m ih=>
    intro i hi hm
    show aJ ap1 (fun k=>xO n k (Dp n k m) v l.length i h) _
    unfold xO Cm xy
    refine aJ.ifB (fun e=>?_) fun e=>?_
    · simp at e
      have hs:=hv.small
      rw [gd e,List.all_cons]
      simp only [aD,hv.elN e,GD e,js (show i≤9223372036854775806 by omega)]
      refine aJ.ifB (fun e1=>?_) fun e1=>aJ.ifB (fun e2=>?_) fun e2=>?_
      · simp at e1
        exact jT ⟨by simp [tR]; omega,rfl⟩
      · simp at e2
        exact jT ⟨by simp [tR]; omega,rfl⟩
      · simp at e1 e2
        refine aJ.mono (ih (i+1) (by omega) (by omega)) ?_
        rintro ⟨r,h'⟩ ⟨h1,h2⟩
        exact ⟨by rw [h1]; simp [tR,e1,e2],h2⟩
    · simp at e
      have:i=l.length:=by omega
      subst this
      exact jT ⟨by simp,rfl⟩
def rise (last:Int):List Int→Bool
  | []=>true
  | x::l=>tR last x&&rise x l
theorem ajP {n:Nat} {h:Heap} {v w:AV} {l:List Int} (hv:cQ h .u64 v l) {q:Int} (h3:aR (fun k=>xk n k w h) fun r h'=>r=q∧ba h h'):∀ (m i:Nat) (last:Int),i≤l.length→l.length-i<m→
    aR (fun k=>Dj n k m w last v l.length i h) fun r h'=>r=(if rise last (l.drop i) then q else 100)∧ba h h':=by
  intro m
  induction m with
  | zero=>omega
  | succ m ih=>
    intro i last hi hm
    show aJ ap1 (fun k=>xf n k (Dj n k m) w last v l.length i h) _
    unfold xf wT
    refine aJ.ifB (fun e=>?_) fun e=>?_
    · simp at e
      have hs:=hv.small
      rw [gd e,rise]
      simp only [aD,hv.elN e,GD e,js (show i≤9223372036854775806 by omega)]
      refine aJ.ifB (fun e1=>?_) fun e1=>aJ.ifB (fun e2=>?_) fun e2=>?_
      · simp at e1
        exact jT ⟨by simp [tR]; omega,.refl⟩
      · simp at e2
        exact jT ⟨by simp [tR]; omega,.refl⟩
      · simp at e1 e2
        refine aJ.mono (ih (i+1) l[i] (by omega) (by omega)) ?_
        rintro ⟨r,h'⟩ ⟨h1,h2⟩
        exact ⟨by rw [h1]; simp [tR,e1,e2],h2⟩
    · simp at e
      have:i=l.length:=by omega
      subst this
      refine aJ.mono h3 ?_
      rintro ⟨r,h'⟩ ⟨h1,h2⟩
      exact ⟨by simpa [rise] using h1,h2⟩
theorem ID {n:Nat} (hn:4≤n) (h:Heap) (z:bA):aR (cb n (.agg (zT z)) h) fun r h'=>r=abM z∧ba h h':=by
  unfold cb QZ Iq
  refine aR.bind (mr ..) ?_
  rintro x h1 ⟨hb,g⟩
  simp only [aD,gU hb,zT]
  refine aR.bind (afO (q:=.u64) [z.l1,z.llc,z.miss] (fun k=>by rfl) (by simp)) ?_
  rintro v h2 ⟨hv,g2⟩
  simp only [hv.len]
  have hb2:=g2.cl hb
  refine aJ.mono (ajP (q:=if tR 1 z.fault&&(tR 1 z.step&&tR 1 z.disk) then 0 else 100) hv ?_ n 0 1 (by simp) (by simp; omega)) ?_
  · unfold xk
    simp only [aD,gU hb2,zT]
    refine aR.bind (afO (q:=.u64) [z.fault,z.step,z.disk] (fun k=>by rfl) (by simp)) ?_
    rintro v3 h3 ⟨hv3,g3⟩
    simp only [hv3.len]
    refine aJ.mono (ajk hv3 n 0 (by simp) (by simp; omega)) ?_
    rintro ⟨r,h'⟩ ⟨e1,e2⟩
    exact ⟨by rw [e1]; simp,by rw [e2]; exact g3⟩
  · rintro ⟨r,h'⟩ ⟨e1,e2⟩
    refine ⟨?_,g.trans (g2.trans e2)⟩
    rw [e1]
    simp only [List.drop_zero,rise,abM,aqM,Bool.and_true]
    rcases Bool.eq_false_or_eq_true (tR 1 z.l1) with a | a<;>rcases Bool.eq_false_or_eq_true (tR z.l1 z.llc) with b | b<;>rcases Bool.eq_false_or_eq_true (tR z.llc z.miss) with c | c<;>simp [a,b,c]
theorem arj {n:Nat} {h:Heap} {v:AV} {l:List Int} {x:Int} (hv:cQ h .i64 v l):∀ (m i:Nat),i≤l.length→l.length-i<m→(∀ j,j<i→nz l j≠x)→
    aR (fun k=>nW n k m v x l.length i h) fun r h'=>h'=h∧((r = -1∧x∉l)∨∃ j:Nat,r=j∧j<l.length∧nz l j=x):=by
  intro m
  induction m with
  | zero=>omega
  | succ m ih=>
    intro i hi hm hj
    show aJ ap1 (fun k=>mw n k (nW n k m) v x l.length i h) _
    unfold mw nV
    refine aJ.ifB (fun e=>?_) fun e=>?_
    · simp at e
      have hs:=hv.small
      simp only [aD,hv.elN e,js (show i≤9223372036854775806 by omega)]
      refine aJ.ifB (fun e1=>?_) fun e1=>?_
      · simp at e1
        exact jT ⟨rfl,.inr ⟨i,rfl,e,e1.symm⟩⟩
      · simp at e1
        refine ih (i+1) (by omega) (by omega) fun j hj'=>?_
        by_cases e2:j=i
        · subst e2; exact fun e=>e1 e.symm
        · exact hj j (by omega)
    · simp at e
      refine jT ⟨rfl,.inl ⟨rfl,fun hx=>?_⟩⟩
      obtain ⟨j,h1,h2⟩:=List.getElem_of_mem hx
      exact hj j (by omega) (by rw [GD h1]; exact h2)
theorem v_Index {n:Nat} {h:Heap} {v:AV} {l:List Int} (hv:cQ h .i64 v l) (hn:l.length<n) (x:Int) :
    aR (cz n v x h) fun r h'=>h'=h∧((r = -1∧x∉l)∨∃ j:Nat,r=j∧j<l.length∧nz l j=x):=by
  unfold cz rB oR
  simp only [hv.len]
  exact arj hv n 0 (by omega) (by omega) fun j hj=>by omega
theorem aaf {n:Nat} {h:Heap} {v:AV} {l:List Int} (hv:cQ h .i64 v l) (hn:l.length<n) (x:Int):aR (al n v x h) fun r h'=>r=decide (x∈l)∧h'=h:=by
  unfold al qy nG
  refine aR.bind (v_Index hv hn x) ?_
  rintro r _ ⟨rfl,⟨rfl,hx⟩ | ⟨j,rfl,hj,hx⟩⟩
  · exact jT ⟨by simp [hx],rfl⟩
  · refine jT ⟨?_,rfl⟩
    have:x∈l:=by rw [← hx,GD hj]; exact gp hj
    simp [this]
theorem aa9 {α:Type} [Inhabited α] {l:List α} {i:Nat} (h:i<l.length):l.getD i default=l[i]:=by rw [gi,fV h]; rfl
theorem anR {R:Type} {ap:VC→R→aa} {Q:R→Prop} {n:Nat} {w v2 v5 v16:AV} {v1 v17:Int} {ps:List cV} {S:Nat→AV} {x i:Int} {J:VC→Int→AV→AV→AV→Int→Int→Heap→aa} :
    ∀ (m j:Nat) (h:Heap),h.ro≤h.nx→bK h w 8 ps.length (fun i=>tJ (ps.getD i default) (S i))→(∀ i,i<ps.length→cQ h .i64 (S i) (ps.getD i default).fb)→(∀ i,i<ps.length→(ps.getD i default).fb.length<n)→
    j≤ps.length→ps.length-j<m→
    ((ps.drop j).all (fun q=>!decide (x∈q.fb))=true→∀ h',ba h h'→aJ ap (fun k=>J k v1 v2 v5 v16 v17 (IntKind.i64.wrap (i+1)) h') Q)→
    ((ps.drop j).all (fun q=>!decide (x∈q.fb))=false→∀ h',ba h h'→aJ ap (fun k=>k false h') Q)→
    aJ ap (fun k=>sI n (al n) k (J k) m v1 v2 v5 x v16 v17 i w ps.length j h) Q:=by
  intro m
  induction m with
  | zero=>omega
  | succ m ih=>
    intro j h hro hw hS hn hj hm hgo hno
    show aJ ap (fun k=>ui n (al n) k (J k) (sI n (al n) k (J k) m) v1 v2 v5 x v16 v17 i w ps.length j h) Q
    unfold ui yK
    refine aJ.ifB (fun e=>?_) fun e=>?_
    · simp at e
      have hs:=hw.1
      simp only [aD,hw.eld (i:=(j:Int)) (by omega) (by omega),ge,js (show j≤9223372036854775806 by omega)]
      refine aR.bind (GQ (n:=8) hro (by rfl) (by rfl)) ?_
      rintro y h1 ⟨hy,ho,g⟩
      simp only [aD,gU ho.cl,tJ]
      refine aR.bind (aaf ((hS j e).grow g) (hn j e) x) ?_
      rintro r _ ⟨rfl,rfl⟩
      rw [gd e,List.all_cons] at hgo hno
      rw [aa9 e]
      refine aJ.ifB (fun e1=>?_) fun e1=>?_
      · simp at e1
        exact hno (by simp [e1]) _ g
      · simp only [ga] at e1
        simp only [e1,decide_false,Bool.not_false,Bool.true_and] at hgo hno
        exact ih (j+1) _ (g.le hro) (hw.grow g) (fun i hi=>(hS i hi).grow g) hn (by omega) (by omega) (fun ha h' g'=>hgo ha h' (g.trans g')) (fun ha h' g'=>hno ha h' (g.trans g'))
    · simp at e
      have:j=ps.length:=by omega
      subst this
      simp only [aD]
      exact hgo (by simp) h .refl
def LQ (l:List Int) (i:Nat):Option Int:=if i=0 then none else some (nz l (i-1))
structure dt (n:Nat) (z:bA):Prop where
  small:100<n
  fi:z.fi.length<n
  parts:z.parts.length<n
  fb:∀ i,i<z.parts.length→(z.parts.getD i default).fb.length<n
theorem Xz {ps:List cV} {p i:Nat} (hi:i<(ps.take p).length):(ps.take p).getD i default=ps.getD i default:=by
  simp at hi
  rw [aa9 (by simp; omega),aa9 (by omega),List.getElem_take]
theorem ape {n:Nat} {z:bA} (hn:dt n z) {t pp v:AV} {S:Nat→AV} {x p:Nat} (hp:p≤z.parts.length) (hsh:pp.shut=true) (l:List Int):∀ (m i:Nat) (h:Heap),h.ro≤h.nx→h.cl x (ry z t pp)→
    bK h pp 8 z.parts.length (fun i=>tJ (z.parts.getD i default) (S i))→(∀ i,i<z.parts.length→cQ h .i64 (S i) (z.parts.getD i default).fb)→cQ h .i64 v l→
    i≤l.length→l.length-i<m→
    aR (fun k=>qX n (al n) k m p (.ptr x 0) v v l.length i h) fun r h'=>r=(zJ z (z.parts.take p) (LQ l i) (l.drop i)&&decide (0<l.length))∧ba h h':=by
  intro m
  induction m with
  | zero=>omega
  | succ m ih=>
    intro i h hro hb hw hS hv hi hm
    show aJ ap1 (fun k=>ug n (al n) k (qX n (al n) k m) p (.ptr x 0) v v l.length i h) _
    unfold ug yZ th q0
    have hs:=hv.small
    refine aJ.ifB (fun e=>?_) fun e=>?_
    · simp at e
      obtain ⟨w,hw',hsl⟩:=hw.take (v:=pp) hsh (i:=(p:Int)) (by omega) (by omega)
      rw [ge] at hw'
      have hlen:(z.parts.take p).length=p:=by simp; omega
      have fin:(∀ y,LQ l i=some y→y<l[i])→0≤l[i]→l[i]<z.eZ→
          aJ ap1 (fun k=>sI n (al n) k (qX n (al n) k m) n p (.ptr x 0) v l[i] v l.length i w p ((0:Nat):Int) h)
            (fun r=>r.1=(zJ z (z.parts.take p) (LQ l i) (l.drop i)&&decide (0<l.length))∧ba h r.2):=by
        intro h1 h2 h3
        have c1:aad (LQ l i) l[i]=true:=by
          unfold aad
          cases hq:LQ l i with
          | none=>rfl
          | some y=>simpa using h1 y hq
        have key:=anR (ap:=ap1) (n:=n) (w:=w) (v2:=.ptr x 0) (v5:=v) (v16:=v) (v1:=p) (v17:=l.length) (ps:=z.parts.take p) (S:=S) (x:=l[i]) (i:=i) (J:=fun k=>qX n (al n) k m)
          (Q:=fun r=>r.1=(zJ z (z.parts.take p) (LQ l i) (l.drop i)&&decide (0<l.length))∧ba h r.2) n 0 h hro
          (by
            rw [hlen]
            obtain ⟨q1,q2⟩:=hw'
            refine ⟨q1,?_⟩
            rcases q2 with q2 | ⟨b,off,ext,opn,q2,q3⟩
            · exact .inl q2
            · refine .inr ⟨b,off,ext,opn,q2,fun h0=>?_⟩
              obtain ⟨cl,q3,q4⟩:=q3 h0
              exact ⟨cl,q3,fun j hj=>by have:=q4 j hj; dsimp only at this ⊢; rw [Xz (by omega)]; exact this⟩)
          (fun j hj=>by rw [Xz hj]; exact hS j (by rw [hlen] at hj; omega)) (fun j hj=>by rw [Xz hj]; exact hn.fb j (by rw [hlen] at hj; omega)) (by omega) (by rw [hlen]; have:=hn.parts; omega)
          (fun ha h' g=>by
            rw [js (show i≤9223372036854775806 by omega)]
            refine aJ.mono (ih (i+1) h' (g.le hro) (g.cl hb) (hw.grow g) (fun i hi=>(hS i hi).grow g) (hv.grow g) (by omega) (by omega)) ?_
            rintro ⟨r,h''⟩ ⟨e1,e2⟩
            refine ⟨?_,g.trans e2⟩
            rw [gd e,F0,c1]
            have:LQ l (i+1)=some l[i]:=by unfold LQ; rw [if_neg (by omega)]; simp [GD e]
            rw [this] at e1
            rw [List.drop_zero] at ha
            rw [ha]
            simpa [h2,h3] using e1)
          (fun ha h' g=>by
            refine jT ⟨?_,g⟩
            rw [gd e,F0]
            rw [List.drop_zero] at ha
            rw [ha]
            simp)
        rw [hlen] at key
        exact key
      simp only [aD,gU hb,ry,hv.elN e,GD e,hsl,bK.len hw']
      have no:(decide (0≤l[i])=false∨decide (l[i]<z.eZ)=false∨aad (LQ l i) l[i]=false)→(false=(zJ z (z.parts.take p) (LQ l i) (l.drop i)&&decide (0<l.length))∧ba h h):=by
        intro h0
        refine ⟨?_,.refl⟩
        rw [gd e,F0]
        rcases h0 with h0 | h0 | h0<;>rw [h0]<;>simp
      refine aJ.ifB (fun e1=>?_) fun e1=>aJ.ifB (fun e2=>?_) fun e2=>aJ.ifB (fun e3=>?_) fun e3=>?_
      · exact jT (no (.inl (by simp at e1 ⊢; omega)))
      · exact jT (no (.inr (.inl (by simpa using e2))))
      · simp at e1 e2 e3
        have hw1:IntKind.i64.wrap ((i:Int)-1)=((i-1:Nat):Int):=by rw [ot (by omega) (by omega)]; omega
        have pv:LQ l i=some (nz l (i-1)):=by unfold LQ; rw [if_neg (by omega)]
        simp only [hw1,hv.elN (show i-1<l.length by omega)]
        refine aJ.ifB (fun e4=>?_) fun e4=>?_
        · exact jT (no (.inr (.inr (by rw [pv]; simpa [aad] using e4))))
        · simp at e4
          exact fin (fun y hy=>by rw [pv] at hy; cases hy; exact e4) e1 e2
      · simp at e1 e2 e3
        have i0:i=0:=by omega
        exact fin (fun y hy=>by unfold LQ at hy; rw [if_pos i0] at hy; cases hy) e1 e2
    · simp at e
      have:i=l.length:=by omega
      subst this
      simp only [hv.len]
      simp only [aD]
      exact jT ⟨by simp [zJ],.refl⟩
theorem arz {n:Nat} {z:bA} (hn:dt n z) {h:Heap} (hro:h.ro≤h.nx) {c:List AV} (hc:Cfg h z c) {p:Nat} (hp:p<z.parts.length):aR (dG n (.agg c) p h) fun r h'=>r=ace z p∧ba h h':=by
  unfold dG Ku B6
  obtain ⟨t,pp,rfl,ht,hps,S,hpt,hS⟩:=hc
  refine aR.bind (mr ..) ?_
  rintro x h1 ⟨hb,g⟩
  obtain ⟨b,off,l,e1,e2,e3,e4⟩:=(hpt.grow g).at_ (i:=(p:Int)) (by omega) (by omega)
  rw [ge] at e4
  have e5:l[off]?=some (S p):=by
    have:=congrArg (·[0]?) e4
    simpa [tJ] using this
  simp only [aD,gU hb,ry,bK.ia (hpt.grow g) (show (0:Int)≤(p:Int) by omega) (show (p:Int)<_ by omega),e1,gU e2,e5,((hS p hp).grow g).len]
  refine aJ.mono (ape hn (p:=p) (by omega) hps _ n 0 h1 (g.le hro) hb (hpt.grow g) (fun i hi=>(hS i hi).grow g) ((hS p hp).grow g) (by omega) (by have:=hn.fb p hp; omega)) ?_
  rintro ⟨r,h'⟩ ⟨q1,q2⟩
  exact ⟨by rw [q1]; simp [ace,jE,LQ],g.trans q2⟩
end Go.Proofs.YtpoobhhdgjgdgaaGreat.Sh
/- What a partition's quotas are, by the code. -/
namespace Go.Proofs.YtpoobhhdgjgdgaaGreat.Sh
open Go.Ai
theorem Cfg.mk' {h:Heap} {z:bA} {t p:AV} (ht:cQ h .i64 t z.fi) (hp:dB h p z.parts):Cfg h z (ry z t p):=⟨t,p,rfl,ht,hp⟩
theorem Cfg.shut {h:Heap} {z:bA} {c:List AV} (p:Cfg h z c):Cfg (h.shut true) z c:=p
theorem aq3 {n:Nat} {z:bA} (hz:z.eZ≠0) {h:Heap} {c:List AV} (hc:Cfg h z c) {p:Nat} (hp:p<z.parts.length):aR (db n (.agg c) p h) fun r h'=>r=Bq z p∧ba h h':=by
  unfold db Qs IC
  obtain ⟨t,pp,rfl,ht,hps,S,hpt,hS⟩:=hc
  refine aR.bind (mr ..) ?_
  rintro x h1 ⟨hb,g⟩
  obtain ⟨b,off,l,e1,e2,e3,e4⟩:=(hpt.grow g).at_ (i:=(p:Int)) (by omega) (by omega)
  rw [ge] at e4
  have e5:l[off]?=some (S p):=by
    have:=congrArg (·[0]?) e4
    simpa [tJ] using this
  simp only [aD,gU hb,bC,bK.ia (hpt.grow g) (show (0:Int)≤(p:Int) by omega) (show (p:Int)<_ by omega),e1,gU e2,e5,((hS p hp).grow g).len]
  refine aR.bind (aeJ n (h:=h1.shut true) (z:=z) (Cfg.shut (Cfg.mk' (ht.grow g) ⟨hps,S,hpt.grow g,fun i hi=>(hS i hi).grow g⟩)) hz) ?_
  rintro _ h2 ⟨rfl,g2⟩
  exact jT ⟨rfl,g.trans g2.shut⟩
theorem apV {R:Type} {ap:ald→R→aa} {Q:R→Prop} {n:Nat} {w v2 v5:AV} {v1:Int} {ps:List cV} {S:Nat→AV} {f1 f2 f3 f4} :
    ∀ (m j:Nat) (a:Int) (h:Heap),h.ro≤h.nx→bK h w 8 ps.length (fun i=>tJ (ps.getD i default) (S i))→
    j≤ps.length→ps.length-j<m→
    (∀ h',ba h h'→aJ ap (fun k=>vf n f1 f2 f3 f4 k v1 v2 v5 (amh (ps.drop j) a) h') Q)→f4=b9 n→
    aJ ap (fun k=>vL n f1 f2 f3 f4 k m v1 v2 v5 a w ps.length j h) Q:=by
  intro m
  induction m with
  | zero=>omega
  | succ m ih=>
    intro j a h hro hw hj hm hgo hf
    simp only [ags]
    unfold vI vv
    refine aJ.ifB (fun e=>?_) fun e=>?_
    · simp at e
      have hs:=hw.1
      subst hf
      simp only [aD,hw.eld (i:=(j:Int)) (by omega) (by omega),ge,js (show j≤9223372036854775806 by omega)]
      refine aR.bind (GQ (n:=8) hro (by rfl) (by rfl)) ?_
      rintro y h1 ⟨hy,ho,g⟩
      simp only [aD,gU ho.cl,bC,wt]
      rw [gd e,amh,List.foldl_cons] at hgo
      rw [aa9 e]
      refine aJ.ifB (fun e1=>?_) fun e1=>?_
      · rw [if_pos e1] at hgo
        exact ih (j+1) _ _ (g.le hro) (hw.grow g) (by omega) (by omega) (fun h' g'=>hgo h' (g.trans g')) rfl
      · rw [if_neg (by simp [e1])] at hgo
        exact ih (j+1) _ _ (g.le hro) (hw.grow g) (by omega) (by omega) (fun h' g'=>hgo h' (g.trans g')) rfl
    · simp at e
      have:j=ps.length:=by omega
      subst this
      have:=hgo h .refl
      rw [List.drop_length] at this
      exact this
@[simp] theorem idxAK_0 (a b c:AV) (k:AV→aa):afy 1 3 false (.agg [a,b,c]) 0 k=k a:=by
  show oD (Nat.mul 0 1) (fun o=>oC (sub [a,b,c] o 1) fun l=>oC (HQ false l) k)=_
  simp [pG,HQ]
@[simp] theorem idxAK_1 (a b c:AV) (k:AV→aa):afy 1 3 false (.agg [a,b,c]) 1 k=k b:=by
  show oD (Nat.mul 1 1) (fun o=>oC (sub [a,b,c] o 1) fun l=>oC (HQ false l) k)=_
  simp [pG,HQ]
@[simp] theorem idxAK_2 (a b c:AV) (k:AV→aa):afy 1 3 false (.agg [a,b,c]) 2 k=k c:=by
  show oD (Nat.mul 2 1) (fun o=>oC (sub [a,b,c] o 1) fun l=>oC (HQ false l) k)=_
  simp [pG,HQ]
theorem wr01:IntKind.i64.wrap (0+1)=1:=by decide
theorem wr12:IntKind.i64.wrap (1+1)=2:=by decide
theorem wr23:IntKind.i64.wrap (2+1)=3:=by decide
theorem build3 (q:IntKind) (a b c:Int) (k:AV→aa):lh [.int q 0,.int q 0,.int q 0] [(0,1,.int q a),(1,1,.int q b),(2,1,.int q c)] k=k (.agg [.int q a,.int q b,.int q c]):=rfl
theorem lt03:decide ((0:Int)<3)=true:=rfl
theorem lt13:decide ((1:Int)<3)=true:=rfl
theorem lt23:decide ((2:Int)<3)=true:=rfl
theorem lt33:decide ((3:Int)<3)=false:=rfl
theorem v_quotas {n:Nat} {z:bA} (hn:dt n z) {h:Heap} (hro:h.ro≤h.nx) {c:List AV} (hc:Cfg h z c) {p:Nat} (hp:p<z.parts.length):aR (dN n (.agg c) p h) fun r h'=>r=qG z p∧ba h h':=by
  unfold dN Ml FM wb vn
  obtain ⟨m,rfl⟩:∃ m,n=m+4:=⟨n-4,by have:=hn.small; omega⟩
  have hc0:=hc
  obtain ⟨t,pp,rfl,ht,hps,S,hpt,hS⟩:=hc
  refine aR.bind (mr ..) ?_
  rintro x h1 ⟨hb,g⟩
  simp only [aD,gU hb,bC,bK.eld (hpt.grow g) (show (0:Int)≤(p:Int) by omega) (show (p:Int)<_ by omega),ge]
  refine aR.bind (GQ (n:=8) (g.le hro) (by rfl) (by rfl)) ?_
  rintro y h2 ⟨hy,ho,g2⟩
  have gg:=g.trans g2
  have hb2:=g2.cl hb
  simp only [aD,gU ho.cl,bC,wt]
  rw [show z.parts.getD p default=jE z p from rfl] at *
  refine aJ.ifB (fun e1=>jT ⟨by simp at e1; simp [qG,e1],gg⟩) fun e1=>aJ.ifB (fun e2=>jT ⟨by simp at e2; simp [qG,e2],gg⟩) fun e2=>aJ.ifB (fun e3=>jT ⟨by simp at e3; simp [qG,e3],gg⟩) fun e3=>?_
  simp only [build3,agm,vX]
  simp only [aD,idxAK_0,idxAK_1,idxAK_2,wr01,wr12,wr23,lt03,lt13,lt23,lt33,wt]
  refine aJ.ifB (fun e4=>jT ⟨by simp at e4; simp [qG,e4],gg⟩) fun e4=>aJ.ifB (fun e5=>jT ⟨by simp at e5; simp [qG,e5],gg⟩) fun e5=>aJ.ifB (fun e6=>jT ⟨by simp at e6; simp [qG,e6],gg⟩) fun e6=>?_
  unfold A8
  simp only [aD,gU hb2,bC]
  have hpl:=hpt.1
  obtain ⟨w,hw,hsl⟩:=(hpt.grow gg).take hps (i:=((p+1:Nat):Int)) (by omega) (by omega)
  rw [js (show p≤9223372036854775806 by omega),ge] at *
  simp only [js (show p≤9223372036854775806 by omega),hsl,bK.len hw]
  have hlen:(z.parts.take (p+1)).length=p+1:=by simp; omega
  have hw':bK h2 w 8 (z.parts.take (p+1)).length fun i=>tJ ((z.parts.take (p+1)).getD i default) (S i):=by
    rw [hlen]
    obtain ⟨q1,q2⟩:=hw
    refine ⟨q1,?_⟩
    rcases q2 with q2 | ⟨b,off,ext,opn,q2,q3⟩
    · exact .inl q2
    · refine .inr ⟨b,off,ext,opn,q2,fun h0=>?_⟩
      obtain ⟨cl,q3,q4⟩:=q3 h0
      exact ⟨cl,q3,fun j hj=>by have:=q4 j hj; dsimp only at this ⊢; rw [Xz (by omega)]; exact this⟩
  have key:=apV (ap:=ap1) (n:=m+4) (w:=w) (v2:=.ptr x 0) (v5:=.ptr y 0) (v1:=p) (ps:=z.parts.take (p+1)) (S:=S) (f1:=db (m+4)) (f2:=bW (m+4)) (f3:=dp (m+4)) (f4:=b9 (m+4))
    (Q:=fun r=>r.1=qG z p∧ba h r.2) (m+4) 0 0 h2 (gg.le hro) hw' (by omega) (by rw [hlen]; have:=hn.parts; omega) (fun h3 g3=>?_) rfl
  · rw [hlen] at key
    exact key
  rw [List.drop_zero]
  have g23:=gg.trans g3
  have ho3:=(ho.grow g3).cl
  have hb3:=g3.cl hb2
  unfold vf uV vk
  simp only [aD,gU ho3,bC,wt]
  simp only [Bool.not_eq_false'] at e1 e2 e3 e4 e5 e6
  refine aJ.ifB (fun e7=>jT ⟨by simp at e7; simp [qG,e7],g23⟩) fun e7=>aJ.ifB (fun e8=>jT ⟨by simp at e8; simp [qG,Int.not_le.2 e8],g23⟩) fun e8=>?_
  simp at e7 e8
  simp only [aD,gU hb3,bC]
  refine aR.bind (JN (m+4) (Cfg.mk' (ht.grow g23) ⟨hps,S,hpt.grow g23,fun i hi=>(hS i hi).grow g23⟩)) ?_
  rintro _ h4 ⟨rfl,g4⟩
  have g24:=g23.trans g4
  refine aJ.ifB (fun e9=>jT ⟨?_,g24⟩) fun e9=>?_
  · simp at e9
    simp [qG,e1,e2,e3,e4,e5,e6,e7,e8,e9]
  simp at e9
  have hz:=Sz e9
  have ho4:=g4.cl ho3
  have hb4:=g4.cl hb3
  have hord:0≤(jE z p).order:=by simp [ji] at e1; omega
  simp only [aD,gU ho4,gU hb4,bC,acx hord]
  refine aR.bind (aeJ (m+4) (Cfg.mk' (ht.grow g24) ⟨hps,S,hpt.grow g24,fun i hi=>(hS i hi).grow g24⟩) hz) ?_
  rintro _ h5 ⟨rfl,g5⟩
  have g25:=g24.trans g5
  refine aJ.ifB (fun e10=>?_) fun e10=>jT ⟨?_,g25⟩
  · simp at e10
    simp only [aD,gU (g5.cl ho4),gU (g5.cl hb4),bC]
    refine aR.bind (aq3 (n:=m+4) (h:=h5.shut true) hz (Cfg.shut (Cfg.mk' (ht.grow g25) ⟨hps,S,hpt.grow g25,fun i hi=>(hS i hi).grow g25⟩)) hp) ?_
    rintro _ h6 ⟨rfl,g6⟩
    refine jT ⟨?_,g25.trans g6.shut⟩
    have h10:Qd (jE z p)≤ajX z:=by unfold Qd; omega
    have h11:qG z p=decide (needZ (jE z p)≤Bq z p):=by simp [qG,e1,e2,e3,e4,e5,e6,e7,e8,e9,h10]
    show (!decide (Bq z p<needZ (jE z p)))=qG z p
    rw [h11,Bool.eq_iff_iff]
    simp
  · simp at e10
    have h10:¬ Qd (jE z p)≤ajX z:=by unfold Qd; omega
    simp [qG,e1,e2,e3,e4,e5,e6,e7,e8,e9,h10]
theorem v_part {n:Nat} {z:bA} (hn:dt n z) {h:Heap} (hro:h.ro≤h.nx) {c:List AV} (hc:Cfg h z c) {p:Nat} (hp:p<z.parts.length):aR (cP n (.agg c) p h) fun r h'=>r=Ul z p∧ba h h':=by
  unfold cP Xc KJ
  obtain ⟨t,pp,rfl,ht,hps⟩:=hc
  refine aR.bind (mr ..) ?_
  rintro x h1 ⟨hb,g⟩
  simp only [aD,gU hb,bC]
  refine aR.bind (arz hn (g.le hro) (Cfg.mk' (ht.grow g) (hps.grow g)) hp) ?_
  rintro _ h2 ⟨rfl,g2⟩
  have gg:=g.trans g2
  refine aJ.ifB (fun e1=>?_) fun e1=>?_
  · simp at e1
    exact jT ⟨by simp [Ul,e1],gg⟩
  · simp at e1
    simp only [aD,gU (g2.cl hb),bC]
    refine aR.bind (v_quotas hn (gg.le hro) (Cfg.mk' (ht.grow gg) (hps.grow gg)) hp) ?_
    rintro _ h3 ⟨rfl,g3⟩
    refine aJ.ifB (fun e2=>?_) fun e2=>?_
    · simp at e2
      exact jT ⟨by simp [Ul,e1,e2],gg.trans g3⟩
    · simp at e2
      exact jT ⟨by simp [Ul,e1,e2],gg.trans g3⟩
end Go.Proofs.YtpoobhhdgjgdgaaGreat.Sh
/- What things cost, by the code. -/
namespace Go.Proofs.YtpoobhhdgjgdgaaGreat.Sh
open Go.Ai
@[simp] theorem Ze (n:Nat) (a b c:Int) (h:Heap) (k:Bool→Heap→aa):cL n a b c h k=k (ji a b c) h:=by
  unfold cL Mx F5 vh
  by_cases hc:a<b
  · simp [ji,hc,show ¬ b≤a by omega]
  · simp [ji,hc,show b≤a by omega, ← Int.not_lt]
theorem v_Switch {n:Nat} (hn:4≤n) (h:Heap) (z:bA) (a b:Int):c9 (dj n (.agg (zT z)) a b h) fun v e h'=>e=XN z a b∧(e=0→v=aqF z a b)∧ba h h':=by
  unfold dj MG FB vu
  refine aR.bind (mr ..) ?_
  rintro x h1 ⟨hb,g⟩
  simp only [aD,gU hb,bC]
  refine aR.bind (ID hn h1 z) ?_
  rintro _ h2 ⟨rfl,g2⟩
  have gg:=g.trans g2
  have hb2:=g2.cl hb
  simp only [aD,gU hb2,bC,Ze]
  refine aJ.ifB (fun e1=>B1 ⟨?_,?_,gg⟩) fun e1=>aJ.ifB (fun e2=>B1 ⟨?_,?_,gg⟩) fun e2=>aJ.ifB (fun e3=>B1 ⟨?_,?_,gg⟩) fun e3=>B1 ⟨?_,?_,gg⟩
  · simp at e1; simp [XN,e1]
  · intro h0; simp at e1; exact (e1 h0).elim
  · simp at e1 e2; simp [XN,e1,e2]
  · intro h0; cases h0
  · simp at e1 e2 e3; simp [XN,e1,e2,e3]
  · intro h0; cases h0
  · simp at e1 e2 e3; simp [XN,e1,e2,e3]
  · intro _; rfl
theorem arQ {n:Nat} {x:Nat} {h:Heap} {s:dc} (hb:h.cl x (zr s)) (i:Bool) (f1):aR (fun k=>xt n f1 (cL n) k (.ptr x 0) i h) fun r h'=>h'=h∧r=if i&&(ji s.user 2 4096&&(ji s.limit 1 5120&&ji s.nodes 1 4096)) then 0 else 2:=by
  unfold xt xe xM xg
  simp only [aD,gU hb,bC,Ze]
  cases i<;>cases h1:ji s.user 2 4096<;>cases h2:ji s.limit 1 5120<;>cases h3:ji s.nodes 1 4096<;>exact jT ⟨rfl,by simp⟩
theorem arK {n:Nat} {y:Nat} {h:Heap} {s:dc} (hb:h.cl y (zr s)) (f1):∀ (m i:Nat) (b:Bool),i≤4→4-i<m→aR (fun k=>w9 n f1 (cL n) k m (.ptr y 0) b i h) fun r h'=>h'=h∧
    r=if (b||(List.range' i (4-i)).any fun j=>s.image==IntKind.i64.wrap (shlF .i64 1 j))&&(ji s.user 2 4096&&(ji s.limit 1 5120&&ji s.nodes 1 4096)) then 0 else 2:=by
  intro m
  induction m with
  | zero=>omega
  | succ m ih=>
    intro i b hi hm
    simp only [ah1]
    unfold xD xQ
    refine aJ.ifB (fun e=>?_) fun e=>?_
    · simp at e
      simp only [aD,gU hb,bC,js (show i≤9223372036854775806 by omega),acx (fQ i),ge]
      have hr:List.range' i (4-i)=i::List.range' (i+1) (4-(i+1)):=by
        rw [show 4-i=(4-(i+1))+1 by omega,List.range'_succ]
      rw [hr,List.any_cons]
      refine aJ.ifB (fun e1=>?_) fun e1=>?_
      · subst e1
        refine aJ.mono (ih (i+1) true (by omega) (by omega)) ?_
        rintro ⟨r,h'⟩ ⟨q1,q2⟩
        exact ⟨q1,by rw [q2]; simp⟩
      · subst e1
        refine aJ.mono (ih (i+1) _ (by omega) (by omega)) ?_
        rintro ⟨r,h'⟩ ⟨q1,q2⟩
        exact ⟨q1,by rw [Bool.false_or]; exact q2⟩
    · simp at e
      have:i=4:=by omega
      subst this
      refine aJ.mono (arQ hb b f1) ?_
      rintro ⟨r,h'⟩ ⟨q1,q2⟩
      exact ⟨q1,by rw [q2]; simp⟩
theorem v_asked {n:Nat} (hn:10≤n) (h:Heap) (z:bA) (s:dc):aR (dr n (.agg (zT z)) (.agg (zr s)) h) fun r h'=>r=ajD z s∧ba h h':=by
  unfold dr QX Ih
  refine aR.bind (mr ..) ?_
  rintro x h1 ⟨hb,g⟩
  refine aR.bind (mr ..) ?_
  rintro y h2 ⟨hb2,g2⟩
  simp only [aD,gU (g2.cl hb),bC]
  refine aR.bind (ID (by omega) h2 z) ?_
  rintro _ h3 ⟨rfl,g3⟩
  have gg:=g.trans (g2.trans g3)
  have hb3:=g3.cl hb2
  refine aJ.ifB (fun e1=>jT ⟨?_,gg⟩) fun e1=>?_
  · simp at e1; simp [ajD,e1]
  simp at e1
  refine aJ.mono (arK hb3 (cb n) n 0 false (by omega) (by omega)) ?_
  rintro ⟨r,h'⟩ ⟨q1,q2⟩
  refine ⟨?_,by rw [q1]; exact gg⟩
  rw [q2]
  have hr:(List.range' 0 (4-0)).any (fun j=>s.image==IntKind.i64.wrap (shlF .i64 1 j))=(decide (s.image=1)||(decide (s.image=2)||(decide (s.image=4)||decide (s.image=8)))):=by
    show (s.image==1||(s.image==2||(s.image==4||(s.image==8||false))))=_
    rw [Bool.or_false]; rfl
  rw [hr,ajD,if_pos e1,Bool.false_or]
abbrev At1 (h:Heap) (x:Nat) (q:IntKind) (v:Int):Prop:=h.cl x [.int q v]
theorem ZL {q:IntKind} {v:Int}:([AV.int q v]:List AV)[0]?=some (.int q v):=rfl
theorem v_f1 {n:Nat} {h:Heap} {x:Nat} {m:Int} (hx:At1 h x .u64 m) (k:Int→Heap→aa):bV n (.ptr x 0) h k=k (w64 (113*m)) h:=by
  unfold bV EY yA
  simp only [aD,gU hx,ZL]; rfl
theorem v_f2 {n:Nat} {h:Heap} {x:Nat} {m:Int} (hx:At1 h x .u64 m) (k:Int→Heap→aa):bU n (.ptr x 0) h k=k (w64 (64*m)) h:=by
  unfold bU E4 y9
  simp only [aD,gU hx,ZL]; rfl
theorem v_f4 {n:Nat} {h:Heap} {x:Nat} {m:Int} (hx:At1 h x .u64 m) (k:Int→Heap→aa):cm n (.ptr x 0) h k=k (w64 (17*m)) h:=by
  unfold cm Ew xX
  simp only [aD,gU hx,ZL]; rfl
theorem v_f5 {n:Nat} {h:Heap} {x y:Nat} {a m:Int} (hx:At1 h x .u64 a) (hy:At1 h y .u64 m) (k:Int→Heap→aa):ce n (.ptr x 0) (.ptr y 0) h k=k (w64 (a+m)) h:=by
  unfold ce EQ yf
  simp only [aD,gU hx,gU hy,ZL]; rfl
theorem v_f6 {n:Nat} {h:Heap} {x y w:Nat} {s:dc} {a m:Int} (hx:At1 h x .u64 m) (hy:h.cl y (zr s)) (hw:At1 h w .u64 a) (k:Int→Heap→aa) :
    ck n (.ptr x 0) (.ptr y 0) (.ptr w 0) h k=k (w64 (w64 (m+w64 (w64 (16*w64 s.nodes)*m))+a)) h:=by
  unfold ck E0 yp
  simp only [aD,gU hx,gU hy,gU hw,ZL,bC]; rfl
theorem v_f7 {n:Nat} {h:Heap} {x y:Nat} {z:bA} {m:Int} (hx:h.cl x (zT z)) (hy:At1 h y .u64 m) (k:Int→Heap→aa):ci n (.ptr x 0) (.ptr y 0) h k=k (w64 (w64 (64*w64 (z.step+m))+m)) h:=by
  unfold ci EX xV
  simp only [aD,gU hx,gU hy,ZL,bC]; rfl
theorem v_f9 {n:Nat} {h:Heap} {x y w:Nat} {z:bA} {m f:Int} (hx:At1 h x .u64 m) (hy:h.cl y (zT z)) (hw:At1 h w .u64 f) (k:Int→Heap→aa) :
    cn n (.ptr x 0) (.ptr y 0) (.ptr w 0) h k=k (w64 (w64 (w64 (w64 (26*m)+z.fault)+f)+z.disk)) h:=by
  unfold cn Eh yb
  simp only [aD,gU hx,gU hy,gU hw,ZL,bC]; rfl
theorem v_f10 {n:Nat} {h:Heap} {x y w:Nat} {z:bA} {m f:Int} (hx:At1 h x .u64 m) (hy:h.cl y (zT z)) (hw:At1 h w .u64 f) (k:Int→Heap→aa) :
    bZ n (.ptr x 0) (.ptr y 0) (.ptr w 0) h k=k (w64 (w64 (w64 (w64 (64*m)+w64 (2*z.fault))+w64 (2*f))+z.disk)) h:=by
  unfold bZ CR wG
  simp only [aD,gU hx,gU hy,gU hw,ZL,bC]; rfl
theorem max2 (q:IntKind) (a b:Int) (k:AV→aa):yY true [.int q a,.int q b] k=k (.int q (maxZ a b)):=by
  show oC (some (.int q (if ltF a b then b else a))) k=_
  rw [kj]; simp [maxZ]
theorem min2 (q:IntKind) (a b:Int) (k:AV→aa):yY false [.int q a,.int q b] k=k (.int q (minZ a b)):=by
  show oC (some (.int q (if ltF b a then b else a))) k=_
  rw [kj]; simp [minZ]
theorem v_f8 {n:Nat} {h:Heap} {x y p u:Nat} {m a:Int} (hx:h.cl x [.func mY [] [.ptr p 0]]) (hy:h.cl y [.func mW [] [.ptr u 0]]) (hp:At1 h p .u64 m) (hu:At1 h u .u64 a) (k:Int→Heap→aa) :
    cI n (.ptr x 0) (.ptr y 0) h k=k (maxZ (w64 (113*m)) (w64 (64*a))) h:=by
  unfold cI EP za
  have c1:∀ h k,qm (bV n) (bU n) (cy n) (cm n) (ce n) (ck n) (ci n) (cn n) (bZ n) (.func mY [] [.ptr p 0]) [] h k =
      bV n (.ptr p 0) h fun u h=>k (.int .u64 u) h:=fun _ _=>rfl
  have c2:∀ h k,qm (bV n) (bU n) (cy n) (cm n) (ce n) (ck n) (ci n) (cn n) (bZ n) (.func mW [] [.ptr u 0]) [] h k =
      bU n (.ptr u 0) h fun u h=>k (.int .u64 u) h:=fun _ _=>rfl
  have e1:([AV.func mY [] [.ptr p 0]]:List AV)[0]?=some (.func mY [] [.ptr p 0]):=rfl
  have e2:([AV.func mW [] [.ptr u 0]]:List AV)[0]?=some (.func mW [] [.ptr u 0]):=rfl
  have b0:(h.shut true).back h.ro=h:=by cases h; rfl
  simp only [aD,gU hx,e1,c1,v_f1 hp.shut,b0,gU hy,e2,c2,v_f2 hu,max2]
end Go.Proofs.YtpoobhhdgjgdgaaGreat.Sh
/- The worst costs, by the code. -/
namespace Go.Proofs.YtpoobhhdgjgdgaaGreat.Sh
open Go.Ai
def Fl (pc ps pm pp pa pf pv pw:Nat):List AV:=[.func tL [] [],.func xY [] [.ptr pm 0],.func yT [] [.ptr pa 0,.ptr pm 0],.func yJ [] [.ptr pm 0,.ptr ps 0,.ptr pa 0],
  .func mY [] [.ptr pm 0],.func mW [] [.ptr pp 0],.func x6 [] [.ptr pc 0,.ptr pm 0],.func EU [] [.ptr pv 0,.ptr pw 0],.func yl [] [.ptr pm 0,.ptr pc 0,.ptr pf 0],
  .func wH [] [.ptr pm 0,.ptr pc 0,.ptr pf 0],.func tL [] []]
structure BoundsAt (h:Heap) (z:bA) (s:dc) (pc ps pm pp pa pf pv pw:Nat):Prop where
  fc:h.cl pc (zT z)
  fs:h.cl ps (zr s)
  fm:At1 h pm .u64 z.miss
  fp:At1 h pp .u64 (pageC z)
  fa:At1 h pa .u64 (allC z s)
  ff:At1 h pf .u64 (aqa z s)
  fv:h.cl pv [.func mY [] [.ptr pm 0]]
  fw:h.cl pw [.func mW [] [.ptr pp 0]]
theorem fn_0 {f:Nat} {c:List AV}:([AV.func f [] c]:List AV)[0]?=some (.func f [] c):=rfl
theorem v_bounds {n:Nat} {h:Heap} (hro:h.ro≤h.nx) (z:bA) (s:dc):aR (de n (.agg (zT z)) (.agg (zr s)) h) fun r h'=>∃ pc ps pm pp pa pf pv pw,r = .agg (Fl pc ps pm pp pa pf pv pw)∧BoundsAt h' z s pc ps pm pp pa pf pv pw∧ba h h':=by
  unfold de ME FC
  refine aR.bind (mr ..) ?_
  rintro pc h1 ⟨c1,g1⟩
  refine aR.bind (mr ..) ?_
  rintro ps h2 ⟨s2,g2⟩
  have c2:=g2.cl c1
  have t2:=g1.trans g2
  refine aR.bind (DN (t2.le hro) _ 0) ?_
  rintro q h3 ⟨hq,oq3,g3⟩
  have c3:=g3.cl c2
  have s3:=g3.cl s2
  have t3:=t2.trans g3
  simp only [aD,gU c3,bC]
  refine aR.bind (als (t3.le hro) rfl) ?_
  rintro pm h4 ⟨n4,o4,g4⟩
  have m4:=o4.cl
  have c4:=g4.cl c3
  have s4:=g4.cl s3
  have t4:=t3.trans g4
  simp only [aD,gU c4,gU m4,ZL,bC]
  refine aR.bind (als (t4.le hro) rfl) ?_
  rintro pp h5 ⟨n5,o5,g5⟩
  have p5:=o5.cl
  have m5:=g5.cl m4
  have c5:=g5.cl c4
  have s5:=g5.cl s4
  have t5:=t4.trans g5
  simp only [aD,gU s5,gU p5,ZL,bC]
  refine aR.bind (als (t5.le hro) rfl) ?_
  rintro pa h6 ⟨n6,o6,g6⟩
  have a6:=o6.cl
  have p6:=g6.cl p5
  have m6:=g6.cl m5
  have c6:=g6.cl c5
  have s6:=g6.cl s5
  have t6:=t5.trans g6
  simp only [aD,gU s6,gU c6,bC]
  refine aR.bind (als (t6.le hro) rfl) ?_
  rintro pf h7 ⟨n7,o7,g7⟩
  have t7:=t6.trans g7
  refine aR.bind (als (t7.le hro) rfl) ?_
  rintro pv h8 ⟨n8,o8,g8⟩
  have t8:=t7.trans g8
  refine aR.bind (als (t8.le hro) rfl) ?_
  rintro pw h9 ⟨n9,o9,g9⟩
  have t9:=t8.trans g9
  have v9:=g9.cl o8.cl
  simp only [aD,gU v9,gU o9.cl,fn_0]
  have g79:=g8.trans g9
  have g69:=g7.trans g79
  have g39:=g4.trans (g5.trans (g6.trans g69))
  refine dy.bind (XC (cs:=Fl pc ps pm pp pa pf pv pw) (oq3.grow g39) rfl (by show 0+11≤11; decide)) ?_
  intro h10 hp
  rw [Oh _ _ (by rfl)] at hp
  have gq:=hp.grow t9 (gb t2.nx hq)
  simp only [aD,gU hp.own.cl]
  have:sub (Fl pc ps pm pp pa pf pv pw) 0 11=some (Fl pc ps pm pp pa pf pv pw):=by rw [pG]; rfl
  simp only [aD,this]
  refine jT ⟨pc,ps,pm,pp,pa,pf,pv,pw,rfl,?_,gq⟩
  have q3:=oq3.lt
  have k1:=g4.nx
  have k2:=g5.nx
  have k3:=g6.nx
  have k4:=g7.nx
  have k5:=g8.nx
  have k6:=c2.1
  have k7:=s2.1
  exact ⟨hp.cl (by omega) (g69.cl c6),hp.cl (by omega) (g69.cl s6),hp.cl (by omega) (g69.cl m6),hp.cl (by omega) (g69.cl p6),hp.cl (by omega) (g69.cl a6),hp.cl (by omega) (g79.cl o7.cl),hp.cl (by omega) v9,hp.cl (by omega) o9.cl⟩
noncomputable abbrev cfM (n:Nat):bg:=qF (dr n) (de n) (bV n) (bU n) (cy n) (cm n) (ce n) (ck n) (ci n) (cI n) (cn n) (bZ n)
theorem are {n:Nat} {h:Heap} {z:bA} {s:dc} {pc ps pm pp pa pf pv pw:Nat} (b:BoundsAt h z s pc ps pm pp pa pf pv pw) {i:Nat} (hi:i<11) (k:AV→Heap→aa) :
    cfM n ((Fl pc ps pm pp pa pf pv pw).getD i default) [] h k=k (.int .u64 (nz (abB z s) i)) h:=by
  match i,hi with
  | 0,_=>exact rfl
  | 1,_=>exact v_f4 (n:=n) b.fm _
  | 2,_=>exact v_f5 (n:=n) b.fa b.fm _
  | 3,_=>exact v_f6 (n:=n) b.fm b.fs b.fa _
  | 4,_=>exact v_f1 (n:=n) b.fm _
  | 5,_=>exact v_f2 (n:=n) b.fp _
  | 6,_=>exact v_f7 (n:=n) b.fc b.fm _
  | 7,_=>exact v_f8 (n:=n) b.fv b.fw b.fm b.fp _
  | 8,_=>exact v_f9 (n:=n) b.fm b.fc b.ff _
  | 9,_=>exact v_f10 (n:=n) b.fm b.fc b.ff _
  | 10,_=>exact rfl
theorem v_Most_1 {n:Nat} {h:Heap} {z:bA} {s:dc} {pc ps pm pp pa pf pv pw x y:Nat} (b:BoundsAt h z s pc ps pm pp pa pf pv pw) (hx:h.cl x (zT z)) (hy:h.cl y (zr s)):∀ (m i:Nat) (a:Int),i≤11→11-i<m→
    c9 (fun k=>zx n (dr n) (de n) (bV n) (bU n) (cy n) (cm n) (ce n) (ck n) (ci n) (cI n) (cn n) (bZ n) k m (.ptr x 0) (.ptr y 0) a (.agg (Fl pc ps pm pp pa pf pv pw)) i h)
      fun v e h'=>h'=h∧e=0∧v=w64 (w64 (w64 s.image*z.miss)+((abB z s).drop i).foldl maxZ a):=by
  intro m
  induction m with
  | zero=>omega
  | succ m ih=>
    intro i a hi hm
    simp only [ala]
    unfold zO Fk
    refine aJ.ifB (fun e=>?_) fun e=>?_
    · simp at e
      have e':i<(abB z s).length:=by show i<11; omega
      have eF:i<(Fl pc ps pm pp pa pf pv pw).length:=by show i<11; omega
      have hd:((Fl pc ps pm pp pa pf pv pw)[i])=(Fl pc ps pm pp pa pf pv pw).getD i default:=by rw [gi,fV eF]; rfl
      have key:=are (n:=n) b (i:=i) (by omega)
      unfold cfM at key
      rw [gd e',List.foldl_cons]
      simp only [aD,idxA_of (l:=Fl pc ps pm pp pa pf pv pw) (n:=11) (i:=i) rfl (by omega),hd,key,max2,js (show i≤9223372036854775806 by omega)]
      have:=ih (i+1) (maxZ a (nz (abB z s) i)) (by omega) (by omega)
      rw [GD e'] at this ⊢
      exact this
    · simp at e
      have:i=11:=by omega
      subst this
      simp only [aD,gU hx,gU hy,bC]
      exact B1 ⟨rfl,rfl,rfl⟩
theorem v_Most {n:Nat} (hn:100<n) {h:Heap} (hro:h.ro≤h.nx) (z:bA) (s:dc):c9 (dC n (.agg (zT z)) (.agg (zr s)) h) fun v e h'=>e=ajD z s∧(e=0→v=mostC z s)∧ba h h':=by
  unfold dC WP K7
  refine aR.bind (mr ..) ?_
  rintro x h1 ⟨c1,g1⟩
  refine aR.bind (mr ..) ?_
  rintro y h2 ⟨s2,g2⟩
  have c2:=g2.cl c1
  have t2:=g1.trans g2
  simp only [aD,gU c2,gU s2,bC]
  refine aR.bind (v_asked (by omega) h2 z s) ?_
  rintro _ h3 ⟨rfl,g3⟩
  have t3:=t2.trans g3
  have c3:=g3.cl c2
  have s3:=g3.cl s2
  refine aJ.ifB (fun e1=>B1 ⟨rfl,fun h0=>?_,t3⟩) fun e1=>?_
  · simp at e1; exact (e1 h0).elim
  simp at e1
  simp only [aD,gU c3,gU s3,bC]
  refine aR.bind (v_bounds (t3.le hro) z s) ?_
  rintro _ h4 ⟨pc,ps,pm,pp,pa,pf,pv,pw,rfl,b,g4⟩
  refine aJ.mono (v_Most_1 b (g4.cl c3) (g4.cl s3) n 0 0 (by omega) (by omega)) ?_
  rintro ⟨v,e,h'⟩ ⟨q1,q2,q3⟩
  refine ⟨by rw [q2,e1],fun _=>?_,by rw [q1]; exact t3.trans g4⟩
  rw [q3]; rfl
end Go.Proofs.YtpoobhhdgjgdgaaGreat.Sh
