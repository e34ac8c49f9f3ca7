/- What the functions of 'plan' and 'cost' compute. -/
import Derived.Test.YtnlbfbiogfilfaaGreatPaQText
import Derived.Test.YtnlbfbiogfilfaaGreatAiShKs
set_option linter.all false
namespace Go.Proofs.YtnlbfbiogfilfaaGreat.Sh
open Go.Ai
@[simp] theorem Bn (n:Nat) (a b c:Int) (h:Heap) (k:Bool→Heap→CRes):fN n a b c h k=k (cR a b c) h:=by
  unfold fN XP Yl R5 Rw
  by_cases hc:a<b
  · simp [cR,hc,show ¬ b≤a by omega]
  · simp [cR,hc,show b≤a by omega, ← Int.not_lt]
@[simp] theorem u_plan_power (n:Nat) (a b:Int) (h:Heap) (k:Bool→Heap→CRes):EB n a b h k=k (alx a b) h:=by
  unfold EB aci acu UH Vk
  cases hc:cR a 1 b<;>simp [hc,alx]
theorem Vs (n:Nat) {h:Heap} {z:CfgZ} {c:List AV} (hc:Cfg h z c):Run1 (gm n (.agg c) h) fun r h'=>r=qG z∧Grow h h':=by
  unfold gm Vy VH Oz NT Oj Od OE NY Oy M7 M6 Nf Ot Nq Oa N7
  obtain ⟨t,p,rfl,ht,hps,S,hp,hS⟩:=hc
  refine Run1.bind (zw ..) ?_
  rintro x h1 ⟨hb,g⟩
  simp [bM hb,Es]
  refine RunG.ifB (fun e1=>?_) fun e1=>je ⟨by simp [qG,e1],g⟩
  have hnz:z.colours≠0:=by
    simp [alx,cR] at e1; omega
  refine RunG.ifB (fun e2=>?_) fun e2=>je ⟨by simp [qG,e1,e2],g⟩
  simp only [aiO hnz]
  refine RunG.ifB (fun e3=>?_) fun e3=>je ⟨by simp [qG,e1,e2,e3],g⟩
  refine RunG.ifB (fun e4=>?_) fun e4=>je ⟨by simp [qG,e1,e2,e3,e4],g⟩
  refine RunG.ifB (fun e5=>?_) fun e5=>je ⟨by simp [qG,e1,e2,e3,e4,e5],g⟩
  refine RunG.ifB (fun e6=>?_) fun e6=>je ⟨by simp [qG,e1,e2,e3,e4,e5,e6],g⟩
  refine RunG.ifB (fun e7=>?_) fun e7=>je ⟨by simp [qG,e1,e2,e3,e4,e5,e6,e7],g⟩
  simp only [SlAt.len hp]
  exact je ⟨by simp [qG,e1,e2,e3,e4,e5,e6,e7],g⟩
theorem aqg (n:Nat) {h:Heap} {z:CfgZ} {c:List AV} (hc:Cfg h z c) (hz:z.colours≠0):Run1 (tg n (.agg c) h) fun r h'=>r=aso z∧Grow h h':=by
  unfold tg agj ahs
  obtain ⟨t,p,rfl,ht,hps,S,hp,hS⟩:=hc
  refine Run1.bind (zw ..) ?_
  rintro x h1 ⟨hb,g⟩
  simp [bM hb,Es]
  simp only [ary hz]
  exact je ⟨rfl,g⟩
theorem arN {n:Nat} {h:Heap} {v:AV} {l:List Int} (hv:Ints h .u64 v l):∀ (m i:Nat),i≤l.length→l.length-i<m→
    Run1 (fun k=>JX n k m v l.length i h) fun r h'=>r=(if (l.drop i).all (xv 1) then 0 else 100)∧h'=h:=by
  intro m
  induction m with
  | zero=>omega
  | succ m ih=>
    intro i hi hm
    show RunG ap1 (fun k=>Kh n k (Kq n k) (K7 n k (JX n k m)) v l.length i h) _
    unfold Kh Kq Us K7 VF
    refine RunG.ifB (fun e=>?_) fun e=>?_
    · simp at e
      have hs:=hv.small
      rw [List.drop_eq_getElem_cons e,List.all_cons]
      simp only [cJ,Nat.reduceAdd,hv.elN e,kC e,fW (show i≤9223372036854775806 by omega)]
      refine RunG.ifB (fun e1=>?_) fun e1=>RunG.ifB (fun e2=>?_) fun e2=>?_
      · simp at e1
        exact je ⟨by simp [xv]; omega,rfl⟩
      · simp at e2
        exact je ⟨by simp [xv]; omega,rfl⟩
      · simp at e1 e2
        refine RunG.mono (ih (i+1) (by omega) (by omega)) ?_
        rintro ⟨r,h'⟩ ⟨h1,h2⟩
        exact ⟨by rw [h1]; simp [xv,e1,e2],h2⟩
    · simp at e
      have:i=l.length:=by omega
      subst this
      exact je ⟨by simp,rfl⟩
def rise (last:Int):List Int→Bool
  | []=>true
  | x::l=>xv last x&&rise x l
theorem atk {n:Nat} {h:Heap} {v w:AV} {l:List Int} (hv:Ints h .u64 v l) {q:Int} (h3:Run1 (fun k=>DJ n k w h) fun r h'=>r=q∧Grow h h'):∀ (m i:Nat) (last:Int),i≤l.length→l.length-i<m→
    Run1 (fun k=>KI n k m w last v l.length i h) fun r h'=>r=(if rise last (l.drop i) then q else 100)∧Grow h h':=by
  intro m
  induction m with
  | zero=>omega
  | succ m ih=>
    intro i last hi hm
    show RunG ap1 (fun k=>Ln n k (DJ n k) (KA n k (KI n k m)) w last v l.length i h) _
    unfold Ln KA Uc
    refine RunG.ifB (fun e=>?_) fun e=>?_
    · simp at e
      have hs:=hv.small
      rw [List.drop_eq_getElem_cons e,rise]
      simp only [cJ,Nat.reduceAdd,hv.elN e,kC e,fW (show i≤9223372036854775806 by omega)]
      refine RunG.ifB (fun e1=>?_) fun e1=>RunG.ifB (fun e2=>?_) fun e2=>?_
      · simp at e1
        exact je ⟨by simp [xv]; omega,.refl⟩
      · simp at e2
        exact je ⟨by simp [xv]; omega,.refl⟩
      · simp at e1 e2
        refine RunG.mono (ih (i+1) l[i] (by omega) (by omega)) ?_
        rintro ⟨r,h'⟩ ⟨h1,h2⟩
        exact ⟨by rw [h1]; simp [xv,e1,e2],h2⟩
    · simp at e
      have:i=l.length:=by omega
      subst this
      refine RunG.mono h3 ?_
      rintro ⟨r,h'⟩ ⟨h1,h2⟩
      exact ⟨by simpa [rise] using h1,h2⟩
theorem TH {n:Nat} (hn:4≤n) (h:Heap) (z:CfgZ):Run1 (gy n (.agg (G2 z)) h) fun r h'=>r=anl z∧Grow h h':=by
  unfold gy abS ab0
  refine Run1.bind (zw ..) ?_
  rintro x h1 ⟨hb,g⟩
  simp only [cJ,Nat.reduceAdd,bM hb,G2]
  refine Run1.bind (ap5 (q:=.u64) [z.l1,z.llc,z.miss] (fun k=>by rfl) (by simp)) ?_
  rintro v h2 ⟨hv,g2⟩
  simp only [hv.len]
  have hb2:=g2.cl hb
  refine RunG.mono (atk (q:=if xv 1 z.fault&&(xv 1 z.step&&xv 1 z.disk) then 0 else 100) hv ?_ n 0 1 (by simp) (by simp; omega)) ?_
  · unfold DJ Vt
    simp only [cJ,Nat.reduceAdd,bM hb2,G2]
    refine Run1.bind (ap5 (q:=.u64) [z.fault,z.step,z.disk] (fun k=>by rfl) (by simp)) ?_
    rintro v3 h3 ⟨hv3,g3⟩
    simp only [hv3.len]
    refine RunG.mono (arN hv3 n 0 (by simp) (by simp; omega)) ?_
    rintro ⟨r,h'⟩ ⟨e1,e2⟩
    exact ⟨by rw [e1]; simp,by rw [e2]; exact g3⟩
  · rintro ⟨r,h'⟩ ⟨e1,e2⟩
    refine ⟨?_,g.trans (g2.trans e2)⟩
    rw [e1]
    simp only [List.drop_zero,rise,anl,az0,Bool.and_true]
    rcases Bool.eq_false_or_eq_true (xv 1 z.l1) with a | a<;>rcases Bool.eq_false_or_eq_true (xv z.l1 z.llc) with b | b<;>rcases Bool.eq_false_or_eq_true (xv z.llc z.miss) with c | c<;>simp [a,b,c]
theorem aA0 {n:Nat} {h:Heap} {v:AV} {l:List Int} {x:Int} (hv:Ints h .i64 v l):∀ (m i:Nat),i≤l.length→l.length-i<m→(∀ j,j<i→nz l j≠x)→
    Run1 (fun k=>nW n k m v x l.length i h) fun r h'=>h'=h∧((r = -1∧x∉l)∨∃ j:Nat,r=j∧j<l.length∧nz l j=x):=by
  intro m
  induction m with
  | zero=>omega
  | succ m ih=>
    intro i hi hm hj
    show RunG ap1 (fun k=>nI n k (nR n k) (nW n k m) v x l.length i h) _
    unfold nI nR sE
    refine RunG.ifB (fun e=>?_) fun e=>?_
    · simp at e
      have hs:=hv.small
      simp only [cJ,Nat.reduceAdd,hv.elN e,fW (show i≤9223372036854775806 by omega)]
      refine RunG.ifB (fun e1=>?_) fun e1=>?_
      · simp at e1
        exact je ⟨rfl,.inr ⟨i,rfl,e,e1.symm⟩⟩
      · simp at e1
        refine ih (i+1) (by omega) (by omega) fun j hj'=>?_
        by_cases e2:j=i
        · subst e2; exact fun e=>e1 e.symm
        · exact hj j (by omega)
    · simp at e
      refine je ⟨rfl,.inl ⟨rfl,fun hx=>?_⟩⟩
      obtain ⟨j,h1,h2⟩:=List.getElem_of_mem hx
      exact hj j (by omega) (by rw [kC h1]; exact h2)
theorem aAl {n:Nat} {h:Heap} {v:AV} {l:List Int} (hv:Ints h .i64 v l) (hn:l.length<n) (x:Int) :
    Run1 (fP n v x h) fun r h'=>h'=h∧((r = -1∧x∉l)∨∃ j:Nat,r=j∧j<l.length∧nz l j=x):=by
  unfold fP vg vu
  simp only [hv.len]
  exact aA0 hv n 0 (by omega) (by omega) fun j hj=>by omega
theorem ay1 {n:Nat} {h:Heap} {v:AV} {l:List Int} (hv:Ints h .i64 v l) (hn:l.length<n) (x:Int):Run1 (cV n v x h) fun r h'=>r=decide (x∈l)∧h'=h:=by
  unfold cV rX rE
  refine Run1.bind (aAl hv hn x) ?_
  rintro r _ ⟨rfl,⟨rfl,hx⟩ | ⟨j,rfl,hj,hx⟩⟩
  · exact je ⟨by simp [hx],rfl⟩
  · refine je ⟨?_,rfl⟩
    have:x∈l:=by rw [← hx,kC hj]; exact List.getElem_mem hj
    simp [this]
theorem amk {α:Type} [Inhabited α] {l:List α} {i:Nat} (h:i<l.length):l.getD i default=l[i]:=by rw [List.getD_eq_getElem?_getD,List.getElem?_eq_getElem h]; rfl
theorem axl {R:Type} {ap:iM→R→CRes} {Q:R→Prop} {n:Nat} {w v2 v5 v16:AV} {v1 v17:Int} {ps:List PartZ} {S:Nat→AV} {x i:Int} {J:iM→Int→AV→AV→AV→Int→Int→Heap→CRes} :
    ∀ (m j:Nat) (h:Heap),h.ro≤h.nx→SlAt h w 8 ps.length (fun i=>zA (ps.getD i default) (S i))→(∀ i,i<ps.length→Ints h .i64 (S i) (ps.getD i default).cols)→(∀ i,i<ps.length→(ps.getD i default).cols.length<n)→
    j≤ps.length→ps.length-j<m→
    ((ps.drop j).all (fun q=>!decide (x∈q.cols))=true→∀ h',Grow h h'→RunG ap (fun k=>J k v1 v2 v5 v16 v17 (IntKind.i64.wrap (i+1)) h') Q)→
    ((ps.drop j).all (fun q=>!decide (x∈q.cols))=false→∀ h',Grow h h'→RunG ap (fun k=>k false h') Q)→
    RunG ap (fun k=>yI n (cV n) k (J k) m v1 v2 v5 x v16 v17 i w ps.length j h) Q:=by
  intro m
  induction m with
  | zero=>omega
  | succ m ih=>
    intro j h hro hw hS hn hj hm hgo hno
    show RunG ap (fun k=>EO n (cV n) k (EL n (cV n) k (J k)) (yI n (cV n) k (J k) m) v1 v2 v5 x v16 v17 i w ps.length j h) Q
    unfold EO EL Nt
    refine RunG.ifB (fun e=>?_) fun e=>?_
    · simp at e
      have hs:=hw.1
      simp only [cJ,Nat.reduceAdd,hw.eld (i:=(j:Int)) (by omega) (by omega),Int.toNat_natCast,fW (show j≤9223372036854775806 by omega)]
      refine Run1.bind (asl (n:=8) hro (by rfl) (by rfl)) ?_
      rintro y h1 ⟨hy,ho,g⟩
      simp only [cJ,Nat.reduceAdd,bM ho.cl,zA]
      refine Run1.bind (ay1 ((hS j e).grow g) (hn j e) x) ?_
      rintro r _ ⟨rfl,rfl⟩
      rw [List.drop_eq_getElem_cons e,List.all_cons] at hgo hno
      rw [amk e]
      refine RunG.ifB (fun e1=>?_) fun e1=>?_
      · simp at e1
        exact hno (by simp [e1]) _ g
      · simp only [decide_eq_false_iff_not] at e1
        simp only [e1,decide_false,Bool.not_false,Bool.true_and] at hgo hno
        exact ih (j+1) _ (g.le hro) (hw.grow g) (fun i hi=>(hS i hi).grow g) hn (by omega) (by omega) (fun ha h' g'=>hgo ha h' (g.trans g')) (fun ha h' g'=>hno ha h' (g.trans g'))
    · simp at e
      have:j=ps.length:=by omega
      subst this
      simp only [cJ,Nat.reduceAdd]
      exact hgo (by simp) h .refl
def Xh (l:List Int) (i:Nat):Option Int:=if i=0 then none else some (nz l (i-1))
structure Fits (n:Nat) (z:CfgZ):Prop where
  small:100<n
  turns:z.turns.length<n
  parts:z.parts.length<n
  cols:∀ i,i<z.parts.length→(z.parts.getD i default).cols.length<n
theorem aiT {ps:List PartZ} {p i:Nat} (hi:i<(ps.take p).length):(ps.take p).getD i default=ps.getD i default:=by
  simp at hi
  rw [amk (by simp; omega),amk (by omega),List.getElem_take]
theorem axX {n:Nat} {z:CfgZ} (hn:Fits n z) {t pp v:AV} {S:Nat→AV} {x p:Nat} (hp:p≤z.parts.length) (hsh:pp.shut=true) (l:List Int):∀ (m i:Nat) (h:Heap),h.ro≤h.nx→h.cl x (Es z t pp)→
    SlAt h pp 8 z.parts.length (fun i=>zA (z.parts.getD i default) (S i))→(∀ i,i<z.parts.length→Ints h .i64 (S i) (z.parts.getD i default).cols)→Ints h .i64 v l→
    i≤l.length→l.length-i<m→
    Run1 (fun k=>tr n (cV n) k m p (.ptr x 0) v v l.length i h) fun r h'=>r=(Gr z (z.parts.take p) (Xh l i) (l.drop i)&&decide (0<l.length))∧Grow h h':=by
  intro m
  induction m with
  | zero=>omega
  | succ m ih=>
    intro i h hro hb hw hS hv hi hm
    show RunG ap1 (fun k=>ER n (cV n) k (EG n (cV n) k) (Ez n (cV n) k (tr n (cV n) k m)) p (.ptr x 0) v v l.length i h) _
    unfold ER EG NK Ez N4 NP Ni
    have hs:=hv.small
    refine RunG.ifB (fun e=>?_) fun e=>?_
    · simp at e
      obtain ⟨w,hw',hsl⟩:=hw.take (v:=pp) hsh (i:=(p:Int)) (by omega) (by omega)
      rw [Int.toNat_natCast] at hw'
      have hlen:(z.parts.take p).length=p:=by simp; omega
      have fin:(∀ y,Xh l i=some y→y<l[i])→0≤l[i]→l[i]<z.colours→
          RunG ap1 (fun k=>yI n (cV n) k (tr n (cV n) k m) n p (.ptr x 0) v l[i] v l.length i w p ((0:Nat):Int) h)
            (fun r=>r.1=(Gr z (z.parts.take p) (Xh l i) (l.drop i)&&decide (0<l.length))∧Grow h r.2):=by
        intro h1 h2 h3
        have c1:alc (Xh l i) l[i]=true:=by
          unfold alc
          cases hq:Xh l i with
          | none=>rfl
          | some y=>simpa using h1 y hq
        have key:=axl (ap:=ap1) (n:=n) (w:=w) (v2:=.ptr x 0) (v5:=v) (v16:=v) (v1:=p) (v17:=l.length) (ps:=z.parts.take p) (S:=S) (x:=l[i]) (i:=i) (J:=fun k=>tr n (cV n) k m)
          (Q:=fun r=>r.1=(Gr z (z.parts.take p) (Xh l i) (l.drop i)&&decide (0<l.length))∧Grow h r.2) n 0 h hro
          (by
            rw [hlen]
            obtain ⟨q1,q2⟩:=hw'
            refine ⟨q1,?_⟩
            rcases q2 with q2 | ⟨b,off,ext,opn,q2,q3⟩
            · exact .inl q2
            · refine .inr ⟨b,off,ext,opn,q2,fun h0=>?_⟩
              obtain ⟨cl,q3,q4⟩:=q3 h0
              exact ⟨cl,q3,fun j hj=>by have:=q4 j hj; dsimp only at this ⊢; rw [aiT (by omega)]; exact this⟩)
          (fun j hj=>by rw [aiT hj]; exact hS j (by rw [hlen] at hj; omega)) (fun j hj=>by rw [aiT hj]; exact hn.cols j (by rw [hlen] at hj; omega)) (by omega) (by rw [hlen]; have:=hn.parts; omega)
          (fun ha h' g=>by
            rw [fW (show i≤9223372036854775806 by omega)]
            refine RunG.mono (ih (i+1) h' (g.le hro) (g.cl hb) (hw.grow g) (fun i hi=>(hS i hi).grow g) (hv.grow g) (by omega) (by omega)) ?_
            rintro ⟨r,h''⟩ ⟨e1,e2⟩
            refine ⟨?_,g.trans e2⟩
            rw [List.drop_eq_getElem_cons e,OO,c1]
            have:Xh l (i+1)=some l[i]:=by unfold Xh; rw [if_neg (by omega)]; simp [kC e]
            rw [this] at e1
            rw [List.drop_zero] at ha
            rw [ha]
            simpa [h2,h3] using e1)
          (fun ha h' g=>by
            refine je ⟨?_,g⟩
            rw [List.drop_eq_getElem_cons e,OO]
            rw [List.drop_zero] at ha
            rw [ha]
            simp)
        rw [hlen] at key
        exact key
      simp only [cJ,Nat.reduceAdd,bM hb,Es,hv.elN e,kC e,hsl,SlAt.len hw']
      have no:(decide (0≤l[i])=false∨decide (l[i]<z.colours)=false∨alc (Xh l i) l[i]=false)→(false=(Gr z (z.parts.take p) (Xh l i) (l.drop i)&&decide (0<l.length))∧Grow h h):=by
        intro h0
        refine ⟨?_,.refl⟩
        rw [List.drop_eq_getElem_cons e,OO]
        rcases h0 with h0 | h0 | h0<;>rw [h0]<;>simp
      refine RunG.ifB (fun e1=>?_) fun e1=>RunG.ifB (fun e2=>?_) fun e2=>RunG.ifB (fun e3=>?_) fun e3=>?_
      · exact je (no (.inl (by simp at e1 ⊢; omega)))
      · exact je (no (.inr (.inl (by simpa using e2))))
      · simp at e1 e2 e3
        have hw1:IntKind.i64.wrap ((i:Int)-1)=((i-1:Nat):Int):=by rw [jU (by omega) (by omega)]; omega
        have pv:Xh l i=some (nz l (i-1)):=by unfold Xh; rw [if_neg (by omega)]
        simp only [hw1,hv.elN (show i-1<l.length by omega)]
        refine RunG.ifB (fun e4=>?_) fun e4=>?_
        · exact je (no (.inr (.inr (by rw [pv]; simpa [alc] using e4))))
        · simp at e4
          exact fin (fun y hy=>by rw [pv] at hy; cases hy; exact e4) e1 e2
      · simp at e1 e2 e3
        have i0:i=0:=by omega
        exact fin (fun y hy=>by unfold Xh at hy; rw [if_pos i0] at hy; cases hy) e1 e2
    · simp at e
      have:i=l.length:=by omega
      subst this
      simp only [hv.len]
      simp only [cJ,Nat.reduceAdd]
      exact je ⟨by simp [Gr],.refl⟩
theorem aAE {n:Nat} {z:CfgZ} (hn:Fits n z) {h:Heap} (hro:h.ro≤h.nx) {c:List AV} (hc:Cfg h z c) {p:Nat} (hp:p<z.parts.length):Run1 (yc n (.agg c) p h) fun r h'=>r=ang z p∧Grow h h':=by
  unfold yc U1 Un
  obtain ⟨t,pp,rfl,ht,hps,S,hpt,hS⟩:=hc
  refine Run1.bind (zw ..) ?_
  rintro x h1 ⟨hb,g⟩
  obtain ⟨b,off,l,e1,e2,e3,e4⟩:=(hpt.grow g).at_ (i:=(p:Int)) (by omega) (by omega)
  rw [Int.toNat_natCast] at e4
  have e5:l[off]?=some (S p):=by
    have:=congrArg (·[0]?) e4
    simpa [zA] using this
  simp only [cJ,Nat.reduceAdd,bM hb,Es,SlAt.ia (hpt.grow g) (show (0:Int)≤(p:Int) by omega) (show (p:Int)<_ by omega),e1,bM e2,e5,((hS p hp).grow g).len]
  refine RunG.mono (axX hn (p:=p) (by omega) hps _ n 0 h1 (g.le hro) hb (hpt.grow g) (fun i hi=>(hS i hi).grow g) ((hS p hp).grow g) (by omega) (by have:=hn.cols p hp; omega)) ?_
  rintro ⟨r,h'⟩ ⟨q1,q2⟩
  exact ⟨by rw [q1]; simp [ang,cL,Xh],g.trans q2⟩
end Go.Proofs.YtnlbfbiogfilfaaGreat.Sh
/- What a partition's quotas are, by the code. -/
namespace Go.Proofs.YtnlbfbiogfilfaaGreat.Sh
open Go.Ai
theorem Cfg.mk' {h:Heap} {z:CfgZ} {t p:AV} (ht:Ints h .i64 t z.turns) (hp:Parts h p z.parts):Cfg h z (Es z t p):=⟨t,p,rfl,ht,hp⟩
theorem Parts.shut {h:Heap} {v:AV} {ps:List PartZ} (p:Parts h v ps):Parts (h.shut true) v ps:=p
theorem Cfg.shut {h:Heap} {z:CfgZ} {c:List AV} (p:Cfg h z c):Cfg (h.shut true) z c:=p
theorem az2 {n:Nat} {z:CfgZ} (hz:z.colours≠0) {h:Heap} {c:List AV} (hc:Cfg h z c) {p:Nat} (hp:p<z.parts.length):Run1 (qx n (.agg c) p h) fun r h'=>r=vj z p∧Grow h h':=by
  unfold qx acn abz
  obtain ⟨t,pp,rfl,ht,hps,S,hpt,hS⟩:=hc
  refine Run1.bind (zw ..) ?_
  rintro x h1 ⟨hb,g⟩
  obtain ⟨b,off,l,e1,e2,e3,e4⟩:=(hpt.grow g).at_ (i:=(p:Int)) (by omega) (by omega)
  rw [Int.toNat_natCast] at e4
  have e5:l[off]?=some (S p):=by
    have:=congrArg (·[0]?) e4
    simpa [zA] using this
  simp only [cJ,Nat.reduceAdd,bM hb,gL,SlAt.ia (hpt.grow g) (show (0:Int)≤(p:Int) by omega) (show (p:Int)<_ by omega),e1,bM e2,e5,((hS p hp).grow g).len]
  refine Run1.bind (aqg n (h:=h1.shut true) (z:=z) (Cfg.shut (Cfg.mk' (ht.grow g) ⟨hps,S,hpt.grow g,fun i hi=>(hS i hi).grow g⟩)) hz) ?_
  rintro _ h2 ⟨rfl,g2⟩
  exact je ⟨rfl,g.trans g2.shut⟩
theorem azJ {R:Type} {ap:iw→R→CRes} {Q:R→Prop} {n:Nat} {w v2 v5:AV} {v1:Int} {ps:List PartZ} {S:Nat→AV} {f1 f2 f3 f4} :
    ∀ (m j:Nat) (a:Int) (h:Heap),h.ro≤h.nx→SlAt h w 8 ps.length (fun i=>zA (ps.getD i default) (S i))→
    j≤ps.length→ps.length-j<m→
    (∀ h',Grow h h'→RunG ap (fun k=>AB n f1 f2 f3 f4 k v1 v2 v5 (awH (ps.drop j) a) h') Q)→f4=fN n→
    RunG ap (fun k=>Ap n f1 f2 f3 f4 k m v1 v2 v5 a w ps.length j h) Q:=by
  intro m
  induction m with
  | zero=>omega
  | succ m ih=>
    intro j a h hro hw hj hm hgo hf
    simp only [aqA]
    unfold Hn G8 RP
    refine RunG.ifB (fun e=>?_) fun e=>?_
    · simp at e
      have hs:=hw.1
      subst hf
      simp only [cJ,Nat.reduceAdd,hw.eld (i:=(j:Int)) (by omega) (by omega),Int.toNat_natCast,fW (show j≤9223372036854775806 by omega)]
      refine Run1.bind (asl (n:=8) hro (by rfl) (by rfl)) ?_
      rintro y h1 ⟨hy,ho,g⟩
      simp only [cJ,Nat.reduceAdd,bM ho.cl,gL,Bn]
      rw [List.drop_eq_getElem_cons e,awH,List.foldl_cons] at hgo
      rw [amk e]
      refine RunG.ifB (fun e1=>?_) fun e1=>?_
      · rw [if_pos e1] at hgo
        exact ih (j+1) _ _ (g.le hro) (hw.grow g) (by omega) (by omega) (fun h' g'=>hgo h' (g.trans g')) rfl
      · rw [if_neg (by simp [e1])] at hgo
        exact ih (j+1) _ _ (g.le hro) (hw.grow g) (by omega) (by omega) (fun h' g'=>hgo h' (g.trans g')) rfl
    · simp at e
      have:j=ps.length:=by omega
      subst this
      have:=hgo h .refl
      rw [List.drop_length] at this
      exact this
@[simp] theorem idxAK_0 (a b c:AV) (k:AV→CRes):aes 1 3 false (.agg [a,b,c]) 0 k=k a:=by
  show nf (Nat.mul 0 1) (fun o=>oC (sub [a,b,c] o 1) fun l=>oC (Td false l) k)=_
  simp [oB,Td]
@[simp] theorem idxAK_1 (a b c:AV) (k:AV→CRes):aes 1 3 false (.agg [a,b,c]) 1 k=k b:=by
  show nf (Nat.mul 1 1) (fun o=>oC (sub [a,b,c] o 1) fun l=>oC (Td false l) k)=_
  simp [oB,Td]
@[simp] theorem idxAK_2 (a b c:AV) (k:AV→CRes):aes 1 3 false (.agg [a,b,c]) 2 k=k c:=by
  show nf (Nat.mul 2 1) (fun o=>oC (sub [a,b,c] o 1) fun l=>oC (Td false l) k)=_
  simp [oB,Td]
theorem wr01:IntKind.i64.wrap (0+1)=1:=by decide
theorem wr12:IntKind.i64.wrap (1+1)=2:=by decide
theorem wr23:IntKind.i64.wrap (2+1)=3:=by decide
theorem build3 (q:IntKind) (a b c:Int) (k:AV→CRes):yL [.int q 0,.int q 0,.int q 0] [(0,1,.int q a),(1,1,.int q b),(2,1,.int q c)] k=k (.agg [.int q a,.int q b,.int q c]):=rfl
theorem lt03:decide ((0:Int)<3)=true:=rfl
theorem lt13:decide ((1:Int)<3)=true:=rfl
theorem lt23:decide ((2:Int)<3)=true:=rfl
theorem lt33:decide ((3:Int)<3)=false:=rfl
theorem v_quotas {n:Nat} {z:CfgZ} (hn:Fits n z) {h:Heap} (hro:h.ro≤h.nx) {c:List AV} (hc:Cfg h z c) {p:Nat} (hp:p<z.parts.length):Run1 (Bf n (.agg c) p h) fun r h'=>r=sQ z p∧Grow h h':=by
  unfold Bf Ya XH QJ RM RH QO
  obtain ⟨m,rfl⟩:∃ m,n=m+4:=⟨n-4,by have:=hn.small; omega⟩
  have hc0:=hc
  obtain ⟨t,pp,rfl,ht,hps,S,hpt,hS⟩:=hc
  refine Run1.bind (zw ..) ?_
  rintro x h1 ⟨hb,g⟩
  simp only [cJ,Nat.reduceAdd,bM hb,gL,SlAt.eld (hpt.grow g) (show (0:Int)≤(p:Int) by omega) (show (p:Int)<_ by omega),Int.toNat_natCast]
  refine Run1.bind (asl (n:=8) (g.le hro) (by rfl) (by rfl)) ?_
  rintro y h2 ⟨hy,ho,g2⟩
  have gg:=g.trans g2
  have hb2:=g2.cl hb
  simp only [cJ,Nat.reduceAdd,bM ho.cl,gL,Bn]
  rw [show z.parts.getD p default=cL z p from rfl] at *
  refine RunG.ifB (fun e1=>je ⟨by simp at e1; simp [sQ,e1],gg⟩) fun e1=>RunG.ifB (fun e2=>je ⟨by simp at e2; simp [sQ,e2],gg⟩) fun e2=>RunG.ifB (fun e3=>je ⟨by simp at e3; simp [sQ,e3],gg⟩) fun e3=>?_
  simp only [build3,aqx,Hs]
  simp only [cJ,Nat.reduceAdd,idxAK_0,idxAK_1,idxAK_2,wr01,wr12,wr23,lt03,lt13,lt23,lt33,Bn]
  refine RunG.ifB (fun e4=>je ⟨by simp at e4; simp [sQ,e4],gg⟩) fun e4=>RunG.ifB (fun e5=>je ⟨by simp at e5; simp [sQ,e5],gg⟩) fun e5=>RunG.ifB (fun e6=>je ⟨by simp at e6; simp [sQ,e6],gg⟩) fun e6=>?_
  unfold Hl Rm
  simp only [cJ,Nat.reduceAdd,bM hb2,gL]
  have hpl:=hpt.1
  obtain ⟨w,hw,hsl⟩:=(hpt.grow gg).take hps (i:=((p+1:Nat):Int)) (by omega) (by omega)
  rw [fW (show p≤9223372036854775806 by omega),Int.toNat_natCast] at *
  simp only [fW (show p≤9223372036854775806 by omega),hsl,SlAt.len hw]
  have hlen:(z.parts.take (p+1)).length=p+1:=by simp; omega
  have hw':SlAt h2 w 8 (z.parts.take (p+1)).length fun i=>zA ((z.parts.take (p+1)).getD i default) (S i):=by
    rw [hlen]
    obtain ⟨q1,q2⟩:=hw
    refine ⟨q1,?_⟩
    rcases q2 with q2 | ⟨b,off,ext,opn,q2,q3⟩
    · exact .inl q2
    · refine .inr ⟨b,off,ext,opn,q2,fun h0=>?_⟩
      obtain ⟨cl,q3,q4⟩:=q3 h0
      exact ⟨cl,q3,fun j hj=>by have:=q4 j hj; dsimp only at this ⊢; rw [aiT (by omega)]; exact this⟩
  have key:=azJ (ap:=ap1) (n:=m+4) (w:=w) (v2:=.ptr x 0) (v5:=.ptr y 0) (v1:=p) (ps:=z.parts.take (p+1)) (S:=S) (f1:=qx (m+4)) (f2:=gm (m+4)) (f3:=tg (m+4)) (f4:=fN (m+4))
    (Q:=fun r=>r.1=sQ z p∧Grow h r.2) (m+4) 0 0 h2 (gg.le hro) hw' (by omega) (by rw [hlen]; have:=hn.parts; omega) (fun h3 g3=>?_) rfl
  · rw [hlen] at key
    exact key
  rw [List.drop_zero]
  have g23:=gg.trans g3
  have ho3:=(ho.grow g3).cl
  have hb3:=g3.cl hb2
  unfold AB RB RG Rr RZ Rg
  simp only [cJ,Nat.reduceAdd,bM ho3,gL,Bn]
  simp only [Bool.not_eq_false'] at e1 e2 e3 e4 e5 e6
  refine RunG.ifB (fun e7=>je ⟨by simp at e7; simp [sQ,e7],g23⟩) fun e7=>RunG.ifB (fun e8=>je ⟨by simp at e8; simp [sQ,Int.not_le.2 e8],g23⟩) fun e8=>?_
  simp at e7 e8
  simp only [cJ,Nat.reduceAdd,bM hb3,gL]
  refine Run1.bind (Vs (m+4) (Cfg.mk' (ht.grow g23) ⟨hps,S,hpt.grow g23,fun i hi=>(hS i hi).grow g23⟩)) ?_
  rintro _ h4 ⟨rfl,g4⟩
  have g24:=g23.trans g4
  refine RunG.ifB (fun e9=>je ⟨?_,g24⟩) fun e9=>?_
  · simp at e9
    simp [sQ,e1,e2,e3,e4,e5,e6,e7,e8,e9]
  simp at e9
  have hz:=aeg e9
  have ho4:=g4.cl ho3
  have hb4:=g4.cl hb3
  have hord:0≤(cL z p).order:=by simp [cR] at e1; omega
  simp only [cJ,Nat.reduceAdd,bM ho4,bM hb4,gL,TZ hord]
  refine Run1.bind (aqg (m+4) (Cfg.mk' (ht.grow g24) ⟨hps,S,hpt.grow g24,fun i hi=>(hS i hi).grow g24⟩) hz) ?_
  rintro _ h5 ⟨rfl,g5⟩
  have g25:=g24.trans g5
  refine RunG.ifB (fun e10=>?_) fun e10=>je ⟨?_,g25⟩
  · simp at e10
    simp only [cJ,Nat.reduceAdd,bM (g5.cl ho4),bM (g5.cl hb4),gL]
    refine Run1.bind (az2 (n:=m+4) (h:=h5.shut true) hz (Cfg.shut (Cfg.mk' (ht.grow g25) ⟨hps,S,hpt.grow g25,fun i hi=>(hS i hi).grow g25⟩)) hp) ?_
    rintro _ h6 ⟨rfl,g6⟩
    refine je ⟨?_,g25.trans g6.shut⟩
    have h10:abK (cL z p)≤aso z:=by unfold abK; omega
    have h11:sQ z p=decide (needZ (cL z p)≤vj z p):=by simp [sQ,e1,e2,e3,e4,e5,e6,e7,e8,e9,h10]
    show (!decide (vj z p<needZ (cL z p)))=sQ z p
    rw [h11,Bool.eq_iff_iff]
    simp
  · simp at e10
    have h10:¬ abK (cL z p)≤aso z:=by unfold abK; omega
    simp [sQ,e1,e2,e3,e4,e5,e6,e7,e8,e9,h10]
theorem v_part {n:Nat} {z:CfgZ} (hn:Fits n z) {h:Heap} (hro:h.ro≤h.nx) {c:List AV} (hc:Cfg h z c) {p:Nat} (hp:p<z.parts.length):Run1 (ns n (.agg c) p h) fun r h'=>r=ahM z p∧Grow h h':=by
  unfold ns agA afJ
  obtain ⟨t,pp,rfl,ht,hps⟩:=hc
  refine Run1.bind (zw ..) ?_
  rintro x h1 ⟨hb,g⟩
  simp only [cJ,Nat.reduceAdd,bM hb,gL]
  refine Run1.bind (aAE hn (g.le hro) (Cfg.mk' (ht.grow g) (hps.grow g)) hp) ?_
  rintro _ h2 ⟨rfl,g2⟩
  have gg:=g.trans g2
  refine RunG.ifB (fun e1=>?_) fun e1=>?_
  · simp at e1
    exact je ⟨by simp [ahM,e1],gg⟩
  · simp at e1
    simp only [cJ,Nat.reduceAdd,bM (g2.cl hb),gL]
    refine Run1.bind (v_quotas hn (gg.le hro) (Cfg.mk' (ht.grow gg) (hps.grow gg)) hp) ?_
    rintro _ h3 ⟨rfl,g3⟩
    refine RunG.ifB (fun e2=>?_) fun e2=>?_
    · simp at e2
      exact je ⟨by simp [ahM,e1,e2],gg.trans g3⟩
    · simp at e2
      exact je ⟨by simp [ahM,e1,e2],gg.trans g3⟩
end Go.Proofs.YtnlbfbiogfilfaaGreat.Sh
/- What things cost, by the code. -/
namespace Go.Proofs.YtnlbfbiogfilfaaGreat.Sh
open Go.Ai
@[simp] theorem ajU (n:Nat) (a b c:Int) (h:Heap) (k:Bool→Heap→CRes):mF n a b c h k=k (cR a b c) h:=by
  unfold mF XT Yu Q4 QX
  by_cases hc:a<b
  · simp [cR,hc,show ¬ b≤a by omega]
  · simp [cR,hc,show b≤a by omega, ← Int.not_lt]
theorem v_Switch {n:Nat} (hn:4≤n) (h:Heap) (z:CfgZ) (a b:Int):Run2 (te n (.agg (G2 z)) a b h) fun v e h'=>e=aiA z a b∧(e=0→v=aAc z a b)∧Grow h h':=by
  unfold te Yb XR Ro QU
  refine Run1.bind (zw ..) ?_
  rintro x h1 ⟨hb,g⟩
  simp only [cJ,Nat.reduceAdd,bM hb,gL]
  refine Run1.bind (TH hn h1 z) ?_
  rintro _ h2 ⟨rfl,g2⟩
  have gg:=g.trans g2
  have hb2:=g2.cl hb
  simp only [cJ,Nat.reduceAdd,bM hb2,gL,ajU]
  refine RunG.ifB (fun e1=>XA ⟨?_,?_,gg⟩) fun e1=>RunG.ifB (fun e2=>XA ⟨?_,?_,gg⟩) fun e2=>RunG.ifB (fun e3=>XA ⟨?_,?_,gg⟩) fun e3=>XA ⟨?_,?_,gg⟩
  · simp at e1; simp [aiA,e1]
  · intro h0; simp at e1; exact (e1 h0).elim
  · simp at e1 e2; simp [aiA,e1,e2]
  · intro h0; cases h0
  · simp at e1 e2 e3; simp [aiA,e1,e2,e3]
  · intro h0; cases h0
  · simp at e1 e2 e3; simp [aiA,e1,e2,e3]
  · intro _; rfl
theorem sh1:IntKind.i64.wrap (aly .i64 1 (1:Int).toNat)=2:=by decide
theorem sh2:IntKind.i64.wrap (aly .i64 1 (2:Int).toNat)=4:=by decide
theorem aAL {n:Nat} {x:Nat} {h:Heap} {s:ShapeZ} (hb:h.cl x (FC s)) (i:Bool) (f1):Run1 (fun k=>DZ n f1 (mF n) k (.ptr x 0) i h) fun r h'=>h'=h∧r=if i&&(cR s.user 2 4096&&(cR s.limit 1 5120&&cR s.nodes 1 4096)) then 0 else 2:=by
  unfold DZ Vv UZ UO Vc T4 UK Vl
  simp only [cJ,Nat.reduceAdd,bM hb,gL,ajU]
  cases i<;>cases h1:cR s.user 2 4096<;>cases h2:cR s.limit 1 5120<;>cases h3:cR s.nodes 1 4096<;>exact je ⟨rfl,by simp⟩
theorem aAJ {n:Nat} {y:Nat} {h:Heap} {s:ShapeZ} (hb:h.cl y (FC s)) (f1):∀ (m i:Nat) (b:Bool),i≤4→4-i<m→Run1 (fun k=>D3 n f1 (mF n) k m (.ptr y 0) b i h) fun r h'=>h'=h∧
    r=if (b||(List.range' i (4-i)).any fun j=>s.image==IntKind.i64.wrap (aly .i64 1 j))&&(cR s.user 2 4096&&(cR s.limit 1 5120&&cR s.nodes 1 4096)) then 0 else 2:=by
  intro m
  induction m with
  | zero=>omega
  | succ m ih=>
    intro i b hi hm
    simp only [asS]
    unfold KG Jy T5
    refine RunG.ifB (fun e=>?_) fun e=>?_
    · simp at e
      simp only [cJ,Nat.reduceAdd,bM hb,gL,fW (show i≤9223372036854775806 by omega),TZ (Int.natCast_nonneg i),Int.toNat_natCast]
      have hr:List.range' i (4-i)=i::List.range' (i+1) (4-(i+1)):=by
        rw [show 4-i=(4-(i+1))+1 by omega,List.range'_succ]
      rw [hr,List.any_cons]
      refine RunG.ifB (fun e1=>?_) fun e1=>?_
      · subst e1
        refine RunG.mono (ih (i+1) true (by omega) (by omega)) ?_
        rintro ⟨r,h'⟩ ⟨q1,q2⟩
        exact ⟨q1,by rw [q2]; simp⟩
      · subst e1
        refine RunG.mono (ih (i+1) _ (by omega) (by omega)) ?_
        rintro ⟨r,h'⟩ ⟨q1,q2⟩
        exact ⟨q1,by rw [Bool.false_or]; exact q2⟩
    · simp at e
      have:i=4:=by omega
      subst this
      refine RunG.mono (aAL hb b f1) ?_
      rintro ⟨r,h'⟩ ⟨q1,q2⟩
      exact ⟨q1,by rw [q2]; simp⟩
theorem v_asked {n:Nat} (hn:10≤n) (h:Heap) (z:CfgZ) (s:ShapeZ):Run1 (wm n (.agg (G2 z)) (.agg (FC s)) h) fun r h'=>r=asb z s∧Grow h h':=by
  unfold wm acB abv
  refine Run1.bind (zw ..) ?_
  rintro x h1 ⟨hb,g⟩
  refine Run1.bind (zw ..) ?_
  rintro y h2 ⟨hb2,g2⟩
  simp only [cJ,Nat.reduceAdd,bM (g2.cl hb),gL]
  refine Run1.bind (TH (by omega) h2 z) ?_
  rintro _ h3 ⟨rfl,g3⟩
  have gg:=g.trans (g2.trans g3)
  have hb3:=g3.cl hb2
  refine RunG.ifB (fun e1=>je ⟨?_,gg⟩) fun e1=>?_
  · simp at e1; simp [asb,e1]
  simp at e1
  refine RunG.mono (aAJ hb3 (gy n) n 0 false (by omega) (by omega)) ?_
  rintro ⟨r,h'⟩ ⟨q1,q2⟩
  refine ⟨?_,by rw [q1]; exact gg⟩
  rw [q2]
  have hr:(List.range' 0 (4-0)).any (fun j=>s.image==IntKind.i64.wrap (aly .i64 1 j))=(decide (s.image=1)||(decide (s.image=2)||(decide (s.image=4)||decide (s.image=8)))):=by
    show (s.image==1||(s.image==2||(s.image==4||(s.image==8||false))))=_
    rw [Bool.or_false]; rfl
  rw [hr,asb,if_pos e1,Bool.false_or]
abbrev At1 (h:Heap) (x:Nat) (q:IntKind) (v:Int):Prop:=h.cl x [.int q v]
theorem akG {q:IntKind} {v:Int}:([AV.int q v]:List AV)[0]?=some (.int q v):=rfl
theorem v_f1 {n:Nat} {h:Heap} {x:Nat} {m:Int} (hx:At1 h x .u64 m) (k:Int→Heap→CRes):gx n (.ptr x 0) h k=k (w64 (113*m)) h:=by
  unfold gx NE N8
  simp only [cJ,Nat.reduceAdd,bM hx,akG]; rfl
theorem v_f2 {n:Nat} {h:Heap} {x:Nat} {m:Int} (hx:At1 h x .u64 m) (k:Int→Heap→CRes):gn n (.ptr x 0) h k=k (w64 (64*m)) h:=by
  unfold gn OA Nz
  simp only [cJ,Nat.reduceAdd,bM hx,akG]; rfl
theorem v_f4 {n:Nat} {h:Heap} {x:Nat} {m:Int} (hx:At1 h x .u64 m) (k:Int→Heap→CRes):gX n (.ptr x 0) h k=k (w64 (17*m)) h:=by
  unfold gX N5 NS
  simp only [cJ,Nat.reduceAdd,bM hx,akG]; rfl
theorem v_f5 {n:Nat} {h:Heap} {x y:Nat} {a m:Int} (hx:At1 h x .u64 a) (hy:At1 h y .u64 m) (k:Int→Heap→CRes):gT n (.ptr x 0) (.ptr y 0) h k=k (w64 (a+m)) h:=by
  unfold gT OM NF
  simp only [cJ,Nat.reduceAdd,bM hx,bM hy,akG]; rfl
theorem v_f6 {n:Nat} {h:Heap} {x y w:Nat} {s:ShapeZ} {a m:Int} (hx:At1 h x .u64 m) (hy:h.cl y (FC s)) (hw:At1 h w .u64 a) (k:Int→Heap→CRes) :
    gV n (.ptr x 0) (.ptr y 0) (.ptr w 0) h k=k (w64 (w64 (m+w64 (w64 (16*w64 s.nodes)*m))+a)) h:=by
  unfold gV OF M8
  simp only [cJ,Nat.reduceAdd,bM hx,bM hy,bM hw,akG,gL]; rfl
theorem v_f7 {n:Nat} {h:Heap} {x y:Nat} {z:CfgZ} {m:Int} (hx:h.cl x (G2 z)) (hy:At1 h y .u64 m) (k:Int→Heap→CRes):gW n (.ptr x 0) (.ptr y 0) h k=k (w64 (w64 (64*w64 (z.step+m))+m)) h:=by
  unfold gW N6 NJ
  simp only [cJ,Nat.reduceAdd,bM hx,bM hy,akG,gL]; rfl
theorem v_f9 {n:Nat} {h:Heap} {x y w:Nat} {z:CfgZ} {m f:Int} (hx:At1 h x .u64 m) (hy:h.cl y (G2 z)) (hw:At1 h w .u64 f) (k:Int→Heap→CRes) :
    gY n (.ptr x 0) (.ptr y 0) (.ptr w 0) h k=k (w64 (w64 (w64 (w64 (26*m)+z.fault)+f)+z.disk)) h:=by
  unfold gY Or ON
  simp only [cJ,Nat.reduceAdd,bM hx,bM hy,bM hw,akG,gL]; rfl
theorem v_f10 {n:Nat} {h:Heap} {x y w:Nat} {z:CfgZ} {m f:Int} (hx:At1 h x .u64 m) (hy:h.cl y (G2 z)) (hw:At1 h w .u64 f) (k:Int→Heap→CRes) :
    gA n (.ptr x 0) (.ptr y 0) (.ptr w 0) h k=k (w64 (w64 (w64 (w64 (64*m)+w64 (2*z.fault))+w64 (2*f))+z.disk)) h:=by
  unfold gA Lo Jr
  simp only [cJ,Nat.reduceAdd,bM hx,bM hy,bM hw,akG,gL]; rfl
theorem max2 (q:IntKind) (a b:Int) (k:AV→CRes):O1 true [.int q a,.int q b] k=k (.int q (maxZ a b)):=by
  show oC (some (.int q (if ltF a b then b else a))) k=_
  rw [y4]; simp [maxZ]
theorem min2 (q:IntKind) (a b:Int) (k:AV→CRes):O1 false [.int q a,.int q b] k=k (.int q (minZ a b)):=by
  show oC (some (.int q (if ltF b a then b else a))) k=_
  rw [y4]; simp [minZ]
theorem v_f8 {n:Nat} {h:Heap} {x y p u:Nat} {m a:Int} (hx:h.cl x [.func fX [] [.ptr p 0]]) (hy:h.cl y [.func fV [] [.ptr u 0]]) (hp:At1 h p .u64 m) (hu:At1 h u .u64 a) (k:Int→Heap→CRes) :
    nF n (.ptr x 0) (.ptr y 0) h k=k (maxZ (w64 (113*m)) (w64 (64*a))) h:=by
  unfold nF Oq Nl
  have c1:∀ h k,qZ (gx n) (gn n) (js n) (gX n) (gT n) (gV n) (gW n) (gY n) (gA n) (.func fX [] [.ptr p 0]) [] h k =
      gx n (.ptr p 0) h fun u h=>k (.int .u64 u) h:=fun _ _=>rfl
  have c2:∀ h k,qZ (gx n) (gn n) (js n) (gX n) (gT n) (gV n) (gW n) (gY n) (gA n) (.func fV [] [.ptr u 0]) [] h k =
      gn n (.ptr u 0) h fun u h=>k (.int .u64 u) h:=fun _ _=>rfl
  have e1:([AV.func fX [] [.ptr p 0]]:List AV)[0]?=some (.func fX [] [.ptr p 0]):=rfl
  have e2:([AV.func fV [] [.ptr u 0]]:List AV)[0]?=some (.func fV [] [.ptr u 0]):=rfl
  have b0:(h.shut true).back h.ro=h:=by cases h; rfl
  simp only [cJ,Nat.reduceAdd,bM hx,e1,c1,v_f1 hp.shut,b0,bM hy,e2,c2,v_f2 hu,max2]
end Go.Proofs.YtnlbfbiogfilfaaGreat.Sh
