/- audit.Check: what is told of one partition. -/
import Derived.Test.YtpoobhhdgjgdgaaGreatVA12VA14
set_option linter.all false
namespace Go.Proofs.YtpoobhhdgjgdgaaGreat.Sh
open Go.Ai
theorem cfI (n:Nat) (c:Nat) (a:Int) (h:Heap) (k:AV→Heap→aa):iK (bb n) (aY n) (aO n) (aQ n) (aK n) (bl n) (bj n) (aG n) (aE n) (be n) (au n) (ar n) (lq aw) (.func 32 [] [.ptr c 0]) [.int .i64 a] h k=au n a (.ptr c 0) h fun b h=>k (.bool b) h:=rfl
theorem cfU (n:Nat) (c:Nat) (a:Int) (h:Heap) (k:AV→Heap→aa):iK (bb n) (aY n) (aO n) (aQ n) (aK n) (bl n) (bj n) (aG n) (aE n) (be n) (au n) (ar n) (lq aw) (.func 38 [] [.ptr c 0]) [.int .u64 a] h k=ar n a (.ptr c 0) h fun b h=>k (.bool b) h:=rfl
theorem cfP (n:Nat) (c:Nat) (a b:Int) (h:Heap) (k:AV→Heap→aa):iK (bb n) (aY n) (aO n) (aQ n) (aK n) (bl n) (bj n) (aG n) (aE n) (be n) (au n) (ar n) (lq aw) (.func 39 [] [.ptr c 0]) [.agg [.int .i64 a,.int .i64 b]] h k=lq dblG [.agg [.int .i64 a,.int .i64 b],.ptr c 0] h k:=rfl
theorem cfF (n:Nat) (y:Nat) (b:Bool) (e a:Int) (h:Heap) (k:AV→Heap→aa):iK (bb n) (aY n) (aO n) (aQ n) (aK n) (bl n) (bj n) (aG n) (aE n) (be n) (au n) (ar n) (lq aw) (.func 17 [] [.ptr y 0]) [.bool b,.int .i64 e,.int .i64 a] h k=aQ n b e a (.ptr y 0) h fun h=>k (.tuple []) h:=rfl
set_option linter.unusedSectionVars false
section
variable {n:Nat} {h0:Heap} (hro:h0.ro≤h0.nx) {w x y s c1 m1 c2 m2 j:Nat} {vp:AV} {v45:Int} {fs:List (Int × Int)} {L:List AV} {J:aL→bL} {Q:AV × Heap→Prop}
include hro
theorem c_15 {f2:Int→Int} {va:AV} {m:Nat} {F U:Nat→Int} (hs:OwIn h0 va m F U):∀ (q i:Nat) (h:Heap) (f1:Int→Int) (tw:Bool),AS h0 h y fs c1 m1 f1 c2 m2 f2 s L→i≤m→m-i<q→
    (∀ h' tw',AS h0 h' y fs c1 m1 (Xh f1 (WY F m i)) c2 m2 f2 s L→(tw=true∨dupS f1 (WY F m i)=true→tw'=true)→ba h0 h'→aJ ap1 (fun k=>sG n (bb n) (aY n) (aO n) (aQ n) (aK n) (bl n) (bj n) (aG n) (aE n) (be n) (au n) (ar n) (lq aw) k (J k) (.ptr w 0) (.ptr x 0) (.ptr y 0) (.func 17 [] [.ptr y 0]) (.func 32 [] [.ptr c1 0]) (.func 32 [] [.ptr c2 0]) (j:Int) (.ptr s 0) tw' vp v45 (j:Int) h') Q)→
    aJ ap1 (fun k=>re n (bb n) (aY n) (aO n) (aQ n) (aK n) (bl n) (bj n) (aG n) (aE n) (be n) (au n) (ar n) (lq aw) k (J k) q (.ptr w 0) (.ptr x 0) (.ptr y 0) (.func 17 [] [.ptr y 0]) (.func 32 [] [.ptr c1 0]) (.func 32 [] [.ptr c2 0]) (j:Int) (.ptr s 0) tw vp v45 (j:Int) va (m:Int) (i:Int) h) Q:=by
  intro q
  induction q with
  | zero=>omega
  | succ q ih=>
    intro i h f1 tw a hi hq H
    have hsm:=hs.1
    simp only [adV]
    unfold sF
    refine aJ.ifB (fun e=>?_) fun e=>?_
    · rw [kj,fY] at e
      have hlt:i<m:=by omega
      rw [arS hlt] at H
      refine aJ.copy (hs.grow a.g) (a.g.le hro) hlt rfl rfl fun a1 b1 z d h1 hz g1=>?_
      have a1:=a.grow g1
      simp only [aD,gU hz,aod,cfI]
      refine aR.bind (amR a1.s1 (F i)) ?_
      rintro _ h2 ⟨rfl,s1,q2⟩
      have a2:=a1.see1 s1 q2
      have f16:∀ b:Bool,(tw=true∨aeG f1 (F i)=true→b=true)→aJ ap1 (fun k=>rb n (bb n) (aY n) (aO n) (aQ n) (aK n) (bl n) (bj n) (aG n) (aE n) (be n) (au n) (ar n) (lq aw) k (re n (bb n) (aY n) (aO n) (aQ n) (aK n) (bl n) (bj n) (aG n) (aE n) (be n) (au n) (ar n) (lq aw) k (J k) q) (.ptr w 0) (.ptr x 0) (.ptr y 0) (.func 17 [] [.ptr y 0]) (.func 32 [] [.ptr c1 0]) (.func 32 [] [.ptr c2 0]) (j:Int) (.ptr s 0) vp v45 (j:Int) va (m:Int) (i:Int) b h2) Q:=by
        intro b hb
        unfold rb
        simp only [aD,js (show i≤9223372036854775806 by omega)]
        refine ih (i+1) h2 _ b a2 (by omega) (by omega) fun h' tw' a' ht' g'=>H h' tw' a' (fun h=>ht' ?_) g'
        simp only [dupS,Bool.or_eq_true] at h
        rcases h with h | h | h
        · exact .inl (hb (.inl h))
        · exact .inl (hb (.inr h))
        · exact .inr h
      refine aJ.ifB (fun _=>f16 true fun _=>rfl) fun es=>f16 tw fun h=>?_
      rcases h with h | h
      · exact h
      · rw [es] at h; cases h
    · rw [kj,ga] at e
      have:i=m:=by omega
      subst this
      refine H h tw ?_ (fun h=>?_) a.g
      · rw [apA]; exact a
      · rw [apA] at h
        rcases h with h | h
        · exact h
        · cases h
theorem c_12 {f1:Int→Int} {va:AV} {l:List Int} (hs:cQ h0 .i64 va l):∀ (q i:Nat) (h:Heap) (f2:Int→Int) (tw:Bool),AS h0 h y fs c1 m1 f1 c2 m2 f2 s L→i≤l.length→l.length-i<q→
    (∀ h' tw' f2',AS h0 h' y fs c1 m1 f1 c2 m2 f2' s L→(tw=true→tw'=true)→ba h0 h'→aJ ap1 (fun k=>uc n (bb n) (aY n) (aO n) (aQ n) (aK n) (bl n) (bj n) (aG n) (aE n) (be n) (au n) (ar n) (lq aw) k (J k) (.ptr w 0) (.ptr x 0) (.ptr y 0) (.func 17 [] [.ptr y 0]) (.func 32 [] [.ptr c1 0]) (.func 32 [] [.ptr c2 0]) (j:Int) (.ptr s 0) tw' vp v45 (j:Int) h') Q)→
    aJ ap1 (fun k=>qU n (bb n) (aY n) (aO n) (aQ n) (aK n) (bl n) (bj n) (aG n) (aE n) (be n) (au n) (ar n) (lq aw) k (J k) q (.ptr w 0) (.ptr x 0) (.ptr y 0) (.func 17 [] [.ptr y 0]) (.func 32 [] [.ptr c1 0]) (.func 32 [] [.ptr c2 0]) (j:Int) (.ptr s 0) tw vp v45 (j:Int) va (l.length:Int) (i:Int) h) Q:=by
  intro q
  induction q with
  | zero=>omega
  | succ q ih=>
    intro i h f2 tw a hi hq H
    have hsm:=hs.small
    simp only [ad3]
    unfold tx
    refine aJ.ifB (fun e=>?_) fun e=>H h tw f2 a (fun h=>h) a.g
    rw [kj,fY] at e
    simp only [(hs.grow a.g).el (show (0:Int)≤(i:Int) by omega) (by omega),cfI]
    refine aR.bind (amR a.s2 _) ?_
    rintro _ h2 ⟨rfl,s2,q2⟩
    have a2:=a.see2 s2 q2
    have f13:∀ b:Bool,(tw=true→b=true)→aJ ap1 (fun k=>rf n (bb n) (aY n) (aO n) (aQ n) (aK n) (bl n) (bj n) (aG n) (aE n) (be n) (au n) (ar n) (lq aw) k (qU n (bb n) (aY n) (aO n) (aQ n) (aK n) (bl n) (bj n) (aG n) (aE n) (be n) (au n) (ar n) (lq aw) k (J k) q) (.ptr w 0) (.ptr x 0) (.ptr y 0) (.func 17 [] [.ptr y 0]) (.func 32 [] [.ptr c1 0]) (.func 32 [] [.ptr c2 0]) (j:Int) (.ptr s 0) vp v45 (j:Int) va (l.length:Int) (i:Int) b h2) Q:=by
      intro b hb
      unfold rf
      simp only [aD,js (show i≤9223372036854775806 by omega)]
      exact ih (i+1) h2 _ b a2 (by omega) (by omega) fun h' tw' f2' a' ht' g'=>H h' tw' f2' a' (fun h=>ht' (hb h)) g'
    simp only [Z9]
    exact aJ.ifB (fun _=>f13 true fun _=>rfl) fun _=>f13 tw fun h=>h
theorem c_9 {f1 f2:Int→Int} {va:AV} {m:Nat} {A B:Nat→Int} {U:Nat→AV} {C:Nat→Int} {W:Nat→AV} (hs:bK h0 va 5 m fun i=>ahR (A i) (B i) (U i) (C i) (W i)) {c3 m3:Nat} (n1:m3≠m1) (n2:m3≠m2) :
    ∀ (q i:Nat) (h:Heap) (f3:Int→Int) (tw:Bool),AS h0 h y fs c1 m1 f1 c2 m2 f2 s L→cr emI h0 h c3 m3 f3→i≤m→m-i<q→
    (∀ h' tw',AS h0 h' y fs c1 m1 f1 c2 m2 f2 s L→(tw=true→tw'=true)→ba h0 h'→aJ ap1 (fun k=>rO n (bb n) (aY n) (aO n) (aQ n) (aK n) (bl n) (bj n) (aG n) (aE n) (be n) (au n) (ar n) (lq aw) k (J k) (.ptr w 0) (.ptr x 0) (.ptr y 0) (.func 17 [] [.ptr y 0]) (.func 32 [] [.ptr c1 0]) (.func 32 [] [.ptr c2 0]) (j:Int) (.ptr s 0) tw' vp v45 (j:Int) h') Q)→
    aJ ap1 (fun k=>rG n (bb n) (aY n) (aO n) (aQ n) (aK n) (bl n) (bj n) (aG n) (aE n) (be n) (au n) (ar n) (lq aw) k (J k) q (.ptr w 0) (.ptr x 0) (.ptr y 0) (.func 17 [] [.ptr y 0]) (.func 32 [] [.ptr c1 0]) (.func 32 [] [.ptr c2 0]) (j:Int) (.ptr s 0) tw (.func 32 [] [.ptr c3 0]) vp v45 (j:Int) va (m:Int) (i:Int) h) Q:=by
  intro q
  induction q with
  | zero=>omega
  | succ q ih=>
    intro i h f3 tw a s3 hi hq H
    have hsm:=hs.1
    simp only [ahg]
    unfold vC
    refine aJ.ifB (fun e=>?_) fun e=>H h tw a (fun h=>h) a.g
    rw [kj,fY] at e
    have hlt:i<m:=by omega
    refine aJ.copy (hs.grow a.g) (a.g.le hro) hlt rfl rfl fun a1 b1 z d h1 hz g1=>?_
    have a1:=a.grow g1
    have s31:=s3.grow g1
    simp only [aD,gU hz,proc_0,cfI]
    refine aR.bind (amR s31 _) ?_
    rintro _ h2 ⟨rfl,s32,q2⟩
    have a2:=a1.see3 s31 n1 n2 q2
    have f10:∀ b:Bool,(tw=true→b=true)→aJ ap1 (fun k=>qR n (bb n) (aY n) (aO n) (aQ n) (aK n) (bl n) (bj n) (aG n) (aE n) (be n) (au n) (ar n) (lq aw) k (rG n (bb n) (aY n) (aO n) (aQ n) (aK n) (bl n) (bj n) (aG n) (aE n) (be n) (au n) (ar n) (lq aw) k (J k) q) (.ptr w 0) (.ptr x 0) (.ptr y 0) (.func 17 [] [.ptr y 0]) (.func 32 [] [.ptr c1 0]) (.func 32 [] [.ptr c2 0]) (j:Int) (.ptr s 0) (.func 32 [] [.ptr c3 0]) vp v45 (j:Int) va (m:Int) (i:Int) b h2) Q:=by
      intro b hb
      unfold qR
      simp only [aD,js (show i≤9223372036854775806 by omega)]
      exact ih (i+1) h2 _ b a2 s32 (by omega) (by omega) fun h' tw' a' ht' g'=>H h' tw' a' (fun h=>ht' (hb h)) g'
    exact aJ.ifB (fun _=>f10 true fun _=>rfl) fun _=>f10 tw fun h=>h
end
def one (tw mi su:Bool) (j:Int):List (Int × Int):=fl tw 280 j++(fl (!mi) 281 j++fl (!su) 282 j)
theorem one_len (tw mi su:Bool) (j:Int):(one tw mi su j).length≤3:=by cases tw<;>cases mi<;>cases su<;>simp [one,fl]
theorem c_8 {n:Nat} {zc:bA} (hn:dt n zc) (hn':1100<n) (hm:uP zc=true) {h0:Heap} (hro:h0.ro≤h0.nx) {w x y s c1 m1 c2 m2 j:Nat} {vp:AV} {v45:Int} {fs:List (Int × Int)} {J:aL→bL} {Q:AV × Heap→Prop}
    {t pp:AV} (ht:cQ h0 .i64 t zc.fi) (hp:dB h0 pp zc.parts) (hw:h0.cl w (ry zc t pp)) (hj:j<zc.parts.length) {z:StZ} {va vb vc vd:AV} (hst:eR n h0 z va vb vc vd) {h:Heap} {f1 f2:Int→Int} {tw:Bool} (a:AS h0 h y fs c1 m1 f1 c2 m2 f2 s (stC va vb z.whole vc vd)) (hL:fs.length<990)
    (H:∀ h' mi su,AS h0 h' y (fs++one tw mi su j) c1 m1 f1 c2 m2 f2 s (stC va vb z.whole vc vd)→(mi=true→∀ i,i<z.m→Z6 zc (z.F i) j true 0)→(su=true→eK zc j z)→aJ ap1 (fun k=>J k (.ptr w 0) (.ptr x 0) (.ptr y 0) (.func 17 [] [.ptr y 0]) (.func 32 [] [.ptr c1 0]) (.func 32 [] [.ptr c2 0]) vp v45 ((j+1:Nat):Int) h') Q) :
    aJ ap1 (fun k=>rO n (bb n) (aY n) (aO n) (aQ n) (aK n) (bl n) (bj n) (aG n) (aE n) (be n) (au n) (ar n) (lq aw) k (J k) (.ptr w 0) (.ptr x 0) (.ptr y 0) (.func 17 [] [.ptr y 0]) (.func 32 [] [.ptr c1 0]) (.func 32 [] [.ptr c2 0]) (j:Int) (.ptr s 0) tw vp v45 (j:Int) h) Q:=by
  unfold rO
  simp only [cfF]
  have hp8:zc.parts.length<1000:=by
    simp only [uP,fW] at hm
    have h1:=hm.1
    simp only [nQ,fW] at h1
    obtain ⟨_,_,_,_,_,_,_,m8⟩:=h1
    simp [ji] at m8; omega
  have fl1:∀ b c a,(fl b c a).length≤1:=fun b c a=>by cases b<;>simp [fl]
  refine dy.bind (abh (a.g.le hro) a.g a.fl (by omega) tw 280 j) ?_
  rintro h1 ⟨x1,g1,q1⟩
  have a1:=a.fault x1 g1 q1
  simp only [aD,gU (g1.cl hw),bC,gU a1.own.cl,Xy (show (stC va vb z.whole vc vd).length=5 from rfl)]
  refine aR.bind (v_mine hn hn' (g1.le hro) (Cfg.mk' (ht.grow g1) (hp.grow g1)) hj (hst.grow g1)) ?_
  rintro mi h2 ⟨g2,hmi⟩
  have a2:=a1.grow g2
  have l1:(fs++fl tw 280 (j:Int)).length<992:=by rw [gv]; have:=fl1 tw 280 j; omega
  refine dy.bind (abh (a2.g.le hro) a2.g a2.fl (by omega) (!mi) 281 j) ?_
  rintro h3 ⟨x3,g3,q3⟩
  have a3:=a2.fault x3 g3 q3
  have l3:((fs++fl tw 280 (j:Int))++fl (!mi) 281 (j:Int)).length<994:=by rw [gv]; have:=fl1 (!mi) 281 j; omega
  simp only [aD,gU (g3.cl hw),bC,gU a3.own.cl,Xy (show (stC va vb z.whole vc vd).length=5 from rfl)]
  refine aR.bind (v_sums hn hn' hm (g3.le hro) (Cfg.mk' (ht.grow g3) (hp.grow g3)) hj (hst.grow g3)) ?_
  rintro su h4 ⟨g4,hsu⟩
  have a4:=a3.grow g4
  refine dy.bind (abh (a4.g.le hro) a4.g a4.fl (by omega) (!su) 282 j) ?_
  rintro h5 ⟨x5,g5,q5⟩
  have a5:=a4.fault x5 g5 q5
  rw [List.append_assoc,List.append_assoc] at a5
  simp only [aD,js (show j≤9223372036854775806 by omega)]
  exact H h5 mi su a5 hmi hsu
end Go.Proofs.YtpoobhhdgjgdgaaGreat.Sh
/- audit.Check: all that is told. -/
namespace Go.Proofs.YtpoobhhdgjgdgaaGreat.Sh
open Go.Ai
def stZ (ps:List StZ) (j:Nat):StZ:=ps.getD j default
def frs (z:StZ):List Int:=WY z.F z.m 0
def pre (ps:List StZ):Nat→List Int
  | 0=>[]
  | j+1=>pre ps j++frs (stZ ps j)
theorem V4:∀ (a b:List Int) (f:Int→Int),Xh f (a++b)=Xh (Xh f a) b
  | [],_,_=>rfl
  | x::a,b,f=>V4 a b (U6 f x)
inductive Told (zc:bA) (ps:List StZ):Nat→List (Int × Int)→Prop
  | zero:Told zc ps 0 []
  | step {j:Nat} {fs:List (Int × Int)} (tw mi su:Bool):Told zc ps j fs→(dupS (Xh (fun _=>0) (pre ps j)) (frs (stZ ps j))=true→tw=true)→(mi=true→∀ i,i<(stZ ps j).m→Z6 zc ((stZ ps j).F i) j true 0)→(su=true→eK zc j (stZ ps j))→Told zc ps (j+1) (fs++one tw mi su j)
theorem Told.len {zc:bA} {ps:List StZ} {j:Nat} {fs:List (Int × Int)} (t:Told zc ps j fs):fs.length≤3*j:=by
  induction t with
  | zero=>simp
  | @step j fs tw mi su _ _ _ _ ih=>
    rw [gv]
    have:=one_len tw mi su j
    omega
theorem abF {zc:bA} (hm:uP zc=true):zc.parts.length≤8:=by
  simp only [uP,fW] at hm
  have h1:=hm.1
  simp only [nQ,fW] at h1
  obtain ⟨_,_,_,_,_,_,_,m8⟩:=h1
  simp [ji] at m8; omega
structure BS (h0 h:Heap) (y:Nat) (fs:List (Int × Int)) (c1 m1:Nat) (f1:Int→Int) (c2 m2:Nat) (f2:Int→Int):Prop where
  g:ba h0 h
  fl:Flt h0 h y fs
  s1:cr emI h0 h c1 m1 f1
  s2:cr emI h0 h c2 m2 f2
  ne:m1≠m2
theorem c_7 {n:Nat} {zc:bA} (hn:dt n zc) (hn':1100<n) (hm:uP zc=true) {h0:Heap} (hro:h0.ro≤h0.nx) {w x y c1 m1 c2 m2:Nat} {Q:AV × Heap→Prop}
    {t pp:AV} (ht:cQ h0 .i64 t zc.fi) (hp:dB h0 pp zc.parts) (hw:h0.cl w (ry zc t pp)) {ps:List StZ} {vp:AV} {A B C D:Nat→AV} (hs:ep n h0 ps vp A B C D) (hlen:ps.length=zc.parts.length)
    (H:∀ h' fs,ba h0 h'→Flt h0 h' y fs→Told zc ps ps.length fs→aJ ap1 (fun k=>rM n (bb n) (aY n) (aO n) (aQ n) (aK n) (bl n) (bj n) (aG n) (aE n) (be n) (au n) (ar n) (lq aw) k (.ptr w 0) (.ptr x 0) (.ptr y 0) (.func 17 [] [.ptr y 0]) h') Q) :
    ∀ (q j:Nat) (h:Heap) (fs:List (Int × Int)) (f2:Int→Int),BS h0 h y fs c1 m1 (Xh (fun _=>0) (pre ps j)) c2 m2 f2→Told zc ps j fs→j≤ps.length→ps.length-j<q→
    aJ ap1 (fun k=>nB n (bb n) (aY n) (aO n) (aQ n) (aK n) (bl n) (bj n) (aG n) (aE n) (be n) (au n) (ar n) (lq aw) k q (.ptr w 0) (.ptr x 0) (.ptr y 0) (.func 17 [] [.ptr y 0]) (.func 32 [] [.ptr c1 0]) (.func 32 [] [.ptr c2 0]) vp (ps.length:Int) (j:Int) h) Q:=by
  intro q
  induction q with
  | zero=>omega
  | succ q ih=>
    intro j h fs f2 b tl hj hq
    have h8:=abF hm
    simp only [agE]
    unfold vN
    refine aJ.ifB (fun e=>?_) fun e=>?_
    · rw [kj,fY] at e
      have hlt:j<ps.length:=by omega
      refine aJ.copyO (bK.grow hs.sl b.g) (b.g.le hro) hlt rfl rfl fun a1 b1 s d h1 hso g1=>?_
      have a1:AS h0 h1 y fs c1 m1 (Xh (fun _=>0) (pre ps j)) c2 m2 f2 s (stC (A j) (B j) (stZ ps j).whole (C j) (D j)):=⟨b.g.trans g1,b.fl.grow g1,b.s1.grow g1,b.s2.grow g1,b.ne,hso,rfl⟩
      have hst:eR n h0 (stZ ps j) (A j) (B j) (C j) (D j):=hs.st j hlt
      simp only [aD,gU hso.cl,st_0,bK.len hst.own]
      have hfl:=tl.len
      refine c_15 hro (J:=fun k=>nB n (bb n) (aY n) (aO n) (aQ n) (aK n) (bl n) (bj n) (aG n) (aE n) (be n) (au n) (ar n) (lq aw) k q) hst.own n 0 h1 _ false a1 (by omega) (by have:=hst.om; omega) fun h2 tw2 a2 ht2 g2=>?_
      unfold sG
      obtain ⟨sl,hsl,hsn⟩:=hst.slots
      simp only [aD,gU a2.own.cl,st_3,hsl.len]
      refine c_12 hro (J:=fun k=>nB n (bb n) (aY n) (aO n) (aQ n) (aK n) (bl n) (bj n) (aG n) (aE n) (be n) (au n) (ar n) (lq aw) k q) hsl n 0 h2 _ tw2 a2 (by omega) (by omega) fun h3 tw3 f2' a3 ht3 g3=>?_
      unfold uc
      refine aR.bind (aqu (a3.g.le hro) a3.g) ?_
      rintro _ h4 ⟨c3,m3,rfl,s3,g4,l3,l4⟩
      have a4:=a3.grow g4
      have n1:m3≠m1:=by have:=a3.s1.ltm; omega
      have n2:m3≠m2:=by have:=a3.s2.ltm; omega
      obtain ⟨m,A',B',U,C',V,hpm,hps,hUV⟩:=hst.procs
      simp only [aD,gU a4.own.cl,st_4,bK.len hps]
      refine c_9 hro (J:=fun k=>nB n (bb n) (aY n) (aO n) (aQ n) (aK n) (bl n) (bj n) (aG n) (aE n) (be n) (au n) (ar n) (lq aw) k q) hps n1 n2 n 0 h4 _ tw3 a4 s3 (by omega) (by omega) fun h5 tw5 a5 ht5 g5=>?_
      refine c_8 hn hn' hm hro (J:=fun k=>nB n (bb n) (aY n) (aO n) (aQ n) (aK n) (bl n) (bj n) (aG n) (aE n) (be n) (au n) (ar n) (lq aw) k q) ht hp hw (by omega) hst a5 (by omega) fun h6 mi su a6 hmi hsu=>?_
      refine ih (j+1) h6 _ f2' ⟨a6.g,a6.fl,?_,a6.s2,a6.ne⟩ (.step tw5 mi su tl (fun hd=>ht5 (ht3 (ht2 (.inr hd)))) hmi hsu) (by omega) (by omega)
      have:=a6.s1
      rw [show pre ps (j+1)=pre ps j++frs (stZ ps j) from rfl,V4]
      exact this
    · rw [kj,ga] at e
      have:j=ps.length:=by omega
      subst this
      exact H h fs b.g b.fl tl
def Chk (zc:bA) (ps:List StZ) (M:Nat) (S T:Nat→Int) (fs:List (Int × Int)):Prop:=
  (uP zc=false∧fs = [(5,0)])∨(uP zc=true∧ps.length≠zc.parts.length∧fs = [(2,0)])∨
  (uP zc=true∧ps.length=zc.parts.length∧∃ fs0 tw ca,Told zc ps ps.length fs0∧fs=fs0++(fl tw 280 ps.length++fl (!ca) 281 ps.length)∧(ca=true→∀ i,i<M→ad8 zc (S i) (T i)))
def RdF (h:Heap) (r:AV) (fs:List (Int × Int)):Prop:=bK h r 2 fs.length fun i=>[.int .i64 (fs.getD i (0,0)).1,.int .i64 (fs.getD i (0,0)).2]
theorem eR.shut {n:Nat} {h:Heap} {z:StZ} {a b c d:AV} (s:eR n h z a b c d):eR n (h.shut true) z a b c d:=⟨s.own,s.om,s.big,s.free,s.fm,s.slots,s.procs⟩
theorem ep.shut {n:Nat} {h:Heap} {ps:List StZ} {v:AV} {A B C D:Nat→AV} (s:ep n h ps v A B C D):ep n (h.shut true) ps v A B C D:=⟨s.sl,fun i hi=>(s.st i hi).shut⟩
theorem c_0 {n:Nat} {zc:bA} (hn:dt n zc) (hm:uP zc=true) {h0:Heap} (hro:h0.ro≤h0.nx) {w x y:Nat} {t pp:AV} (ht:cQ h0 .i64 t zc.fi) (hp:dB h0 pp zc.parts) (hw:h0.cl w (ry zc t pp)) {ps:List StZ} {vp vl vt:AV} {A B C D:Nat→AV} (hs:ep n h0 ps vp A B C D) (hlen:ps.length=zc.parts.length) {M:Nat} {S T:Nat→Int} (hl:d0 n h0 vl M S T) (hv:dS n h0 vt) (hx:h0.cl x (HS vp vl vt))
    {h:Heap} (g:ba h0 h) {fs:List (Int × Int)} (f:Flt h0 h y fs) (tl:Told zc ps ps.length fs) (tw:Bool) :
    aJ ap1 (fun k=>vQ n (bb n) (aY n) (aO n) (aQ n) (aK n) (bl n) (bj n) (aG n) (aE n) (be n) (au n) (ar n) (lq aw) k (.ptr w 0) (.ptr x 0) (.ptr y 0) (.func 17 [] [.ptr y 0]) tw h) fun r=>ba h0 r.2∧∃ fs,RdF r.2 r.1 fs∧Chk zc ps M S T fs:=by
  unfold vQ
  have h8:=abF hm
  have hfl:=tl.len
  have fl1:∀ b c a,(fl b c a).length≤1:=fun b c a=>by cases b<;>simp [fl]
  obtain ⟨_,S',hps,_⟩:=id hp
  simp only [aD,gU (g.cl hw),bC,(hps.grow g).len,cfF]
  refine dy.bind (abh (g.le hro) g f (by omega) tw 280 zc.parts.length) ?_
  rintro h1 ⟨f1,g1,q1⟩
  have l1:(fs++fl tw 280 (zc.parts.length:Int)).length<900:=by rw [gv]; have:=fl1 tw 280 zc.parts.length; omega
  simp only [aD,gU (g1.cl hw),bC,gU (g1.cl hx),acO]
  refine aR.bind (v_cached hn hm (h:=h1.shut true) (fZ _) (Cfg.shut (Cfg.mk' (ht.grow g1) (hp.grow g1))) (hs.grow g1).shut hlen ⟨(hl.grow g1).sl,hl.lm,hl.lo⟩ (have h:dS n h1 vt:=hv.grow g1; h)) ?_
  rintro ca h2 ⟨g2,hca⟩
  have g2':=g1.trans g2.shut
  have f2:=f1.grow g2.shut
  simp only [aD,gU (g2'.cl hw),bC,(hps.grow g2').len]
  refine dy.bind (abh (g2'.le hro) g2' f2 (by omega) (!ca) 281 zc.parts.length) ?_
  rintro h3 ⟨f3,g3,q3⟩
  obtain ⟨v,ho,ha,_,_⟩:=f3
  simp only [aD,gU ho.cl,any_0]
  rw [List.append_assoc] at ha
  refine jT ⟨g3,_,air ha ?_,.inr (.inr ⟨hm,hlen,fs,tw,ca,tl,by rw [hlen],hca⟩)⟩
  rw [gv,gv]
  have:=fl1 tw 280 zc.parts.length
  have:=fl1 (!ca) 281 zc.parts.length
  omega
theorem c_1 {n:Nat} {zc:bA} (hn:dt n zc) (hm:uP zc=true) {h0:Heap} (hro:h0.ro≤h0.nx) {w x y:Nat} {t pp:AV} (ht:cQ h0 .i64 t zc.fi) (hp:dB h0 pp zc.parts) (hw:h0.cl w (ry zc t pp)) {ps:List StZ} {vp vl vt:AV} {A B C D:Nat→AV} (hs:ep n h0 ps vp A B C D) (hlen:ps.length=zc.parts.length) {M:Nat} {S T:Nat→Int} (hl:d0 n h0 vl M S T) (hv:dS n h0 vt) (hx:h0.cl x (HS vp vl vt))
    {fs:List (Int × Int)} (tl:Told zc ps ps.length fs) {c2 m2:Nat} {m:Nat} {a b c:Nat→Int} {p q r:Nat→Bool} (hsl:bK h0 vt 6 m fun i=>trC (a i) (b i) (c i) (p i) (q i) (r i)) :
    ∀ (u i:Nat) (h:Heap) (f2:Int × Int→Int) (tw:Bool),ba h0 h→Flt h0 h y fs→cr emP h0 h c2 m2 f2→i≤m→m-i<u→
    aJ ap1 (fun k=>rW n (bb n) (aY n) (aO n) (aQ n) (aK n) (bl n) (bj n) (aG n) (aE n) (be n) (au n) (ar n) (lq aw) k u (.ptr w 0) (.ptr x 0) (.ptr y 0) (.func 17 [] [.ptr y 0]) tw (.func 39 [] [.ptr c2 0]) vt (m:Int) (i:Int) h) fun r=>ba h0 r.2∧∃ fs,RdF r.2 r.1 fs∧Chk zc ps M S T fs:=by
  intro u
  induction u with
  | zero=>omega
  | succ u ih=>
    intro i h f2 tw g f s2 hi hu
    simp only [agx]
    unfold vA
    have hsm:=hsl.1
    refine aJ.ifB (fun e=>?_) fun e=>c_0 hn hm hro ht hp hw hs hlen hl hv hx g f tl tw
    rw [kj,fY] at e
    have hlt:i<m:=by omega
    refine aJ.copy (hsl.grow g) (g.le hro) hlt rfl rfl fun a1 b1 z d h1 hz g1=>?_
    simp only [aD,gU hz,tr_0,tr_1,aqh,cfP]
    have s21:=s2.grow g1
    refine aR.bind (v_seenP s21 (a i) (b i)) ?_
    rintro _ h2 ⟨⟨bt,rfl⟩,s22,q2⟩
    have g2:ba h0 h2:=q2.grow (g.trans g1) fun b hb=>hb▸s2.lowm
    have f2':=(f.grow g1).seen s21 q2
    have f2x:∀ b,aJ ap1 (fun k=>rL n (bb n) (aY n) (aO n) (aQ n) (aK n) (bl n) (bj n) (aG n) (aE n) (be n) (au n) (ar n) (lq aw) k (rW n (bb n) (aY n) (aO n) (aQ n) (aK n) (bl n) (bj n) (aG n) (aE n) (be n) (au n) (ar n) (lq aw) k u) (.ptr w 0) (.ptr x 0) (.ptr y 0) (.func 17 [] [.ptr y 0]) (.func 39 [] [.ptr c2 0]) vt (m:Int) (i:Int) b h2) fun r=>ba h0 r.2∧∃ fs,RdF r.2 r.1 fs∧Chk zc ps M S T fs:=by
      intro b
      unfold rL
      simp only [aD,js (show i≤9223372036854775806 by omega)]
      exact ih (i+1) h2 _ b g2 f2' s22 (by omega) (by omega)
    simp only [Z9]
    exact aJ.ifB (fun _=>f2x true) fun _=>f2x tw
theorem c_6 {n:Nat} {zc:bA} (hn:dt n zc) (hm:uP zc=true) {h0:Heap} (hro:h0.ro≤h0.nx) {w x y:Nat} {t pp:AV} (ht:cQ h0 .i64 t zc.fi) (hp:dB h0 pp zc.parts) (hw:h0.cl w (ry zc t pp)) {ps:List StZ} {vp vl vt:AV} {A B C D:Nat→AV} (hs:ep n h0 ps vp A B C D) (hlen:ps.length=zc.parts.length) {M:Nat} {S T:Nat→Int} (hl:d0 n h0 vl M S T) (hv:dS n h0 vt) (hx:h0.cl x (HS vp vl vt))
    {h:Heap} (g:ba h0 h) {fs:List (Int × Int)} (f:Flt h0 h y fs) (tl:Told zc ps ps.length fs) :
    aJ ap1 (fun k=>rM n (bb n) (aY n) (aO n) (aQ n) (aK n) (bl n) (bj n) (aG n) (aE n) (be n) (au n) (ar n) (lq aw) k (.ptr w 0) (.ptr x 0) (.ptr y 0) (.func 17 [] [.ptr y 0]) h) fun r=>ba h0 r.2∧∃ fs,RdF r.2 r.1 fs∧Chk zc ps M S T fs:=by
  unfold rM
  refine aR.bind (v_newU (g.le hro) g) ?_
  rintro _ h1 ⟨c1,m1,rfl,s1,g1,_,_⟩
  have g01:=g.trans g1
  refine aR.bind (v_newP (g01.le hro) g01) ?_
  rintro _ h2 ⟨c2,m2,rfl,s2,g2,_,l2⟩
  have hne:m1≠m2:=by have:=s1.ltm; omega
  have g02:=g01.trans g2
  have hlm:=hl.lm
  simp only [aD,gU (g02.cl hx),snap_1,bK.len hl.sl]
  have key:∀ (u i:Nat) (h:Heap) (f1:Int→Int) (tw:Bool),ba h0 h→Flt h0 h y fs→cr emU h0 h c1 m1 f1→cr emP h0 h c2 m2 (fun _=>0)→i≤M→M-i<u→
      aJ ap1 (fun k=>rK n (bb n) (aY n) (aO n) (aQ n) (aK n) (bl n) (bj n) (aG n) (aE n) (be n) (au n) (ar n) (lq aw) k u (.ptr w 0) (.ptr x 0) (.ptr y 0) (.func 17 [] [.ptr y 0]) tw (.func 38 [] [.ptr c1 0]) (.func 39 [] [.ptr c2 0]) vl (M:Int) (i:Int) h) fun r=>ba h0 r.2∧∃ fs,RdF r.2 r.1 fs∧Chk zc ps M S T fs:=by
    intro u
    induction u with
    | zero=>omega
    | succ u ih=>
      intro i h f1 tw g f s1 s2 hi hu
      simp only [agL]
      unfold vV
      have hsm:=hl.sl.1
      refine aJ.ifB (fun e=>?_) fun e=>?_
      · rw [kj,fY] at e
        have hlt:i<M:=by omega
        refine aJ.copy (bK.grow hl.sl g) (g.le hro) hlt rfl rfl fun a1 b1 z d h1 hz g1=>?_
        simp only [aD,gU hz,ln_1,cfU]
        have s11:=s1.grow g1
        refine aR.bind (v_seenU s11 (T i)) ?_
        rintro _ h2 ⟨rfl,s12,q2⟩
        have g2:ba h0 h2:=q2.grow (g.trans g1) fun b hb=>hb▸s1.lowm
        have f2':=(f.grow g1).seen s11 q2
        have s22:=(s2.grow g1).other s11 hne.symm q2
        have f5:∀ b,aJ ap1 (fun k=>rQ n (bb n) (aY n) (aO n) (aQ n) (aK n) (bl n) (bj n) (aG n) (aE n) (be n) (au n) (ar n) (lq aw) k (rK n (bb n) (aY n) (aO n) (aQ n) (aK n) (bl n) (bj n) (aG n) (aE n) (be n) (au n) (ar n) (lq aw) k u) (.ptr w 0) (.ptr x 0) (.ptr y 0) (.func 17 [] [.ptr y 0]) (.func 38 [] [.ptr c1 0]) (.func 39 [] [.ptr c2 0]) vl (M:Int) (i:Int) b h2) fun r=>ba h0 r.2∧∃ fs,RdF r.2 r.1 fs∧Chk zc ps M S T fs:=by
          intro b
          unfold rQ
          simp only [aD,js (show i≤9223372036854775806 by omega)]
          exact ih (i+1) h2 _ b g2 f2' s12 s22 (by omega) (by omega)
        exact aJ.ifB (fun _=>f5 true) fun _=>f5 tw
      · unfold AK
        obtain ⟨m,a,b,c,p,q,r,hm2,hsl⟩:=id hv
        simp only [aD,gU (g.cl hx),snap_2,bK.len hsl]
        exact c_1 hn hm hro ht hp hw hs hlen hl hv hx tl hsl n 0 h _ tw g f s2 (by omega) (by omega)
  exact key n 0 h2 (fun _=>0) false g02 ((f.grow g1).grow g2) (s1.grow g2) s2 (by omega) (by omega)
theorem v_ACheck {n:Nat} {zc:bA} (hn:dt n zc) (hn':1100<n) {h:Heap} (hro:h.ro≤h.nx) {c:List AV} (hc:Cfg h zc c) {ps:List StZ} {vp vl vt:AV} {A B C D:Nat→AV} (hs:ep n h ps vp A B C D) {M:Nat} {S T:Nat→Int} (hl:d0 n h vl M S T) (hv:dS n h vt) :
    aR (bT n (.agg c) (.agg (HS vp vl vt)) h) fun r h'=>ba h h'∧∃ fs,RdF h' r fs∧Chk zc ps M S T fs:=by
  unfold bT MA FR
  obtain ⟨t,pp,rfl,ht,hp⟩:=hc
  refine aR.bind (mr ..) ?_
  rintro w h1 ⟨hw,g1⟩
  refine aR.bind (mr ..) ?_
  rintro x h2 ⟨hx,g2⟩
  have g02:=g1.trans g2
  simp only [aD,gU (g2.cl hw),bC]
  refine aR.bind (alD hn (g02.le hro) (Cfg.mk' (ht.grow g02) (hp.grow g02))) ?_
  rintro _ h3 ⟨rfl,g3⟩
  have g03:=g02.trans g3
  have ap5:∀ (e:Int),(uP zc=false∧e=5∨uP zc=true∧ps.length≠zc.parts.length∧e=2)→aR (fun k:aL=>mI h3 1 [(.int .i64 0),(.int .i64 0)] [(0,2,.agg [.int .i64 e,.int .i64 0])] fun w x=>k w x) fun r h'=>ba h h'∧∃ fs,RdF h' r fs∧Chk zc ps M S T fs:=by
    intro e he
    refine aR.bind (D3 (l:=[.int .i64 e,.int .i64 0]) (fun k=>by rfl)) ?_
    rintro _ h4 ⟨rfl,hc4,g4⟩
    refine jT ⟨g03.trans g4,[(e,0)],⟨by simp,.inr ⟨_,_,_,_,rfl,fun _=>⟨_,hc4,fun i hi=>?_⟩⟩⟩,?_⟩
    · have:i=0:=by simpa using hi
      subst this
      exact ⟨by simp,rfl⟩
    · rcases he with ⟨h1,rfl⟩ | ⟨h1,h2,rfl⟩
      · exact .inl ⟨h1,rfl⟩
      · exact .inr (.inl ⟨h1,h2,rfl⟩)
  have b1:∀ (e:Int) (K:AV→aa),lh [(.int .i64 0),(.int .i64 0)] [(0,1,(.int .i64 e))] K=K (.agg [.int .i64 e,.int .i64 0]):=fun e K=>rfl
  simp only [b1]
  refine aJ.ifB (fun em=>ap5 5 (.inl ⟨by simpa using em,rfl⟩)) fun em=>?_
  have hm:uP zc=true:=by simpa using em
  obtain ⟨_,S',hps,_⟩:=id hp
  have hsp:=bK.len hs.sl
  simp only [aD,gU (g3.cl hx),WI,hsp,gU ((g2.trans g3).cl hw),bC,(hps.grow g03).len]
  refine aJ.ifB (fun el=>ap5 2 (.inr ⟨hm,by simp at el; omega,rfl⟩)) fun el=>?_
  have hlen:ps.length=zc.parts.length:=by simp at el; omega
  have hro3:=g03.le hro
  refine aR.bind (DN hro3 _ 0) ?_
  rintro y h4 ⟨hy,oy,g4⟩
  have f4:Flt h3 h4 y []:=⟨.nilslice,oy,.nil,hy,fun b hb=>by cases hb⟩
  refine aR.bind (aqu (g4.le hro3) g4) ?_
  rintro _ h5 ⟨c1,m1,rfl,s1,g5,_,_⟩
  have g35:=g4.trans g5
  refine aR.bind (aqu (g35.le hro3) g35) ?_
  rintro _ h6 ⟨c2,m2,rfl,s2,g6,_,l6⟩
  have g36:=g35.trans g6
  have hne:m1≠m2:=by have:=s1.ltm; omega
  simp only [aD,gU ((g3.trans g36).cl hx),WI,hsp]
  have h8:=abF hm
  have hw3:=(g2.trans g3).cl hw
  refine aJ.mono (c_7 hn hn' hm hro3 (ht.grow g03) (hp.grow g03) hw3 (hs.grow g03) hlen (fun h' fs g f tl=>c_6 hn hm hro3 (ht.grow g03) (hp.grow g03) hw3 (hs.grow g03) hlen (hl.grow g03) (hv.grow g03) (g3.cl hx) g f tl) n 0 h6 [] (fun _=>0) ⟨g36,(f4.grow g5).grow g6,s1.grow g6,s2,hne⟩ .zero (by omega) (by omega)) ?_
  rintro r ⟨q1,q2⟩
  exact ⟨g03.trans q1,q2⟩
end Go.Proofs.YtpoobhhdgjgdgaaGreat.Sh
