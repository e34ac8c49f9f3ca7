/- audit.Check: what is told of one partition. -/
import Derived.Test.YtpoobhhdgjgdgaaGreatVA12VA14
set_option linter.all false
namespace Go.Proofs.YtpoobhhdgjgdgaaGreat.Sh
open Go.Ai
theorem cfI (n:Nat) (c:Nat) (a:Int) (h:Heap) (k:AV→Heap→aa):iI (bp n) (aW n) (aR n) (aQ n) (aJ n) (bi n) (bh n) (aE n) (aD n) (ba n) (au n) (ar n) (kT aw) (.func 32 [] [.ptr c 0]) [.int .i64 a] h k=au n a (.ptr c 0) h fun b h=>k (.bool b) h:=rfl
theorem cfU (n:Nat) (c:Nat) (a:Int) (h:Heap) (k:AV→Heap→aa):iI (bp n) (aW n) (aR n) (aQ n) (aJ n) (bi n) (bh n) (aE n) (aD n) (ba n) (au n) (ar n) (kT aw) (.func 38 [] [.ptr c 0]) [.int .u64 a] h k=ar n a (.ptr c 0) h fun b h=>k (.bool b) h:=rfl
theorem cfP (n:Nat) (c:Nat) (a b:Int) (h:Heap) (k:AV→Heap→aa):iI (bp n) (aW n) (aR n) (aQ n) (aJ n) (bi n) (bh n) (aE n) (aD n) (ba n) (au n) (ar n) (kT aw) (.func 39 [] [.ptr c 0]) [.agg [.int .i64 a,.int .i64 b]] h k=kT dblG [.agg [.int .i64 a,.int .i64 b],.ptr c 0] h k:=rfl
theorem cfF (n:Nat) (y:Nat) (b:Bool) (e a:Int) (h:Heap) (k:AV→Heap→aa):iI (bp n) (aW n) (aR n) (aQ n) (aJ n) (bi n) (bh n) (aE n) (aD n) (ba n) (au n) (ar n) (kT aw) (.func 17 [] [.ptr y 0]) [.bool b,.int .i64 e,.int .i64 a] h k=aQ n b e a (.ptr y 0) h fun h=>k (.tuple []) h:=rfl
set_option linter.unusedSectionVars false
section
variable {n:Nat} {h0:Heap} (hro:h0.ro≤h0.nx) {w x y s c1 m1 c2 m2 j:Nat} {vp:AV} {v45:Int} {fs:List (Int × Int)} {L:List AV} {J:aL→bJ} {Q:AV × Heap→Prop}
include hro
theorem c_15 {f2:Int→Int} {va:AV} {m:Nat} {F U:Nat→Int} (hs:OwIn h0 va m F U):∀ (q i:Nat) (h:Heap) (f1:Int→Int) (tw:Bool),AS h0 h y fs c1 m1 f1 c2 m2 f2 s L→i≤m→m-i<q→
    (∀ h' tw',AS h0 h' y fs c1 m1 (Ke f1 (TZ F m i)) c2 m2 f2 s L→(tw=true∨acJ f1 (TZ F m i)=true→tw'=true)→aY h0 h'→aH ap1 (fun k=>ua n (bp n) (aW n) (aR n) (aQ n) (aJ n) (bi n) (bh n) (aE n) (aD n) (ba n) (au n) (ar n) (kT aw) k (J k) (.ptr w 0) (.ptr x 0) (.ptr y 0) (.func 17 [] [.ptr y 0]) (.func 32 [] [.ptr c1 0]) (.func 32 [] [.ptr c2 0]) (j:Int) (.ptr s 0) tw' vp v45 (j:Int) h') Q)→
    aH ap1 (fun k=>qM n (bp n) (aW n) (aR n) (aQ n) (aJ n) (bi n) (bh n) (aE n) (aD n) (ba n) (au n) (ar n) (kT aw) k (J k) q (.ptr w 0) (.ptr x 0) (.ptr y 0) (.func 17 [] [.ptr y 0]) (.func 32 [] [.ptr c1 0]) (.func 32 [] [.ptr c2 0]) (j:Int) (.ptr s 0) tw vp v45 (j:Int) va (m:Int) (i:Int) h) Q:=by
  intro q
  induction q with
  | zero=>omega
  | succ q ih=>
    intro i h f1 tw a hi hq H
    have hsm:=hs.1
    simp only [acq]
    unfold uw
    refine aH.ifB (fun e=>?_) fun e=>?_
    · rw [kg,fX] at e
      have hlt:i<m:=by omega
      rw [aqW hlt] at H
      refine aH.copy (hs.grow a.g) (a.g.le hro) hlt rfl rfl fun a1 b1 z d h1 hz g1=>?_
      have a1:=a.grow g1
      simp only [aB,gS hz,am3,cfI]
      refine aM.bind (alR a1.s1 (F i)) ?_
      rintro _ h2 ⟨rfl,s1,q2⟩
      have a2:=a1.see1 s1 q2
      have f16:∀ b:Bool,(tw=true∨aaU f1 (F i)=true→b=true)→aH ap1 (fun k=>qS n (bp n) (aW n) (aR n) (aQ n) (aJ n) (bi n) (bh n) (aE n) (aD n) (ba n) (au n) (ar n) (kT aw) k (qM n (bp n) (aW n) (aR n) (aQ n) (aJ n) (bi n) (bh n) (aE n) (aD n) (ba n) (au n) (ar n) (kT aw) k (J k) q) (.ptr w 0) (.ptr x 0) (.ptr y 0) (.func 17 [] [.ptr y 0]) (.func 32 [] [.ptr c1 0]) (.func 32 [] [.ptr c2 0]) (j:Int) (.ptr s 0) vp v45 (j:Int) va (m:Int) (i:Int) b h2) Q:=by
        intro b hb
        unfold qS
        simp only [aB,jq (show i≤9223372036854775806 by omega)]
        refine ih (i+1) h2 _ b a2 (by omega) (by omega) fun h' tw' a' ht' g'=>H h' tw' a' (fun h=>ht' ?_) g'
        simp only [acJ,Bool.or_eq_true] at h
        rcases h with h | h | h
        · exact .inl (hb (.inl h))
        · exact .inl (hb (.inr h))
        · exact .inr h
      refine aH.ifB (fun _=>f16 true fun _=>rfl) fun es=>f16 tw fun h=>?_
      rcases h with h | h
      · exact h
      · rw [es] at h; cases h
    · rw [kg,f8] at e
      have:i=m:=by omega
      subst this
      refine H h tw ?_ (fun h=>?_) a.g
      · rw [aod]; exact a
      · rw [aod] at h
        rcases h with h | h
        · exact h
        · cases h
theorem c_12 {f1:Int→Int} {va:AV} {l:List Int} (hs:cK h0 .i64 va l):∀ (q i:Nat) (h:Heap) (f2:Int→Int) (tw:Bool),AS h0 h y fs c1 m1 f1 c2 m2 f2 s L→i≤l.length→l.length-i<q→
    (∀ h' tw' f2',AS h0 h' y fs c1 m1 f1 c2 m2 f2' s L→(tw=true→tw'=true)→aY h0 h'→aH ap1 (fun k=>ud n (bp n) (aW n) (aR n) (aQ n) (aJ n) (bi n) (bh n) (aE n) (aD n) (ba n) (au n) (ar n) (kT aw) k (J k) (.ptr w 0) (.ptr x 0) (.ptr y 0) (.func 17 [] [.ptr y 0]) (.func 32 [] [.ptr c1 0]) (.func 32 [] [.ptr c2 0]) (j:Int) (.ptr s 0) tw' vp v45 (j:Int) h') Q)→
    aH ap1 (fun k=>qK n (bp n) (aW n) (aR n) (aQ n) (aJ n) (bi n) (bh n) (aE n) (aD n) (ba n) (au n) (ar n) (kT aw) k (J k) q (.ptr w 0) (.ptr x 0) (.ptr y 0) (.func 17 [] [.ptr y 0]) (.func 32 [] [.ptr c1 0]) (.func 32 [] [.ptr c2 0]) (j:Int) (.ptr s 0) tw vp v45 (j:Int) va (l.length:Int) (i:Int) h) Q:=by
  intro q
  induction q with
  | zero=>omega
  | succ q ih=>
    intro i h f2 tw a hi hq H
    have hsm:=hs.small
    simp only [acT]
    unfold uh
    refine aH.ifB (fun e=>?_) fun e=>H h tw f2 a (fun h=>h) a.g
    rw [kg,fX] at e
    simp only [(hs.grow a.g).el (show (0:Int)≤(i:Int) by omega) (by omega),cfI]
    refine aM.bind (alR a.s2 _) ?_
    rintro _ h2 ⟨rfl,s2,q2⟩
    have a2:=a.see2 s2 q2
    have f13:∀ b:Bool,(tw=true→b=true)→aH ap1 (fun k=>qW n (bp n) (aW n) (aR n) (aQ n) (aJ n) (bi n) (bh n) (aE n) (aD n) (ba n) (au n) (ar n) (kT aw) k (qK n (bp n) (aW n) (aR n) (aQ n) (aJ n) (bi n) (bh n) (aE n) (aD n) (ba n) (au n) (ar n) (kT aw) k (J k) q) (.ptr w 0) (.ptr x 0) (.ptr y 0) (.func 17 [] [.ptr y 0]) (.func 32 [] [.ptr c1 0]) (.func 32 [] [.ptr c2 0]) (j:Int) (.ptr s 0) vp v45 (j:Int) va (l.length:Int) (i:Int) b h2) Q:=by
      intro b hb
      unfold qW
      simp only [aB,jq (show i≤9223372036854775806 by omega)]
      exact ih (i+1) h2 _ b a2 (by omega) (by omega) fun h' tw' f2' a' ht' g'=>H h' tw' f2' a' (fun h=>ht' (hb h)) g'
    simp only [Zl]
    exact aH.ifB (fun _=>f13 true fun _=>rfl) fun _=>f13 tw fun h=>h
theorem c_9 {f1 f2:Int→Int} {va:AV} {m:Nat} {A B:Nat→Int} {U:Nat→AV} {C:Nat→Int} {W:Nat→AV} (hs:bI h0 va 5 m fun i=>ahl (A i) (B i) (U i) (C i) (W i)) {c3 m3:Nat} (n1:m3≠m1) (n2:m3≠m2) :
    ∀ (q i:Nat) (h:Heap) (f3:Int→Int) (tw:Bool),AS h0 h y fs c1 m1 f1 c2 m2 f2 s L→cp emI h0 h c3 m3 f3→i≤m→m-i<q→
    (∀ h' tw',AS h0 h' y fs c1 m1 f1 c2 m2 f2 s L→(tw=true→tw'=true)→aY h0 h'→aH ap1 (fun k=>rA n (bp n) (aW n) (aR n) (aQ n) (aJ n) (bi n) (bh n) (aE n) (aD n) (ba n) (au n) (ar n) (kT aw) k (J k) (.ptr w 0) (.ptr x 0) (.ptr y 0) (.func 17 [] [.ptr y 0]) (.func 32 [] [.ptr c1 0]) (.func 32 [] [.ptr c2 0]) (j:Int) (.ptr s 0) tw' vp v45 (j:Int) h') Q)→
    aH ap1 (fun k=>rK n (bp n) (aW n) (aR n) (aQ n) (aJ n) (bi n) (bh n) (aE n) (aD n) (ba n) (au n) (ar n) (kT aw) k (J k) q (.ptr w 0) (.ptr x 0) (.ptr y 0) (.func 17 [] [.ptr y 0]) (.func 32 [] [.ptr c1 0]) (.func 32 [] [.ptr c2 0]) (j:Int) (.ptr s 0) tw (.func 32 [] [.ptr c3 0]) vp v45 (j:Int) va (m:Int) (i:Int) h) Q:=by
  intro q
  induction q with
  | zero=>omega
  | succ q ih=>
    intro i h f3 tw a s3 hi hq H
    have hsm:=hs.1
    simp only [af0]
    unfold vK
    refine aH.ifB (fun e=>?_) fun e=>H h tw a (fun h=>h) a.g
    rw [kg,fX] at e
    have hlt:i<m:=by omega
    refine aH.copy (hs.grow a.g) (a.g.le hro) hlt rfl rfl fun a1 b1 z d h1 hz g1=>?_
    have a1:=a.grow g1
    have s31:=s3.grow g1
    simp only [aB,gS hz,proc_0,cfI]
    refine aM.bind (alR s31 _) ?_
    rintro _ h2 ⟨rfl,s32,q2⟩
    have a2:=a1.see3 s31 n1 n2 q2
    have f10:∀ b:Bool,(tw=true→b=true)→aH ap1 (fun k=>qT n (bp n) (aW n) (aR n) (aQ n) (aJ n) (bi n) (bh n) (aE n) (aD n) (ba n) (au n) (ar n) (kT aw) k (rK n (bp n) (aW n) (aR n) (aQ n) (aJ n) (bi n) (bh n) (aE n) (aD n) (ba n) (au n) (ar n) (kT aw) k (J k) q) (.ptr w 0) (.ptr x 0) (.ptr y 0) (.func 17 [] [.ptr y 0]) (.func 32 [] [.ptr c1 0]) (.func 32 [] [.ptr c2 0]) (j:Int) (.ptr s 0) (.func 32 [] [.ptr c3 0]) vp v45 (j:Int) va (m:Int) (i:Int) b h2) Q:=by
      intro b hb
      unfold qT
      simp only [aB,jq (show i≤9223372036854775806 by omega)]
      exact ih (i+1) h2 _ b a2 s32 (by omega) (by omega) fun h' tw' a' ht' g'=>H h' tw' a' (fun h=>ht' (hb h)) g'
    exact aH.ifB (fun _=>f10 true fun _=>rfl) fun _=>f10 tw fun h=>h
end
def one (tw mi su:Bool) (j:Int):List (Int × Int):=fl tw 280 j++(fl (!mi) 281 j++fl (!su) 282 j)
theorem one_len (tw mi su:Bool) (j:Int):(one tw mi su j).length≤3:=by cases tw<;>cases mi<;>cases su<;>simp [one,fl]
theorem c_8 {n:Nat} {zc:bA} (hn:dm n zc) (hn':1100<n) (hm:uD zc=true) {h0:Heap} (hro:h0.ro≤h0.nx) {w x y s c1 m1 c2 m2 j:Nat} {vp:AV} {v45:Int} {fs:List (Int × Int)} {J:aL→bJ} {Q:AV × Heap→Prop}
    {t pp:AV} (ht:cK h0 .i64 t zc.fh) (hp:di h0 pp zc.parts) (hw:h0.cl w (qr zc t pp)) (hj:j<zc.parts.length) {z:StZ} {va vb vc vd:AV} (hst:eM n h0 z va vb vc vd) {h:Heap} {f1 f2:Int→Int} {tw:Bool} (a:AS h0 h y fs c1 m1 f1 c2 m2 f2 s (stC va vb z.whole vc vd)) (hL:fs.length<990)
    (H:∀ h' mi su,AS h0 h' y (fs++one tw mi su j) c1 m1 f1 c2 m2 f2 s (stC va vb z.whole vc vd)→(mi=true→∀ i,i<z.m→Uv zc (z.F i) j true 0)→(su=true→SumsOk zc j z)→aH ap1 (fun k=>J k (.ptr w 0) (.ptr x 0) (.ptr y 0) (.func 17 [] [.ptr y 0]) (.func 32 [] [.ptr c1 0]) (.func 32 [] [.ptr c2 0]) vp v45 ((j+1:Nat):Int) h') Q) :
    aH ap1 (fun k=>rA n (bp n) (aW n) (aR n) (aQ n) (aJ n) (bi n) (bh n) (aE n) (aD n) (ba n) (au n) (ar n) (kT aw) k (J k) (.ptr w 0) (.ptr x 0) (.ptr y 0) (.func 17 [] [.ptr y 0]) (.func 32 [] [.ptr c1 0]) (.func 32 [] [.ptr c2 0]) (j:Int) (.ptr s 0) tw vp v45 (j:Int) h) Q:=by
  unfold rA
  simp only [cfF]
  have hp8:zc.parts.length<1000:=by
    simp only [uD,fV] at hm
    have h1:=hm.1
    simp only [nK,fV] at h1
    obtain ⟨_,_,_,_,_,_,_,m8⟩:=h1
    simp [jd] at m8; omega
  have fl1:∀ b c a,(fl b c a).length≤1:=fun b c a=>by cases b<;>simp [fl]
  refine dl.bind (ZZ (a.g.le hro) a.g a.fl (by omega) tw 280 j) ?_
  rintro h1 ⟨x1,g1,q1⟩
  have a1:=a.fault x1 g1 q1
  simp only [aB,gS (g1.cl hw),bC,gS a1.own.cl,Ql (show (stC va vb z.whole vc vd).length=5 from rfl)]
  refine aM.bind (v_mine hn hn' (g1.le hro) (Cfg.mk' (ht.grow g1) (hp.grow g1)) hj (hst.grow g1)) ?_
  rintro mi h2 ⟨g2,hmi⟩
  have a2:=a1.grow g2
  have l1:(fs++fl tw 280 (j:Int)).length<992:=by rw [gt]; have:=fl1 tw 280 j; omega
  refine dl.bind (ZZ (a2.g.le hro) a2.g a2.fl (by omega) (!mi) 281 j) ?_
  rintro h3 ⟨x3,g3,q3⟩
  have a3:=a2.fault x3 g3 q3
  have l3:((fs++fl tw 280 (j:Int))++fl (!mi) 281 (j:Int)).length<994:=by rw [gt]; have:=fl1 (!mi) 281 j; omega
  simp only [aB,gS (g3.cl hw),bC,gS a3.own.cl,Ql (show (stC va vb z.whole vc vd).length=5 from rfl)]
  refine aM.bind (v_sums hn hn' hm (g3.le hro) (Cfg.mk' (ht.grow g3) (hp.grow g3)) hj (hst.grow g3)) ?_
  rintro su h4 ⟨g4,hsu⟩
  have a4:=a3.grow g4
  refine dl.bind (ZZ (a4.g.le hro) a4.g a4.fl (by omega) (!su) 282 j) ?_
  rintro h5 ⟨x5,g5,q5⟩
  have a5:=a4.fault x5 g5 q5
  rw [List.append_assoc,List.append_assoc] at a5
  simp only [aB,jq (show j≤9223372036854775806 by omega)]
  exact H h5 mi su a5 hmi hsu
end Go.Proofs.YtpoobhhdgjgdgaaGreat.Sh
/- audit.Check: all that is told. -/
namespace Go.Proofs.YtpoobhhdgjgdgaaGreat.Sh
open Go.Ai
def stZ (ps:List StZ) (j:Nat):StZ:=ps.getD j default
def frs (z:StZ):List Int:=TZ z.F z.m 0
def pre (ps:List StZ):Nat→List Int
  | 0=>[]
  | j+1=>pre ps j++frs (stZ ps j)
theorem aez:∀ (a b:List Int) (f:Int→Int),Ke f (a++b)=Ke (Ke f a) b
  | [],_,_=>rfl
  | x::a,b,f=>aez a b (Kc f x)
inductive Told (zc:bA) (ps:List StZ):Nat→List (Int × Int)→Prop
  | zero:Told zc ps 0 []
  | step {j:Nat} {fs:List (Int × Int)} (tw mi su:Bool):Told zc ps j fs→(acJ (Ke (fun _=>0) (pre ps j)) (frs (stZ ps j))=true→tw=true)→(mi=true→∀ i,i<(stZ ps j).m→Uv zc ((stZ ps j).F i) j true 0)→(su=true→SumsOk zc j (stZ ps j))→Told zc ps (j+1) (fs++one tw mi su j)
theorem Told.len {zc:bA} {ps:List StZ} {j:Nat} {fs:List (Int × Int)} (t:Told zc ps j fs):fs.length≤3*j:=by
  induction t with
  | zero=>simp
  | @step j fs tw mi su _ _ _ _ ih=>
    rw [gt]
    have:=one_len tw mi su j
    omega
theorem Qm {zc:bA} (hm:uD zc=true):zc.parts.length≤8:=by
  simp only [uD,fV] at hm
  have h1:=hm.1
  simp only [nK,fV] at h1
  obtain ⟨_,_,_,_,_,_,_,m8⟩:=h1
  simp [jd] at m8; omega
structure BS (h0 h:Heap) (y:Nat) (fs:List (Int × Int)) (c1 m1:Nat) (f1:Int→Int) (c2 m2:Nat) (f2:Int→Int):Prop where
  g:aY h0 h
  fl:Flt h0 h y fs
  s1:cp emI h0 h c1 m1 f1
  s2:cp emI h0 h c2 m2 f2
  ne:m1≠m2
theorem c_7 {n:Nat} {zc:bA} (hn:dm n zc) (hn':1100<n) (hm:uD zc=true) {h0:Heap} (hro:h0.ro≤h0.nx) {w x y c1 m1 c2 m2:Nat} {Q:AV × Heap→Prop}
    {t pp:AV} (ht:cK h0 .i64 t zc.fh) (hp:di h0 pp zc.parts) (hw:h0.cl w (qr zc t pp)) {ps:List StZ} {vp:AV} {A B C D:Nat→AV} (hs:dJ n h0 ps vp A B C D) (hlen:ps.length=zc.parts.length)
    (H:∀ h' fs,aY h0 h'→Flt h0 h' y fs→Told zc ps ps.length fs→aH ap1 (fun k=>rQ n (bp n) (aW n) (aR n) (aQ n) (aJ n) (bi n) (bh n) (aE n) (aD n) (ba n) (au n) (ar n) (kT aw) k (.ptr w 0) (.ptr x 0) (.ptr y 0) (.func 17 [] [.ptr y 0]) h') Q) :
    ∀ (q j:Nat) (h:Heap) (fs:List (Int × Int)) (f2:Int→Int),BS h0 h y fs c1 m1 (Ke (fun _=>0) (pre ps j)) c2 m2 f2→Told zc ps j fs→j≤ps.length→ps.length-j<q→
    aH ap1 (fun k=>ns n (bp n) (aW n) (aR n) (aQ n) (aJ n) (bi n) (bh n) (aE n) (aD n) (ba n) (au n) (ar n) (kT aw) k q (.ptr w 0) (.ptr x 0) (.ptr y 0) (.func 17 [] [.ptr y 0]) (.func 32 [] [.ptr c1 0]) (.func 32 [] [.ptr c2 0]) vp (ps.length:Int) (j:Int) h) Q:=by
  intro q
  induction q with
  | zero=>omega
  | succ q ih=>
    intro j h fs f2 b tl hj hq
    have h8:=Qm hm
    simp only [agb]
    unfold vy
    refine aH.ifB (fun e=>?_) fun e=>?_
    · rw [kg,fX] at e
      have hlt:j<ps.length:=by omega
      refine aH.copyO (bI.grow hs.sl b.g) (b.g.le hro) hlt rfl rfl fun a1 b1 s d h1 hso g1=>?_
      have a1:AS h0 h1 y fs c1 m1 (Ke (fun _=>0) (pre ps j)) c2 m2 f2 s (stC (A j) (B j) (stZ ps j).whole (C j) (D j)):=⟨b.g.trans g1,b.fl.grow g1,b.s1.grow g1,b.s2.grow g1,b.ne,hso,rfl⟩
      have hst:eM n h0 (stZ ps j) (A j) (B j) (C j) (D j):=hs.st j hlt
      simp only [aB,gS hso.cl,st_0,bI.len hst.own]
      have hfl:=tl.len
      refine c_15 hro (J:=fun k=>ns n (bp n) (aW n) (aR n) (aQ n) (aJ n) (bi n) (bh n) (aE n) (aD n) (ba n) (au n) (ar n) (kT aw) k q) hst.own n 0 h1 _ false a1 (by omega) (by have:=hst.om; omega) fun h2 tw2 a2 ht2 g2=>?_
      unfold ua
      obtain ⟨sl,hsl,hsn⟩:=hst.slots
      simp only [aB,gS a2.own.cl,st_3,hsl.len]
      refine c_12 hro (J:=fun k=>ns n (bp n) (aW n) (aR n) (aQ n) (aJ n) (bi n) (bh n) (aE n) (aD n) (ba n) (au n) (ar n) (kT aw) k q) hsl n 0 h2 _ tw2 a2 (by omega) (by omega) fun h3 tw3 f2' a3 ht3 g3=>?_
      unfold ud
      refine aM.bind (apq (a3.g.le hro) a3.g) ?_
      rintro _ h4 ⟨c3,m3,rfl,s3,g4,l3,l4⟩
      have a4:=a3.grow g4
      have n1:m3≠m1:=by have:=a3.s1.ltm; omega
      have n2:m3≠m2:=by have:=a3.s2.ltm; omega
      obtain ⟨m,A',B',U,C',V,hpm,hps,hUV⟩:=hst.procs
      simp only [aB,gS a4.own.cl,st_4,bI.len hps]
      refine c_9 hro (J:=fun k=>ns n (bp n) (aW n) (aR n) (aQ n) (aJ n) (bi n) (bh n) (aE n) (aD n) (ba n) (au n) (ar n) (kT aw) k q) hps n1 n2 n 0 h4 _ tw3 a4 s3 (by omega) (by omega) fun h5 tw5 a5 ht5 g5=>?_
      refine c_8 hn hn' hm hro (J:=fun k=>ns n (bp n) (aW n) (aR n) (aQ n) (aJ n) (bi n) (bh n) (aE n) (aD n) (ba n) (au n) (ar n) (kT aw) k q) ht hp hw (by omega) hst a5 (by omega) fun h6 mi su a6 hmi hsu=>?_
      refine ih (j+1) h6 _ f2' ⟨a6.g,a6.fl,?_,a6.s2,a6.ne⟩ (.step tw5 mi su tl (fun hd=>ht5 (ht3 (ht2 (.inr hd)))) hmi hsu) (by omega) (by omega)
      have:=a6.s1
      rw [show pre ps (j+1)=pre ps j++frs (stZ ps j) from rfl,aez]
      exact this
    · rw [kg,f8] at e
      have:j=ps.length:=by omega
      subst this
      exact H h fs b.g b.fl tl
def Chk (zc:bA) (ps:List StZ) (M:Nat) (S T:Nat→Int) (fs:List (Int × Int)):Prop:=
  (uD zc=false∧fs = [(5,0)])∨(uD zc=true∧ps.length≠zc.parts.length∧fs = [(2,0)])∨
  (uD zc=true∧ps.length=zc.parts.length∧∃ fs0 tw ca,Told zc ps ps.length fs0∧fs=fs0++(fl tw 280 ps.length++fl (!ca) 281 ps.length)∧(ca=true→∀ i,i<M→eX zc (S i) (T i)))
def RdF (h:Heap) (r:AV) (fs:List (Int × Int)):Prop:=bI h r 2 fs.length fun i=>[.int .i64 (fs.getD i (0,0)).1,.int .i64 (fs.getD i (0,0)).2]
theorem eM.shut {n:Nat} {h:Heap} {z:StZ} {a b c d:AV} (s:eM n h z a b c d):eM n (h.shut true) z a b c d:=⟨s.own,s.om,s.big,s.free,s.fm,s.slots,s.procs⟩
theorem dJ.shut {n:Nat} {h:Heap} {ps:List StZ} {v:AV} {A B C D:Nat→AV} (s:dJ n h ps v A B C D):dJ n (h.shut true) ps v A B C D:=⟨s.sl,fun i hi=>(s.st i hi).shut⟩
theorem c_0 {n:Nat} {zc:bA} (hn:dm n zc) (hm:uD zc=true) {h0:Heap} (hro:h0.ro≤h0.nx) {w x y:Nat} {t pp:AV} (ht:cK h0 .i64 t zc.fh) (hp:di h0 pp zc.parts) (hw:h0.cl w (qr zc t pp)) {ps:List StZ} {vp vl vt:AV} {A B C D:Nat→AV} (hs:dJ n h0 ps vp A B C D) (hlen:ps.length=zc.parts.length) {M:Nat} {S T:Nat→Int} (hl:c8 n h0 vl M S T) (hv:cT n h0 vt) (hx:h0.cl x (sq vp vl vt))
    {h:Heap} (g:aY h0 h) {fs:List (Int × Int)} (f:Flt h0 h y fs) (tl:Told zc ps ps.length fs) (tw:Bool) :
    aH ap1 (fun k=>vT n (bp n) (aW n) (aR n) (aQ n) (aJ n) (bi n) (bh n) (aE n) (aD n) (ba n) (au n) (ar n) (kT aw) k (.ptr w 0) (.ptr x 0) (.ptr y 0) (.func 17 [] [.ptr y 0]) tw h) fun r=>aY h0 r.2∧∃ fs,RdF r.2 r.1 fs∧Chk zc ps M S T fs:=by
  unfold vT
  have h8:=Qm hm
  have hfl:=tl.len
  have fl1:∀ b c a,(fl b c a).length≤1:=fun b c a=>by cases b<;>simp [fl]
  obtain ⟨_,S',hps,_⟩:=id hp
  simp only [aB,gS (g.cl hw),bC,(hps.grow g).len,cfF]
  refine dl.bind (ZZ (g.le hro) g f (by omega) tw 280 zc.parts.length) ?_
  rintro h1 ⟨f1,g1,q1⟩
  have l1:(fs++fl tw 280 (zc.parts.length:Int)).length<900:=by rw [gt]; have:=fl1 tw 280 zc.parts.length; omega
  simp only [aB,gS (g1.cl hw),bC,gS (g1.cl hx),ajq]
  refine aM.bind (v_cached hn hm (h:=h1.shut true) (fY _) (Cfg.shut (Cfg.mk' (ht.grow g1) (hp.grow g1))) (hs.grow g1).shut hlen ⟨(hl.grow g1).sl,hl.lm,hl.lo⟩ (have h:cT n h1 vt:=hv.grow g1; h)) ?_
  rintro ca h2 ⟨g2,hca⟩
  have g2':=g1.trans g2.shut
  have f2:=f1.grow g2.shut
  simp only [aB,gS (g2'.cl hw),bC,(hps.grow g2').len]
  refine dl.bind (ZZ (g2'.le hro) g2' f2 (by omega) (!ca) 281 zc.parts.length) ?_
  rintro h3 ⟨f3,g3,q3⟩
  obtain ⟨v,ho,ha,_,_⟩:=f3
  simp only [aB,gS ho.cl,any_0]
  rw [List.append_assoc] at ha
  refine jL ⟨g3,_,aiq ha ?_,.inr (.inr ⟨hm,hlen,fs,tw,ca,tl,by rw [hlen],hca⟩)⟩
  rw [gt,gt]
  have:=fl1 tw 280 zc.parts.length
  have:=fl1 (!ca) 281 zc.parts.length
  omega
theorem c_1 {n:Nat} {zc:bA} (hn:dm n zc) (hm:uD zc=true) {h0:Heap} (hro:h0.ro≤h0.nx) {w x y:Nat} {t pp:AV} (ht:cK h0 .i64 t zc.fh) (hp:di h0 pp zc.parts) (hw:h0.cl w (qr zc t pp)) {ps:List StZ} {vp vl vt:AV} {A B C D:Nat→AV} (hs:dJ n h0 ps vp A B C D) (hlen:ps.length=zc.parts.length) {M:Nat} {S T:Nat→Int} (hl:c8 n h0 vl M S T) (hv:cT n h0 vt) (hx:h0.cl x (sq vp vl vt))
    {fs:List (Int × Int)} (tl:Told zc ps ps.length fs) {c2 m2:Nat} {m:Nat} {a b c:Nat→Int} {p q r:Nat→Bool} (hsl:bI h0 vt 6 m fun i=>trC (a i) (b i) (c i) (p i) (q i) (r i)) :
    ∀ (u i:Nat) (h:Heap) (f2:Int × Int→Int) (tw:Bool),aY h0 h→Flt h0 h y fs→cp emP h0 h c2 m2 f2→i≤m→m-i<u→
    aH ap1 (fun k=>rO n (bp n) (aW n) (aR n) (aQ n) (aJ n) (bi n) (bh n) (aE n) (aD n) (ba n) (au n) (ar n) (kT aw) k u (.ptr w 0) (.ptr x 0) (.ptr y 0) (.func 17 [] [.ptr y 0]) tw (.func 39 [] [.ptr c2 0]) vt (m:Int) (i:Int) h) fun r=>aY h0 r.2∧∃ fs,RdF r.2 r.1 fs∧Chk zc ps M S T fs:=by
  intro u
  induction u with
  | zero=>omega
  | succ u ih=>
    intro i h f2 tw g f s2 hi hu
    simp only [afJ]
    unfold vh
    have hsm:=hsl.1
    refine aH.ifB (fun e=>?_) fun e=>c_0 hn hm hro ht hp hw hs hlen hl hv hx g f tl tw
    rw [kg,fX] at e
    have hlt:i<m:=by omega
    refine aH.copy (hsl.grow g) (g.le hro) hlt rfl rfl fun a1 b1 z d h1 hz g1=>?_
    simp only [aB,gS hz,tr_0,tr_1,apB,cfP]
    have s21:=s2.grow g1
    refine aM.bind (v_seenP s21 (a i) (b i)) ?_
    rintro _ h2 ⟨⟨bt,rfl⟩,s22,q2⟩
    have g2:aY h0 h2:=q2.grow (g.trans g1) fun b hb=>hb▸s2.lowm
    have f2':=(f.grow g1).seen s21 q2
    have f2x:∀ b,aH ap1 (fun k=>rB n (bp n) (aW n) (aR n) (aQ n) (aJ n) (bi n) (bh n) (aE n) (aD n) (ba n) (au n) (ar n) (kT aw) k (rO n (bp n) (aW n) (aR n) (aQ n) (aJ n) (bi n) (bh n) (aE n) (aD n) (ba n) (au n) (ar n) (kT aw) k u) (.ptr w 0) (.ptr x 0) (.ptr y 0) (.func 17 [] [.ptr y 0]) (.func 39 [] [.ptr c2 0]) vt (m:Int) (i:Int) b h2) fun r=>aY h0 r.2∧∃ fs,RdF r.2 r.1 fs∧Chk zc ps M S T fs:=by
      intro b
      unfold rB
      simp only [aB,jq (show i≤9223372036854775806 by omega)]
      exact ih (i+1) h2 _ b g2 f2' s22 (by omega) (by omega)
    simp only [Zl]
    exact aH.ifB (fun _=>f2x true) fun _=>f2x tw
theorem c_6 {n:Nat} {zc:bA} (hn:dm n zc) (hm:uD zc=true) {h0:Heap} (hro:h0.ro≤h0.nx) {w x y:Nat} {t pp:AV} (ht:cK h0 .i64 t zc.fh) (hp:di h0 pp zc.parts) (hw:h0.cl w (qr zc t pp)) {ps:List StZ} {vp vl vt:AV} {A B C D:Nat→AV} (hs:dJ n h0 ps vp A B C D) (hlen:ps.length=zc.parts.length) {M:Nat} {S T:Nat→Int} (hl:c8 n h0 vl M S T) (hv:cT n h0 vt) (hx:h0.cl x (sq vp vl vt))
    {h:Heap} (g:aY h0 h) {fs:List (Int × Int)} (f:Flt h0 h y fs) (tl:Told zc ps ps.length fs) :
    aH ap1 (fun k=>rQ n (bp n) (aW n) (aR n) (aQ n) (aJ n) (bi n) (bh n) (aE n) (aD n) (ba n) (au n) (ar n) (kT aw) k (.ptr w 0) (.ptr x 0) (.ptr y 0) (.func 17 [] [.ptr y 0]) h) fun r=>aY h0 r.2∧∃ fs,RdF r.2 r.1 fs∧Chk zc ps M S T fs:=by
  unfold rQ
  refine aM.bind (v_newU (g.le hro) g) ?_
  rintro _ h1 ⟨c1,m1,rfl,s1,g1,_,_⟩
  have g01:=g.trans g1
  refine aM.bind (v_newP (g01.le hro) g01) ?_
  rintro _ h2 ⟨c2,m2,rfl,s2,g2,_,l2⟩
  have hne:m1≠m2:=by have:=s1.ltm; omega
  have g02:=g01.trans g2
  have hlm:=hl.lm
  simp only [aB,gS (g02.cl hx),aim,bI.len hl.sl]
  have key:∀ (u i:Nat) (h:Heap) (f1:Int→Int) (tw:Bool),aY h0 h→Flt h0 h y fs→cp emU h0 h c1 m1 f1→cp emP h0 h c2 m2 (fun _=>0)→i≤M→M-i<u→
      aH ap1 (fun k=>rx n (bp n) (aW n) (aR n) (aQ n) (aJ n) (bi n) (bh n) (aE n) (aD n) (ba n) (au n) (ar n) (kT aw) k u (.ptr w 0) (.ptr x 0) (.ptr y 0) (.func 17 [] [.ptr y 0]) tw (.func 38 [] [.ptr c1 0]) (.func 39 [] [.ptr c2 0]) vl (M:Int) (i:Int) h) fun r=>aY h0 r.2∧∃ fs,RdF r.2 r.1 fs∧Chk zc ps M S T fs:=by
    intro u
    induction u with
    | zero=>omega
    | succ u ih=>
      intro i h f1 tw g f s1 s2 hi hu
      simp only [afw]
      unfold vB
      have hsm:=hl.sl.1
      refine aH.ifB (fun e=>?_) fun e=>?_
      · rw [kg,fX] at e
        have hlt:i<M:=by omega
        refine aH.copy (bI.grow hl.sl g) (g.le hro) hlt rfl rfl fun a1 b1 z d h1 hz g1=>?_
        simp only [aB,gS hz,ln_1,cfU]
        have s11:=s1.grow g1
        refine aM.bind (v_seenU s11 (T i)) ?_
        rintro _ h2 ⟨rfl,s12,q2⟩
        have g2:aY h0 h2:=q2.grow (g.trans g1) fun b hb=>hb▸s1.lowm
        have f2':=(f.grow g1).seen s11 q2
        have s22:=(s2.grow g1).other s11 hne.symm q2
        have f5:∀ b,aH ap1 (fun k=>rJ n (bp n) (aW n) (aR n) (aQ n) (aJ n) (bi n) (bh n) (aE n) (aD n) (ba n) (au n) (ar n) (kT aw) k (rx n (bp n) (aW n) (aR n) (aQ n) (aJ n) (bi n) (bh n) (aE n) (aD n) (ba n) (au n) (ar n) (kT aw) k u) (.ptr w 0) (.ptr x 0) (.ptr y 0) (.func 17 [] [.ptr y 0]) (.func 38 [] [.ptr c1 0]) (.func 39 [] [.ptr c2 0]) vl (M:Int) (i:Int) b h2) fun r=>aY h0 r.2∧∃ fs,RdF r.2 r.1 fs∧Chk zc ps M S T fs:=by
          intro b
          unfold rJ
          simp only [aB,jq (show i≤9223372036854775806 by omega)]
          exact ih (i+1) h2 _ b g2 f2' s12 s22 (by omega) (by omega)
        exact aH.ifB (fun _=>f5 true) fun _=>f5 tw
      · unfold AM
        obtain ⟨m,a,b,c,p,q,r,hm2,hsl⟩:=id hv
        simp only [aB,gS (g.cl hx),amv,bI.len hsl]
        exact c_1 hn hm hro ht hp hw hs hlen hl hv hx tl hsl n 0 h _ tw g f s2 (by omega) (by omega)
  exact key n 0 h2 (fun _=>0) false g02 ((f.grow g1).grow g2) (s1.grow g2) s2 (by omega) (by omega)
theorem aoq {n:Nat} {zc:bA} (hn:dm n zc) (hn':1100<n) {h:Heap} (hro:h.ro≤h.nx) {c:List AV} (hc:Cfg h zc c) {ps:List StZ} {vp vl vt:AV} {A B C D:Nat→AV} (hs:dJ n h ps vp A B C D) {M:Nat} {S T:Nat→Int} (hl:c8 n h vl M S T) (hv:cT n h vt) :
    aM (bB n (.agg c) (.agg (sq vp vl vt)) h) fun r h'=>aY h h'∧∃ fs,RdF h' r fs∧Chk zc ps M S T fs:=by
  unfold bB Ma Fy
  obtain ⟨t,pp,rfl,ht,hp⟩:=hc
  refine aM.bind (m7 ..) ?_
  rintro w h1 ⟨hw,g1⟩
  refine aM.bind (m7 ..) ?_
  rintro x h2 ⟨hx,g2⟩
  have g02:=g1.trans g2
  simp only [aB,gS (g2.cl hw),bC]
  refine aM.bind (v_May hn (g02.le hro) (Cfg.mk' (ht.grow g02) (hp.grow g02))) ?_
  rintro _ h3 ⟨rfl,g3⟩
  have g03:=g02.trans g3
  have apr:∀ (e:Int),(uD zc=false∧e=5∨uD zc=true∧ps.length≠zc.parts.length∧e=2)→aM (fun k:aL=>l8 h3 1 [(.int .i64 0),(.int .i64 0)] [(0,2,.agg [.int .i64 e,.int .i64 0])] fun w x=>k w x) fun r h'=>aY h h'∧∃ fs,RdF h' r fs∧Chk zc ps M S T fs:=by
    intro e he
    refine aM.bind (wi (l:=[.int .i64 e,.int .i64 0]) (fun k=>by rfl)) ?_
    rintro _ h4 ⟨rfl,hc4,g4⟩
    refine jL ⟨g03.trans g4,[(e,0)],⟨by simp,.inr ⟨_,_,_,_,rfl,fun _=>⟨_,hc4,fun i hi=>?_⟩⟩⟩,?_⟩
    · have:i=0:=by simpa using hi
      subst this
      exact ⟨by simp,rfl⟩
    · rcases he with ⟨h1,rfl⟩ | ⟨h1,h2,rfl⟩
      · exact .inl ⟨h1,rfl⟩
      · exact .inr (.inl ⟨h1,h2,rfl⟩)
  have b1:∀ (e:Int) (K:AV→aa),kM [(.int .i64 0),(.int .i64 0)] [(0,1,(.int .i64 e))] K=K (.agg [.int .i64 e,.int .i64 0]):=fun e K=>rfl
  simp only [b1]
  refine aH.ifB (fun em=>apr 5 (.inl ⟨by simpa using em,rfl⟩)) fun em=>?_
  have hm:uD zc=true:=by simpa using em
  obtain ⟨_,S',hps,_⟩:=id hp
  have hsp:=bI.len hs.sl
  simp only [aB,gS (g3.cl hx),UB,hsp,gS ((g2.trans g3).cl hw),bC,(hps.grow g03).len]
  refine aH.ifB (fun el=>apr 2 (.inr ⟨hm,by simp at el; omega,rfl⟩)) fun el=>?_
  have hlen:ps.length=zc.parts.length:=by simp at el; omega
  have hro3:=g03.le hro
  refine aM.bind (DV hro3 _ 0) ?_
  rintro y h4 ⟨hy,oy,g4⟩
  have f4:Flt h3 h4 y []:=⟨.nilslice,oy,.nil,hy,fun b hb=>by cases hb⟩
  refine aM.bind (apq (g4.le hro3) g4) ?_
  rintro _ h5 ⟨c1,m1,rfl,s1,g5,_,_⟩
  have g35:=g4.trans g5
  refine aM.bind (apq (g35.le hro3) g35) ?_
  rintro _ h6 ⟨c2,m2,rfl,s2,g6,_,l6⟩
  have g36:=g35.trans g6
  have hne:m1≠m2:=by have:=s1.ltm; omega
  simp only [aB,gS ((g3.trans g36).cl hx),UB,hsp]
  have h8:=Qm hm
  have hw3:=(g2.trans g3).cl hw
  refine aH.mono (c_7 hn hn' hm hro3 (ht.grow g03) (hp.grow g03) hw3 (hs.grow g03) hlen (fun h' fs g f tl=>c_6 hn hm hro3 (ht.grow g03) (hp.grow g03) hw3 (hs.grow g03) hlen (hl.grow g03) (hv.grow g03) (g3.cl hx) g f tl) n 0 h6 [] (fun _=>0) ⟨g36,(f4.grow g5).grow g6,s1.grow g6,s2,hne⟩ .zero (by omega) (by omega)) ?_
  rintro r ⟨q1,q2⟩
  exact ⟨g03.trans q1,q2⟩
end Go.Proofs.YtpoobhhdgjgdgaaGreat.Sh
/- The plain laws of what is told. -/
namespace Go.Proofs.YtpoobhhdgjgdgaaGreat.Sh
open Go.Ai
def Good (N:Int) (fs:List (Int × Int)):Prop:=(∀ e∈fs,e.1≠0∧0≤e.2∧e.2≤N)∧fs.Pairwise fun a b=>a.2<b.2∨a.2=b.2∧a.1<b.1
theorem frs_mem {z:StZ} {x:Int}:x∈frs z↔∃ k,k<z.m∧z.F k=x:=by
  unfold frs TZ
  simp [fJ,List.mem_range']
theorem aq7 {zc:bA} {f r e:Int} {b:Bool} {p:Nat} (h:Uv zc f r b e) (h':Uv zc f p true 0):e=0∧b=true∧r=p:=by
  rcases h' with ⟨h1,_⟩ | ⟨_,m,f0,f1,⟨_,q,q1,q2,q3,q4⟩ | ⟨q,_⟩⟩
  · exact (h1 rfl).elim
  · have hq:p=q:=by omega
    subst hq
    rcases h with ⟨_,_,_,h4⟩ | ⟨h1,_,_,_,⟨h2,p',h3,h4,h5,h6⟩ | ⟨_,_,h4⟩⟩
    · exact (h4 ⟨m,f0,f1⟩).elim
    · refine ⟨h1,h2,?_⟩
      rcases fO p p' with h | h | h
      · exact (h6 p h q3).elim
      · subst h; exact h3
      · exact (q4 p' h h5).elim
    · exact (h4 p q2 q3).elim
  · cases q
def sumN (f:Nat→Int):Nat→Int
  | 0=>0
  | i+1=>sumN f i+f i
end Go.Proofs.YtpoobhhdgjgdgaaGreat.Sh
/- Totals. -/
namespace Go.Proofs.YtpoobhhdgjgdgaaGreat.Sh
open Go.Ai
structure TotOk (z:StZ) (c:Nat→Int):Prop where
  lo:∀ u,0≤c u∧c u≤2097152
  sum:c 0+(c 1+c 2+c 3+c 4+c 5+c 6)=sumN (nz z.free) z.free.length+z.m
end Go.Proofs.YtpoobhhdgjgdgaaGreat.Sh
/- AuditSound. -/
namespace Go.Proofs.YtpoobhhdgjgdgaaGreat.Sh
open Go.Ai
theorem works_is (d:Heap) (K:AV→Heap→aa):kT bb [] d K=K (.bool true) d:=rfl
end Go.Proofs.YtpoobhhdgjgdgaaGreat.Sh
/- AuditSound: all of it. -/
namespace Go.Proofs.YtpoobhhdgjgdgaaGreat.Sh
open Go.Ai
end Go.Proofs.YtpoobhhdgjgdgaaGreat.Sh
