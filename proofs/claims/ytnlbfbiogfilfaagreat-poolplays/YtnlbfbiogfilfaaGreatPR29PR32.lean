/- Both pools, a call at a time. -/
import Derived.Test.YtnlbfbiogfilfaaGreatPR25PR28
set_option linter.all false
namespace Go.Proofs.YtnlbfbiogfilfaaGreat.Sh
open Go.Ai
structure Both (zc:bq) (p:Nat) (h0 h:ad) (v7 v9:AV) (F:Nat→Prop):Prop where
  cas:(v7 = .nilptr∧v9 = .nilptr)∨∃ w z w2 r L,v7 = .ptr w.p 0∧v9 = .ptr w2.p 0∧PO zc=true∧dE zc p∧cv h w z∧dY h w2 r∧PI zc p L z∧TW zc p L z r∧(∀ d,fpP w z.gI.length d→F d)∧(∀ d,fpQ w2 r.pt.gH.length d→F d)∧∀ d,fpP w z.gI.length d→¬ fpQ w2 r.pt.gH.length d
  rng:∀ d,F d→h0.nx≤d∧d<h.nx
  g:be h0 h
theorem Both.chg {zc:bq} {p:Nat} {h0 h h':ad} {v7 v9:AV} {F G:Nat→Prop} (b:Both zc p h0 h v7 v9 F) (c:Chg G h h') (hf:∀ d,F d→¬ G d) (hg:∀ d,G d→h0.nx≤d):Both zc p h0 h' v7 v9 F:=by
  refine ⟨?_,fun d e=>⟨(b.rng d e).1,iy (b.rng d e).2 c.nx⟩,c.grow b.g hg⟩
  rcases b.cas with h1 | ⟨w,z,w2,r,L,e1,e2,e3,e4,e5,e6,e7,e8,e9,e10,e11⟩
  · exact .inl h1
  · exact .inr ⟨w,z,w2,r,L,e1,e2,e3,e4,e5.chg c fun d x=>hf d (e9 d x),e6.chg c fun d x=>hf d (e10 d x),e7,e8,e9,e10,e11⟩
theorem Both.grow {zc:bq} {p:Nat} {h0 h h':ad} {v7 v9:AV} {F:Nat→Prop} (b:Both zc p h0 h v7 v9 F) (g:be h h'):Both zc p h0 h' v7 v9 F:=b.chg (g.chg fun _=>False) (fun _ _ h=>h) fun _ h=>h.elim
def aDP (zc:bq) (p:Nat) (h0 h:ad) (v7 v9:AV) (F:Nat→Prop) (h2:ad) (P:(Nat→Prop)→Prop):Prop:=∃ F',Both zc p h0 h2 v7 v9 F'∧(∀ d,F' d→F d∨h.nx≤d)∧Chg F h h2∧P F'
theorem Both.stay {zc:bq} {p:Nat} {h0 h h2:ad} {v7 v9:AV} {F:Nat→Prop} (b:Both zc p h0 h v7 v9 F) (g:be h h2) {P:(Nat→Prop)→Prop} (hP:P F):aDP zc p h0 h v7 v9 F h2 P:=⟨F,b.grow g,fun _ e=>.inl e,g.chg _,hP⟩
theorem axX {n:Nat} (hn:70000<n) {zc:bq} {p:Nat} {h0 h:ad} (hro:h.ro≤h.nx) {v7 v9:AV} {F:Nat→Prop} (b:Both zc p h0 h v7 v9 F):aF (aY n v7 v9 h) fun x h'=>x=true∧be h h':=by
  rcases b.cas with ⟨rfl,rfl⟩ | ⟨w,z,w2,r,L,rfl,rfl,e3,e4,e5,e6,e7,e8,_⟩
  · exact n_stand (by omega) hro
  · exact v_stand hn hro e5 e6 e7 e8 e3 e4
theorem ax7 {zc:bq} {p:Nat} {h0 h h1 h2:ad} {F:Nat→Prop} {w w':dN} {z z':bW} {w2:RPP} {r r':RZ} {L':List (Int × Int)} (b:Both zc p h0 h (.ptr w.p 0) (.ptr w2.p 0) F) (hm:PO zc=true) (po:dE zc p) (pi:dY h w2 r) (e9:∀ d,fpP w z.gI.length d→F d) (e10:∀ d,fpQ w2 r.pt.gH.length d→F d) (e11:∀ d,fpP w z.gI.length d→¬ fpQ w2 r.pt.gH.length d)
    (ep:w'.p=w.p) (em:z'.gI=z.gI) (er:r'.pt=r.pt) (b1:cv h1 w' z') (hsub:∀ d,fpP w' z.gI.length d→fpP w z.gI.length d∨h.nx≤d) (c1:Chg (fpP w z.gI.length) h h1) (b2:dY h2 w2 r') (c2:Chg (fpQ w2 r.pt.gH.length) h1 h2) (a':PI zc p L' z') (t':TW zc p L' z' r') {P:(Nat→Prop)→Prop} (hP:P fun d=>fpP w' z.gI.length d∨fpQ w2 r.pt.gH.length d) :
    aDP zc p h0 h (.ptr w.p 0) (.ptr w2.p 0) F h2 P:=by
  have dis:∀ d,fpP w' z.gI.length d→¬ fpQ w2 r.pt.gH.length d:=fun d x y=>by
    rcases hsub d x with x1 | x1
    · exact e11 d x1 y
    · have:=pi.lt y; omega
  have c:Chg F h h2:=(c1.mono fun d _ e=>e9 d e).trans (c2.mono fun d _ e=>e10 d e)
  refine ⟨fun d=>fpP w' z.gI.length d∨fpQ w2 r.pt.gH.length d,⟨.inr ⟨w',z',w2,r',L',by rw [ep],rfl,hm,po,b1.chg c2 fun d x y=>dis d (by rw [← em]; exact x) y,b2,a',t',fun d x=>.inl (by rw [← em]; exact x),fun d x=>.inr (by rw [← er]; exact x),fun d x y=>dis d (by rw [← em]; exact x) (by rw [← er]; exact y)⟩,fun d e=>?_,c.grow b.g fun d e=>(b.rng d e).1⟩,fun d e=>?_,c,hP⟩
  · rcases e with e | e
    · refine ⟨?_,iy (b1.lt (by rw [em]; exact e)) c2.nx⟩
      rcases hsub d e with e1 | e1
      · exact (b.rng d (e9 d e1)).1
      · exact iE b.g.nx e1
    · exact ⟨(b.rng d (e10 d e)).1,iy (b.rng d (e10 d e)).2 c.nx⟩
  · rcases e with e | e
    · rcases hsub d e with e1 | e1
      · exact .inl (e9 d e1)
      · exact .inr e1
    · exact .inl (e10 d e)
theorem aAQ {f:Nat→Nat}:∀ {m n:Nat},m≤n→Em f m≤Em f n
  | m,0,h=>by have:m=0:=by omega
              subst this; exact iA _
  | m,n+1,h=>by
    by_cases e:m=n+1
    · subst e; exact iA _
    · have:=aAQ (f:=f) (show m≤n by omega); rw [Em]; omega
theorem run2 {α β:Type} {f:(α→β→ad→ah)→ah} {Q:α→β→ad→Prop} {a:α} {b:β} {h:ad} (e:∀ k,f k=k a b h) (q:Q a b h):dM f Q:=⟨(a,b,h),q,e⟩
theorem run1 {α:Type} {f:(α→ad→ah)→ah} {Q:α→ad→Prop} {a:α} {h:ad} (e:∀ k,f k=k a h) (q:Q a h):aF f Q:=⟨(a,h),q,e⟩
theorem aG9 {n:Nat} (hn:70000<n) {zc:bq} {p:Nat} {h0 h:ad} (hro:h.ro≤h.nx) {v7 v9:AV} {F:Nat→Prop} (b:Both zc p h0 h v7 v9 F) {u:Int} (hu:0≤u) :
    dM (bh n v7 u h) fun f e h1=>Chg F h h1∧dM (aK n v9 u h1) fun f2 e2 h2=>f2=f∧e2=e∧aDP zc p h0 h v7 v9 F h2 fun _=>True:=by
  rcases b.cas with ⟨rfl,rfl⟩ | ⟨w,z,w2,r,L,rfl,rfl,hm,po,e5,e6,a,t,e9,e10,e11⟩
  · exact run2 (n_Take u) ⟨be.refl.chg _,run2 (n_rTake u) ⟨rfl,rfl,b.stay .refl trivial⟩⟩
  by_cases hr:u<2∨6<u
  · exact run2 (aDR e5 hr) ⟨be.refl.chg _,run2 (aBJ e6 hr) ⟨rfl,rfl,b.stay .refl trivial⟩⟩
  obtain ⟨u,rfl⟩:=iM hu
  have hu2:2≤u:=by omega
  have hu6:u≤6:=by omega
  have hlen:=a.len po
  have pok:=a.inv.inv.ok po (by rw [i6]; omega)
  have ok:=t.ok a po
  have rm:=t.room a po
  have hl:=t.len a
  have hq:avR r.pt u=z.gP u:=by rw [t.pt,a.inv.gP]
  have htd:aeg r u=z.gK u:=t.told a hm po ⟨by omega,hu6⟩
  have hne:0<r.pt.gH.length:=by rw [hl]; exact pok.ne
  have ts:∀ i,i<r.pt.gH.length→fL (r.rb i) (z.gJ i):=fun i hi=>t.tells i (by omega)
  have hb:∀ i,i<z.gI.length→Sh.gQ z i=frR r i:=fun i hi=>(t.gQ hi).symm
  refine aL.mono (v_PTake (by omega) hro e5 pok hu2 (by omega)) ?_
  rintro ⟨f,e,h1⟩ (⟨q1,q2,q3,q4⟩ | ⟨q1,best,rr,q2,q3,q4,q5⟩)
  · dsimp only at q2 q3 q4
    subst q2 q3 q4
    refine ⟨be.refl.chg _,aL.mono (azb (by omega) hro e6 ok rm hne ts hu2 hu6) ?_⟩
    rintro ⟨f2,e2,h2⟩ (⟨p1,p2,p3,p4⟩ | ⟨p1,_⟩)
    · exact ⟨p2,p3,b.stay p4 trivial⟩
    · rw [hq,htd] at p1; omega
  · have hbest:best<z.gI.length:=q2.1
    rcases q3 with ⟨s1,s2,s3,s4⟩ | ⟨s1,k,at_,rest,bv',s2,s3,s4,s5,s6,s7,s8,s9,s10⟩
    · dsimp only at s1 s3 q4 s4
      subst s1 s3
      have q4:=q4 (by decide)
      subst q4
      refine ⟨be.refl.chg _,aL.mono (azb (by omega) hro e6 ok rm hne ts hu2 hu6) ?_⟩
      rintro ⟨f2,e2,h2⟩ (⟨p1,_⟩ | ⟨p1,best',p2,⟨p3,p4,p5,p6⟩ | ⟨k,rest,c,G,p3,p4,p5,_⟩⟩)
      · rw [hq,htd] at p1; omega
      · exact ⟨p4,p5,b.stay p6 trivial⟩
      · have:best=best':=q2.uniq hb (by rw [← hl]; exact p2)
        rw [← this,s4 k (by omega) p3] at p4
        cases p4
    · dsimp only at s1 s8 s10 q5 s6
      subst s1
      have ef:=q5 rfl k at_ rest (fun j _ hj=>s5 j (by omega) hj) s4
      have b61:=e6.chg s10 fun d x y=>e11 d y x
      refine ⟨s10.mono fun d _ x=>e9 d x,aL.mono (azb (by omega) (s10.le hro) b61 ok rm hne ts hu2 hu6) ?_⟩
      rintro ⟨f2,e2,h2⟩ (⟨p1,_⟩ | ⟨p1,best',p2,⟨p3,_⟩ | ⟨k',rest',c,G,p3,p4,p5,p6,p7,p8,p9,p10,p11,p12⟩⟩)
      · rw [hq,htd] at p1; omega
      · have:best=best':=q2.uniq hb (by rw [← hl]; exact p2)
        rw [← this] at p3
        rw [p3 k s3] at s4
        cases s4
      · have:best=best':=q2.uniq hb (by rw [← hl]; exact p2)
        subst this
        have hkk:k'=k:=by
          rcases ik k' k with h3 | h3 | h3
          · rw [s5 k' (by omega) h3] at p4; cases p4
          · exact h3
          · rw [p5 k h3] at s4; cases s4
        subst hkk
        rw [s4] at p4
        cases p4
        have hcols:nz r.pt.gH best=nz z.gI best:=by rw [t.gH a]
        have hco:r.zc.gG=z.gG:=by rw [t.cz,a.inv.inv.co]
        rw [hcols,hco] at p9
        have hfr:pC z.gG (nz z.gI best) (c:Int) (2^0) = [(G:Int)]:=by rw [p9]; simp [pC]
        have a':=a.step po (i:=best) (o:=0) (u:=u) ⟨by omega,hu6⟩ hbest (by omega) (Nat.zero_le _) s3 s4 s5 fun _=>rfl
        have t':=t.step a hm po (i:=best) (o:=0) (u:=u) (use:=upd r.use G (u:Int)) (img:=r.img) ⟨by omega,hu6⟩ hbest (by omega) (Nat.zero_le _) s3 s4 s5 (fun _=>rfl) (fun f hf=>by rw [hfr] at hf; simp at hf; rw [hf,iI,lm]) (fun f hf=>by rw [hfr] at hf; simp at hf; exact kX _ _ fun h3=>hf (by rw [h3])) (fun h3=>by omega) fun _=>rfl
        refine ⟨by dsimp only at p8 ⊢; rw [p8,ef,p9],p7,ax7 (w':={ w with bv:=bv' }) (z':=fP z best 0 u k' (c:Int) rest) (r':={ r with rb:=upd r.rb best (akp (r.rb best) c 0),use:=upd r.use G (u:Int) }) b hm po e6 e9 e10 e11 rfl rfl rfl s8 s9 s10 p11 p12 a' t' trivial⟩
theorem aBh {n:Nat} (hn:70000<n) {zc:bq} {p:Nat} {h0 h:ad} (hro:h.ro≤h.nx) {v7 v9:AV} {F:Nat→Prop} (b:Both zc p h0 h v7 v9 F) (f:Int) :
    aF (aZ n v7 f h) fun e h1=>Chg F h h1∧aF (aJ n v9 f h1) fun e2 h2=>e2=e∧aDP zc p h0 h v7 v9 F h2 fun _=>True:=by
  rcases b.cas with ⟨rfl,rfl⟩ | ⟨w,z,w2,r,L,rfl,rfl,hm,po,e5,e6,a,t,e9,e10,e11⟩
  · exact run1 (n_Give f) ⟨be.refl.chg _,run1 (n_rGive f) ⟨rfl,b.stay .refl trivial⟩⟩
  have hlen:=a.len po
  have ok:=t.ok a po
  have rm:=t.room a po
  have hl:=t.len a
  have hu:=a.inv.uses
  have hnd:=a.inv.inv.nodup
  by_cases hf:f∈L.map (·.1)
  · obtain ⟨⟨f',uu⟩,he,rfl⟩:=ic.1 hf
    dsimp only
    obtain ⟨r1,r2⟩:=a.inv.rng _ he
    dsimp only at r1 r2
    have huse:=t.use _ he
    dsimp only at huse
    by_cases h1:uu=1
    · subst h1
      refine run1 (aDe e5 (by rw [hu]; exact hnd) (by rw [hu]; exact he)) ⟨be.refl.chg _,aL.mono (awy e6 ok (.inr (.inr (.inr huse)))) ?_⟩
      rintro ⟨e2,h2⟩ ⟨p1,p2⟩
      dsimp only at p1 p2 ⊢
      subst p2
      exact ⟨p1,b.stay .refl trivial⟩
    · obtain ⟨u,rfl⟩:=iM (show 0≤uu by omega)
      obtain ⟨i,x,hi,hx,hk⟩:=a.has _ he (by show (2:Int)≤(u:Int); omega)
      dsimp only at hx
      obtain ⟨j,hj,c,hc,hcn,f0,f1⟩:=a.place hm po hf
      dsimp only at hc f0 f1
      obtain ⟨m1,m2,m3,m4⟩:=aCE a.inv.inv po
      have hco:=a.inv.inv.co
      obtain ⟨i1,i2⟩:=m1 _ (by rw [un hi]; exact iU hi:nz z.gI i∈z.gI)
      obtain ⟨j1,j2⟩:=m1 _ (by rw [un hj]; exact iU hj:nz z.gI j∈z.gI)
      have hxc:x=(c:Int)∧i=j:=by
        rw [hx,hco] at hc
        obtain ⟨g1,g2⟩:=alj i1 i2 j1 j2 hc
        exact ⟨g1,aBn m2 hi hj g2⟩
      obtain ⟨rfl,rfl⟩:=hxc
      obtain ⟨G,rfl⟩:=iM f0
      rw [iI] at huse
      have hcnt:=a.inv.cnt u (by omega)
      have c1:1≤UM L u:=iW.2 ⟨_,he,by simp⟩
      have c2:UM L u≤L.length:=List.countP_le_length
      have hsum:=a.inv.sum
      have htot:=(atc po).2.2
      obtain ⟨_,q2,_,_,q5,_,_⟩:=atm po
      have hfr:Sh.gQ z i<70000:=by
        have h1:=aAQ (f:=Sh.gQ z) (show i+1≤z.gI.length by omega)
        rw [Em] at h1
        omega
      refine aL.mono (v_PGive (u:=u) hn hro e5 (by rw [hu]; exact hnd) (by rw [hco]; exact po.co) m2 (by rw [hco]; exact m1) (f:=(G:Int)) ⟨by omega,by omega⟩ ⟨by omega,by omega⟩ (by rw [hu]; exact he) (by rw [hcnt]; omega) hi (by omega) hx (a.tak i hi) hk hfr) ?_
      rintro ⟨e,h1⟩ ⟨s1,w',s',s2,s3,s4,s5,s6⟩
      dsimp only at s1 s4 s6 ⊢
      subst s1
      have b61:=e6.chg s6 fun d x y=>e11 d y x
      have hcz:r.zc.gG=zc.gG:=by rw [t.cz]
      have hmod:(G:Int)%r.zc.gG=nz z.gI i:=by rw [hcz,hc,Int.add_comm,Int.add_mul_emod_self_right,Int.emod_eq_of_lt i1 i2]
      have hdiv:(G:Int)/r.zc.gG=(c:Int):=by rw [hcz,hc,Int.add_comm,Int.add_mul_ediv_right _ _ (by omega),Int.ediv_eq_zero_of_lt i1 i2,Int.zero_add]
      have hcols:=t.gH a
      have hnu:=t.nu
      have hrn:=t.rn i hi
      have htk:=t.tk i hi _ hk (by show (0:Int)≤(c:Int); omega)
      have htk':(r.rb i).tk c=1:=by rw [iI] at htk; exact htk
      refine ⟨s6.mono fun d _ x=>e9 d x,aL.mono (v_rPGive (by omega) b61 ok rm (F:=G) (i0:=i) (a:=c) (by omega) (by omega) (by omega) (by rw [hmod,hcols]) (fun j hj h3=>?_) hdiv (by omega) htk') ?_⟩
      · rw [hmod,hcols] at h3
        exact aBn m2 (by omega) hi h3
      rintro ⟨e2,h2⟩ ⟨p1,p2,p3⟩
      dsimp only at p1 p2 p3 ⊢
      exact ⟨p1,ax7 (z':=gy z i u (G:Int) s') (r':={ r with rb:=upd r.rb i (akZ (r.rb i) c),use:=upd r.use G 0 }) b hm po e6 e9 e10 e11 s2 rfl rfl s4 s5 s6 p2 p3 (a.give po ⟨by omega,by omega⟩ he hi hx s3) (t.give a hm po ⟨by omega,by omega⟩ he hi (by omega) s3) trivial⟩
  · have hno:f<0∨(r.nu:Int)≤f∨r.use f.toNat=0∨r.use f.toNat=1:=by
      by_cases h1:f<0
      · exact .inl h1
      · by_cases h2:(r.nu:Int)≤f
        · exact .inr (.inl h2)
        · exact .inr (.inr (.inl (t.free f.toNat (by omega) (by rw [Int.toNat_of_nonneg (by omega)]; exact hf))))
    refine aL.mono (aEt e5 (by rw [hu]; exact hf)) ?_
    rintro ⟨e,h1⟩ ⟨s1,s2⟩
    dsimp only at s1 s2 ⊢
    subst s1 s2
    refine ⟨be.refl.chg _,aL.mono (awy e6 ok hno) ?_⟩
    rintro ⟨e2,h2⟩ ⟨p1,p2⟩
    dsimp only at p1 p2 ⊢
    subst p2
    exact ⟨p1,b.stay .refl trivial⟩
end Go.Proofs.YtnlbfbiogfilfaaGreat.Sh
/- Both pools: the image. -/
namespace Go.Proofs.YtnlbfbiogfilfaaGreat.Sh
open Go.Ai
theorem aFK {use:Nat→Int} {co c a f:Int}:∀ {j:Nat},f∈pC co c a j→are use co c a j f.toNat=1
  | 0,h=>by simp [pC] at h
  | j+1,h=>by
    rw [are]
    by_cases e:f.toNat=((a+(j:Int))*co+c).toNat
    · rw [e,lm]
    · rw [kX _ _ e]
      rw [We,i8] at h
      rcases h with h | h
      · exact aFK h
      · simp at h
        rw [h] at e
        exact (e rfl).elim
theorem aCR {use:Nat→Int} {co c a:Int} (h0:0≤a∧0≤co∧0≤c) {f:Nat}:∀ {j:Nat},(f:Int)∉pC co c a j→are use co c a j f=use f
  | 0,_=>rfl
  | j+1,h=>by
    rw [We,i8,not_or] at h
    have h1:0≤(a+(j:Int))*co:=Int.mul_nonneg (by omega) h0.2.1
    have h2:(f:Int)≠(a+(j:Int))*co+c:=fun e=>h.2 (by rw [e]; simp)
    rw [are,kX _ _ (by omega)]
    exact aCR h0 h.1
theorem part_ord {zc:bq} {p:Nat} (po:dE zc p):∃ o:Nat,(lI zc p).order=(o:Int)∧o<7:=by
  have hq:=po.gP
  simp only [yk,iw] at hq
  have q1:=hq.1
  simp [kG] at q1
  exact ⟨(lI zc p).order.toNat,by omega,by omega⟩
def ImL (h0 h h2:ad) (a b:AV) (F':Nat→Prop):Prop:=∃ l,Lst h2 a l∧Lst h2 b l∧l.length≤100∧∀ d,a.blk=some d→h.nx≤d∧¬ F' d
theorem aFb {n:Nat} (hn:70000<n) {zc:bq} {p:Nat} {h0 h:ad} (hro:h.ro≤h.nx) {v7 v9:AV} {F:Nat→Prop} (b:Both zc p h0 h v7 v9 F) :
    dM (ba n v7 h) fun x e h1=>Chg F h h1∧dM (aG n v9 h1) fun y e2 h2=>e2=e∧aDP zc p h0 h v7 v9 F h2 (ImL h0 h h2 x y):=by
  have nil:∀ {h2:ad} {F':Nat→Prop},ImL h0 h h2 .nilslice .nilslice F':=fun {h2 F'}=>⟨[],.nil,.nil,by simp,fun d e=>by cases e⟩
  rcases b.cas with ⟨rfl,rfl⟩ | ⟨w,z,w2,r,L,rfl,rfl,hm,po,e5,e6,a,t,e9,e10,e11⟩
  · exact run2 n_Image ⟨be.refl.chg _,run2 n_rImage ⟨rfl,b.stay .refl nil⟩⟩
  have hlen:=a.len po
  have pok:=a.inv.inv.ok po (by rw [i6]; omega)
  have ok:=t.ok a po
  have rm:=t.room a po
  have hl:=t.len a
  have hc1:=a.inv.cnt 1 (by omega)
  have himg:=t.img
  by_cases hi:1≤UM L 1
  · have hpos:0<z.gK 1:=by rw [hc1]; show 0<((UM L 1:Nat):Int); omega
    refine run2 (axS e5 hpos) ⟨be.refl.chg _,aL.mono (axn e6 (by rw [himg]; exact iO hi)) ?_⟩
    rintro ⟨y,e2,h2⟩ ⟨p1,p2,p3⟩
    dsimp only at p1 p2 p3 ⊢
    subst p1 p3
    exact ⟨p2,b.stay .refl nil⟩
  · obtain ⟨o,ho,ho7⟩:=part_ord po
    have hz:z.order=(o:Int):=by rw [a.inv.order,ho]
    have hc0:z.gK 1=0:=by rw [hc1]; show ((UM L 1:Nat):Int)=0; omega
    have hne:0<r.pt.gH.length:=by rw [hl]; exact pok.ne
    have h0m:0<z.gI.length:=pok.ne
    have hrd:r.pt.order=(o:Int):=by rw [t.pt,ho]
    have hri:r.img=false:=by rw [himg]; exact iJ hi
    have hcols:nz r.pt.gH 0=nz z.gI 0:=by rw [t.gH a]
    have hco:r.zc.gG=z.gG:=by rw [t.cz,a.inv.inv.co]
    refine aL.mono (v_Image (by omega) hro e5 pok ho7 hz hc0) ?_
    rintro ⟨x,e,h1⟩ (⟨s1,s2,s3,s4⟩ | ⟨s1,k,at_,rest,bv',s2,s3,s4,s5,s6,s7,s8,s9,s10⟩)
    · dsimp only at s1 s2 s3 s4
      subst s1 s2 s3
      refine ⟨be.refl.chg _,aL.mono (aBa (by omega) hro e6 ok rm hri ho7 hrd hne (t.tells 0 h0m)) ?_⟩
      rintro ⟨y,e2,h2⟩ (⟨p1,p2,p3,p4⟩ | ⟨k,rest,c,p1,p2,p3,_⟩)
      · dsimp only at p2 p3 p4 ⊢
        subst p2
        exact ⟨p3,b.stay p4 nil⟩
      · rw [s4 k p1 p2] at p3; cases p3
    · dsimp only at s1 s6 s7 s8 s10
      subst s1
      have b61:=e6.chg s10 fun d x y=>e11 d y x
      refine ⟨s10.mono fun d _ x=>e9 d x,aL.mono (aBa (by omega) (s10.le hro) b61 ok rm hri ho7 hrd hne (t.tells 0 h0m)) ?_⟩
      rintro ⟨y,e2,h2⟩ (⟨p1,_⟩ | ⟨k',rest',c,p1,p2,p3,p4,p5,p6,p7,p8,p9,p10⟩)
      · rw [p1 k s2 s3] at s4; cases s4
      · have hkk:k'=k:=by
          rcases ik k' k with h3 | h3 | h3
          · rw [s5 k' p1 h3] at p3; cases p3
          · exact h3
          · rw [p4 k s2 h3] at s4; cases s4
        subst hkk
        rw [s4] at p3
        cases p3
        dsimp only at p6 p7 p8 p9 p10 ⊢
        rw [hcols,hco] at p7 p8
        have hcn:=rm.col 0 hne
        rw [hcols,hco] at hcn
        have a':=a.step po (i:=0) (o:=o) (u:=1) ⟨by omega,by omega⟩ h0m ho7 s2 s3 s4 s5 fun h3=>by omega
        have t':=t.step a hm po (i:=0) (o:=o) (u:=1) (use:=are r.use z.gG (nz z.gI 0) (c:Int) (2^o)) (img:=true) ⟨by omega,by omega⟩ h0m ho7 s2 s3 s4 s5 (fun h3=>by omega) (fun f hf=>aFK hf) (fun f hf=>aCR ⟨by omega,by omega,hcn.1⟩ hf) (fun _=>rfl) fun h3=>(h3 rfl).elim
        obtain ⟨_,_,q2⟩:=Ov ho7
        refine ⟨p6,ax7 (w':={ w with bv:=bv' }) (z':=fP z 0 o 1 k' (c:Int) rest) (r':={ r with rb:=upd r.rb 0 (akp (r.rb 0) c o),use:=are r.use z.gG (nz z.gI 0) (c:Int) (2^o),img:=true }) b hm po e6 e9 e10 e11 rfl rfl rfl s8 s9 s10 p8 p10 a' t' ⟨_,s6.chg p10 fun d x1 x2=>?_,p7,by rw [CN]; omega,fun d x1=>⟨(s7 d x1).1,fun x2=>?_⟩⟩⟩
        · have:=(s7 d x1).1
          have:=e6.lt x2
          omega
        · rcases x2 with x2 | x2
          · exact (s7 d x1).2 x2
          · have:=(s7 d x1).1
            have:=e6.lt x2
            omega
end Go.Proofs.YtnlbfbiogfilfaaGreat.Sh
/- PoolPlays: the calls. -/
namespace Go.Proofs.YtnlbfbiogfilfaaGreat.Sh
open Go.Ai
theorem aDo {n:Nat} {h:ad} {a m:Int} (hm:0<m∧m≤1000000):aF (bf n a m h) fun r h'=>(0≤r∧r<m)∧h'=h:=by
  unfold bf JK Du wO
  have h1:=Int.tmod_lt_of_pos a hm.1
  have h2 : -m<a.tmod m:=by
    have:=Int.tmod_lt_of_pos (-a) hm.1
    rw [Int.neg_tmod] at this
    omega
  simp only [aqo (show m≠0 by omega)]
  refine aL.ifB (fun e=>?_) fun e=>?_
  · simp at e
    have w1:IntKind.i64.wrap (a.tmod m+m)=a.tmod m+m:=rK (by omega) (by omega)
    simp only [au,w1]
    exact nT ⟨⟨by omega,by omega⟩,rfl⟩
  · simp at e
    exact nT ⟨⟨e,h1⟩,rfl⟩
def DoK (h:ad) (v:AV) (m:Nat) (K A U:Nat→Int):Prop:=eD h v 3 m (fun i=>[.int .i64 (K i),.int .i64 (A i),.int .u8 (U i)])∧∀ i,i<m→0≤U i∧U i<256
theorem DoK.grow {h h':ad} {v:AV} {m:Nat} {K A U:Nat→Int} (d:DoK h v m K A U) (g:be h h'):DoK h' v m K A U:=⟨d.1.grow g,d.2⟩
abbrev kPl:=gm
structure PlS (zc:bq) (p:Nat) (h0:ad) (v7 v9:AV) (i:Nat) (h:ad) (v11:AV) (tl:List Int) (F:Nat→Prop):Prop where
  b:Both zc p h0 h v7 v9 F
  l:Lst h v11 tl
  n:tl.length≤i
  o:∀ d,v11.blk=some d→h0.nx≤d∧¬ F d
theorem PlS.grow {zc:bq} {p:Nat} {h0 h h':ad} {v7 v9 v11:AV} {i:Nat} {tl:List Int} {F:Nat→Prop} (s:PlS zc p h0 v7 v9 i h v11 tl F) (g:be h h'):PlS zc p h0 v7 v9 i h' v11 tl F:=⟨s.b.grow g,s.l.grow g,s.n,s.o⟩
theorem PlS.step {zc:bq} {p:Nat} {h0 h h2:ad} {v7 v9 v11:AV} {i:Nat} {tl:List Int} {F F':Nat→Prop} (s:PlS zc p h0 v7 v9 i h v11 tl F) (b:Both zc p h0 h2 v7 v9 F') (hs:∀ d,F' d→F d∨h.nx≤d) (c:Chg F h h2):PlS zc p h0 v7 v9 i h2 v11 tl F':=
  ⟨b,s.l.chg c fun d e1 e2=>(s.o d e1).2 e2,s.n,fun d e=>⟨(s.o d e).1,fun e2=>by
    rcases hs d e2 with e3 | e3
    · exact (s.o d e).2 e3
    · have:=(s.l.lt e).1; omega⟩⟩
theorem PlS.up {zc:bq} {p:Nat} {h0 h:ad} {v7 v9 v11:AV} {i j:Nat} {tl:List Int} {F:Nat→Prop} (s:PlS zc p h0 v7 v9 i h v11 tl F) (h1:i≤j):PlS zc p h0 v7 v9 j h v11 tl F:=⟨s.b,s.l,iE s.n h1,s.o⟩
section
variable {n:Nat} (hn:70000<n) {zc:bq} {p:Nat} {h0:ad} (hro:h0.ro≤h0.nx) {v7 v9 a2:AV} {i q:Nat} (hi:i<80)
  (next:∀ h v11 tl F,PlS zc p h0 v7 v9 (i+1) h v11 tl F→aF (fun k:kPl=>mZ n (Eb br) (cI n) (ba n) (bh n) (bF n) (aY n) (bf n) (aK n) (aZ n) (aJ n) (aG n) (aH n) k q a2 v7 v9 v11 ((i+1:Nat):Int) h) fun r h'=>r=true∧be h0 h')
include hn hro hi next
theorem azj {h:ad} {v11:AV} {tl:List Int} {F:Nat→Prop} (s:PlS zc p h0 v7 v9 (i+1) h v11 tl F):aF (fun k:kPl=>oI n (Eb br) (cI n) (ba n) (bh n) (bF n) (aY n) (bf n) (aK n) (aZ n) (aJ n) (aG n) (aH n) k (mZ n (Eb br) (cI n) (ba n) (bh n) (bF n) (aY n) (bf n) (aK n) (aZ n) (aJ n) (aG n) (aH n) k q) a2 v7 v9 v11 (i:Int) h) fun r h'=>r=true∧be h0 h':=by
  unfold oI
  refine aF.bind (axX hn (s.b.g.le hro) s.b) ?_
  rintro _ h64 ⟨rfl,g⟩
  simp only [au,Bool.not_true,mt (show i≤9223372036854775806 by omega)]
  exact next h64 v11 tl F (s.grow g)
theorem v_pl_3 {h:ad} {v11:AV} {tl:List Int} {F:Nat→Prop} (s:PlS zc p h0 v7 v9 i h v11 tl F) (f e:Int):aF (fun k:kPl=>sa n (Eb br) (cI n) (ba n) (bh n) (bF n) (aY n) (bf n) (aK n) (aZ n) (aJ n) (aG n) (aH n) k (mZ n (Eb br) (cI n) (ba n) (bh n) (bF n) (aY n) (bf n) (aK n) (aZ n) (aJ n) (aG n) (aH n) k q) a2 v7 v9 v11 (i:Int) f e false h) fun r h'=>r=true∧be h0 h':=by
  unfold sa
  simp only [Bw]
  refine aL.ifB (fun e1=>?_) fun e1=>azj hn hro hi next (s.up (by omega))
  refine aF.bind (Dv (fun k=>by rfl)) ?_
  rintro _ h2 ⟨rfl,c2,g2⟩
  have s2:=s.grow g2
  have hs:=s.n
  refine aF.bind (aaA (s2.b.g.le hro) s2.l c2 (by omega)) ?_
  rintro v' h3 ⟨l3,b3,c3⟩
  have n2:=s2.b.g.nx
  refine azj hn hro hi next ⟨s2.b.chg c3 (fun d e1 e2=>(s.o d e2).2 e1) fun d e=>(s.o d e).1,l3,by simp; omega,fun d e=>?_⟩
  rcases b3 d e with e2 | e2
  · exact s.o d e2
  · exact ⟨by omega,fun e3=>by have:=(s2.b.rng d e3).2; omega⟩
theorem v_pl_4 {h:ad} {v11:AV} {tl:List Int} {F:Nat→Prop} (s:PlS zc p h0 v7 v9 i h v11 tl F) (f:Int):aF (fun k:kPl=>rY n (Eb br) (cI n) (ba n) (bh n) (bF n) (aY n) (bf n) (aK n) (aZ n) (aJ n) (aG n) (aH n) k (mZ n (Eb br) (cI n) (ba n) (bh n) (bF n) (aY n) (bf n) (aK n) (aZ n) (aJ n) (aG n) (aH n) k q) a2 v7 v9 v11 (i:Int) f h) fun r h'=>r=true∧be h0 h':=by
  unfold rY
  refine aF.bind (aBh hn (s.b.g.le hro) s.b f) ?_
  rintro e h1 ⟨c1,r1⟩
  refine aF.bind r1 ?_
  rintro _ h2 ⟨rfl,F',b2,hs,c2,_⟩
  have t0:∀ (x:Int) (A B:ah),ifB (!(x==x)) A B=B:=fun x A B=>by simp
  simp only [au,t0]
  exact azj hn hro hi next ((s.step b2 hs c2).up (by omega))
theorem v_pl_5 {hb:ad} {v11 v19:AV} {tl:List Int} {F:Nat→Prop} {m:Nat} (hm:m≤100) (hd:∀ d,v19.blk=some d→h0.nx≤d∧¬ F d∧v11.blk≠some d):∀ (w x:Nat) (h:ad) (l:List Int),PlS zc p h0 v7 v9 i h v11 tl F→Lst h v19 l→l.length=m→x≤m→m-x<w→
    aF (fun k:kPl=>uF n (Eb br) (cI n) (ba n) (bh n) (bF n) (aY n) (bf n) (aK n) (aZ n) (aJ n) (aG n) (aH n) k (mZ n (Eb br) (cI n) (ba n) (bh n) (bF n) (aY n) (bf n) (aK n) (aZ n) (aJ n) (aG n) (aH n) k q) w a2 v7 v9 v11 (i:Int) v19 (x:Int) h) fun r h'=>r=true∧be h0 h':=by
  intro w
  induction w with
  | zero=>omega
  | succ w ih=>
    intro x h l s hl hlm hx hw
    simp only [acS]
    unfold uA
    simp only [hl.len]
    refine aL.ifB (fun e=>?_) fun e=>azj hn hro hi next (s.up (by omega))
    rw [yA,iz] at e
    refine aF.bind (aA2 hl (i:=x) (by omega) (-3)) ?_
    rintro _ h3 ⟨l3,c3⟩
    simp only [au,mt (show x≤9223372036854775806 by omega)]
    exact ih (x+1) h3 _ ⟨s.b.chg c3 (fun d e1 e2=>(hd d e2).2.1 e1) fun d e=>(hd d e).1,s.l.chg c3 fun d e1 e2=>(hd d e2).2.2 e1,s.n,s.o⟩ l3 (by rw [List.length_set]; exact hlm) (by omega) (by omega)
theorem v_pl_7 {m:Nat} {K A U:Nat→Int} (d0:DoK h0 a2 m K A U) (him:i<m) {h:ad} {v11:AV} {tl:List Int} {F:Nat→Prop} (s:PlS zc p h0 v7 v9 i h v11 tl F):aF (fun k:kPl=>pq n (Eb br) (cI n) (ba n) (bh n) (bF n) (aY n) (bf n) (aK n) (aZ n) (aJ n) (aG n) (aH n) k (mZ n (Eb br) (cI n) (ba n) (bh n) (bF n) (aY n) (bf n) (aK n) (aZ n) (aJ n) (aG n) (aH n) k q) a2 v7 v9 v11 (i:Int) true h) fun r h'=>r=true∧be h0 h':=by
  unfold pq
  have dk:=d0.grow s.b.g
  have hs:=s.n
  have t0:∀ (x:Int) (A B:ah),ifB (!(x==x)) A B=B:=fun x A B=>by simp
  simp only [au,dk.1.eld (i:=(i:Int)) (by omega) (by omega),iI]
  refine aF.bind (ahy (s.b.g.le hro) _ 0) ?_
  rintro x20 h21 ⟨hx,o21,g21⟩
  refine ed.bind (Um o21 (cs:=[.int .i64 (K i),.int .i64 (A i),.int .u8 (U i)]) rfl (by simp)) ?_
  intro h22 p22
  replace p22:Put h21 x20 [.int .i64 (K i),.int .i64 (A i),.int .u8 (U i)] 0 h22:=p22
  have g22:be h h22:=p22.grow g21 hx
  have s22:=s.grow g22
  have o22:=p22.own
  have c0:([.int .i64 (K i),.int .i64 (A i),.int .u8 (U i)]:List AV)[0]?=some (.int .i64 (K i)):=rfl
  have c1:([.int .i64 (K i),.int .i64 (A i),.int .u8 (U i)]:List AV)[1]?=some (.int .i64 (A i)):=rfl
  have c2:([.int .i64 (K i),.int .i64 (A i),.int .u8 (U i)]:List AV)[2]?=some (.int .u8 (U i)):=rfl
  have xF:¬ F x20:=fun e=>by have:=(s.b.rng x20 e).2; omega
  simp only [au,jC o22.cl,c0]
  refine aF.bind (aDo (by omega)) ?_
  rintro kd h26 ⟨hkd,rfl⟩
  have hu:=(dk.2 i him).1
  refine aL.ifB (fun e1=>?_) fun e1=>aL.ifB (fun e2=>?_) fun e2=>aL.ifB (fun e3=>?_) fun e3=>?_
  · simp only [au,jC o22.cl,c2]
    refine dM.bind (aG9 hn (s22.b.g.le hro) s22.b hu) ?_
    rintro f e h31 ⟨c31,r31⟩
    have o31:Own h31 x20 _ 0:=c31.own o22 xF
    simp only [au,jC o31.cl,c2]
    refine dM.bind r31 ?_
    rintro _ _ h36 ⟨rfl,rfl,F',b36,hs36,c36,_⟩
    simp only [au,t0]
    have:∀ x:Int,(!(x==x))=false:=fun x=>by simp
    rw [this]
    exact v_pl_3 hn hro hi next (s22.step b36 hs36 c36) _ _
  · simp only [au,jC o22.cl,c1,s22.l.len]
    refine aL.ifB (fun e4=>?_) fun e4=>v_pl_4 hn hro hi next s22 _
    rw [iz] at e4
    refine aF.bind (aDo (by omega)) ?_
    rintro ix h44 ⟨hix,rfl⟩
    obtain ⟨j,rfl⟩:=iM hix.1
    simp only [au,s22.l.ints.elN (i:=j) (by omega)]
    exact v_pl_4 hn hro hi next s22 _
  · simp only [au,jC o22.cl,c1]
    refine aF.bind (aBh hn (s22.b.g.le hro) s22.b (A i)) ?_
    rintro e h52 ⟨c52,r52⟩
    have o52:Own h52 x20 _ 0:=c52.own o22 xF
    have t1:∀ (x:Int) (A B:ah),ifB (x==x) A B=A:=fun x A B=>by simp
    simp only [au,jC o52.cl,c1,t1]
    refine aF.bind r52 ?_
    rintro _ h55 ⟨rfl,F',b55,hs55,c55,_⟩
    simp only [au,t0]
    exact azj hn hro hi next ((s22.step b55 hs55 c55).up (by omega))
  · refine dM.bind (aFb hn (s22.b.g.le hro) s22.b) ?_
    rintro x e h58 ⟨c58,r58⟩
    refine dM.bind r58 ?_
    rintro y _ h61 ⟨rfl,F',b61,hs61,c61,l,lx,ly,hl,hd⟩
    simp only [au,t0]
    refine aF.bind (auA (by omega) lx.ints ly.ints) ?_
    rintro _ h63 ⟨rfl,rfl⟩
    unfold uD
    simp only [au,Bool.not_true]
    have st:=s22.step b61 hs61 c61
    refine v_pl_5 (hb:=h) hn hro hi next (m:=l.length) hl (fun d e=>⟨?_,(hd d e).2,fun e2=>?_⟩) n 0 h63 l st lx rfl (by omega) (by omega)
    · have:=(hd d e).1; have:=s22.b.g.nx; omega
    · have:=(hd d e).1; have:=(s22.l.lt e2).1; omega
end
theorem v_pl_1 {n:Nat} (hn:70000<n) {zc:bq} {p:Nat} {h0:ad} (hro:h0.ro≤h0.nx) {v7 v9 a2:AV} {m:Nat} {K A U:Nat→Int} (d0:DoK h0 a2 m K A U):∀ (q i:Nat) (h:ad) (v11:AV) (tl:List Int) (F:Nat→Prop),PlS zc p h0 v7 v9 i h v11 tl F→i≤80→80-i<q→
    aF (fun k:kPl=>mZ n (Eb br) (cI n) (ba n) (bh n) (bF n) (aY n) (bf n) (aK n) (aZ n) (aJ n) (aG n) (aH n) k q a2 v7 v9 v11 (i:Int) h) fun r h'=>r=true∧be h0 h':=by
  intro q
  have hml:=d0.1.len
  induction q with
  | zero=>omega
  | succ q ih=>
    intro i h v11 tl F s hi hq
    simp only [ady]
    unfold uC
    have dk:=d0.grow s.b.g
    have stop:aF (fun k:kPl=>pq n (Eb br) (cI n) (ba n) (bh n) (bF n) (aY n) (bf n) (aK n) (aZ n) (aJ n) (aG n) (aH n) k (mZ n (Eb br) (cI n) (ba n) (bh n) (bF n) (aY n) (bf n) (aK n) (aZ n) (aJ n) (aG n) (aH n) k q) a2 v7 v9 v11 (i:Int) false h) fun r h'=>r=true∧be h0 h':=by
      unfold pq xS
      have hw:∀ K:AV→ad→ah,Eb br [] h K=K (.bool true) h:=fun K=>rfl
      simp only [Bw,hw,asG]
      exact nT ⟨rfl,s.b.g⟩
    simp only [hml]
    refine aL.ifB (fun e=>?_) fun e=>stop
    rw [yA,iz] at e
    by_cases h80:i<80
    · rw [show ltF (i:Int) 80=true from by rw [yA]; exact iO (by omega)]
      exact v_pl_7 hn hro h80 (fun h v11 tl F s=>ih (i+1) h v11 tl F s (by omega) (by omega)) d0 (by omega) s
    · rw [show ltF (i:Int) 80=false from by rw [yA]; exact iJ (by omega)]
      exact stop
end Go.Proofs.YtnlbfbiogfilfaaGreat.Sh
/- PoolPlays: of any configuration, partition and calls. -/
namespace Go.Proofs.YtnlbfbiogfilfaaGreat.Sh
open Go.Ai
theorem v_Plays {n:Nat} (hn:70000<n) {zc:bq} (hfit:fT n zc) {h:ad} (hro:h.ro≤h.nx) {c:List AV} (hc:Cfg h zc c) (p:Int) {a2:AV} {m:Nat} {K A U:Nat→Int} (d0:DoK h a2 m K A U) :
    aF (dS n (.agg c) p a2 h) fun r h'=>r=true∧be h h':=by
  unfold dS FB z8
  obtain ⟨t,pp,rfl,ht,hp⟩:=hc
  refine aF.bind (wh ..) ?_
  rintro x h1 ⟨hb,g⟩
  have hro1:=g.le hro
  have ht1:=ht.grow g
  have hp1:=hp.grow g
  have t0:∀ (x:Int) (A B:ah),ifB (!(x==x)) A B=B:=fun x A B=>by simp
  have x1:X1 true (eqBB (X1 false true) (X1 false true))=false:=rfl
  have x2:X1 true (eqBB (X1 false false) (X1 false false))=false:=rfl
  have zA:∀ c:Bool→ah,aha (.nil .ptr) .nilptr .nilptr c=c true:=fun _=>rfl
  have zB:∀ (b o:Nat) (c:Bool→ah),aha (.nil .ptr) (.ptr b o) .nilptr c=c false:=fun _ _ _=>rfl
  have zC:∀ A B:ah,ifB false A B=B:=fun _ _=>rfl
  simp only [au,jC hb,bg]
  refine dM.bind (v_PNew (by omega) hfit hro1 (Cfg.mk' ht1 hp1) p) ?_
  rintro r2 e2 h2 ⟨g2,q2⟩
  have gg:=g.trans g2
  simp only [au,jC (g2.cl hb),bg]
  refine dM.bind (v_rPNew (by omega) hfit (g2.le hro1) (Cfg.mk' (ht1.grow g2) (hp1.grow g2)) p) ?_
  rintro r3 e3 h3 ⟨g3,q3⟩
  have g13:=gg.trans g3
  have key:∀ v7 v9 F,Both zc p.toNat h h3 v7 v9 F→aF (fun k:kPl=>sc n (Eb br) (cI n) (ba n) (bh n) (bF n) (aY n) (bf n) (aK n) (aZ n) (aJ n) (aG n) (aH n) k a2 v7 v9 false h3) fun r h'=>r=true∧be h h':=by
    intro v7 v9 F b
    unfold sc uG
    simp only [zC]
    refine aF.bind (axX hn (b.g.le hro) b) ?_
    rintro _ h4 ⟨rfl,g4⟩
    simp only [au,Bool.not_true]
    exact v_pl_1 hn hro d0 n 0 h4 .nilslice [] F ⟨b.grow g4,.nil,iA 0,fun d e=>by cases e⟩ (by omega) (by omega)
  rcases q2 with ⟨a1,a3,rfl⟩ | ⟨rfl,a3,w,bs,rfl,mk,hmk⟩
  · rcases q3 with ⟨b1,b3,rfl⟩ | ⟨rfl,b3,_⟩
    · subst a3 b3
      simp only [Mr,amE,t0,zA,x1]
      exact key _ _ (fun _=>False) ⟨.inl ⟨rfl,rfl⟩,fun d e=>e.elim,g13⟩
    · exact (a1 (a3.trans b3)).elim
  · rcases q3 with ⟨b1,b3,rfl⟩ | ⟨rfl,b3,w2,z2,rfl,rn⟩
    · exact (b1 (b3.trans a3)).elim
    · have hm:PO zc=true∧0≤p∧p<zc.parts.length:=by
        unfold HS at a3
        split at a3
        · rename_i h1
          split at a3
          · rename_i h2; exact ⟨h1,h2⟩
          · cases a3
        · cases a3
      have po:=ay9 hm.1 (p:=p.toNat) (by omega)
      obtain ⟨a,tw⟩:=TW.new hm.1 po hmk rn
      have pin:cv h2 w (ain zc p.toNat bs):=fU.pool mk
      simp only [Mr,amE,t0,zB,x2]
      have low1:∀ d,fpP w (lI zc p.toNat).gH.length d→h1.nx≤d:=mk.low
      refine key _ _ (fun d=>fpP w (lI zc p.toNat).gH.length d∨fpQ w2 z2.pt.gH.length d) ⟨.inr ⟨w,_,w2,z2,[],rfl,rfl,hm.1,po,pin.grow g3,rn.inn,a,tw,fun d e=>.inl e,fun d e=>.inr e,fun d e1 e2=>?_⟩,fun d e=>?_,g13⟩
      · have:=rn.low d e2
        have:=pin.lt e1
        omega
      · have n1:=g.nx
        have n2:=g2.nx
        have n3:=g3.nx
        rcases e with e | e
        · have:=low1 d e
          have:d<h2.nx:=pin.lt e
          omega
        · have:=rn.low d e
          have:=rn.inn.lt e
          omega
end Go.Proofs.YtnlbfbiogfilfaaGreat.Sh
