/- The plain laws of what is told. -/
import Derived.Test.YtpoobhhdgjgdgaaGreatVA15VA16
set_option linter.all false
namespace Go.Proofs.YtpoobhhdgjgdgaaGreat.Sh
open Go.Ai
def Good (N:Int) (fs:List (Int × Int)):Prop:=(∀ e∈fs,e.1≠0∧0≤e.2∧e.2≤N)∧fs.Pairwise fun a b=>a.2<b.2∨a.2=b.2∧a.1<b.1
theorem amL {tw mi su:Bool} {j:Int} {e:Int × Int} (h:e∈one tw mi su j):e.1≠0∧e.2=j:=by
  cases tw<;>cases mi<;>cases su<;>simp [one,fl] at h
  all_goals (first | (rcases h with rfl | rfl | rfl<;>simp) | (rcases h with rfl | rfl<;>simp) | (subst h; simp))
theorem one_rise (tw mi su:Bool) (j:Int):(one tw mi su j).Pairwise fun a b=>a.2<b.2∨a.2=b.2∧a.1<b.1:=by
  cases tw<;>cases mi<;>cases su<;>simp [one,fl]
theorem Told.good {zc:bA} {ps:List StZ} {j:Nat} {fs:List (Int × Int)} (t:Told zc ps j fs):(∀ e∈fs,e.1≠0∧0≤e.2∧e.2<j)∧fs.Pairwise fun a b=>a.2<b.2∨a.2=b.2∧a.1<b.1:=by
  induction t with
  | zero=>exact ⟨fun e h=>by simp at h,.nil⟩
  | @step j fs tw mi su _ _ _ _ ih=>
    obtain ⟨h1,h2⟩:=ih
    refine ⟨fun e h=>?_,List.pairwise_append.2 ⟨h2,one_rise ..,fun a ha b hb=>.inl ?_⟩⟩
    · rcases gy.1 h with h | h
      · have:=h1 e h; omega
      · have:=amL h; omega
    · have:=h1 a ha
      have:=amL hb
      omega
theorem Chk.good {zc:bA} {ps:List StZ} {M:Nat} {S T:Nat→Int} {fs:List (Int × Int)} (c:Chk zc ps M S T fs):Good zc.parts.length fs:=by
  rcases c with ⟨_,rfl⟩ | ⟨_,_,rfl⟩ | ⟨_,hl,fs0,tw,ca,t,rfl,_⟩
  · exact ⟨fun e h=>by simp at h; subst h; simp,by simp⟩
  · exact ⟨fun e h=>by simp at h; subst h; simp,by simp⟩
  · obtain ⟨h1,h2⟩:=t.good
    have hx:∀ e∈fl tw 280 (ps.length:Int)++fl (!ca) 281 (ps.length:Int),e.1≠0∧e.2=ps.length:=fun e h=>amL (tw:=tw) (mi:=ca) (su:=true) (by simpa [one,fl] using h)
    have hp:(fl tw 280 (ps.length:Int)++fl (!ca) 281 (ps.length:Int)).Pairwise fun a b=>a.2<b.2∨a.2=b.2∧a.1<b.1:=by cases tw<;>cases ca<;>simp [fl]
    refine ⟨fun e h=>?_,List.pairwise_append.2 ⟨h2,hp,fun a ha b hb=>.inl ?_⟩⟩
    · rcases gy.1 h with h | h
      · have:=h1 e h; omega
      · have:=hx e h; omega
    · have:=h1 a ha
      have:=hx b hb
      omega
theorem apQ {b:Bool} {c a:Int} (h:fl b c a = []):b=false:=by cases b<;>simp [fl] at h ⊢
theorem Told.none {zc:bA} {ps:List StZ} {j:Nat} {fs:List (Int × Int)} (t:Told zc ps j fs) (h:fs = []):∀ i,i<j→dupS (Xh (fun _=>0) (pre ps i)) (frs (stZ ps i))=false∧(∀ k,k<(stZ ps i).m→Z6 zc ((stZ ps i).F k) i true 0)∧eK zc i (stZ ps i):=by
  induction t with
  | zero=>intro i hi; omega
  | @step j fs tw mi su _ h1 h2 h3 ih=>
    rw [List.append_eq_nil_iff] at h
    have ho:=h.2
    simp only [one,List.append_eq_nil_iff] at ho
    obtain ⟨e1,e2,e3⟩:=ho
    have d1:=apQ e1
    have d2:=apQ e2
    have d3:=apQ e3
    intro i hi
    by_cases hij:i=j
    · subst hij
      refine ⟨?_,h2 (by simpa using d2),h3 (by simpa using d3)⟩
      cases hd:dupS (Xh (fun _=>0) (pre ps i)) (frs (stZ ps i)) with
      | false=>rfl
      | true=>have:=h1 hd; rw [d1] at this; cases this
    · exact ih h.1 i (by omega)
theorem apv:∀ (L:List Int) (f:Int→Int),(∀ k,f k=0∨f k=1)→dupS f L=false→(∀ x∈L,f x=0)∧L.Nodup∧∀ k,Xh f L k=if k∈L then 1 else f k
  | [],f,_,_=>⟨fun x h=>by simp at h,.nil,fun k=>by simp [Xh]⟩
  | a::t,f,hf,hd=>by
    simp only [dupS,Bool.or_eq_false_iff] at hd
    have w2:IntKind.i64.wrap (1+1)=2:=by decide
    have w1:IntKind.i64.wrap (0+1)=1:=by decide
    have ha:f a=0:=by
      rcases hf a with h | h
      · exact h
      · have:=hd.1
        unfold aeG at this
        rw [h,w2] at this
        simp at this
    have ho:∀ k,U6 f a k=if k=a then 1 else f k:=fun k=>by
      unfold U6
      by_cases h:k=a
      · rw [if_pos h,if_pos h,ha,w1]
      · rw [if_neg h,if_neg h]
    obtain ⟨i1,i2,i3⟩:=apv t (U6 f a) (fun k=>by rw [ho]; split; exact .inr rfl; exact hf k) hd.2
    have hat:a∉t:=fun h=>by have:=i1 a h; rw [ho,if_pos rfl] at this; cases this
    refine ⟨fun x hx=>?_,List.nodup_cons.2 ⟨hat,i2⟩,fun k=>?_⟩
    · rcases gl.1 hx with h | h
      · rw [h]; exact ha
      · have:=i1 x h
        rw [ho,if_neg fun e:x=a=>hat (e▸h)] at this
        exact this
    · show Xh (U6 f a) t k=_
      rw [i3,ho]
      by_cases h1:k∈t
      · rw [if_pos h1,if_pos (fM _ h1)]
      · rw [if_neg h1]
        by_cases h2:k=a
        · rw [if_pos h2,if_pos (by rw [h2]; exact gt ..)]
        · rw [if_neg h2,if_neg (by simp [h1,h2])]
theorem aos {ps:List StZ} {N:Nat} (h:∀ i,i<N→dupS (Xh (fun _=>0) (pre ps i)) (frs (stZ ps i))=false):∀ j,j≤N→(pre ps j).Nodup∧∀ k,Xh (fun _=>0) (pre ps j) k=if k∈pre ps j then 1 else 0
  | 0,_=>⟨.nil,fun k=>by simp [pre,Xh]⟩
  | j+1,hj=>by
    obtain ⟨h1,h2⟩:=aos h j (by omega)
    obtain ⟨i1,i2,i3⟩:=apv _ _ (fun k=>by rw [h2]; split; exact .inr rfl; exact .inl rfl) (h j (by omega))
    refine ⟨gu.2 ⟨h1,i2,fun x hx y hy e=>?_⟩,fun k=>?_⟩
    · subst e
      have:=i1 x hy
      rw [h2,if_pos hx] at this
      cases this
    · show Xh _ (pre ps j++frs (stZ ps j)) k=_
      rw [V4,i3,h2]
      show _=if k∈pre ps j++frs (stZ ps j) then _ else _
      by_cases a:k∈frs (stZ ps j)
      · rw [if_pos a,if_pos (gn _ a)]
      · rw [if_neg a]
        by_cases b:k∈pre ps j
        · rw [if_pos b,if_pos (gm _ b)]
        · rw [if_neg b,if_neg (fun h=>(gy.1 h).elim b a)]
theorem aqX {z:StZ} {x:Int}:x∈frs z↔∃ k,k<z.m∧z.F k=x:=by
  unfold frs WY
  simp [fK,List.mem_range']
theorem aqK {z:StZ} {k:Nat} (h:k<z.m):(frs z)[k]?=some (z.F k):=by
  unfold frs WY
  simp [h]
theorem frs_inj {z:StZ} (hn:(frs z).Nodup) {i k:Nat} (hi:i<z.m) (hk:k<z.m) (e:z.F i=z.F k):i=k:=by
  have hl:(frs z).length=z.m:=by simp [frs,WY]
  have h1:(frs z)[i]'(by omega)=z.F i:=by have:=aqK hi; rw [fV (by omega)] at this; exact Option.some.inj this
  have h2:(frs z)[k]'(by omega)=z.F k:=by have:=aqK hk; rw [fV (by omega)] at this; exact Option.some.inj this
  rcases fP i k with h | h | h
  · exact (List.pairwise_iff_getElem.1 hn i k (by omega) (by omega) h (by rw [h1,h2,e])).elim
  · exact h
  · exact (List.pairwise_iff_getElem.1 hn k i (by omega) (by omega) h (by rw [h1,h2,e])).elim
def Vis (ps:List StZ) (p i:Nat) (f:Int):Prop:=f∈pre ps p∨∃ k,k<i∧(stZ ps p).F k=f
theorem vis_not {ps:List StZ} {p i:Nat} (hn:(pre ps (p+1)).Nodup) (hi:i<(stZ ps p).m):¬ Vis ps p i ((stZ ps p).F i):=by
  obtain ⟨h1,h2,h3⟩:=gu.1 hn
  rintro (h | ⟨k,hk,h⟩)
  · exact h3 _ h _ (aqX.2 ⟨i,hi,rfl⟩) rfl
  · have:=frs_inj h2 (by omega) hi h
    omega
theorem vis_next {ps:List StZ} {p:Nat} {f:Int} (h:¬ Vis ps (p+1) 0 f):¬ Vis ps p (stZ ps p).m f:=by
  rintro (h1 | ⟨k,hk,h1⟩)
  · exact h (.inl (gm _ h1))
  · exact h (.inl (gn _ (aqX.2 ⟨k,hk,h1⟩)))
theorem arV {zc:bA} {f r e:Int} {b:Bool} {p:Nat} (h:Z6 zc f r b e) (h':Z6 zc f p true 0):e=0∧b=true∧r=p:=by
  rcases h' with ⟨h1,_⟩ | ⟨_,m,f0,f1,⟨_,q,q1,q2,q3,q4⟩ | ⟨q,_⟩⟩
  · exact (h1 rfl).elim
  · have hq:p=q:=by omega
    subst hq
    rcases h with ⟨_,_,_,h4⟩ | ⟨h1,_,_,_,⟨h2,p',h3,h4,h5,h6⟩ | ⟨_,_,h4⟩⟩
    · exact (h4 ⟨m,f0,f1⟩).elim
    · refine ⟨h1,h2,?_⟩
      rcases fP p p' with h | h | h
      · exact (h6 p h q3).elim
      · subst h; exact h3
      · exact (q4 p' h h5).elim
    · exact (h4 p q2 q3).elim
  · cases q
def wP (f:Nat→Int):Nat→Int
  | 0=>0
  | i+1=>wP f i+f i
theorem ZY {f g:Nat→Int}:∀ {n:Nat},(∀ i,i<n→f i=g i)→wP f n=wP g n
  | 0,_=>rfl
  | n+1,h=>by
    simp only [wP]
    rw [ZY fun i hi=>h i (by omega),h n (by omega)]
theorem ah2 (f g:Nat→Int):∀ n,wP (fun i=>f i+g i) n=wP f n+wP g n
  | 0=>rfl
  | n+1=>by simp only [wP]; rw [ah2 f g n]; omega
theorem ah7 (c:Int):∀ n:Nat,wP (fun _=>c) n=n*c
  | 0=>by simp [wP]
  | n+1=>by
    simp only [wP]
    rw [ah7 c n]
    have:((n+1:Nat):Int)=(n:Int)+1:=by omega
    rw [this,Int.add_mul]; omega
theorem adN {f:Nat→Int}:∀ {n:Nat},(∀ i,i<n→f i=0)→wP f n=0
  | 0,_=>rfl
  | n+1,h=>by
    simp only [wP]
    rw [adN fun i hi=>h i (by omega),h n (by omega)]; rfl
theorem aoG {f:Nat→Int} {j:Nat}:∀ {n:Nat},j<n→f j=1→(∀ i,i<n→i≠j→f i=0)→wP f n=1
  | 0,h,_,_=>by omega
  | n+1,h,h1,h2=>by
    simp only [wP]
    by_cases e:j=n
    · subst e
      rw [h1,adN fun i hi=>h2 i (by omega) (by omega)]; rfl
    · rw [aoG (n:=n) (by omega) h1 fun i hi=>h2 i (by omega),h2 n (by omega) (fun h=>e h.symm)]; rfl
theorem VP {f:Nat→Int} {B:Int}:∀ {n:Nat},(∀ i,i<n→0≤f i∧f i≤B)→0≤wP f n∧wP f n≤n*B
  | 0,_=>by simp [wP]
  | n+1,h=>by
    have h1:=VP (n:=n) fun i hi=>h i (by omega)
    have h2:=h n (by omega)
    simp only [wP]
    have:((n+1:Nat):Int)=(n:Int)+1:=by omega
    rw [this,Int.add_mul]
    omega
theorem aeN {zc:bA} {F:Nat→Int} {l:List Int} (hl:l.Pairwise (· < ·)):∀ m,(∀ k,k<m→0≤F k∧F k<zc.frames∧F k%zc.eZ∈l)→wP (fun i=>nOf (zf zc F (nz l i)) m) l.length=m
  | 0,_=>by
    have:wP (fun i=>nOf (zf zc F (nz l i)) 0) l.length=0:=adN fun i _=>rfl
    rw [this]; rfl
  | m+1,h=>by
    have ih:=aeN hl m fun k hk=>h k (by omega)
    have e1:wP (fun i=>nOf (zf zc F (nz l i)) (m+1)) l.length=wP (fun i=>nOf (zf zc F (nz l i)) m+if zf zc F (nz l i) m then 1 else 0) l.length:=ZY fun i _=>rfl
    rw [e1,ah2,ih]
    obtain ⟨h1,h2,h3⟩:=h m (by omega)
    obtain ⟨j,hj,e⟩:=List.mem_iff_getElem.1 h3
    have:wP (fun i=>if zf zc F (nz l i) m then (1:Int) else 0) l.length=1:=by
      refine aoG (j:=j) hj ?_ fun i hi hij=>?_
      · have:zf zc F (nz l j) m=true:=by
          unfold zf
          rw [fY,GD hj,e]
          exact ⟨h1,h2,rfl⟩
        rw [this]; rfl
      · have:zf zc F (nz l i) m=false:=by
          unfold zf
          rw [ga,GD hi]
          rintro ⟨_,_,h5⟩
          rw [← e] at h5
          rcases fP i j with h6 | h6 | h6
          · have:=List.pairwise_iff_getElem.1 hl i j hi hj h6; omega
          · exact hij h6
          · have:=List.pairwise_iff_getElem.1 hl j i hj hi h6; omega
        rw [this]; rfl
    rw [this]; omega
theorem apW {zc:bA} {p:Nat} {z:StZ} (po:PartOk zc p) (ho:∀ k,k<z.m→Z6 zc (z.F k) p true 0) (s:eK zc p z):wP (nz z.free) z.free.length+z.m=Bq zc p:=by
  obtain ⟨t1,_,_⟩:=total_eq po
  have hc:∀ k,k<z.m→0≤z.F k∧z.F k<zc.frames∧z.F k%zc.eZ∈(jE zc p).fb:=by
    intro k hk
    rcases ho k hk with ⟨h1,_⟩ | ⟨_,_,f0,f1,⟨_,q,q1,q2,q3,q4⟩ | ⟨q,_⟩⟩
    · exact (h1 rfl).elim
    · have hq:p=q:=by omega
      subst hq
      exact ⟨f0,f1,q3⟩
    · cases q
  have ha:=aeN po.up z.m hc
  have hf:wP (nz z.free) z.free.length+wP (fun i=>nOf (zf zc z.F (nz (jE zc p).fb i)) z.m) z.free.length=wP (fun _=>zc.frames/zc.eZ) z.free.length:=by
    rw [← ah2]
    refine ZY fun i hi=>?_
    have:=(s.free i hi).2
    omega
  rw [ah7,s.len] at hf
  rw [ha] at hf
  rw [t1,s.len]
  omega
end Go.Proofs.YtpoobhhdgjgdgaaGreat.Sh
/- Totals. -/
namespace Go.Proofs.YtpoobhhdgjgdgaaGreat.Sh
open Go.Ai
theorem v_askedA {n:Nat} {zc:bA} (hn:dt n zc) (hm:uP zc=true) {h:Heap} (hro:h.ro≤h.nx) {c:List AV} (hc:Cfg h zc c) {ps:List StZ} {vp vl vt:AV} {A B C D:Nat→AV} (hs:ep n h ps vp A B C D) (hlen:ps.length=zc.parts.length) {p:Nat} (hp:p<zc.parts.length) :
    aR (dv n (.agg c) (.agg (HS vp vl vt)) (p:Int) h) fun r h'=>r=0∧ba h h':=by
  unfold dv L3 FV vZ
  obtain ⟨t,pp,rfl,ht,hpp⟩:=hc
  refine aR.bind (mr ..) ?_
  rintro w h1 ⟨hw,g1⟩
  refine aR.bind (mr ..) ?_
  rintro x h2 ⟨hx,g2⟩
  have g02:=g1.trans g2
  simp only [aD,gU (g2.cl hw),bC]
  refine aR.bind (alD hn (g02.le hro) (Cfg.mk' (ht.grow g02) (hpp.grow g02))) ?_
  rintro _ h3 ⟨rfl,g3⟩
  have g03:=g02.trans g3
  obtain ⟨_,S',hps,_⟩:=id hpp
  have hsp:=bK.len hs.sl
  have t0:(!true)=false:=rfl
  have e1:(!((zc.parts.length:Int)==(zc.parts.length:Int)))=false:=by simp
  have e2:decide ((p:Int)<0)=false:=gf (by omega)
  have e3:(!decide ((p:Int)<(zc.parts.length:Int)))=false:=by rw [gk (by omega)]; rfl
  simp only [aD,hm,t0,gU (g3.cl hx),WI,hsp,gU ((g2.trans g3).cl hw),bC,(hps.grow g03).len,hlen,e1,e2,e3]
  exact jT ⟨rfl,g03⟩
structure TotOk (z:StZ) (c:Nat→Int):Prop where
  lo:∀ u,0≤c u∧c u≤2097152
  sum:c 0+(c 1+c 2+c 3+c 4+c 5+c 6)=wP (nz z.free) z.free.length+z.m
theorem v_Totals {n:Nat} {zc:bA} (hn:dt n zc) (hm:uP zc=true) {h:Heap} (hro:h.ro≤h.nx) {c:List AV} (hc:Cfg h zc c) {ps:List StZ} {vp vl vt:AV} {A B C D:Nat→AV} (hs:ep n h ps vp A B C D) (hlen:ps.length=zc.parts.length) {p:Nat} (hp:p<zc.parts.length) (so:eK zc p (stZ ps p)) :
    c9 (bX n (.agg c) (.agg (HS vp vl vt)) (p:Int) h) fun r e h'=>ba h h'∧e=0∧∃ c,r = .agg (s8 7 c)∧TotOk (stZ ps p) c:=by
  unfold bX Jd Ch
  have po:=acz hm hp
  obtain ⟨q1,q2,q3⟩:=ahv po.fr po.co
  obtain ⟨t,pp,rfl,ht,hpp⟩:=hc
  refine aR.bind (mr ..) ?_
  rintro w h1 ⟨hw,g1⟩
  refine aR.bind (mr ..) ?_
  rintro x h2 ⟨hx,g2⟩
  have g02:=g1.trans g2
  refine aR.bind (DN (g02.le hro) _ 0) ?_
  rintro e h3 ⟨he,oe,g3⟩
  have g03:=g02.trans g3
  simp only [aD,gU ((g2.trans g3).cl hw),bC,gU (g3.cl hx),acO]
  refine aR.bind (v_askedA hn hm (g03.le hro) (Cfg.mk' (ht.grow g03) (hpp.grow g03)) (hs.grow g03) hlen hp) ?_
  rintro _ h4 ⟨rfl,g4⟩
  have g04:=g03.trans g4
  have t0:(!((0:Int)==0))=false:=rfl
  have hpl:p<ps.length:=by omega
  have hst:eR n h (stZ ps p) (A p) (B p) (C p) (D p):=hs.st p hpl
  obtain ⟨aA,hA⟩:=bK.fA (hs.grow g04).sl (i:=p) (j:=0) hpl (by omega) (st_0 ..)
  simp only [aD,t0,gU ((g3.trans g4).cl hx),WI,hA]
  refine c9.bind (ao3 (g04.le hro) (hst.own.grow g04) hst.om) ?_
  rintro _ kn h5 ⟨g5,_,c0,rfl,hc0⟩
  have g05:=g04.trans g5
  refine aR.bind (GQ (n:=7) (g05.le hro) (by rfl) (qJ ..)) ?_
  rintro y h6 ⟨hy,oy,g6⟩
  have g06:=g05.trans g6
  have g36:=g4.trans (g5.trans g6)
  have oe6:Own h6 e (s8 7 fun _=>0) 0:=(g36.chg fun _=>False).own oe fun h=>h
  have hye:y≠e:=by have:=oe.lt; have:=g4.nx; have:=g5.nx; omega
  obtain ⟨aB,hB⟩:=bK.fA (hs.grow g06).sl (i:=p) (j:=1) hpl (by omega) (st_1 ..)
  simp only [aD,gU ((g3.trans g36).cl hx),WI,hB,hst.free.len]
  have hbig:=hst.big
  have hfew:=po.few
  have hsl:=so.len
  have hfr:∀ i,i<(stZ ps p).free.length→0≤nz (stZ ps p).free i∧nz (stZ ps p).free i≤4096:=fun i hi=>by
    obtain ⟨f1,f2⟩:=so.free i hi
    have:=amr (zf zc (stZ ps p).F (nz (jE zc p).fb i)) (stZ ps p).m
    omega
  have key:∀ (q i:Nat) (h7:Heap) (c1:Nat→Int),ba h h7→Own h7 e (s8 7 fun _=>0) 0→Own h7 y (s8 7 c1) 0→c1 0=wP (nz (stZ ps p).free) i→(∀ u,u≠0→c1 u=c0 u)→i≤(stZ ps p).free.length→(stZ ps p).free.length-i<q→
      c9 (fun k=>sR n (dv n) (bB n) k q (.ptr e 0) (.ptr y 0) (B p) ((stZ ps p).free.length:Int) (i:Int) h7) fun r e h'=>ba h h'∧e=0∧∃ c,r = .agg (s8 7 c)∧TotOk (stZ ps p) c:=by
    intro q
    induction q with
    | zero=>omega
    | succ q ih=>
      intro i h7 c1 g7 oe oy h0 hu hi hq
      simp only [adB]
      unfold tP
      have hb:=VP (f:=nz (stZ ps p).free) (B:=4096) (n:=i) fun j hj=>hfr j (by omega)
      refine aJ.ifB (fun e1=>?_) fun e1=>?_
      · rw [kj,fY] at e1
        have hlt:i<(stZ ps p).free.length:=by omega
        obtain ⟨f1,f2⟩:=hfr i hlt
        have efr:∀ K,Ma .i64 1 h7 (B p) (i:Int) K=K (elP (B p) 1 (i:Int)) (nz (stZ ps p).free i):=fun K=>by
          rw [(hst.free.grow g7).el (show (0:Int)≤(i:Int) by omega) (by omega),ge]
        have d1:(!decide (nz (stZ ps p).free i<0))=true:=by rw [gf (by omega)]; rfl
        have d2:(!decide (4096<nz (stZ ps p).free i))=true:=by rw [gf (by omega)]; rfl
        have i0:∀ K,DD 1 7 (.ptr y 0) 0 K=K (.ptr y (0+0)):=fun K=>Kt (n:=7) (k:=0) (by omega) K
        have w1:IntKind.i64.wrap (c1 0+nz (stZ ps p).free i)=c1 0+nz (stZ ps p).free i:=ot (by omega) (by omega)
        simp only [aD,efr,d1,d2]
        unfold tT s0
        simp only [aD,i0,gU oy.cl,wE c1 (show 0<7 by omega),w1]
        refine dy.bind (vT oy (by rw [qJ]; omega) rfl) ?_
        intro h8 pt
        rw [ahx] at pt
        simp only [aD,js (show i≤9223372036854775806 by omega)]
        refine ih (i+1) h8 _ (pt.grow g7 (gb g05.nx hy)) (pt.ownO hye.symm oe) pt.own ?_ (fun u hu0=>?_) (by omega) (by omega)
        · rw [if_pos rfl,h0]; rfl
        · rw [if_neg hu0]; exact hu u hu0
      · rw [kj,ga] at e1
        have:i=(stZ ps p).free.length:=by omega
        subst this
        unfold yo
        have hl:∀ K,jd h7 (.ptr y 0) 7 true K=K (.agg (s8 7 c1)):=fun K=>abo oy.cl (by rw [List.drop_zero,List.take_of_length_le (by rw [qJ]; omega)]) (by rw [qJ]; omega) K
        simp only [hl]
        refine aR.bind (aly (n:=7) (cs:=s8 7 c1) oe (qJ ..) (qJ ..)) ?_
        rintro _ h8 ⟨rfl,pt⟩
        refine B1 ⟨pt.grow g7 (gb g02.nx he),rfl,c1,rfl,fun u=>?_,?_⟩
        · by_cases h:u=0
          · subst h; omega
          · rw [hu u h]; have:=hc0.lo u; omega
        · rw [h0,hu 1 (by omega),hu 2 (by omega),hu 3 (by omega),hu 4 (by omega),hu 5 (by omega),hu 6 (by omega),hc0.sum so.use]
  exact key n 0 h6 c0 g06 oe6 oy hc0.z (fun _ _=>rfl) (by omega) (by have:=hst.fm; omega)
end Go.Proofs.YtpoobhhdgjgdgaaGreat.Sh
/- AuditSound. -/
namespace Go.Proofs.YtpoobhhdgjgdgaaGreat.Sh
open Go.Ai
theorem arF (v:AV):∀ n:Nat,Kz [v] n=List.replicate n v:=by
  intro n
  induction n with
  | zero=>rfl
  | succ n ih=>
    rw [List.replicate_succ, ← ih]; rfl
theorem r_mkA {h:Heap} (hro:h.ro≤h.nx) {n:Nat} (hn:n≤1048576):aR (mkK h [.int .i64 0] (n:Int) (n:Int)) fun v h'=>v = .slice h.nx 0 n 0 false∧Own h' h.nx (s8 n fun _=>0) 0∧ba h h':=by
  have ea:s8 n (fun _=>0)=List.replicate n (AV.int .i64 0):=by
    unfold s8
    rw [List.map_const',List.length_range]
  rw [ea]
  refine ⟨(.slice h.nx 0 n 0 false,h.add (.cells (List.replicate n (.int .i64 0)) true 0)),⟨rfl,⟨by simp,by simpa using hro,by rw [Heap.fB,if_pos rfl]⟩,ba.add⟩,fun k=>?_⟩
  unfold mkK
  rw [XE,XE]
  have:andB (Nat.ble n n) (Nat.ble n UL)=true:=by
    rw [Xv,fH (fZ n),fH (by unfold UL; exact hn)]; rfl
  rw [this,wV,Dy,my,arF]
  show k (.slice h.nx 0 n (Nat.sub n n) false) _=_
  rw [show Nat.sub n n=0 from Nat.sub_self n]; rfl
theorem r_mk4 {h:Heap} (hro:h.ro≤h.nx):aR (mkK h [.int .i64 0] 4096 4096) fun v h'=>v = .slice h.nx 0 4096 0 false∧Own h' h.nx (s8 4096 fun _=>0) 0∧ba h h':=r_mkA hro (n:=4096) (by omega)
theorem aqC {o i:Nat} (hi:i<4096) (k:AV→aa):Bm 1 (.slice o 0 4096 0 false) (i:Int) k=k (.ptr o i):=by
  unfold Bm
  rw [WL,XE]
  have h1:Nat.blt i 4096=true:=by rw [blt_eq]; simpa using hi
  rw [h1,wV]
  simp
theorem row4_el {h:Heap} {o i:Nat} (hi:i<4096) {g:Nat→Int} (hc:h.cl o (s8 4096 g)) (k:AV→Int→aa):Ma .i64 1 h (.slice o 0 4096 0 false) (i:Int) k=k (.ptr o i) (g i):=by
  unfold Ma
  rw [aqC hi,aaM hc (wE g hi),aaT]
theorem row4_st {h:Heap} {o i:Nat} (hi:i<4096) (u:AV) (k:AV→Heap→aa):est 1 h (.slice o 0 4096 0 false) (i:Int) 1 u k=jh h (.ptr o i) 1 u fun H=>k (.ptr o i) H:=by
  unfold est
  rw [aqC hi]
theorem s_12 {n:Nat} {h0:Heap} {zc:bA} {t pp:AV} (hp:dB h0 pp zc.parts) {w:Nat} (hw:h0.cl w (ry zc t pp)) {fs:List (Int × Int)} {r:AV} (hr:RdF h0 r fs) (hg:Good zc.parts.length fs) :
    ∀ (q i:Nat),i≤fs.length→fs.length-i<q→aR (fun k=>kX n (bb n) (cx n) (lq bD) (aV n) (bT n) (bX n) k q (.ptr w 0) r (i:Int) h0) fun b h'=>b=true∧h'=h0:=by
  intro q
  induction q with
  | zero=>omega
  | succ q ih=>
    intro i hi hq
    simp only [E8]
    unfold lY mU
    have hsm:=hr.1
    simp only [bK.len hr]
    refine aJ.ifB (fun e=>?_) fun e=>jT ⟨rfl,rfl⟩
    rw [kj,fY] at e
    have hlt:i<fs.length:=by omega
    have hgi:fs.getD i (0,0)=fs[i]:=by rw [gi,fV hlt]; rfl
    obtain ⟨g1,g2,g3⟩:=hg.1 _ (gp hlt)
    rw [← hgi] at g1 g2 g3
    obtain ⟨a0,h0'⟩:=bK.fI hr (i:=i) (j:=0) hlt (by omega) (sp_0 ..)
    obtain ⟨a1,h1'⟩:=bK.fI hr (i:=i) (j:=1) hlt (by omega) (sp_1 ..)
    have t1:((fs.getD i (0,0)).1==0)=false:=by rw [beq_eq_false_iff_ne]; exact g1
    have t2:decide ((fs.getD i (0,0)).2<0)=false:=gf (by omega)
    have t3:decide ((zc.parts.length:Int)<(fs.getD i (0,0)).2)=false:=gf (by omega)
    obtain ⟨_,S',hps,_⟩:=id hp
    have f15:aR (fun k=>jU n (bb n) (cx n) (lq bD) (aV n) (bT n) (bX n) k (kX n (bb n) (cx n) (lq bD) (aV n) (bT n) (bX n) k q) (.ptr w 0) r (i:Int) false h0) fun b h'=>b=true∧h'=h0:=by
      unfold jU
      simp only [aD,js (show i≤9223372036854775806 by omega)]
      exact ih (i+1) (by omega) (by omega)
    simp only [aD,h0',t1,h1',t2]
    unfold lU
    simp only [aD,h1',gU hw,bC,hps.len,t3]
    unfold lX
    simp only [Bs]
    refine aJ.ifB (fun e0=>?_) fun _=>f15
    rw [kj,fY] at e0
    obtain ⟨j,rfl⟩:∃ j,i=j+1:=⟨i-1,by omega⟩
    have hlj:j<fs.length:=by omega
    have w1:IntKind.i64.wrap (((j+1:Nat):Int)-1)=(j:Int):=by rw [ot (by omega) (by omega)]; omega
    obtain ⟨b0,k0⟩:=bK.fI hr (i:=j) (j:=0) hlj (by omega) (sp_0 ..)
    obtain ⟨b1,k1⟩:=bK.fI hr (i:=j) (j:=1) hlj (by omega) (sp_1 ..)
    have hgj:fs.getD j (0,0)=fs[j]:=by rw [gi,fV hlj]; rfl
    have hpw:=List.pairwise_iff_getElem.1 hg.2 j (j+1) hlj hlt (by omega)
    rw [← hgi, ← hgj] at hpw
    have t4:decide ((fs.getD (j+1) (0,0)).2<(fs.getD j (0,0)).2)=false:=gf (by omega)
    simp only [aD,h1',w1,k1,t4,h0',k0]
    refine aJ.ifB (fun e5=>?_) fun _=>f15
    have e5':(fs.getD (j+1) (0,0)).2=(fs.getD j (0,0)).2:=by simpa using e5
    have t5:(!decide ((fs.getD j (0,0)).1<(fs.getD (j+1) (0,0)).1))=false:=by rw [gk (by omega)]; rfl
    rw [t5]
    exact f15
theorem s_3 {n:Nat} {zc:bA} (hn:dt n zc) {h0:Heap} (hro:h0.ro≤h0.nx) {t pp:AV} (ht:cQ h0 .i64 t zc.fi) (hp:dB h0 pp zc.parts) {w x o:Nat} (hw:h0.cl w (ry zc t pp)) (hfr:zc.frames≤4096) {ps:List StZ} {vp vl vt:AV} {A B C D:Nat→AV} (hs:ep n h0 ps vp A B C D) (hx:h0.cl x (HS vp vl vt)) (ho0:h0.nx≤o) {p:Nat} (hpl:p<ps.length)
    (hown:∀ k,k<(stZ ps p).m→Z6 zc ((stZ ps p).F k) p true 0) (hnd:(pre ps (p+1)).Nodup) {J:ab→bh} {Q:Bool × Heap→Prop} :
    ∀ (q i:Nat) (h:Heap) (g:Nat→Int),ba h0 h→Own h o (s8 4096 g) 0→(∀ f:Nat,f<4096→¬ Vis ps p i f→g f=0)→i≤(stZ ps p).m→(stZ ps p).m-i<q→
    (∀ h' g',ba h0 h'→Own h' o (s8 4096 g') 0→(∀ f:Nat,f<4096→¬ Vis ps p (stZ ps p).m f→g' f=0)→aJ ap1 (fun k=>J k (.ptr w 0) (.ptr x 0) (.slice o 0 4096 0 false) ((p+1:Nat):Int) h') Q)→
    aJ ap1 (fun k=>l0 n (bb n) (cx n) (lq bD) (aV n) (bT n) (bX n) k (J k) q (.ptr w 0) (.ptr x 0) (.slice o 0 4096 0 false) (p:Int) (i:Int) h) Q:=by
  intro q
  induction q with
  | zero=>omega
  | succ q ih=>
    intro i h g gr oo hg hi hq H
    simp only [Gb]
    unfold l7 nf
    have hst:eR n h0 (stZ ps p) (A p) (B p) (C p) (D p):=hs.st p hpl
    have hbig:=hst.big
    obtain ⟨aA,hA⟩:=bK.fA (hs.grow gr).sl (i:=p) (j:=0) hpl (by omega) (st_0 ..)
    have hpsm:=hs.sl.1
    simp only [aD,gU (gr.cl hx),WI,hA,bK.len hst.own]
    refine aJ.ifB (fun e=>?_) fun e=>?_
    · rw [fY] at e
      have hlt:i<(stZ ps p).m:=by omega
      obtain ⟨aF,hF⟩:=bK.fI (hst.own.grow gr) (i:=i) (j:=0) hlt (by omega) (aod ..)
      simp only [aD,hF,gU (gr.cl hw),bC]
      refine Run3.bind (aif hn (gr.le hro) (Cfg.mk' (ht.grow gr) (hp.grow gr)) ((stZ ps p).F i)) ?_
      rintro r b e1 h1 ⟨g1,hoz⟩
      have hok:=hown i hlt
      obtain ⟨rfl,rfl,rfl⟩:=arV hoz hok
      have gr1:=gr.trans g1
      have oo1:Own h1 o (s8 4096 g) 0:=(g1.chg fun _=>False).own oo fun h=>h
      have t0:(!((0:Int)==0))=false:=rfl
      have t1:(!true)=false:=rfl
      have t2:(!((p:Int)==(p:Int)))=false:=by simp
      have hf:0≤(stZ ps p).F i∧(stZ ps p).F i<zc.frames:=by
        rcases hok with ⟨h1,_⟩ | ⟨_,_,f0,f1,_⟩
        · exact (h1 rfl).elim
        · exact ⟨f0,f1⟩
      obtain ⟨f,hfN⟩:∃ f:Nat,(stZ ps p).F i=f:=⟨((stZ ps p).F i).toNat,by omega⟩
      have hf4:f<4096:=by omega
      have hnv:=vis_not hnd hlt
      rw [hfN] at hnv
      have hg0:=hg f hf4 hnv
      unfold l8 l5 mc
      simp only [aD,t0,t1,t2,hfN,row4_el hf4 oo1.cl,hg0,row4_st hf4]
      refine dy.bind (vT oo1 (by rw [qJ]; exact hf4) rfl) ?_
      intro h2 pt
      rw [ahx] at pt
      simp only [aD,js (show i≤9223372036854775806 by omega)]
      refine ih (i+1) h2 _ (pt.grow gr1 ho0) pt.own (fun v hv hnv'=>?_) (by omega) (by omega) H
      have hvf:v≠f:=by
        rintro rfl
        exact hnv' (.inr ⟨i,by omega,hfN⟩)
      rw [if_neg hvf]
      refine hg v hv fun h=>hnv' ?_
      rcases h with h | ⟨k,hk,h⟩
      · exact .inl h
      · exact .inr ⟨k,by omega,h⟩
    · rw [ga] at e
      have:i=(stZ ps p).m:=by omega
      subst this
      simp only [aD,js (show p≤9223372036854775806 by omega)]
      exact H h g gr oo hg
theorem works_is (d:Heap) (K:AV→Heap→aa):lq bD [] d K=K (.bool true) d:=rfl
end Go.Proofs.YtpoobhhdgjgdgaaGreat.Sh
/- AuditSound: all of it. -/
namespace Go.Proofs.YtpoobhhdgjgdgaaGreat.Sh
open Go.Ai
theorem s_10 {n:Nat} {h:Heap} {v2 v3 v7:AV} {p:Int} {y:Nat} {c:Nat→Int} (hy:h.cl y (s8 7 c)) (hb:∀ u,0≤c u∧c u≤2097152) {J:ab→bh} {Q:Bool × Heap→Prop} {e1 tot e2:Int}
    (H:aJ ap1 (fun k=>l9 n (bb n) (cx n) (lq bD) (aV n) (bT n) (bX n) k (J k) v2 v3 v7 p e1 tot e2 (wP c 7) h) Q):∀ (q i:Nat),i≤7→7-i<q→
    aJ ap1 (fun k=>lS n (bb n) (cx n) (lq bD) (aV n) (bT n) (bX n) k (J k) q v2 v3 v7 p (.ptr y 0) e1 tot e2 (wP c i) (i:Int) h) Q:=by
  intro q
  induction q with
  | zero=>omega
  | succ q ih=>
    intro i hi hq
    simp only [Fc]
    unfold lT
    refine aJ.ifB (fun e=>?_) fun e=>?_
    · rw [kj,fY] at e
      have hlt:i<7:=by omega
      have iy:∀ K,DD 1 7 (.ptr y 0) (i:Int) K=K (.ptr y (0+i)):=fun K=>Kt (n:=7) (k:=i) hlt K
      have b1:=VP (f:=c) (B:=2097152) (n:=i) fun j _=>hb j
      have b2:=hb i
      have w1:IntKind.i64.wrap (wP c i+c i)=wP c (i+1):=ot (by omega) (by omega)
      simp only [aD,iy,gU hy,wE c hlt,w1,js (show i≤9223372036854775806 by omega)]
      exact ih (i+1) (by omega) (by omega)
    · rw [kj,ga] at e
      have:i=7:=by omega
      subst this
      exact H
theorem amu {n:Nat} (hn':4200<n) {zc:bA} (hn:dt n zc) {h:Heap} (hro:h.ro≤h.nx) {c:List AV} (hc:Cfg h zc c) {ps:List StZ} {vp vl vt:AV} {A B C D:Nat→AV} (hs:ep n h ps vp A B C D) {M:Nat} {S T:Nat→Int} (hl:d0 n h vl M S T) (hv:dS n h vt) :
    aR (cE n (.agg c) (.agg (HS vp vl vt)) h) fun b h'=>b=true∧ba h h':=by
  unfold cE qK nT
  obtain ⟨t,pp,rfl,ht,hp⟩:=hc
  refine aR.bind (mr ..) ?_
  rintro w h1 ⟨hw,g1⟩
  refine aR.bind (mr ..) ?_
  rintro x h2 ⟨hx,g2⟩
  have g02:=g1.trans g2
  have t1:(!true)=false:=rfl
  simp only [aD,works_is,t1,gU (g2.cl hw),bC,gU hx,acO]
  refine aR.bind (v_ACheck hn (by omega) (g02.le hro) (Cfg.mk' (ht.grow g02) (hp.grow g02)) (hs.grow g02) (hl.grow g02) (hv.grow g02)) ?_
  rintro r h3 ⟨g3,fs,hr,hck⟩
  have g03:=g02.trans g3
  have hgood:=hck.good
  have hfs:fs.length<900:=by
    rcases hck with ⟨_,rfl⟩ | ⟨_,_,rfl⟩ | ⟨hm,hl,fs0,tw,ca,tl,rfl,_⟩
    · simp
    · simp
    · have:=tl.len
      have:=abF hm
      have fl1:∀ b c a,(fl b c a).length≤1:=fun b c a=>by cases b<;>simp [fl]
      have:=fl1 tw 280 ps.length
      have:=fl1 (!ca) 281 ps.length
      rw [gv,gv]
      omega
  simp only [bK.len hr]
  refine aJ.ifB (fun _=>?_) fun e0=>?_
  · refine aJ.mono (s_12 (hp.grow g03) ((g2.trans g3).cl hw) hr hgood n 0 (by omega) (by omega)) ?_
    rintro r ⟨q1,q2⟩
    exact ⟨q1,by rw [q2]; exact g03⟩
  · rw [ga] at e0
    obtain rfl:fs = []:=List.eq_nil_of_length_eq_zero (by omega)
    have hck':uP zc=true∧ps.length=zc.parts.length∧∃ fs0,Told zc ps ps.length fs0∧fs0 = []:=by
      rcases hck with ⟨_,h⟩ | ⟨_,_,h⟩ | ⟨hm,hl,fs0,tw,ca,tl,h,_⟩
      · cases h
      · cases h
      · exact ⟨hm,hl,fs0,tl,(List.append_eq_nil_iff.1 h.symm).1⟩
    obtain ⟨hm,hlen,fs0,tl,rfl⟩:=hck'
    have hnone:=tl.none rfl
    have hseen:=aos fun i hi=>(hnone i hi).1
    obtain ⟨hfr,_⟩:=Z7 hm
    simp [ji] at hfr
    refine aR.bind (r_mk4 (g03.le hro)) ?_
    rintro _ h4 ⟨rfl,o4,g4⟩
    have g04:=g03.trans g4
    have h8:=abF hm
    have key:∀ (q p:Nat) (h5:Heap) (g:Nat→Int),ba h3 h5→Own h5 h3.nx (s8 4096 g) 0→(∀ f:Nat,f<4096→¬ Vis ps p 0 f→g f=0)→p≤ps.length→ps.length-p<q→
        aR (fun k=>kN n (bb n) (cx n) (lq bD) (aV n) (bT n) (bX n) k q (.ptr w 0) (.ptr x 0) (.slice h3.nx 0 4096 0 false) (p:Int) h5) fun b h'=>b=true∧ba h h':=by
      intro q
      induction q with
      | zero=>omega
      | succ q ih=>
        intro p h5 g g5 o5 hg hpl hq
        have g25:=g3.trans g5
        have g05:=g02.trans g25
        simp only [Gy]
        unfold md
        have hsp:=bK.len hs.sl
        simp only [aD,gU (g25.cl hx),WI,hsp]
        refine aJ.ifB (fun e=>?_) fun e=>?_
        · rw [fY] at e
          have hlt:p<ps.length:=by omega
          obtain ⟨d1,d2,d3⟩:=hnone p hlt
          have po:=acz hm (p:=p) (by omega)
          simp only [aD,gU ((g2.trans g25).cl hw),bC,gU (g25.cl hx),acO]
          refine c9.bind (v_Totals hn hm (g05.le hro) (Cfg.mk' (ht.grow g05) (hp.grow g05)) (hs.grow g05) hlen (by omega) d3) ?_
          rintro _ _ h6 ⟨g6,rfl,c6,rfl,htot⟩
          have g06:=g05.trans g6
          refine aR.bind (GQ (n:=7) (g06.le hro) (by rfl) (qJ ..)) ?_
          rintro y h7 ⟨hy,oy,g7⟩
          have g57:=g6.trans g7
          have g07:=g05.trans g57
          have g27:=g25.trans g57
          simp only [aD,gU ((g2.trans g27).cl hw),bC]
          refine c9.bind (v_Total hn (g07.le hro) (Cfg.mk' (ht.grow g07) (hp.grow g07)) p) ?_
          rintro tot e2 h9 ⟨he2,htv,g9⟩
          have e20:e2=0:=by rw [he2]; unfold wB; rw [if_pos hm,if_pos ⟨by omega,by omega⟩]
          have htw:=htv e20
          rw [ge] at htw
          clear htv he2
          subst e20 htw
          have g59:=g57.trans g9
          have g39:=g5.trans g59
          have g09:=g05.trans g59
          have o9:Own h9 h3.nx (s8 4096 g) 0:=(g59.chg fun _=>False).own o5 fun h=>h
          have hsum:wP c6 7=Bq zc p:=by
            rw [← apW po d2 d3, ← htot.sum]
            simp only [wP]; omega
          refine s_10 (J:=fun k=>kN n (bb n) (cx n) (lq bD) (aV n) (bT n) (bX n) k q) (g9.cl oy.cl) htot.lo ?_ n 0 (by omega) (by omega)
          unfold l9 mb lZ
          have t0:(!((0:Int)==0))=false:=rfl
          have t2:(!(Bq zc p==Bq zc p))=false:=by simp
          simp only [aD,t0,hsum,t2]
          refine s_3 hn (g03.le hro) (ht.grow g03) (hp.grow g03) ((g2.trans g3).cl hw) (by omega) (hs.grow g03) (g3.cl hx) (fZ _) hlt d2 (hseen (p+1) (by omega)).1 (J:=fun k=>kN n (bb n) (cx n) (lq bD) (aV n) (bT n) (bX n) k q) n 0 h9 g g39 o9 hg (by omega) (by have:=(hs.st p hlt).om; show (stZ ps p).m-0<n; unfold stZ; omega) fun h' g' gr' o' hg'=>?_
          exact ih (p+1) h' g' gr' o' (fun f hf hv=>hg' f hf (vis_next hv)) (by omega) (by omega)
        · unfold nc
          simp only [aD,gU ((g2.trans g25).cl hw),bC]
          refine aR.bind (alD hn (g05.le hro) (Cfg.mk' (ht.grow g05) (hp.grow g05))) ?_
          rintro _ h6 ⟨rfl,g6⟩
          exact jT ⟨hm,g05.trans g6⟩
    exact key n 0 h4 (fun _=>0) g4 o4 (fun _ _ _=>rfl) (by omega) (by omega)
end Go.Proofs.YtpoobhhdgjgdgaaGreat.Sh
