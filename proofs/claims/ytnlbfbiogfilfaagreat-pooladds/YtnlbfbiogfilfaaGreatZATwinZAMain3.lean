/- Two pools that behave alike; the image of a new pool. -/
import Derived.Test.YtnlbfbiogfilfaaGreatZQMainZAFn
set_option linter.all false
namespace Go.Proofs.YtnlbfbiogfilfaaGreat.Sh
open Go.Ai
structure Like (z z':PoolZ):Prop where
  mine:z'.mine=z.mine
  co:z'.colours=z.colours
  quota:z'.quota=z.quota
  cnt:∀ u,u<7→z'.counts u=z.counts u
  free:∀ i,i<z.mine.length→∀ k,k<7→(z'.buds i).free k=(z.buds i).free k
theorem arM {s s':BudZ} (h:∀ k,k<7→s'.free k=s.free k):∀ n,n≤7→fU s' n=fU s n
  | 0,_=>rfl
  | n+1,hn=>by rw [fU,fU,arM h n (by omega),h n (by omega)]
theorem Like.frees {z z':PoolZ} (lk:Like z z') {i:Nat} (hi:i<z.mine.length):frees z' i=frees z i:=arM (lk.free i hi) 7 (Nat.le_refl _)
theorem Best.uniq {f f':Nat→Nat} {L b b':Nat} (h:Best f L b) (h':Best f' L b') (e:∀ j,j<L→f' j=f j):b'=b:=by
  obtain ⟨h1,h2,h3⟩:=h
  obtain ⟨i1,i2,i3⟩:=h'
  rcases Nat.lt_trichotomy b b' with h4 | h4 | h4
  · have a1:=i3 b h4
    rw [e b h1,e b' i1] at a1
    have:=h2 b' i1
    omega
  · exact h4.symm
  · have a1:=h3 b' h4
    have a2:=i2 b h1
    rw [e b h1,e b' i1] at a2
    omega
theorem asH {g g':Nat→List Int} {o k k':Nat} {a a':Int} {r r':List Int} (hok:o≤k) (hok':o≤k') (hk:k<7) (hk':k'<7) (h:∀ j,j<7→g' j=g j) (h1:g k=a::r) (h2:∀ j,o≤j→j<k→g j = []) (h3:g' k'=a'::r') (h4:∀ j,o≤j→j<k'→g' j = []):k'=k∧a'=a∧r'=r:=by
  rcases Nat.lt_trichotomy k k' with h5 | h5 | h5
  · have:=h4 k hok h5
    rw [h k hk,h1] at this
    cases this
  · subst h5
    rw [h k hk,h1] at h3
    cases h3
    exact ⟨rfl,rfl,rfl⟩
  · have:=h2 k' hok' h5
    rw [← h k' hk',h3] at this
    cases this
theorem Like.taken {z z':PoolZ} (lk:Like z z') {i o u k:Nat} {a:Int} {rest:List Int}:Like (K5 z i o u k a rest) (K5 z' i o u k a rest):=by
  refine ⟨lk.mine,lk.co,lk.quota,fun v hv=>?_,fun j hj q hq=>?_⟩
  · show upd z'.counts u (z'.counts u+_) v=upd z.counts u (z.counts u+_) v
    by_cases e:v=u
    · subst e; rw [dC,dC,lk.cnt v hv]
    · rw [dh _ _ e,dh _ _ e,lk.cnt v hv]
  · have hj':j<z.mine.length:=hj
    show (upd z'.buds i _ j).free q=(upd z.buds i _ j).free q
    by_cases e:j=i
    · subst e
      rw [dC,dC]
      show (if q=k then rest else if o≤q∧q<k then [a+2^q] else (z'.buds j).free q)=if q=k then rest else if o≤q∧q<k then [a+2^q] else (z.buds j).free q
      rw [lk.free j hj' q hq]
    · rw [dh _ _ e,dh _ _ e,lk.free j hj' q hq]
structure Twin (zc:CfgZ) (p:Nat) (hb h:Heap) (wp:PoolP) (zp:PoolZ) (wq:PoolP) (zq:PoolZ) (T:List Int):Prop where
  pp:PoolIn h wp zp
  pq:PoolIn h wq zq
  ip:Inv zc p T zp
  iq:Inv zc p T zq
  lk:Like zp zq
  dis:∀ c,fpP wp zp.mine.length c→¬ fpP wq zq.mine.length c
  lowp:∀ c,fpP wp zp.mine.length c→hb.nx≤c
  lowq:∀ c,fpP wq zq.mine.length c→hb.nx≤c
  g:Grow hb h
theorem Twin.mid {zc:CfgZ} {p:Nat} {hb h:Heap} {wp:PoolP} {zp:PoolZ} {wq:PoolP} {zq:PoolZ} {T:List Int} (t:Twin zc p hb h wp zp wq zq T) {u:Nat} {f e:Int} {h1:Heap} (ht:alD h wp zp u f e h1):PoolIn h1 wq zq∧Grow hb h1:=by
  rcases ht with ⟨_,_,_,rfl⟩ | ⟨_,best,r,_,hT,_⟩
  · exact ⟨t.pq,t.g⟩
  · rcases hT with ⟨_,_,rfl,_⟩ | ⟨_,k,a,rest,bv',_,_,_,_,_,_,_,_,c⟩
    · exact ⟨t.pq,t.g⟩
    · exact ⟨t.pq.chg c fun d x1 x2=>t.dis d x2 x1,c.grow t.g t.lowp⟩
theorem Twin.take {zc:CfgZ} {p:Nat} {hb h:Heap} {wp:PoolP} {zp:PoolZ} {wq:PoolP} {zq:PoolZ} {T:List Int} (t:Twin zc p hb h wp zp wq zq T) (po:PartOk zc p) {u:Nat} (hu:u<7) {f e f' e':Int} {h1 h2:Heap} (ht:alD h wp zp u f e h1) (ht':alD h1 wq zq u f' e' h2) :
    f'=f∧e'=e∧∃ wp' zp' wq' zq' T',wp'.p=wp.p∧wq'.p=wq.p∧Twin zc p hb h2 wp' zp' wq' zq' T'∧T'.length≤T.length+1:=by
  have lk:=t.lk
  have hc:=lk.cnt u hu
  have hm:=lk.mine
  obtain ⟨pq1,g1⟩:=t.mid ht
  rcases ht with ⟨a1,rfl,rfl,rfl⟩ | ⟨a1,best,r,hbest,hT,hf0,hf⟩
  · rcases ht' with ⟨b1,rfl,rfl,rfl⟩ | ⟨b1,_⟩
    · exact ⟨rfl,rfl,wp,zp,wq,zq,T,rfl,rfl,t,by omega⟩
    · rw [lk.quota,hc] at b1; omega
  · rcases ht' with ⟨b1,_⟩ | ⟨b1,best',r',hbest',hT',hf0',hf'⟩
    · rw [lk.quota,hc] at b1; omega
    · rw [hm] at hbest'
      have hbb:=hbest.uniq hbest' fun j hj=>lk.frees hj
      subst hbb
      have hfr:=lk.free best' hbest.1
      rcases hT with ⟨rfl,_,rfl,hemp⟩ | ⟨rfl,k,a,rest,bv,c1,hk,hx,hemp,_,_,hp,hsub,c⟩
      · rcases hT' with ⟨rfl,_,rfl,_⟩ | ⟨rfl,k',a',rest',bv',d1,hk',hx',_⟩
        · exact ⟨(hf0' (by decide)).trans (hf0 (by decide)).symm,rfl,wp,zp,wq,zq,T,rfl,rfl,t,by omega⟩
        · rw [hfr k' hk',hemp k' d1 hk'] at hx'; cases hx'
      · rcases hT' with ⟨rfl,_,rfl,hemp'⟩ | ⟨rfl,k',a',rest',bv',d1,hk',hx',hemp',_,_,hp',hsub',c'⟩
        · have:=hemp' k c1 hk
          rw [hfr k hk,hx] at this; cases this
        · obtain ⟨rfl,rfl,rfl⟩:=asH c1 d1 hk hk' hfr hx hemp hx' hemp'
          have e1:=hf rfl k' a' rest' hemp hx
          have e2:=hf' rfl k' a' rest' hemp' hx'
          have ip:=t.ip.step po (u:=u) hbest.1 (by omega) c1 hk hx hemp
          have iq:=t.iq.step po (u:=u) (by rw [hm]; exact hbest.1) (by omega) d1 hk' hx' hemp'
          rw [lk.co,hm] at iq
          rw [lk.co,hm] at e2
          refine ⟨e2.trans e1.symm,rfl,{ wp with bv:=bv },K5 zp best' 0 u k' a' rest',{ wq with bv:=bv' },K5 zq best' 0 u k' a' rest',_,rfl,rfl,⟨hp.chg c' fun d x1 x2=>?_,hp',ip,iq,lk.taken,fun d x1 x2=>?_,fun d x1=>?_,fun d x1=>?_,c'.grow g1 t.lowq⟩,by simp [qE]⟩
          · rcases hsub d x1 with x3 | x3
            · exact t.dis d x3 x2
            · have:=t.pq.lt x2; omega
          · rcases hsub d x1 with x3 | x3
            · rcases hsub' d x2 with x4 | x4
              · exact t.dis d x3 x4
              · have:=t.pp.lt x3; have:=c.nx; omega
            · rcases hsub' d x2 with x4 | x4
              · have:=t.pq.lt x4; omega
              · have:=hp.lt x1; omega
          · rcases hsub d x1 with x3 | x3
            · exact t.lowp d x3
            · exact Nat.le_trans t.g.nx x3
          · rcases hsub' d x1 with x3 | x3
            · exact t.lowq d x3
            · exact Nat.le_trans g1.nx x3
def ImgOf (zc:CfgZ) (p:Nat) (M:List Int):Prop:=∃ bs:Nat→BudZ,(∃ o,Making (Db zc (nz (cL zc p).cols 0)) (Db zc (nz (cL zc p).cols 0)) o (bs 0))∧∃ k a rest,(cL zc p).order.toNat≤k∧k<7∧(bs 0).free k=a::rest∧(∀ j,(cL zc p).order.toNat≤j→j<k→(bs 0).free j = [])∧M=jc zc.colours (nz (cL zc p).cols 0) a (2^(cL zc p).order.toNat)
theorem ImgOf.uniq {zc:CfgZ} {p:Nat} {M M':List Int} (h:ImgOf zc p M) (h':ImgOf zc p M'):M'=M:=by
  obtain ⟨bs,⟨o,mk⟩,k,a,rest,c1,hk,hx,hemp,rfl⟩:=h
  obtain ⟨bs',⟨o',mk'⟩,k',a',rest',d1,hk',hx',hemp',rfl⟩:=h'
  obtain ⟨rfl,rfl,rfl⟩:=asH c1 d1 hk hk' (fun j hj=>(Norm.new mk').uniq (Norm.new mk) (fun x=>by rw [mk.hm,mk'.hm]) hj) hx hemp hx' hemp'
  rfl
theorem az4 {zc:CfgZ} {p:Nat} {M:List Int} {N:List (Int × Int)} {z z':PoolZ} (a:AInv zc p M N z) (a':AInv zc p M N z'):Like z z':=by
  have hm:z'.mine=z.mine:=by rw [a.inv.inv.mine,a'.inv.inv.mine]
  refine ⟨hm,by rw [a.inv.inv.co,a'.inv.inv.co],by rw [a.inv.quota,a'.inv.quota],fun u hu=>by rw [a.inv.cnt u hu,a'.inv.cnt u hu],fun i hi k hk=>?_⟩
  refine (a'.tak i (by rw [hm]; exact hi)).norm.uniq (a.tak i hi).norm (fun x=>?_) hk
  have h1:=a.inv.inv.law i hi x
  have h2:=a'.inv.inv.law i (by rw [hm]; exact hi) x
  rw [hm] at h2
  omega
theorem axz {n:Nat} (hn:100<n) {zc:CfgZ} {p:Nat} (hm:Qm zc=true) (po:PartOk zc p) {h:Heap} (hro:h.ro≤h.nx) {w:PoolP} {bs:Nat→BudZ} (pin:PoolIn h w (Jn zc p bs)) (hmk:∀ j,j<(cL zc p).cols.length→∃ o,Making (Db zc (nz (cL zc p).cols j)) (Db zc (nz (cL zc p).cols j)) o (bs j)) :
    Run2 (ec n (.ptr w.p 0) h) fun r e h'=>e=0∧∃ M w' z',w'.p=w.p∧z'.mine=(cL zc p).cols∧ImgOf zc p M∧Lst h' r M∧M.length=2^(cL zc p).order.toNat∧PoolIn h' w' z'∧AInv zc p M [] z'∧frees z' 0+M.length=frees (Jn zc p bs) 0∧(∀ j,j≠0→frees z' j=frees (Jn zc p bs) j)∧
      (∀ d,fpP w' z'.mine.length d→fpP w z'.mine.length d∨h.nx≤d)∧Chg (fpP w z'.mine.length) h h':=by
  have qo:=aid hm po
  have v0:=InvQ.new hm po hmk
  have ok0:=v0.inv.ok po (by simp)
  have hpos:=po.pos
  have hord:=qo.ord
  refine RunG.mono (v_Image (o:=(cL zc p).order.toNat) hn hro pin ok0 (by omega) (by show (cL zc p).order=_; omega) rfl) ?_
  rintro ⟨r,er,h'⟩ hT
  rcases hT with ⟨_,_,_,hemp⟩ | ⟨rfl,k,a,rest,bv',i1,hk,hxx,hemp,hl,_,hpin,hsub,cc⟩
  · exfalso
    obtain ⟨o,mk0⟩:=hmk 0 hpos
    have hf:=au4 hm po hmk 0 hpos
    have hsum:frees (Jn zc p bs) 0=Db zc (nz (cL zc p).cols 0):=mk0.sum
    have he:=qo.each
    have hcz:2^(cL zc p).order.toNat≤Db zc (nz (cL zc p).cols 0):=by
      rw [← hsum,hf]
      generalize 2^(cL zc p).order.toNat=D at *
      omega
    have hD:1≤2^(cL zc p).order.toNat:=Nat.one_le_two_pow
    obtain ⟨j,j1,j2,j3⟩:=mk0.hb (by omega) (cL zc p).order.toNat (by omega) hcz
    exact j3 (hemp j j1 j2)
  · have hs:=v0.step po (u:=1) (by omega) ok0.ne (by omega) i1 hk hxx hemp
    rw [List.nil_append] at hs
    have hlenM:=qE (Jn zc p bs).colours (nz (Jn zc p bs).mine 0) a (2^(cL zc p).order.toNat)
    have tk:∀ i,i<(cL zc p).cols.length→TakOk (bs i):=fun i hi=>by
      obtain ⟨o,mk⟩:=hmk i hi
      exact ⟨Norm.new mk,by rw [mk.ht]; simp,fun e he=>by rw [mk.ht] at he; simp at he⟩
    obtain ⟨f1,f2⟩:=apT (u:=1) i1 hk hxx hemp
    refine ⟨rfl,jc (Jn zc p bs).colours (nz (Jn zc p bs).mine 0) a (2^(cL zc p).order.toNat),{ w with bv:=bv' },_,rfl,rfl,⟨bs,hmk 0 hpos,k,a,rest,i1,hk,hxx,hemp,rfl⟩,hl,hlenM,hpin,⟨?_,⟨?_,fun u h2 h6=>?_⟩,fun i hi=>?_,fun e he=>by simp at he,fun e he=>by simp at he,fun q hq=>?_⟩,by rw [hlenM]; exact f1,f2,hsub,cc⟩
    · have:img (jc (Jn zc p bs).colours (nz (Jn zc p bs).mine 0) a (2^(cL zc p).order.toNat)) []=(jc (Jn zc p bs).colours (nz (Jn zc p bs).mine 0) a (2^(cL zc p).order.toNat)).map fun f=>(f,((1:Nat):Int)):=by simp [img]
      rw [this]
      exact hs
    · rw [KD,if_pos rfl,hlenM]; exact Nat.le_refl _
    · rw [KD,if_neg (by omega)]
      have:=(qo.lo u h2 h6).1
      simpa [ng] using this
    · have hi':i<(cL zc p).cols.length:=hi
      show TakOk (upd bs 0 _ i)
      by_cases e:i=0
      · subst e
        rw [dC]
        exact ((tk 0 hpos).take i1 hk hxx hemp).1
      · rw [dh _ _ e]; exact tk i hi'
    · show upd (Jn zc p bs).counts 1 _ q=0
      rw [dh _ _ (by omega)]
      rfl
theorem ayp {z0 z:PoolZ} {d:Nat} (hm:z.mine=z0.mine) (hp:0<z0.mine.length) (h0:frees z 0+d=frees z0 0) (h1:∀ j,j<z0.mine.length→j≠0→frees z j=frees z0 j):(lA z).length=(lA z0).length∧nz (lA z) 0=nz (lA z0) 0-d∧(lA z).drop 1=(lA z0).drop 1:=by
  refine ⟨by simp [lA,hm],?_,?_⟩
  · rw [aiQ (by rw [hm]; exact hp),aiQ hp]; omega
  · unfold lA
    rw [hm]
    obtain ⟨L,hL⟩:∃ L,z0.mine.length=L+1:=⟨z0.mine.length-1,by omega⟩
    rw [hL,List.range_succ_eq_map,List.map_cons,List.map_cons,List.drop_succ_cons,List.drop_succ_cons,List.drop_zero,List.drop_zero,List.map_map,List.map_map]
    refine List.map_congr_left fun j hj=>?_
    simp at hj
    show (frees z (j+1):Int)=frees z0 (j+1)
    rw [h1 (j+1) (by omega) (by omega)]
end Go.Proofs.YtnlbfbiogfilfaaGreat.Sh
/- What is taken and given back adds up; at the end the pool behaves as a new one: the code. -/
namespace Go.Proofs.YtnlbfbiogfilfaaGreat.Sh
open Go.Ai
abbrev kS:=cw
theorem v_Adds_2 {n:Nat} (hn:70000<n) {zc:CfgZ} {p:Nat} (po:PartOk zc p) {hb:Heap} (hro:hb.ro≤hb.nx) {P Q:Nat} (f1):∀ (q i:Nat) (h:Heap) (wp:PoolP) (zp:PoolZ) (wq:PoolP) (zq:PoolZ) (T:List Int),Twin zc p hb h wp zp wq zq T→wp.p=P→wq.p=Q→T.length≤100000+i→i≤12→12-i<q→
    Run1 (fun k=>lu n f1 (la n) (ec n) (eN n) (dA n) (dp n) (dN n) (dq n) (i9 n) (dB n) (de n) (ew n) k q (.ptr P 0) 0 (.ptr Q 0) 0 (i:Int) h) fun r h'=>r=true∧Grow hb h':=by
  intro q
  induction q with
  | zero=>omega
  | succ q ih=>
    intro i h wp zp wq zq T t hP hQ hT hi hq
    simp only [Tp]
    unfold nZ
    refine RunG.ifB (fun e=>?_) fun e=>?_
    · simp at e
      have m1:((i:Int)).tmod 5=((i%5:Nat):Int):=by rw [Int.tmod_eq_emod_of_nonneg (by omega)]; omega
      have w1:IntKind.i64.wrap (2+((i%5:Nat):Int))=((2+i%5:Nat):Int):=by rw [jU (by omega) (by omega)]; omega
      have w2:IntKind.u8.wrap ((2+i%5:Nat):Int)=((2+i%5:Nat):Int):=asJ (by omega) (by omega)
      simp only [cJ,Nat.reduceAdd,aiO (show (5:Int)≠0 by decide),m1,w1,w2]
      subst hP hQ
      refine Run2.bind (avX (by omega) (t.g.le hro) t.pp (t.ip.ok po (by omega)) (u:=2+i%5) (by omega) (by omega)) ?_
      rintro f e1 h1 ht
      obtain ⟨pq1,g1⟩:=t.mid ht
      refine Run2.bind (avX (by omega) (g1.le hro) pq1 (t.iq.ok po (by omega)) (u:=2+i%5) (by omega) (by omega)) ?_
      rintro f' e1' h2 ht'
      obtain ⟨rfl,rfl,wp',zp',wq',zq',T',k1,k2,t',k3⟩:=t.take po (by omega) ht ht'
      have t0:(!(f'==f'))=false:=by simp
      have t1:(!(e1'==e1'))=false:=by simp
      rw [t0,t1]
      unfold nJ sr
      simp only [cJ,Nat.reduceAdd,fW (show i≤9223372036854775806 by omega)]
      exact ih (i+1) h2 wp' zp' wq' zq' T' t' k1 k2 (by omega) (by omega) (by omega)
    · unfold nM sC sI sy
      have t0:((0:Int)==0)=true:=rfl
      simp only [cJ,Nat.reduceAdd,t0]
      exact je ⟨rfl,t.g⟩
structure ASt (zc:CfgZ) (p:Nat) (hb h:Heap) (w:PoolP) (z:PoolZ) (M:List Int) (N:List (Int × Int)) (v9:AV) (l9:List Int) (v11:AV) (l:List Int):Prop where
  pool:PoolIn h w z
  a:AInv zc p M N z
  low:∀ c,fpP w z.mine.length c→hb.nx≤c
  g:Grow hb h
  first:Lst h v9 l9
  row:Lst h v11 l
  off9:∀ c,v9.blk=some c→¬ fpP w z.mine.length c∧hb.nx≤c
  off11:∀ c,v11.blk=some c→¬ fpP w z.mine.length c∧hb.nx≤c
  two:∀ c,v9.blk=some c→v11.blk≠some c
theorem ASt.work {zc:CfgZ} {p:Nat} {hb h h':Heap} {w w':PoolP} {z z':PoolZ} {M:List Int} {N N':List (Int × Int)} {v9 v11:AV} {l9 l:List Int} (s:ASt zc p hb h w z M N v9 l9 v11 l) (hm:z'.mine=z.mine) (hp:PoolIn h' w' z') (a':AInv zc p M N' z')
    (hsub:∀ d,fpP w' z.mine.length d→fpP w z.mine.length d∨h.nx≤d) (c:Chg (fpP w z.mine.length) h h'):ASt zc p hb h' w' z' M N' v9 l9 v11 l:=by
  refine ⟨hp,a',fun d x=>?_,c.grow s.g s.low,s.first.chg c fun d e1 e2=>(s.off9 d e1).1 e2,s.row.chg c fun d e1 e2=>(s.off11 d e1).1 e2,fun d e=>⟨fun x=>?_,(s.off9 d e).2⟩,fun d e=>⟨fun x=>?_,(s.off11 d e).2⟩,s.two⟩
  · rw [hm] at x
    rcases hsub d x with x3 | x3
    · exact s.low d x3
    · exact Nat.le_trans s.g.nx x3
  · rw [hm] at x
    rcases hsub d x with x3 | x3
    · exact (s.off9 d e).1 x3
    · have:=(s.first.lt e).1; omega
  · rw [hm] at x
    rcases hsub d x with x3 | x3
    · exact (s.off11 d e).1 x3
    · have:=(s.row.lt e).1; omega
theorem ASt.push {zc:CfgZ} {p:Nat} {hb h h':Heap} {w:PoolP} {z:PoolZ} {M:List Int} {N:List (Int × Int)} {v9 v11 v':AV} {l9 l l':List Int} (s:ASt zc p hb h w z M N v9 l9 v11 l) (hl:Lst h' v' l') (c:Chg (fun c=>v11.blk=some c) h h')
    (hv:∀ d,v'.blk=some d→v11.blk=some d∨h.nx≤d):ASt zc p hb h' w z M N v9 l9 v' l':=by
  refine ⟨s.pool.chg c fun d e1 e2=>(s.off11 d e2).1 e1,s.a,s.low,c.grow s.g fun d e=>(s.off11 d e).2,s.first.chg c fun d e1 e2=>s.two d e1 e2,hl,s.off9,fun d e=>?_,fun d e e2=>?_⟩
  · rcases hv d e with x | x
    · exact s.off11 d x
    · exact ⟨fun x3=>by have:=s.pool.lt x3; omega,Nat.le_trans s.g.nx x⟩
  · rcases hv d e2 with x | x
    · exact s.two d e x
    · have:=(s.first.lt e).1; omega
theorem ASt.grow {zc:CfgZ} {p:Nat} {hb h h':Heap} {w:PoolP} {z:PoolZ} {M:List Int} {N:List (Int × Int)} {v9 v11:AV} {l9 l:List Int} (s:ASt zc p hb h w z M N v9 l9 v11 l) (g:Grow h h'):ASt zc p hb h' w z M N v9 l9 v11 l:=
  s.push (s.row.grow g) (g.chg _) fun _ e=>.inl e
theorem ASt.setRow {zc:CfgZ} {p:Nat} {hb h h':Heap} {w:PoolP} {z:PoolZ} {M:List Int} {N:List (Int × Int)} {v9 v11 v':AV} {l9 l l':List Int} (s:ASt zc p hb h w z M N v9 l9 v11 l) (g:Grow h h') (hl:Lst h' v' l') (hv:∀ d,v'.blk=some d→h.nx≤d):ASt zc p hb h' w z M N v9 l9 v' l':=
  s.push hl (g.chg _) fun d e=>.inr (hv d e)
structure AEnv (n:Nat) (zc:CfgZ) (p:Nat) (hb:Heap) (x:Nat) (t pp:AV) (M:List Int) (z0:PoolZ) (v10:AV):Prop where
  n7:70000<n
  fit:Fits n zc
  ro:hb.ro≤hb.nx
  cl:hb.cl x (Es zc t pp)
  turns:Ints hb .i64 t zc.turns
  parts:Parts hb pp zc.parts
  po:PartOk zc p
  may:Qm zc=true
  lt:p<zc.parts.length
  img:ImgOf zc p M
  mine:z0.mine=(cL zc p).cols
  fin:∀ z,AInv zc p M [] z→frees z 0+M.length=frees z0 0∧∀ j,j<z0.mine.length→j≠0→frees z j=frees z0 j
  len:∀ k,fH v10 k=k M.length
theorem AEnv.ok {n:Nat} {zc:CfgZ} {p:Nat} {hb h:Heap} {x:Nat} {t pp:AV} {M:List Int} {z0:PoolZ} {v10:AV} (v:AEnv n zc p hb x t pp M z0 v10) {w:PoolP} {z:PoolZ} {N:List (Int × Int)} {v9 v11:AV} {l9 l:List Int} (s:ASt zc p hb h w z M N v9 l9 v11 l):PoolOk z:=by
  refine s.a.inv.inv.ok v.po ?_
  have:=s.a.len v.po v.may
  rw [anf]
  simp
  omega
theorem v_Adds_7 {n:Nat} {zc:CfgZ} {p:Nat} {hb:Heap} {x:Nat} {t pp:AV} {M:List Int} {z0:PoolZ} {v10:AV} (v:AEnv n zc p hb x t pp M z0 v10) (f1) {h:Heap} {w:PoolP} {z:PoolZ} {v9 v11:AV} {l:List Int} (s:ASt zc p hb h w z M [] v9 (lA z0) v11 l) :
    Run1 (fun k=>ly n f1 (la n) (ec n) (eN n) (dA n) (dp n) (dN n) (dq n) (i9 n) (dB n) (de n) (ew n) k (p:Int) (.ptr x 0) (.ptr w.p 0) v9 v10 h) fun r h'=>r=true∧Grow hb h':=by
  have hn:=v.n7
  have po:=v.po
  unfold ly sA
  refine Run1.bind (awZ (by omega) (s.g.le v.ro) s.pool (v.ok s)) ?_
  rintro x28 h29 ⟨l28,_,g29⟩
  have s29:=s.grow g29
  have hmz:z.mine=z0.mine:=by rw [s.a.inv.inv.mine,v.mine]
  have hpos:0<z0.mine.length:=by rw [v.mine]; exact po.pos
  obtain ⟨fin1,fin2⟩:=v.fin z s.a
  obtain ⟨q1,q2,q3⟩:=ayp hmz hpos fin1 fin2
  have e1:(!(((lA z).length:Int)==((lA z0).length:Int)))=false:=by rw [q1]; simp
  have hz0:0<(lA z0).length:=by rw [amu]; exact hpos
  have hzz:0<(lA z).length:=by rw [q1]; exact hz0
  have z28:=l28.ints.elN hzz
  have z9:=s29.first.ints.elN hz0
  simp only [Int.ofNat_zero,Int.natCast_zero] at z28 z9
  have hnz:nz (lA z) 0=(frees z 0:Int):=aiQ (by rw [hmz]; exact hpos)
  have hsum:=s.a.inv.sum
  have htot:=(UY po).2.2
  have hfr:frees z 0≤70000:=by
    have h1:=aiU (f:=frees z) (show 0+1≤z.mine.length by rw [hmz]; exact hpos)
    rw [F1] at h1
    omega
  have w1:IntKind.i64.wrap (nz (lA z0) 0-(M.length:Int))=nz (lA z) 0:=by rw [← q2,hnz,jU (by omega) (by omega)]
  have e2:(!(nz (lA z) 0==nz (lA z) 0))=false:=by simp
  simp only [cJ,Nat.reduceAdd,l28.len,s29.first.len,e1,z28,z9,v.len,w1,e2]
  unfold s7 sJ
  obtain ⟨_,y1,_,c1,_,sh1⟩:=Lst.cut l28 hzz
  obtain ⟨_,y2,_,c2,_,sh2⟩:=Lst.cut s29.first hz0
  have c1':∀ c,slK (.sl 1) x28 (some (.int .i64 1)) none none c=c y1:=c1
  have c2':∀ c,slK (.sl 1) v9 (some (.int .i64 1)) none none c=c y2:=c2
  simp only [cJ,Nat.reduceAdd,c1',c2']
  have hln:(lA z).length≤16:=by rw [amu,s.a.inv.inv.mine]; exact po.few
  have q3':(lA z).drop (0+1)=(lA z0).drop (0+1):=q3
  rw [q3'] at sh1
  refine Run1.bind (v_EqInts (by rw [List.length_drop]; omega) sh1 sh2) ?_
  rintro _ h30 ⟨rfl,rfl⟩
  have t0:(!true)=false:=rfl
  rw [t0]
  unfold sw sH
  simp only [yH]
  refine Run1.bind (aAe s29.pool) ?_
  rintro _ h31 ⟨rfl,rfl⟩
  have hw:((z.uses.length:Int)==z.counts 1)=true:=by
    rw [s.a.cnt1,s.a.inv.uses]
    simp [Sh.img]
  rw [hw,abY,t0]
  unfold sZ so
  have hcl:=s29.g.cl v.cl
  simp only [cJ,Nat.reduceAdd,bM hcl,gL]
  have hro29:=s29.g.le v.ro
  refine Run2.bind (v_PNew (by omega) v.fit hro29 (Cfg.mk' (v.turns.grow s29.g) (v.parts.grow s29.g)) (p:Int)) ?_
  rintro r2 e2 h99 ⟨g99,qq⟩
  rcases qq with ⟨a1,a2,_⟩ | ⟨rfl,a2,wq,bs,rfl,mk,hmk⟩
  · exfalso
    apply a1
    rw [a2]
    unfold DT
    rw [v.may,if_pos rfl,if_pos ⟨by omega,by have:=v.lt; omega⟩]
  simp only [Int.toNat_natCast] at mk hmk
  have gg99:=s29.g.trans g99
  refine Run2.bind (axz (by omega) v.may po (gg99.le v.ro) mk.pool hmk) ?_
  rintro r3 e3 h102 ⟨rfl,M',wq',zq,k1,k2,k3,k4,k5,k6,k7,k8,k9,k10,k11⟩
  obtain rfl:=v.img.uniq k3
  have mklow:∀ d,fpP wq zq.mine.length d→h31.nx≤d:=fun d hd=>mk.low d (by rw [k2] at hd; exact hd)
  have g102:Grow h31 h102:=k11.grow g99 mklow
  have s102:=s29.grow g102
  have tw:Twin zc p hb h102 w z wq' zq ((Sh.img M' []).map (·.1)):=by
    refine ⟨s102.pool,k6,s102.a.inv.inv,k7.inv.inv,az4 s102.a k7,fun d x1 x2=>?_,s102.low,fun d x1=>?_,s102.g⟩
    · have h1:=s29.pool.lt x1
      rcases k10 d x2 with h2 | h2
      · have:=mklow d h2; omega
      · have:=g99.nx; omega
    · rcases k10 d x1 with h2 | h2
      · exact Nat.le_trans s29.g.nx (mklow d h2)
      · exact Nat.le_trans gg99.nx h2
  have hlM:M'.length≤65536:=by
    have:=s.a.len po v.may
    simp at this
    exact this
  rw [← k1]
  exact v_Adds_2 hn po v.ro f1 n 0 h102 w z wq' zq _ tw rfl rfl (by rw [anf]; simp; omega) (by omega) (by omega)
theorem v_Adds_8 {n:Nat} {zc:CfgZ} {p:Nat} {hb:Heap} {x:Nat} {t pp:AV} {M:List Int} {z0:PoolZ} {v10:AV} (v:AEnv n zc p hb x t pp M z0 v10) (f1) {v9 v11:AV} {N:List (Int × Int)} {P:Nat}:∀ (q j:Nat) (h:Heap) (w:PoolP) (z:PoolZ),ASt zc p hb h w z M (N.drop j) v9 (lA z0) v11 (N.map (·.1))→w.p=P→j≤N.length→N.length≤65536→N.length-j<q→
    Run1 (fun k=>lj n f1 (la n) (ec n) (eN n) (dA n) (dp n) (dN n) (dq n) (i9 n) (dB n) (de n) (ew n) k q (p:Int) (.ptr x 0) (.ptr P 0) v9 v10 v11 (j:Int) h) fun r h'=>r=true∧Grow hb h':=by
  intro q
  have hn:=v.n7
  induction q with
  | zero=>omega
  | succ q ih=>
    intro j h w z s hP hj hN hq
    simp only [TU]
    unfold nK
    subst hP
    simp only [s.row.len,List.length_map]
    refine RunG.ifB (fun e=>?_) fun e=>?_
    · simp at e
      have hd:N.drop j=N[j]::N.drop (j+1):=List.drop_eq_getElem_cons e
      have hnz:nz (N.map (·.1)) j=N[j].1:=by rw [kC (by simpa using e)]; simp
      have hel:=s.row.ints.elN (i:=j) (by simpa using e)
      rw [hnz] at hel
      simp only [cJ,Nat.reduceAdd,hel]
      refine Run1.bind (ayx hn (s.g.le v.ro) s.pool s.a v.po v.may (f:=N[j].1) (by rw [hd]; exact List.mem_map.2 ⟨_,List.mem_cons_self ..,rfl⟩)) ?_
      rintro _ h42 ⟨rfl,w',z',k1,k2,k3,k4,k5,k6⟩
      have hdel:xe N[j].1 (N.drop j)=N.drop (j+1):=by rw [hd,xe,if_pos rfl]
      rw [hdel] at k4
      have s':=s.work k2 k3 k4 k5 k6
      have t0:(!((0:Int)==0))=false:=rfl
      simp only [cJ,Nat.reduceAdd,t0,fW (show j≤9223372036854775806 by omega)]
      exact ih (j+1) h42 w' z' s' k1 (by omega) hN (by omega)
    · simp at e
      have:N.drop j = []:=List.drop_eq_nil_of_le e
      rw [this] at s
      exact v_Adds_7 v f1 s
end Go.Proofs.YtnlbfbiogfilfaaGreat.Sh
/- PoolAdds: the rounds, and the whole. -/
namespace Go.Proofs.YtnlbfbiogfilfaaGreat.Sh
open Go.Ai
theorem aAA {n:Nat} {zc:CfgZ} {p:Nat} {hb:Heap} {x:Nat} {t pp:AV} {M:List Int} {z0:PoolZ} {v10:AV} (v:AEnv n zc p hb x t pp M z0 v10) (f1) {v2 v9 v11:AV} {i:Nat} (hi:i≤1000) {J:kS→Int→AV→AV→AV→AV→AV→AV→Int→Heap→CRes} {Q:Bool × Heap→Prop}
    {h:Heap} {w:PoolP} {z:PoolZ} {N:List (Int × Int)} (s:ASt zc p hb h w z M N v9 (lA z0) v11 (N.map (·.1))) (hJ:∀ h',ASt zc p hb h' w z M N v9 (lA z0) v11 (N.map (·.1))→RunG ap1 (fun k=>J k (p:Int) v2 (.ptr x 0) (.ptr w.p 0) v9 v10 v11 ((i+1:Nat):Int) h') Q) :
    RunG ap1 (fun k=>gE n f1 (la n) (ec n) (eN n) (dA n) (dp n) (dN n) (dq n) (i9 n) (dB n) (de n) (ew n) k (J k) (p:Int) v2 (.ptr x 0) (.ptr w.p 0) v9 v10 v11 (i:Int) h) Q:=by
  unfold gE rK
  have hn:=v.n7
  have hl:=s.a.len v.po v.may
  have hL:(Sh.img M N).length=M.length+N.length:=by simp [Sh.img]
  simp only [cJ,Nat.reduceAdd,bM (s.g.cl v.cl),gL]
  refine Run1.bind (v_adds (by omega) v.fit (s.g.le v.ro) (Cfg.mk' (v.turns.grow s.g) (v.parts.grow s.g)) v.lt s.pool s.a.inv v.po v.may s.a.wi (by omega) (by omega)) ?_
  rintro _ h56 ⟨rfl,g56⟩
  have s56:=s.grow g56
  have t0:(!true)=false:=rfl
  simp only [cJ,Nat.reduceAdd,t0]
  refine Run1.bind (aAe s56.pool) ?_
  rintro _ h58 ⟨rfl,rfl⟩
  have hw:((z.uses.length:Int)==z.counts 1)=((N.length:Int)==0):=by
    rw [s.a.cnt1,s.a.inv.uses,hL]
    rw [Bool.eq_iff_iff]
    simp
    constructor
    · intro h1
      exact List.eq_nil_of_length_eq_zero (by omega)
    · rintro rfl
      simp
  have t1:∀ b:Bool,((b==b) ^^ true)=false:=by decide
  rw [hw]
  simp only [s56.row.len,List.length_map,zj,aiL,amR,t1]
  unfold rp rx
  simp only [cJ,Nat.reduceAdd,fW (show i≤9223372036854775806 by omega)]
  exact hJ h58 s56
theorem aw2 (l:List Int) (j:Nat):l.take j++l.drop (j+1)=l.eraseIdx j:=(List.eraseIdx_eq_take_drop_succ l j).symm
theorem aA9 {n:Nat} {zc:CfgZ} {p:Nat} {hb:Heap} {x:Nat} {t pp:AV} {M:List Int} {z0:PoolZ} {v10:AV} (v:AEnv n zc p hb x t pp M z0 v10) (f1) {v2 v9:AV} {m:Nat} {K A U:Nat→Int} (hd:DoK hb v2 m K A U) {P:Nat}:∀ (q i:Nat) (h:Heap) (w:PoolP) (z:PoolZ) (N:List (Int × Int)) (v11:AV),ASt zc p hb h w z M N v9 (lA z0) v11 (N.map (·.1))→w.p=P→i≤80→80-i<q→
    Run1 (fun k=>eV n f1 (la n) (ec n) (eN n) (dA n) (dp n) (dN n) (dq n) (i9 n) (dB n) (de n) (ew n) k q (p:Int) v2 (.ptr x 0) (.ptr P 0) v9 v10 v11 (i:Int) h) fun r h'=>r=true∧Grow hb h':=by
  intro q
  have hn:=v.n7
  have po:=v.po
  induction q with
  | zero=>omega
  | succ q ih=>
    intro i h w z N v11 s hP hi hq
    simp only [QW]
    unfold mX
    have hd':=hd.grow s.g
    simp only [hd'.1.len]
    have fin:Run1 (fun k=>iE n f1 (la n) (ec n) (eN n) (dA n) (dp n) (dN n) (dq n) (i9 n) (dB n) (de n) (ew n) k (eV n f1 (la n) (ec n) (eN n) (dA n) (dp n) (dN n) (dq n) (i9 n) (dB n) (de n) (ew n) k q) (p:Int) v2 (.ptr x 0) (.ptr P 0) v9 v10 v11 (i:Int) false h) fun r h'=>r=true∧Grow hb h':=by
      unfold iE mK sS sq
      simp only [yH]
      have hl:=s.a.len po v.may
      exact v_Adds_8 v f1 n 0 h w z s hP (by omega) (by omega) (by omega)
    refine RunG.ifB (fun e=>?_) fun _=>fin
    simp at e
    by_cases h80:i<80
    · have t80:ltF (i:Int) 80=true:=by rw [y4]; simp; omega
      simp only [t80]
      have r12:∀ (h:Heap) (w:PoolP) (z:PoolZ) (N:List (Int × Int)) (v11:AV),ASt zc p hb h w z M N v9 (lA z0) v11 (N.map (·.1))→w.p=P→Run1 (fun k=>gE n f1 (la n) (ec n) (eN n) (dA n) (dp n) (dN n) (dq n) (i9 n) (dB n) (de n) (ew n) k (eV n f1 (la n) (ec n) (eN n) (dA n) (dp n) (dN n) (dq n) (i9 n) (dB n) (de n) (ew n) k q) (p:Int) v2 (.ptr x 0) (.ptr P 0) v9 v10 v11 (i:Int) h) fun r h'=>r=true∧Grow hb h':=by
        intro h w z N v11 s hP
        subst hP
        exact aAA v f1 (by omega) (J:=fun k=>eV n f1 (la n) (ec n) (eN n) (dA n) (dp n) (dN n) (dq n) (i9 n) (dB n) (de n) (ew n) k q) s fun h' s'=>ih (i+1) h' w z N v11 s' rfl (by omega) (by omega)
      obtain ⟨⟨aK,hK⟩,⟨aA,hA⟩,⟨aU,hU⟩⟩:=hd'.at_ e
      obtain ⟨u1,u2⟩:=hd.2 i e
      unfold iE mK
      simp only [xN,hK]
      refine Run1.bind (axq (m:=2) (by omega)) ?_
      rintro r47 h48 ⟨_,rfl⟩
      have hl:=s.a.len po v.may
      have r15:∀ b:Bool,(b=false→0<N.length)→Run1 (fun k=>mP n f1 (la n) (ec n) (eN n) (dA n) (dp n) (dN n) (dq n) (i9 n) (dB n) (de n) (ew n) k (eV n f1 (la n) (ec n) (eN n) (dA n) (dp n) (dN n) (dq n) (i9 n) (dB n) (de n) (ew n) k q) (p:Int) v2 (.ptr x 0) (.ptr P 0) v9 v10 v11 (i:Int) b h48) fun r h'=>r=true∧Grow hb h':=by
        intro b hb0
        unfold mP rt
        subst hP
        refine RunG.ifB (fun _=>?_) fun eb=>?_
        · have m1:(U i).tmod 5=U i%5:=Int.tmod_eq_emod_of_nonneg u1
          have w1:IntKind.u8.wrap (2+U i%5)=((2+(U i%5).toNat:Nat):Int):=by rw [asJ (by omega) (by omega)]; omega
          simp only [hU]
          simp only [cJ,Nat.reduceAdd,aiO (show (5:Int)≠0 by decide),m1,w1]
          refine Run2.bind (avX (by omega) (s.g.le v.ro) s.pool (v.ok s) (u:=2+(U i%5).toNat) (by omega) (by omega)) ?_
          rintro f er h67 ht
          rcases s.a.take po v.may s.pool (u:=2+(U i%5).toNat) ⟨by omega,by omega⟩ ht with ⟨rfl,rfl,rfl⟩ | ⟨rfl,w',z',k1,k2,k3,k4,k5,k6⟩
          · have c1:((4:Int)==0)=false:=rfl
            have c2:(!((4:Int)==4))=false:=rfl
            have c3:(!((0:Int)==0))=false:=rfl
            simp only [cJ,Nat.reduceAdd,c1,c2,c3]
            unfold rG rR
            simp only [yH]
            exact r12 _ w z N v11 s rfl
          · have c1:((0:Int)==0)=true:=rfl
            simp only [cJ,Nat.reduceAdd,c1]
            have s67:=s.work k2 k3 k4 k5 k6
            refine Run1.bind (Ip (fun k=>by rfl)) ?_
            rintro _ h69 ⟨rfl,c69,g69⟩
            have s69:=s67.grow g69
            refine Run1.bind (aiJ (s69.g.le v.ro) s69.row c69 (by rw [List.length_map]; omega)) ?_
            rintro v' h71 ⟨l71,b71,c71⟩
            have e1:N.map (·.1)++[f]=(N++[(f,((2+(U i%5).toNat:Nat):Int))]).map (·.1):=by simp
            rw [e1] at l71
            exact r12 h71 w' z' _ v' (s69.push l71 c71 b71) k1
        · have hpos:=hb0 eb
          simp only [hA,s.row.len,List.length_map]
          refine Run1.bind (axq (m:=(N.length:Int)) (by omega)) ?_
          rintro r76 h77 ⟨hr,rfl⟩
          obtain ⟨j,rfl⟩:=Int.eq_ofNat_of_zero_le hr.1
          have hj:j<N.length:=by have:=hr.2; omega
          have hnz:nz (N.map (·.1)) j=N[j].1:=by rw [kC (by simpa using hj)]; simp
          have hel:=s.row.ints.elN (i:=j) (by simpa using hj)
          rw [hnz] at hel
          simp only [cJ,Nat.reduceAdd,hel]
          have hmem:N[j].1∈N.map (·.1):=List.mem_map.2 ⟨_,List.getElem_mem hj,rfl⟩
          refine Run1.bind (ayx hn (s.g.le v.ro) s.pool s.a po v.may (f:=N[j].1) hmem) ?_
          rintro _ h81 ⟨rfl,w',z',k1,k2,k3,k4,k5,k6⟩
          have s81:=s.work k2 k3 k4 k5 k6
          have hel2:=s81.row.ints.elN (i:=j) (by simpa using hj)
          rw [hnz] at hel2
          have c3:(!((0:Int)==0))=false:=rfl
          have c91:(!((91:Int)==91))=false:=rfl
          simp only [cJ,Nat.reduceAdd,c3,hel2]
          rw [← k1]
          refine Run1.bind (ayX s81.pool (f:=N[j].1) ?_) ?_
          · rw [s81.a.inv.uses,anf,List.mem_append,not_or]
            refine ⟨fun h1=>(List.nodup_append.1 s.a.nodup).2.2 _ h1 _ hmem rfl,fun h1=>?_⟩
            obtain ⟨e,he,e1⟩:=List.mem_map.1 h1
            exact ((ah3 s.a.nodupN).1 he).2 e1
          · rintro _ h85 ⟨rfl,rfl⟩
            rw [c91,k1]
            unfold rS rv
            obtain ⟨y,zz,cy,cz,sh1,sh2⟩:=Lst.cut s81.row (i:=j) (by simpa using hj)
            simp only [yH,cy]
            refine Run1.bind (azv (s81.g.le v.ro) sh1) ?_
            rintro x90 h91 ⟨a90,b90,g91⟩
            simp only [cJ,Nat.reduceAdd,fW (show j≤9223372036854775806 by omega),cz]
            have hln:((N.map (·.1)).take j).length+((N.map (·.1)).drop (j+1)).length≤1048576:=by simp; omega
            refine Run1.bind (arP ((s81.g.trans g91).le v.ro) a90 (sh2.grow g91) hln) ?_
            rintro x94 h95 ⟨a94,b94,c94⟩
            have l94:=Lst.of_app a94 (by rw [List.length_append]; exact hln)
            rw [aw2, ← asX s.a.nodupN hj hnz] at l94
            exact r12 h95 w' z' _ x94 (s81.setRow (c94.grow g91 fun d e=>b90 d e) l94 fun d e=>(b94 d e).elim (b90 d) fun h1=>Nat.le_trans g91.nx h1) k1
      refine RunG.ifB (fun _=>r15 true fun h=>nomatch h) fun _=>?_
      simp only [s.row.len,List.length_map]
      refine r15 _ fun h=>?_
      rw [zj] at h
      simp at h
      exact List.length_pos_iff.2 h
    · have t80:ltF (i:Int) 80=false:=by rw [y4]; simp; omega
      simp only [t80]
      exact fin
end Go.Proofs.YtnlbfbiogfilfaaGreat.Sh
/- PoolAdds: the whole. -/
namespace Go.Proofs.YtnlbfbiogfilfaaGreat.Sh
open Go.Ai
theorem part_ord {h:Heap} {pp:AV} {n:Nat} {f:Nat→PartZ} {S:Nat→AV} (s:SlAt h pp 8 n fun i=>zA (f i) (S i)) {p:Nat} (hp:p<n):∃ a,∀ K:AV→Int→CRes,LC 8 pp (p:Int) (fun x=>iY .i64 1 h x K)=K a (f p).order:=by
  obtain ⟨b,off,l,d1,d2,d3,d4⟩:=s.at_ (i:=(p:Int)) (by omega) (by omega)
  rw [Int.toNat_natCast] at d4
  have d5:l[off+1]?=some (.int .i64 (f p).order):=by
    have:=congrArg (·[1]?) d4
    simp only [List.getElem?_take,List.getElem?_drop] at this
    simpa [zA] using this
  exact ⟨_,fun K=>by rw [s.ia (by omega) (by omega),d1,air d2 d5]⟩
theorem v_Adds {n:Nat} (hn:70000<n) {zc:CfgZ} (hfit:Fits n zc) {h:Heap} (hro:h.ro≤h.nx) {c:List AV} (hc:Cfg h zc c) (p:Int) {v2:AV} {m:Nat} {K A U:Nat→Int} (hd:DoK h v2 m K A U) :
    Run1 (vD n (.agg c) p v2 h) fun r h'=>r=true∧Grow h h':=by
  unfold vD vx vy
  obtain ⟨t,pp,rfl,ht,hp⟩:=hc
  refine Run1.bind (zw ..) ?_
  rintro x h1 ⟨hb,g⟩
  have hw:∀ K:AV→Heap→CRes,GF oh [] h1 K=K (.bool true) h1:=fun K=>rfl
  have t1:∀ A B:CRes,ifB (!true) A B=B:=fun _ _=>rfl
  have hro1:=g.le hro
  have ht1:=ht.grow g
  have hp1:=hp.grow g
  simp only [cJ,Nat.reduceAdd,hw,t1,bM hb,gL]
  refine Run2.bind (v_PNew (by omega) hfit hro1 (Cfg.mk' ht1 hp1) p) ?_
  rintro r2 e2 h2 ⟨g2,q2⟩
  rcases q2 with ⟨a1,a2,rfl⟩ | ⟨rfl,a2,w,bs,rfl,mk,hmk⟩
  · have c1:(!(e2==0))=true:=by simpa using a1
    simp only [zj,abY,c1,xN]
    simp only [cJ,Nat.reduceAdd,bM (g2.cl hb),gL]
    refine Run1.bind (v_May hfit (g2.le hro1) (Cfg.mk' (ht1.grow g2) (hp1.grow g2))) ?_
    rintro _ h3 ⟨rfl,g3⟩
    have g13:=g2.trans g3
    unfold rM rA rO rq
    cases hm:Qm zc with
    | false=>
      have e5:e2=5:=by rw [a2]; unfold DT; rw [hm]; rfl
      subst e5
      have c5:((5:Int)==5)=true:=rfl
      have c6:(!false)=true:=rfl
      simp only [cJ,Nat.reduceAdd,c5,c6]
      exact je ⟨rfl,g.trans g13⟩
    | true=>
      have e5:e2=270:=by
        rw [a2] at a1 ⊢
        unfold DT at a1 ⊢
        rw [hm,if_pos rfl] at a1 ⊢
        split at a1
        · exact (a1 rfl).elim
        · rename_i h7; rw [if_neg h7]
      subst e5
      have c5:((270:Int)==270)=true:=rfl
      have c6:(!true)=false:=rfl
      simp only [cJ,Nat.reduceAdd,c5,c6,bM (g13.cl hb),gL]
      refine Run1.bind (v_May hfit (g13.le hro1) (Cfg.mk' (ht1.grow g13) (hp1.grow g13))) ?_
      rintro _ h4 ⟨rfl,g4⟩
      simp only [hm,xN]
      exact je ⟨rfl,g.trans (g13.trans g4)⟩
  · have hm1:Qm zc=true:=by
      unfold DT at a2
      cases hmay:Qm zc with
      | true=>rfl
      | false=>rw [hmay] at a2; simp at a2
    have hp0:0≤p∧p<zc.parts.length:=by
      unfold DT at a2
      rw [hm1,if_pos rfl] at a2
      by_cases hh:0≤p∧p<zc.parts.length
      · exact hh
      · rw [if_neg hh] at a2; omega
    obtain ⟨pn,rfl⟩:=Int.eq_ofNat_of_zero_le hp0.1
    have hpl:pn<zc.parts.length:=by have:=hp0.2; omega
    have po:=ayg hm1 hpl
    have qo:=aid hm1 po
    simp only [Int.toNat_natCast] at mk hmk
    have v0:=InvQ.new hm1 po hmk
    have pin:PoolIn h2 w (Jn zc pn bs):=mk.pool
    have ok0:=v0.inv.ok po (by simp)
    have c2:(!((0:Int)==0))=false:=rfl
    simp only [zj,abY,c2,yH]
    refine Run1.bind (awZ (by omega) (g2.le hro1) pin ok0) ?_
    rintro x12 h13 ⟨l12,b12,g13⟩
    have gg13:=g2.trans g13
    refine Run2.bind (axz (by omega) hm1 po (gg13.le hro1) (pin.grow g13) hmk) ?_
    rintro x14 e14 h16 ⟨rfl,M,w',z1,k1,k2,k3,k4,k5,k6,k7,k8,k9,k10,k11⟩
    have hL:z1.mine.length=(Jn zc pn bs).mine.length:=by rw [k2]; rfl
    have flow:∀ d,fpP w z1.mine.length d→h1.nx≤d:=fun d hd=>mk.low d (by rw [k2] at hd; exact hd)
    have flt:∀ d,fpP w z1.mine.length d→d<h2.nx:=fun d hd=>pin.lt (by rw [← hL]; exact hd)
    have g16:Grow h1 h16:=k11.grow gg13 flow
    obtain ⟨hps0,S,hps,hin⟩:=hp1.grow g16
    obtain ⟨aO,hO⟩:=part_ord hps hpl
    have hord:=qo.ord
    have hnat:((zc.parts.getD pn default).order)=(((cL zc pn).order.toNat:Nat):Int):=by
      show (cL zc pn).order=_
      omega
    obtain ⟨w1,w2,w3⟩:=abE (j:=(cL zc pn).order.toNat) (by omega)
    have hMl:(M.length:Int)=(2:Int)^(cL zc pn).order.toNat:=by rw [k5,(aca (by omega)).1]
    have c3:(!((M.length:Int)==(M.length:Int)))=false:=by simp
    simp only [cJ,Nat.reduceAdd,c2,k4.len,bM (g16.cl hb),gL,hO]
    rw [hnat]
    simp only [TZ (Int.natCast_nonneg _),w1, ← hMl,c3]
    unfold rC rF
    simp only [yH]
    have env:AEnv n zc pn h1 x t pp M (Jn zc pn bs) x14:=by
      refine ⟨hn,hfit,hro1,hb,ht1,hp1,po,hm1,hpl,k3,rfl,fun z a=>?_,k4.len⟩
      have lk:=az4 k7 a
      refine ⟨?_,fun j hj hj0=>?_⟩
      · rw [lk.frees (by rw [k2]; exact po.pos)]; exact k8
      · rw [lk.frees (by rw [hL]; exact hj)]; exact k9 j hj0
    have s0:ASt zc pn h1 h16 w' z1 M [] x12 (lA (Jn zc pn bs)) .nilslice ((([]:List (Int × Int))).map (·.1)):=by
      have n2:=g2.nx
      have n13:=g13.nx
      refine ⟨k6,k7,fun d hd=>?_,g16,l12.chg k11 fun d e1 e2=>?_,.nil,fun d e1=>⟨fun e2=>?_,?_⟩,fun d e1=>(by cases e1),fun d _ e1=>(by cases e1)⟩
      · rcases k10 d hd with h7 | h7
        · exact flow d h7
        · omega
      · have:=b12 d e1; have:=flt d e2; omega
      · have h8:=b12 d e1
        have h9:=(l12.lt e1).1
        rcases k10 d e2 with h7 | h7
        · have:=flt d h7; omega
        · omega
      · have:=b12 d e1; omega
    rw [← k1]
    refine RunG.mono (aA9 env _ (hd.grow g) n 0 h16 w' z1 [] .nilslice s0 rfl (by omega) (by omega)) ?_
    rintro ⟨r,h'⟩ ⟨e1,e2⟩
    exact ⟨e1,g.trans e2⟩
end Go.Proofs.YtnlbfbiogfilfaaGreat.Sh
