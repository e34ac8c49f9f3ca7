/- A pool at work, the image beside what is taken one by one. -/
import Derived.Test.YtlgbmkemfinogaaGreatLS5LQAdds
set_option linter.all false
namespace Go.Proofs.YtlgbmkemfinogaaGreat.Sh
open Go.Ai
theorem cntU_one (L:List (Int × Int)) (f:Int) (v u:Int):ob (L++[(f,v)]) u=ob L u+if v=u then 1 else 0:=by
  rw [BI]
  congr 1
  by_cases e:v=u<;>simp [ob,e]
theorem ajj {f:Nat→Nat}:∀ {m n:Nat},m≤n→Kt f m≤Kt f n
  | m,0,h=>by have:m=0:=by omega
              subst this; exact gp _
  | m,n+1,h=>by
    by_cases e:m=n+1
    · subst e; exact gp _
    · have:=ajj (f:=f) (show m≤n by omega); rw [Kt]; omega
def img (M:List Int) (N:List (Int × Int)):List (Int × Int):=(M.map fun f=>(f,(1:Int)))++N
structure eL (zc:br) (p:Nat) (M:List Int) (N:List (Int × Int)) (z:bf):Prop where
  inv:InvQ zc p (img M N) z
  wi:WithinQ zc p (img M N)
  tak:∀ i,i<z.fD.length→TakOk (z.fE i)
  has:∀ e∈N,∃ i x,i<z.fD.length∧e.1=x*z.fB+nz z.fD i∧(x,0)∈(z.fE i).fG
  us:∀ e∈N,2≤e.2∧e.2≤6
  top:∀ k,7≤k→z.fF k=0
theorem W4 (M:List Int) (N:List (Int × Int)):(img M N).map (·.1)=M++N.map (·.1):=by simp [img,Function.comp_def]
theorem eL.nodup {zc:br} {p:Nat} {M:List Int} {N:List (Int × Int)} {z:bf} (a:eL zc p M N z):(M++N.map (·.1)).Nodup:=by
  have:=a.inv.inv.nodup
  rwa [W4] at this
theorem eL.nodupN {zc:br} {p:Nat} {M:List Int} {N:List (Int × Int)} {z:bf} (a:eL zc p M N z):(N.map (·.1)).Nodup:=(gP.1 a.nodup).2.1
theorem eL.len {zc:br} {p:Nat} {M:List Int} {N:List (Int × Int)} {z:bf} (a:eL zc p M N z) (po:dq zc p) (hm:NX zc=true):M.length+N.length≤65536:=by
  have h1:=(a.wi.room (S5 hm po) a.inv.rng).1
  have h2:=(acC po).2.2
  have:(img M N).length=M.length+N.length:=by simp [img]
  omega
theorem wj (M:List Int) (N:List (Int × Int)) (u:Int):ob (img M N) u=(if u=1 then M.length else 0)+ob N u:=by
  unfold img
  rw [BI,anc]
  by_cases e:u=1
  · rw [if_pos e.symm,if_pos e]
  · rw [if_neg (fun h=>e h.symm),if_neg e]
theorem eL.cnt1 {zc:br} {p:Nat} {M:List Int} {N:List (Int × Int)} {z:bf} (a:eL zc p M N z):z.fF 1=(M.length:Int):=by
  have h:=a.inv.cnt 1 (by omega)
  have h2:=wj M N 1
  rw [if_pos rfl] at h2
  have h3:ob N 1=0:=List.countP_eq_zero.2 fun e he=>by
    have:=a.us e he
    simp; omega
  rw [h]
  show ((ob (img M N) 1:Nat):Int)=_
  omega
theorem eL.take {zc:br} {p:Nat} {M:List Int} {N:List (Int × Int)} {z:bf} (a:eL zc p M N z) (po:dq zc p) (hm:NX zc=true) {h h':Heap} {w:bX} (pin:bF h w z) {u:Nat} (hu:2≤u∧u≤6) {f e:Int} (ht:Xl h w z u f e h') :
    (f=0∧e=4∧h'=h)∨(e=0∧∃ w' z',w'.p=w.p∧z'.fD=z.fD∧bF h' w' z'∧eL zc p M (N++[(f,(u:Int))]) z'∧(∀ d,fpP w' z.fD.length d→fpP w z.fD.length d∨h.nx≤d)∧Chg (fpP w z.fD.length) h h'):=by
  have qo:=S5 hm po
  have ht0:=ht
  rcases ht with ⟨_,h1,h2,h3⟩ | ⟨hlt,best,r,hbest,hT,_,hf⟩
  · exact .inl ⟨h1,h2,h3⟩
  · have hlt':(ob (img M N) u:Int)<mh (jk zc p) u:=by
      rw [a.inv.fK,a.inv.cnt u (by omega)] at hlt; exact hlt
    obtain ⟨e0,_⟩:=takeQ pin a.inv po qo a.wi hu hlt' ht0
    rcases hT with ⟨e4,_⟩ | ⟨_,k,at_,rest,bv',h1,hk,hx,hemp,_,_,hp,hsub,c⟩
    · rw [e0] at e4; cases e4
    refine .inr ⟨e0,{ w with bv:=bv' },d9 z best 0 u k at_ rest,rfl,rfl,hp,?_,hsub,c⟩
    have hs':=a.inv.step po (u:=u) ⟨by omega,hu.2⟩ hbest.1 (by omega) h1 hk hx hemp
    have hf':=hf e0 k at_ rest hemp hx
    have hfr:mF z.fB (nz z.fD best) at_ (2^0) = [f]:=by simp [mF,hf']
    rw [hfr] at hs'
    have hL:img M N++[f].map (fun f=>(f,(u:Int)))=img M (N++[(f,(u:Int))]):=by simp [img]
    rw [hL] at hs'
    obtain ⟨t1,t2⟩:=(a.tak best hbest.1).take (o:=0) (Nat.zero_le _) hk hx hemp
    have bsame:∀ j,j≠best→(d9 z best 0 u k at_ rest).fE j=z.fE j:=fun j hj=>jL _ _ hj
    have bnew:(d9 z best 0 u k at_ rest).fE best = { uv (z.fE best) 0 k 0 at_ rest with fG:=LJ at_ ((0:Nat):Int) (z.fE best).fG }:=jY ..
    refine ⟨hs',⟨?_,fun v h2 h6=>?_⟩,fun i hi=>?_,fun e he=>?_,fun e he=>?_,fun q hq=>?_⟩
    · have:=a.wi.image
      rw [wj,BI]
      rw [wj] at this
      have h0:ob [(f,(u:Int))] 1=0:=by simp [ob]; omega
      omega
    · have:=a.wi.fK v h2 h6
      have h3:=wj M (N++[(f,(u:Int))]) v
      have h4:=wj M N v
      rw [cntU_one] at h3
      by_cases e1:(u:Int)=(v:Int)
      · have:u=v:=by omega
        subst this
        rw [if_pos rfl] at h3
        omega
      · rw [if_neg e1] at h3; omega
    · by_cases e1:i=best
      · rw [e1,bnew]; exact t1
      · rw [bsame i e1]; exact a.tak i hi
    · rcases gT.1 he with h | h
      · obtain ⟨i,x,i1,i2,i3⟩:=a.has e h
        refine ⟨i,x,i1,i2,?_⟩
        by_cases e1:i=best
        · rw [e1,bnew]
          show (x,0)∈LJ at_ ((0:Nat):Int) _
          rw [t2]
          exact gH _ (by rw [← e1]; exact i3)
        · rw [bsame i e1]; exact i3
      · simp at h
        refine ⟨best,at_,hbest.1,by rw [h]; exact hf',?_⟩
        rw [bnew]
        show (at_,0)∈LJ at_ ((0:Nat):Int) _
        rw [t2]
        simp
    · rcases gT.1 he with h | h
      · exact a.us e h
      · simp at h
        rw [h]
        dsimp only
        omega
    · show upd z.fF u _ q=0
      rw [jL _ _ (by omega)]
      exact a.top q hq
theorem eL.give {zc:br} {p:Nat} {M:List Int} {N:List (Int × Int)} {z:bf} (a:eL zc p M N z) (po:dq zc p) {f:Int} {u i:Nat} (hmem:(f,(u:Int))∈N) (hi:i<z.fD.length) {x:Int} (hx:f=x*z.fB+nz z.fD i) {s':cw} (g:GaveS (z.fE i) x s') :
    eL zc p M (xJ f N) (ZN z i u f s'):=by
  have hu:=a.us _ hmem
  dsimp only at hu
  have hmemL:(f,(u:Int))∈img M N:=gI _ hmem
  have hnd:=a.nodup
  have hfM:f∉(M.map fun f=>(f,(1:Int))).map (·.1):=by
    have:(M.map fun f=>(f,(1:Int))).map (·.1)=M:=by simp [Function.comp_def]
    rw [this]
    exact fun h=>(gP.1 hnd).2.2 f h f (fY.2 ⟨_,hmem,rfl⟩) rfl
  have hL:xJ f (img M N)=img M (xJ f N):=WA hfM N
  have hs:=a.inv.give po hmemL (by omega) hi hx g a.top
  rw [hL] at hs
  have hsub:=adm f N
  obtain ⟨m1,m2,m3,m4⟩:=adb a.inv.inv po
  have hc:=a.inv.inv.co
  have bsame:∀ j,j≠i→(ZN z i u f s').fE j=z.fE j:=fun j hj=>jL _ _ hj
  have bnew:(ZN z i u f s').fE i=s':=jY ..
  refine ⟨hs,⟨?_,fun v h2 h6=>?_⟩,fun j hj=>?_,fun e he=>?_,fun e he=>a.us e (hsub.subset he),fun q hq=>?_⟩
  · have:=a.wi.image
    rw [wj] at this ⊢
    have h2:=R4 a.nodupN hmem 1
    omega
  · have:=a.wi.fK v h2 h6
    rw [wj] at this ⊢
    have h2:=R4 a.nodupN hmem v
    omega
  · by_cases e1:j=i
    · rw [e1,bnew]; exact g.ok (a.tak i hi)
    · rw [bsame j e1]; exact a.tak j hj
  · obtain ⟨he1,he2⟩:=(acn a.nodupN).1 he
    obtain ⟨j,y,j1,j2,j3⟩:=a.has e he1
    refine ⟨j,y,j1,j2,?_⟩
    by_cases e1:j=i
    · subst e1
      rw [bnew,g.fG,acn (a.tak j hi).key]
      refine ⟨j3,fun e2=>he2 ?_⟩
      have e2':y=x:=e2
      rw [j2,hx,e2']
    · rw [bsame j e1]; exact j3
  · show upd z.fF u _ q=0
    rw [jL _ _ (by omega)]
    exact a.top q hq
theorem v_PGiveA {n:Nat} (hn:70000<n) {zc:br} {p:Nat} {h:Heap} (hro:h.ro≤h.nx) {w:bX} {z:bf} (b:bF h w z) {M:List Int} {N:List (Int × Int)} (a:eL zc p M N z) (po:dq zc p) (hm:NX zc=true) {f:Int} (hf:f∈N.map (·.1)) :
    aJ (db n (.ptr w.p 0) f h) fun r h'=>r=0∧∃ w' z',w'.p=w.p∧z'.fD=z.fD∧bF h' w' z'∧eL zc p M (xJ f N) z'∧(∀ d,fpP w' z.fD.length d→fpP w z.fD.length d∨h.nx≤d)∧Chg (fpP w z.fD.length) h h':=by
  obtain ⟨⟨f',uu⟩,he,rfl⟩:=fY.1 hf
  have hu:=a.us _ he
  dsimp only at hu
  obtain ⟨u,rfl⟩:=gE (show 0≤uu by omega)
  obtain ⟨i,x,hi,hx,hk⟩:=a.has _ he
  have heL:(f',(u:Int))∈img M N:=gI _ he
  obtain ⟨m1,m2,m3,m4⟩:=adb a.inv.inv po
  have hc:=a.inv.inv.co
  have hown:=a.inv.inv.own po (f:=f') (fY.2 ⟨_,heL,rfl⟩)
  have hcnt:=a.inv.cnt u (by omega)
  have hlen:=a.len po hm
  have hl:(img M N).length=M.length+N.length:=by simp [img]
  have c1:1≤ob (img M N) u:=gN.2 ⟨_,heL,by simp⟩
  have c2:ob (img M N) u≤(img M N).length:=List.countP_le_length
  have hsum:=a.inv.sum
  have htot:=(acC po).2.2
  have hfr:fL z i<70000:=by
    have h1:=ajj (f:=fL z) (show i+1≤z.fD.length by omega)
    rw [Kt] at h1
    omega
  refine aR.mono (v_PGive (u:=u) hn hro b (by rw [a.inv.uses]; exact a.inv.inv.nodup) (by rw [hc]; exact po.co) m2 (by rw [hc]; exact m1) ⟨hown.1,by omega⟩ ⟨by omega,by omega⟩ (by rw [a.inv.uses]; exact heL) (by rw [hcnt]; omega) hi (by omega) hx (a.tak i hi) hk hfr) ?_
  rintro ⟨r,h'⟩ ⟨r1,w',s',r2,r3,r4,r5,r6⟩
  exact ⟨r1,w',ZN z i u f' s',r2,rfl,r4,a.give po he hi hx r3,r5,r6⟩
end Go.Proofs.YtlgbmkemfinogaaGreat.Sh
/- Rows cut and joined; numbers held within. -/
namespace Go.Proofs.YtlgbmkemfinogaaGreat.Sh
open Go.Ai
structure Shows (h:Heap) (v:AV) (m:List Int):Prop where
  lenF:lenF v=some m.length
  len:∀ k,lz v k=k m.length
  small:m.length≤1048576
  cells:m≠[]→∃ b off ext o cl,v = .slice b off m.length ext o∧h.cl b cl∧sub cl off m.length=some (cH m)
theorem Shows.ints {h:Heap} {v:AV} {m:List Int} (s:Shows h v m) (hm:m≠[]):dh h .i64 v m:=by
  obtain ⟨b,off,ext,o,cl,rfl,hc,hs⟩:=s.cells hm
  refine ⟨by have:=s.small; omega,.inr ⟨b,off,ext,o,rfl,fun _=>⟨cl,hc,fun i hi=>?_⟩⟩⟩
  rw [pN] at hs
  split at hs
  · rename_i h1
    have h2:=Option.some.inj hs
    rw [List.length_drop] at h1
    refine ⟨by omega,?_⟩
    rw [Nat.mul_one]
    have h3:cl[off+i]?=some (.int .i64 (nz m i)):=by
      have h4:=congrArg (·[i]?) h2
      simp only [List.getElem?_take,if_pos hi,List.getElem?_drop] at h4
      rw [h4]
      simp only [cH,gV,gk hi,Option.map_some]
      rw [nQ hi]
    rw [gx (by omega)]
    have h5:=gk (l:=cl) (i:=off+i) (by omega)
    rw [h5] at h3
    rw [Option.some.inj h3]
    rfl
  · cases hs
theorem v_Within {n:Nat} {h:Heap} {a m:Int} (hm:0<m∧m≤1000000):aJ (aM n a m h) fun r h'=>(0≤r∧r<m)∧h'=h:=by
  unfold aM th qr nL
  have h1:=Int.tmod_lt_of_pos a hm.1
  have h2 : -m<a.tmod m:=by
    have:=Int.tmod_lt_of_pos (-a) hm.1
    rw [Int.neg_tmod] at this
    omega
  simp only [JP (show m≠0 by omega)]
  refine aR.ifB (fun e=>?_) fun e=>?_
  · simp at e
    have w1:IntKind.i64.wrap (a.tmod m+m)=a.tmod m+m:=mP (by omega) (by omega)
    simp only [au,w1]
    exact mQ ⟨⟨by omega,by omega⟩,rfl⟩
  · simp at e
    exact mQ ⟨⟨e,h1⟩,rfl⟩
theorem aoa {n:Nat} {h:Heap} {a b:AV} {l:List Int} (ha:Shows h a l) (hb:Shows h b l):∀ (q i:Nat),i≤l.length→l.length-i<q→
    aJ (fun k=>oV n k q a b (i:Int) h) fun r h'=>r=true∧h'=h:=by
  intro q
  induction q with
  | zero=>omega
  | succ q ih=>
    intro i hi hq
    simp only [Py]
    unfold oW rj
    simp only [ha.len]
    refine aR.ifB (fun e=>?_) fun e=>by exact mQ ⟨rfl,rfl⟩
    simp at e
    have hs:=ha.small
    have hne:l≠[]:=by rintro rfl; simp at e
    have e1:(!(nz l i==nz l i))=false:=by simp
    simp only [au,(ha.ints hne).elN e,(hb.ints hne).elN e,e1,kP (show i≤9223372036854775806 by omega)]
    exact ih (i+1) (by omega) (by omega)
theorem v_EqInts {n:Nat} {h:Heap} {a b:AV} {l:List Int} (hn:l.length<n) (ha:Shows h a l) (hb:Shows h b l):aJ (aU n a b h) fun r h'=>r=true∧h'=h:=by
  unfold aU yf tp
  have e1:(!((l.length:Int)==(l.length:Int)))=false:=by simp
  simp only [au,ha.len,hb.len,e1]
  exact aoa ha hb n 0 (by omega) (by omega)
end Go.Proofs.YtlgbmkemfinogaaGreat.Sh
/- Two pools alike; the image. -/
namespace Go.Proofs.YtlgbmkemfinogaaGreat.Sh
open Go.Ai
structure Like (z z':bf):Prop where
  fD:z'.fD=z.fD
  co:z'.fB=z.fB
  fK:z'.fK=z.fK
  cnt:∀ u,u<7→z'.fF u=z.fF u
  free:∀ i,i<z.fD.length→∀ k,k<7→(z'.fE i).free k=(z.fE i).free k
theorem ahO {s s':cw} (h:∀ k,k<7→s'.free k=s.free k):∀ n,n≤7→lR s' n=lR s n
  | 0,_=>rfl
  | n+1,hn=>by rw [lR,lR,ahO h n (by omega),h n (by omega)]
theorem Like.fL {z z':bf} (lk:Like z z') {i:Nat} (hi:i<z.fD.length):fL z' i=fL z i:=ahO (lk.free i hi) 7 (gp _)
def ImgOf (zc:br) (p:Nat) (M:List Int):Prop:=∃ bs:Nat→cw,(∃ o,dx (CD zc (nz (jk zc p).fC 0)) (CD zc (nz (jk zc p).fC 0)) o (bs 0))∧∃ k a rest,(jk zc p).order.toNat≤k∧k<7∧(bs 0).free k=a::rest∧(∀ j,(jk zc p).order.toNat≤j→j<k→(bs 0).free j = [])∧M=mF zc.fB (nz (jk zc p).fC 0) a (2^(jk zc p).order.toNat)
theorem like_of {zc:br} {p:Nat} {M:List Int} {N:List (Int × Int)} {z z':bf} (a:eL zc p M N z) (a':eL zc p M N z'):Like z z':=by
  have hm:z'.fD=z.fD:=by rw [a.inv.inv.fD,a'.inv.inv.fD]
  refine ⟨hm,by rw [a.inv.inv.co,a'.inv.inv.co],by rw [a.inv.fK,a'.inv.fK],fun u hu=>by rw [a.inv.cnt u hu,a'.inv.cnt u hu],fun i hi k hk=>?_⟩
  refine (a'.tak i (by rw [hm]; exact hi)).norm.uniq (a.tak i hi).norm (fun x=>?_) hk
  have h1:=a.inv.inv.law i hi x
  have h2:=a'.inv.inv.law i (by rw [hm]; exact hi) x
  rw [hm] at h2
  omega
theorem v_ImageA {n:Nat} (hn:100<n) {zc:br} {p:Nat} (hm:NX zc=true) (po:dq zc p) {h:Heap} (hro:h.ro≤h.nx) {w:bX} {bs:Nat→cw} (pin:bF h w (HM zc p bs)) (hmk:∀ j,j<(jk zc p).fC.length→∃ o,dx (CD zc (nz (jk zc p).fC j)) (CD zc (nz (jk zc p).fC j)) o (bs j)) :
    dY (ba n (.ptr w.p 0) h) fun r e h'=>e=0∧∃ M w' z',w'.p=w.p∧z'.fD=(jk zc p).fC∧ImgOf zc p M∧Lst h' r M∧M.length=2^(jk zc p).order.toNat∧bF h' w' z'∧eL zc p M [] z'∧fL z' 0+M.length=fL (HM zc p bs) 0∧(∀ j,j≠0→fL z' j=fL (HM zc p bs) j)∧
      (∀ d,fpP w' z'.fD.length d→fpP w z'.fD.length d∨h.nx≤d)∧Chg (fpP w z'.fD.length) h h':=by
  have qo:=S5 hm po
  have v0:=InvQ.new hm po hmk
  have ok0:=v0.inv.ok po (by simp)
  have hpos:=po.pos
  have hord:=qo.ord
  refine aR.mono (v_Image (o:=(jk zc p).order.toNat) hn hro pin ok0 (by omega) (by show (jk zc p).order=_; omega) rfl) ?_
  rintro ⟨r,er,h'⟩ hT
  rcases hT with ⟨_,_,_,hemp⟩ | ⟨rfl,k,a,rest,bv',i1,hk,hxx,hemp,hl,_,hpin,hsub,cc⟩
  · exfalso
    obtain ⟨o,mk0⟩:=hmk 0 hpos
    have hf:=ajH hm po hmk 0 hpos
    have hsum:fL (HM zc p bs) 0=CD zc (nz (jk zc p).fC 0):=mk0.sum
    have he:=qo.each
    have hcz:2^(jk zc p).order.toNat≤CD zc (nz (jk zc p).fC 0):=by
      rw [← hsum,hf]
      generalize 2^(jk zc p).order.toNat=D at *
      omega
    have hD:1≤2^(jk zc p).order.toNat:=Nat.one_le_two_pow
    obtain ⟨j,j1,j2,j3⟩:=mk0.hb (by omega) (jk zc p).order.toNat (by omega) hcz
    exact j3 (hemp j j1 j2)
  · have hs:=v0.step po (u:=1) (by omega) ok0.ne (by omega) i1 hk hxx hemp
    rw [List.nil_append] at hs
    have hlenM:=uT (HM zc p bs).fB (nz (HM zc p bs).fD 0) a (2^(jk zc p).order.toNat)
    have tk:∀ i,i<(jk zc p).fC.length→TakOk (bs i):=fun i hi=>by
      obtain ⟨o,mk⟩:=hmk i hi
      exact ⟨eX.new mk,by rw [mk.ht]; simp,fun e he=>by rw [mk.ht] at he; simp at he⟩
    obtain ⟨f1,f2⟩:=ae9 (u:=1) i1 hk hxx hemp
    refine ⟨rfl,mF (HM zc p bs).fB (nz (HM zc p bs).fD 0) a (2^(jk zc p).order.toNat),{ w with bv:=bv' },_,rfl,rfl,⟨bs,hmk 0 hpos,k,a,rest,i1,hk,hxx,hemp,rfl⟩,hl,hlenM,hpin,⟨?_,⟨?_,fun u h2 h6=>?_⟩,fun i hi=>?_,fun e he=>by simp at he,fun e he=>by simp at he,fun q hq=>?_⟩,by rw [hlenM]; exact f1,f2,hsub,cc⟩
    · have:img (mF (HM zc p bs).fB (nz (HM zc p bs).fD 0) a (2^(jk zc p).order.toNat)) []=(mF (HM zc p bs).fB (nz (HM zc p bs).fD 0) a (2^(jk zc p).order.toNat)).map fun f=>(f,((1:Nat):Int)):=by simp [img]
      rw [this]
      exact hs
    · rw [wj,if_pos rfl,hlenM]; exact gp _
    · rw [wj,if_neg (by omega)]
      have:=(qo.lo u h2 h6).1
      simpa [ob] using this
    · have hi':i<(jk zc p).fC.length:=hi
      show TakOk (upd bs 0 _ i)
      by_cases e:i=0
      · subst e
        rw [jY]
        exact ((tk 0 hpos).take i1 hk hxx hemp).1
      · rw [jL _ _ e]; exact tk i hi'
    · show upd (HM zc p bs).fF 1 _ q=0
      rw [jL _ _ (by omega)]
      rfl
end Go.Proofs.YtlgbmkemfinogaaGreat.Sh
/- A slab at work, plainly. -/
namespace Go.Proofs.YtlgbmkemfinogaaGreat.Sh
open Go.Ai
theorem SG {f sz a:Int}:∀ {i:Nat} {row:List Bool},a∈yN f sz i row↔∃ j:Nat,row[j]?=some true∧a=f*256+((i+j:Nat):Int)*sz
  | i,[]=>by simp [yN]
  | i,b::t=>by
    rw [yN,gT,SG (i:=i+1)]
    constructor
    · rintro (h | ⟨j,h1,h2⟩)
      · by_cases hb:b=true
        · rw [if_pos hb] at h
          simp at h
          exact ⟨0,by simp [hb],by simpa using h⟩
        · rw [if_neg hb] at h; cases h
      · exact ⟨j+1,by simpa using h1,by rw [h2,show i+1+j=i+(j+1) by omega]⟩
    · rintro ⟨j,h1,h2⟩
      cases j with
      | zero=>
        left
        have:b=true:=by simpa using h1
        rw [if_pos this]
        simpa using h2
      | succ j=>exact .inr ⟨j,by simpa using h1,by rw [h2,show i+1+j=i+(j+1) by omega]⟩
theorem alP {f sz:Int} (hz:0<sz):∀ (i:Nat) (row:List Bool),(yN f sz i row).Pairwise (fun a b=>a+sz≤b)
  | i,[]=>.nil
  | i,b::t=>by
    rw [yN,List.pairwise_append]
    refine ⟨?_,alP hz (i+1) t,fun x hx y hy=>?_⟩
    · split<;>simp
    · split at hx
      · simp at hx
        obtain ⟨j,_,rfl⟩:=SG.1 hy
        subst hx
        have e:((i+1+j:Nat):Int)*sz=(i:Int)*sz+sz+(j:Int)*sz:=by
          rw [show ((i+1+j:Nat):Int)=(i:Int)+1+(j:Int) by omega,Int.add_mul,Int.add_mul,Int.one_mul]
        have:=Int.mul_nonneg (show (0:Int)≤(j:Int) by omega) (show 0≤sz by omega)
        omega
      · cases hx
theorem ab4 {f sz:Int}:∀ {i:Nat} {row:List Bool} {j:Nat},row[j]?=some false→(yN f sz i (row.set j true)).Perm ((f*256+((i+j:Nat):Int)*sz)::yN f sz i row)
  | i,[],j,h=>by simp at h
  | i,b::t,0,h=>by
    have:b=false:=by simpa using h
    subst this
    simp [yN]
  | i,b::t,j+1,h=>by
    rw [List.set_cons_succ,yN,yN]
    have ih:=ab4 (f:=f) (sz:=sz) (i:=i+1) (row:=t) (j:=j) (by simpa using h)
    rw [show i+1+j=i+(j+1) by omega] at ih
    exact (ih.append_left _).trans List.perm_middle
theorem aoi {f sz:Int} {row:List Bool} {j:Nat} (h:row[j]?=some true):(yN f sz 0 row).Perm ((f*256+(j:Int)*sz)::yN f sz 0 (row.set j false)):=by
  obtain ⟨h1,h2⟩:=gr.1 h
  have:=ab4 (f:=f) (sz:=sz) (i:=0) (row:=row.set j false) (j:=j) (by simp [h1])
  rw [List.set_set, ← h2,List.set_getElem_self,Nat.zero_add] at this
  exact this
theorem akd {f sz:Int}:∀ (i:Nat) (row:List Bool),false∉row→(yN f sz i row).length=row.length
  | i,[],_=>rfl
  | i,b::t,h=>by
    rw [gG,not_or] at h
    have hb:b=true:=by
      cases b with
      | true=>rfl
      | false=>exact (h.1 rfl).elim
    rw [yN,if_pos hb,gQ,akd (i+1) t h.2]
    simp; omega
theorem akb {f sz:Int}:∀ (i:Nat) (row:List Bool),false∈row→(yN f sz i row).length<row.length
  | i,[],h=>by cases h
  | i,b::t,h=>by
    rw [yN,gQ]
    have h0:=WR f sz (i+1) t
    rcases gG.1 h with h1 | h1
    · subst h1; simp; omega
    · have:=akb (f:=f) (sz:=sz) (i+1) t h1
      split<;>simp<;>omega
theorem ad4 {f sz:Int}:∀ (i:Nat) (row:List Bool),true∉row→yN f sz i row = []
  | i,[],_=>rfl
  | i,b::t,h=>by
    rw [gG,not_or] at h
    rw [yN,if_neg (fun e=>h.1 e.symm),ad4 (i+1) t h.2]; rfl
def Gn (sz:Int) (E:Frs):List Int:=E.flatMap fun e=>yN e.1 sz 0 e.2.2
theorem ag7 {sz a:Int} {E:Frs}:a∈Gn sz E↔∃ e∈E,∃ j:Nat,e.2.2[j]?=some true∧a=e.1*256+(j:Int)*sz:=by
  unfold Gn
  rw [List.mem_flatMap]
  constructor
  · rintro ⟨e,he,h⟩
    obtain ⟨j,h1,h2⟩:=SG.1 h
    exact ⟨e,he,j,h1,by rw [h2,Nat.zero_add]⟩
  · rintro ⟨e,he,j,h1,h2⟩
    exact ⟨e,he,SG.2 ⟨j,h1,by rw [h2,Nat.zero_add]⟩⟩
theorem agN {f:Int} {i:Nat} {x:Bool} {E:Frs} (h:∀ e∈E,e.1≠f):CG f i x E=E∧VF f E=E:=by
  refine ⟨?_,?_⟩
  · unfold CG
    rw [List.map_congr_left (g:=id) fun e he=>by rw [if_neg (h e he)]; rfl,List.map_id]
  · unfold VF
    rw [List.filter_eq_self]
    exact fun e he=>by simpa using h e he
theorem age {E:Frs} (hn:(E.map (·.1)).Nodup) {f:Int} {b:Nat} {row:List Bool} (he:(f,b,row)∈E) (i:Nat) (x:Bool) :
    ∃ s t,E=s++(f,b,row)::t∧CG f i x E=s++(f,b,row.set i x)::t∧VF f E=s++t∧f∉s.map (·.1)∧f∉t.map (·.1):=by
  obtain ⟨s,t,rfl⟩:=List.append_of_mem he
  rw [gU,List.map_cons,gP,List.nodup_cons] at hn
  obtain ⟨_,⟨h1,_⟩,h2⟩:=hn
  have hs:∀ e∈s,e.1≠f:=fun e he' h3=>h2 _ (fY.2 ⟨e,he',rfl⟩) f (gM ..) h3
  have ht:∀ e∈t,e.1≠f:=fun e he' h3=>h1 (fY.2 ⟨e,he',h3⟩)
  obtain ⟨a1,a2⟩:=agN (i:=i) (x:=x) hs
  obtain ⟨b1,b2⟩:=agN (i:=i) (x:=x) ht
  refine ⟨s,t,rfl,?_,?_,fun h=>?_,h1⟩
  · have:CG f i x (s++(f,b,row)::t)=CG f i x s++(f,b,row.set i x)::CG f i x t:=by
      unfold CG
      rw [gU,List.map_cons,if_pos rfl]
    rw [this,a1,b1]
  · have:VF f (s++(f,b,row)::t)=VF f s++VF f t:=by
      unfold VF
      rw [List.filter_append,List.filter_cons_of_neg (by simp)]
    rw [this,a2,b2]
  · obtain ⟨e,he',h3⟩:=fY.1 h
    exact hs e he' h3
theorem Xq (sz:Int) (s t:Frs) (e:Int × Nat × List Bool):Gn sz (s++e::t)=Gn sz s++(yN e.1 sz 0 e.2.2++Gn sz t):=by simp [Gn]
theorem al9 (sz:Int) (s t:Frs):Gn sz (s++t)=Gn sz s++Gn sz t:=by simp [Gn]
theorem ahX {sz:Int} {E:Frs} (hn:(E.map (·.1)).Nodup) {f:Int} {b:Nat} {row:List Bool} (he:(f,b,row)∈E) {i:Nat} (hi:row[i]?=some true):(Gn sz E).Perm ((f*256+(i:Int)*sz)::Gn sz (CG f i false E)):=by
  obtain ⟨s,t,e1,e2,_,_,_⟩:=age hn he i false
  rw [e2,Xq]
  rw [e1,Xq]
  exact (((aoi (f:=f) (sz:=sz) hi).append_right _).append_left _).trans List.perm_middle
theorem allA_set {sz:Int} {E:Frs} (hn:(E.map (·.1)).Nodup) {f:Int} {b:Nat} {row:List Bool} (he:(f,b,row)∈E) {i:Nat} (hi:row[i]?=some false):(Gn sz (CG f i true E)).Perm ((f*256+(i:Int)*sz)::Gn sz E):=by
  obtain ⟨s,t,e1,e2,_,_,_⟩:=age hn he i true
  rw [e2,Xq]
  rw [e1,Xq]
  have:=ab4 (f:=f) (sz:=sz) (i:=0) hi
  rw [Nat.zero_add] at this
  exact ((this.append_right _).append_left _).trans List.perm_middle
theorem aka {sz:Int} {cnt:Nat}:∀ {E:Frs},(∀ e∈E,e.2.2.length=cnt)→(Gn sz E).length≤E.length*cnt∧((∃ e∈E,false∈e.2.2)→(Gn sz E).length<E.length*cnt)∧((∀ e∈E,false∉e.2.2)→(Gn sz E).length=E.length*cnt)
  | [],_=>⟨by simp [Gn],fun ⟨e,he,_⟩=>(nomatch he),fun _=>by simp [Gn]⟩
  | e::E,h=>by
    obtain ⟨i1,i2,i3⟩:=aka (sz:=sz) (E:=E) fun x hx=>h x (f0 _ hx)
    have he:=h e (gM ..)
    have e1:Gn sz (e::E)=yN e.1 sz 0 e.2.2++Gn sz E:=rfl
    rw [e1,gQ,List.length_cons,Nat.add_mul,Nat.one_mul]
    have h0:=WR e.1 sz 0 e.2.2
    refine ⟨by omega,fun ⟨x,hx,hm⟩=>?_,fun hm=>?_⟩
    · rcases gG.1 hx with hx | hx
      · subst hx
        have:=akb (f:=x.1) (sz:=sz) 0 x.2.2 hm
        omega
      · have:=i2 ⟨x,hx,hm⟩
        omega
    · have h1:=akd (f:=e.1) (sz:=sz) 0 e.2.2 (hm e (gM ..))
      have:=i3 fun x hx=>hm x (f0 _ hx)
      omega
theorem ajP {sz:Int} {E:Frs} (hn:(E.map (·.1)).Nodup):(zM sz E (om (E.map (·.1)))).Perm (Gn sz E):=by
  have h1:(zM sz E (om (E.map (·.1)))).Perm (zM sz E (E.map (·.1))):=(qv _).flatMap_right _
  refine h1.trans (.of_eq ?_)
  unfold zM Gn
  rw [List.flatMap_map]
  have:∀ E':Frs,(∀ e∈E',e∈E)→(E'.flatMap fun e=>yN e.1 sz 0 (am9 E e.1))=E'.flatMap fun e=>yN e.1 sz 0 e.2.2:=by
    intro E' h
    induction E' with
    | nil=>rfl
    | cons e t ih=>
      rw [List.flatMap_cons,List.flatMap_cons,ih fun x hx=>h x (f0 _ hx),aed hn (f:=e.1) (b:=e.2.1) (row:=e.2.2) (h e (gM ..))]
  exact this E fun e h=>h
theorem held_gap {sz:Int} {cnt:Nat} (hc:(cnt:Int)*sz=256) (hz:0<sz) {E:Frs} (hrow:∀ e∈E,e.2.2.length=cnt) (hn:(E.map (·.1)).Nodup):(zM sz E (om (E.map (·.1)))).Pairwise (fun a b=>a+sz≤b):=by
  unfold zM
  rw [List.pairwise_flatMap]
  refine ⟨fun f _=>alP hz 0 _,?_⟩
  have hs:=Ei hn
  refine hs.imp_of_mem fun {f g} hf _ hlt x hx y hy=>?_
  obtain ⟨i,i1,rfl⟩:=SG.1 hx
  obtain ⟨j,j1,rfl⟩:=SG.1 hy
  obtain ⟨e,he,rfl⟩:=fY.1 ((qv _).mem_iff.1 hf)
  rw [aed hn (f:=e.1) (b:=e.2.1) (row:=e.2.2) he] at i1
  obtain ⟨hi,_⟩:=gr.1 i1
  rw [hrow e he] at hi
  obtain ⟨p1,p2⟩:=BO hc hz hi
  have:=Int.mul_nonneg (show (0:Int)≤(j:Int) by omega) (show 0≤sz by omega)
  rw [Nat.zero_add,Nat.zero_add]
  omega
def NE (u:Nat) (E:Frs):List (Int × Int):=E.map fun e=>(e.1,(u:Int))
theorem Yg (u:Nat) (E:Frs):(NE u E).map (·.1)=E.map (·.1):=by simp [NE,Function.comp_def]
theorem NE_del {u:Nat} {E:Frs} (hn:(E.map (·.1)).Nodup) {f:Int} {b:Nat} {row:List Bool} (he:(f,b,row)∈E):xJ f (NE u E)=NE u (VF f E):=by
  obtain ⟨s,t,e1,_,e3,hs,_⟩:=age hn he 0 false
  rw [e3]
  rw [e1]
  have h1:NE u (s++(f,b,row)::t)=NE u s++(f,(u:Int))::NE u t:=by simp [NE]
  have h2:NE u (s++t)=NE u s++NE u t:=by simp [NE]
  rw [h1,h2,WA (by rw [Yg]; exact hs)]
  congr 1
  simp [xJ]
theorem eL.fG {zc:br} {p:Nat} {M:List Int} {N:List (Int × Int)} {z:bf} (a:eL zc p M N z) (po:dq zc p) {u:Nat} (hu:2≤u∧u≤6) (hlt':(ob (img M N) u:Int)<mh (jk zc p) u) {best k:Nat} {at_:Int} {rest:List Int} {f:Int} (hbest:best<z.fD.length) (hk:k<7) (hx:(z.fE best).free k=at_::rest) (hemp:∀ j,0≤j→j<k→(z.fE best).free j = []) (hf':f=at_*z.fB+nz z.fD best) :
    eL zc p M (N++[(f,(u:Int))]) (d9 z best 0 u k at_ rest):=by
  have hs':=a.inv.step po (u:=u) ⟨by omega,hu.2⟩ hbest (by omega) (Nat.zero_le k) hk hx hemp
  have hfr:mF z.fB (nz z.fD best) at_ (2^0) = [f]:=by simp [mF,hf']
  rw [hfr] at hs'
  have hL:img M N++[f].map (fun f=>(f,(u:Int)))=img M (N++[(f,(u:Int))]):=by simp [img]
  rw [hL] at hs'
  obtain ⟨t1,t2⟩:=(a.tak best hbest).take (o:=0) (Nat.zero_le _) hk hx hemp
  have bsame:∀ j,j≠best→(d9 z best 0 u k at_ rest).fE j=z.fE j:=fun j hj=>jL _ _ hj
  have bnew:(d9 z best 0 u k at_ rest).fE best = { uv (z.fE best) 0 k 0 at_ rest with fG:=LJ at_ ((0:Nat):Int) (z.fE best).fG }:=jY ..
  refine ⟨hs',⟨?_,fun v h2 h6=>?_⟩,fun i hi=>?_,fun e he=>?_,fun e he=>?_,fun q hq=>?_⟩
  · have:=a.wi.image
    rw [wj,BI]
    rw [wj] at this
    have h0:ob [(f,(u:Int))] 1=0:=by simp [ob]; omega
    omega
  · have:=a.wi.fK v h2 h6
    have h3:=wj M (N++[(f,(u:Int))]) v
    have h4:=wj M N v
    rw [BI] at h3
    by_cases e1:(u:Int)=(v:Int)
    · have:u=v:=by omega
      subst this
      have h5:ob [(f,(u:Int))] u=1:=by simp [ob]
      omega
    · have h5:ob [(f,(u:Int))] v=0:=by simp [ob,e1]
      omega
  · by_cases e1:i=best
    · rw [e1,bnew]; exact t1
    · rw [bsame i e1]; exact a.tak i hi
  · rcases gT.1 he with h | h
    · obtain ⟨i,x,i1,i2,i3⟩:=a.has e h
      refine ⟨i,x,i1,i2,?_⟩
      by_cases e1:i=best
      · rw [e1,bnew]
        show (x,0)∈LJ at_ ((0:Nat):Int) _
        rw [t2]
        exact gH _ (by rw [← e1]; exact i3)
      · rw [bsame i e1]; exact i3
    · simp at h
      refine ⟨best,at_,hbest,by rw [h]; exact hf',?_⟩
      rw [bnew]
      show (at_,0)∈LJ at_ ((0:Nat):Int) _
      rw [t2]
      simp
  · rcases gT.1 he with h | h
    · exact a.us e h
    · simp at h
      rw [h]
      dsimp only
      omega
  · show upd z.fF u _ q=0
    rw [jL _ _ (by omega)]
    exact a.top q hq
structure SOk (zc:br) (p:Nat) (M:List Int) (u:Nat) (sz:Int) (cnt:Nat) (E:Frs) (told:List Int) (z:bf):Prop where
  a:eL zc p M (NE u E) z
  row:∀ e∈E,e.2.2.length=cnt
  one:∀ e∈E,true∈e.2.2
  told:told.Perm (Gn sz E)
section
variable {zc:br} {p:Nat} {M:List Int} {u:Nat} {sz:Int} {cnt:Nat} {E:Frs} {told:List Int} {z:bf}
theorem SOk.key (s:SOk zc p M u sz cnt E told z):(E.map (·.1)).Nodup:=by
  have:=s.a.nodupN
  rwa [Yg] at this
theorem SOk.rng (s:SOk zc p M u sz cnt E told z) (po:dq zc p):∀ e∈E,0≤e.1∧e.1<4096:=by
  intro e he
  have hown:=s.a.inv.inv.own po (f:=e.1) (by rw [W4,Yg]; exact gI _ (fY.2 ⟨e,he,rfl⟩))
  exact ⟨hown.1,by omega⟩
theorem SOk.cntE (s:SOk zc p M u sz cnt E told z) (hu:2≤u∧u≤6):ob (img M (NE u E)) u=E.length:=by
  rw [wj,if_neg (by omega),Nat.zero_add]
  unfold ob NE
  rw [List.countP_eq_length.2,gR]
  intro e he
  obtain ⟨x,_,rfl⟩:=fY.1 he
  simp
theorem SOk.few (s:SOk zc p M u sz cnt E told z) (hu:2≤u∧u≤6):(E.length:Int)≤mh (jk zc p) u:=by
  have:=s.a.wi.fK u hu.1 hu.2
  rwa [s.cntE hu] at this
theorem SOk.len (s:SOk zc p M u sz cnt E told z):told.length≤E.length*cnt∧((∃ e∈E,false∈e.2.2)→told.length<E.length*cnt)∧((∀ e∈E,false∉e.2.2)→told.length=E.length*cnt):=by
  have:=aka (sz:=sz) s.row
  rw [← s.told.length_eq] at this
  exact this
theorem SOk.less (s:SOk zc p M u sz cnt E told z) (hu:2≤u∧u≤6) {f:Int} {b:Nat} {row:List Bool} (he:(f,b,row)∈E) {i:Nat} (hi:First row i):(told.length:Int)<mh (jk zc p) u*cnt:=by
  have h1:=s.len.2.1 ⟨_,he,List.mem_iff_getElem?.2 ⟨i,hi.2.1⟩⟩
  have h2:(E.length:Int)*cnt≤mh (jk zc p) u*cnt:=Int.mul_le_mul_of_nonneg_right (s.few hu) (by omega)
  have h3:((E.length*cnt:Nat):Int)=(E.length:Int)*cnt:=by simp
  omega
theorem SOk.take (s:SOk zc p M u sz cnt E told z) {f:Int} {b:Nat} {row:List Bool} (he:(f,b,row)∈E) {i:Nat} (hi:First row i):SOk zc p M u sz cnt (CG f i true E) (told++[f*256+i*sz]) z:=by
  refine ⟨?_,fun e he'=>?_,fun e he'=>?_,?_⟩
  · have:NE u (CG f i true E)=NE u E:=by
      unfold NE
      have:=aeq f i true E
      have h2:∀ E':Frs,(E'.map fun e=>(e.1,(u:Int)))=(E'.map (·.1)).map fun f=>(f,(u:Int)):=fun E'=>by simp [Function.comp_def]
      rw [h2,h2,this]
    rw [this]; exact s.a
  · obtain ⟨e2,h2,_,_,h5⟩:=Eg he'
    rw [h5]
    split
    · rw [List.length_set]; exact s.row e2 h2
    · exact s.row e2 h2
  · obtain ⟨e2,h2,_,_,h5⟩:=Eg he'
    rw [h5]
    split
    · rename_i h6
      have:=xb s.key h2 he h6
      subst this
      exact List.mem_iff_getElem?.2 ⟨i,by simp [hi.1]⟩
    · exact s.one e2 h2
  · have h1:=allA_set (sz:=sz) s.key he hi.2.1
    exact (List.perm_append_comm.trans (s.told.cons _)).trans h1.symm
theorem SOk.open (s:SOk zc p M u sz cnt E told z) (po:dq zc p) (hu:2≤u∧u≤6) (hc1:1≤cnt) (hno:∀ e∈E,false∉e.2.2) (hq:z.fF u<z.fK u) {best k:Nat} {at_:Int} {rest:List Int} {f:Int} {b:Nat} (hbest:best<z.fD.length) (hk:k<7) (hx:(z.fE best).free k=at_::rest) (hemp:∀ j,0≤j→j<k→(z.fE best).free j = []) (hf':f=at_*z.fB+nz z.fD best) :
    SOk zc p M u sz cnt (CG f 0 true (E++[(f,b,List.replicate cnt false)])) (told++[f*256]) (d9 z best 0 u k at_ rest)∧(told.length:Int)<mh (jk zc p) u*cnt:=by
  have hlt:(ob (img M (NE u E)) u:Int)<mh (jk zc p) u:=by
    rw [s.a.inv.fK,s.a.inv.cnt u (by omega)] at hq; exact hq
  have a':=s.a.fG po hu hlt hbest hk hx hemp hf'
  have hN:NE u E++[(f,(u:Int))]=NE u (E++[(f,b,List.replicate cnt false)]):=by simp [NE]
  rw [hN] at a'
  have hnd:=a'.nodupN
  rw [Yg] at hnd
  have hfE:∀ e∈E,e.1≠f:=by
    intro e he h1
    rw [gU,gP] at hnd
    exact hnd.2.2 _ (fY.2 ⟨e,he,rfl⟩) f (by simp) h1
  have e1:CG f 0 true (E++[(f,b,List.replicate cnt false)])=E++[(f,b,(List.replicate cnt false).set 0 true)]:=by
    have h1:=(agN (i:=0) (x:=true) hfE).1
    have:CG f 0 true (E++[(f,b,List.replicate cnt false)])=CG f 0 true E++[(f,b,(List.replicate cnt false).set 0 true)]:=by simp [CG]
    rw [this,h1]
  have e2:NE u (E++[(f,b,(List.replicate cnt false).set 0 true)])=NE u (E++[(f,b,List.replicate cnt false)]):=by simp [NE]
  refine ⟨⟨by rw [e1,e2]; exact a',fun e he=>?_,fun e he=>?_,?_⟩,?_⟩
  · rw [e1] at he
    rcases gT.1 he with h | h
    · exact s.row e h
    · simp at h; subst h; simp
  · rw [e1] at he
    rcases gT.1 he with h | h
    · exact s.one e h
    · simp at h; subst h
      exact List.mem_iff_getElem?.2 ⟨0,List.getElem?_set_self (by rw [List.length_replicate]; omega)⟩
  · rw [e1,al9]
    have h1:Gn sz [(f,b,(List.replicate cnt false).set 0 true)]=yN f sz 0 ((List.replicate cnt false).set 0 true):=by simp [Gn]
    have h2:=ab4 (f:=f) (sz:=sz) (i:=0) (row:=List.replicate cnt false) (j:=0) (by rw [List.getElem?_replicate,if_pos (by omega)])
    have h3:yN f sz 0 (List.replicate cnt false) = []:=ad4 0 _ (by simp)
    rw [h3] at h2
    have h4:yN f sz 0 ((List.replicate cnt false).set 0 true) = [f*256]:=by
      have:=List.perm_singleton.1 h2
      rw [this]
      simp
    rw [h1,h4]
    exact s.told.append_right _
  · have h1:=s.len.2.2 hno
    rw [s.cntE hu] at hlt
    have h2:((E.length:Int)+1)*cnt≤mh (jk zc p) u*cnt:=Int.mul_le_mul_of_nonneg_right (by omega) (by omega)
    rw [Int.add_mul,Int.one_mul] at h2
    have h3:((E.length*cnt:Nat):Int)=(E.length:Int)*cnt:=by simp
    omega
theorem SOk.full (s:SOk zc p M u sz cnt E told z) (po:dq zc p) (hm:NX zc=true) (hu:2≤u∧u≤6) (hno:∀ e∈E,false∉e.2.2) {h:Heap} {w:bX} (pin:bF h w z) {f e:Int} {h':Heap} (ht:Xl h w z u f e h') (he:e≠0):e=4∧(told.length:Int)=mh (jk zc p) u*cnt:=by
  have h1:=s.len.2.2 hno
  have h3:((E.length*cnt:Nat):Int)=(E.length:Int)*cnt:=by simp
  have h4:¬ (ob (img M (NE u E)) u:Int)<mh (jk zc p) u:=fun hlt=>he (takeQ pin s.a.inv po (S5 hm po) s.a.wi hu hlt ht).1
  have h5:=s.few hu
  rw [s.cntE hu] at h4
  have h6:(E.length:Int)=mh (jk zc p) u:=by omega
  refine ⟨?_,by rw [← h6]; omega⟩
  rcases s.a.take po hm pin hu ht with ⟨_,h7,_⟩ | ⟨h7,_⟩
  · exact h7
  · exact (he h7).elim
theorem SOk.fresh (s:SOk zc p M u sz cnt E told z) (po:dq zc p) (hm:NX zc=true) (hu:2≤u∧u≤6) {h:Heap} {w:bX} (pin:bF h w z):∀ f h1,Xl h w z u f 0 h1→f∉E.map (·.1)∧0≤f∧f<4096:=by
  intro f h1 ht
  rcases s.a.take po hm pin hu ht with ⟨_,h7,_⟩ | ⟨_,w',z',_,_,_,a',_,_⟩
  · cases h7
  · have hnd:=a'.nodupN
    rw [gU,Yg,gP] at hnd
    have hown:=a'.inv.inv.own po (f:=f) (by rw [W4]; exact gI _ (by simp))
    exact ⟨fun h=>hnd.2.2 f h f (by simp) rfl,hown.1,by omega⟩
theorem SOk.has (s:SOk zc p M u sz cnt E told z) {k:Nat} (hk:k<told.length):∃ f b row i,(f,b,row)∈E∧row[i]?=some true∧nz told k=f*256+(i:Nat)*sz:=by
  have h1:nz told k∈Gn sz E:=s.told.mem_iff.1 (by rw [nQ hk]; exact gL hk)
  obtain ⟨⟨f,b,row⟩,he,i,h2,h3⟩:=ag7.1 h1
  exact ⟨f,b,row,i,he,h2,h3⟩
theorem SOk.give (s:SOk zc p M u sz cnt E told z) {k:Nat} (hk:k<told.length) {f:Int} {b:Nat} {row:List Bool} {i:Nat} (he:(f,b,row)∈E) (hi:row[i]?=some true) (hat:nz told k=f*256+i*sz) (hon:true∈row.set i false):SOk zc p M u sz cnt (CG f i false E) (told.eraseIdx k) z:=by
  refine ⟨?_,fun e he'=>?_,fun e he'=>?_,?_⟩
  · have:NE u (CG f i false E)=NE u E:=by
      unfold NE
      have:=aeq f i false E
      have h2:∀ E':Frs,(E'.map fun e=>(e.1,(u:Int)))=(E'.map (·.1)).map fun f=>(f,(u:Int)):=fun E'=>by simp [Function.comp_def]
      rw [h2,h2,this]
    rw [this]; exact s.a
  · obtain ⟨e2,h2,_,_,h5⟩:=Eg he'
    rw [h5]
    split
    · rw [List.length_set]; exact s.row e2 h2
    · exact s.row e2 h2
  · obtain ⟨e2,h2,_,_,h5⟩:=Eg he'
    rw [h5]
    split
    · rename_i h6
      have:=xb s.key h2 he h6
      subst this
      exact hon
    · exact s.one e2 h2
  · have h1:=ahX (sz:=sz) s.key he hi
    have h2:=Re hk
    rw [hat] at h2
    exact (h2.symm.trans (s.told.trans h1)).cons_inv
theorem SOk.giveF (s:SOk zc p M u sz cnt E told z) {k:Nat} (hk:k<told.length) {f:Int} {b:Nat} {row:List Bool} {i:Nat} (he:(f,b,row)∈E) (hi:row[i]?=some true) (hat:nz told k=f*256+i*sz) (hoff:true∉row.set i false) {z':bf} (a':eL zc p M (xJ f (NE u E)) z'):SOk zc p M u sz cnt (VF f E) (told.eraseIdx k) z':=by
  rw [NE_del s.key he] at a'
  refine ⟨a',fun e he'=>s.row e (Pn.1 he').1,fun e he'=>s.one e (Pn.1 he').1,?_⟩
  have h1:=ahX (sz:=sz) s.key he hi
  have h2:=Re hk
  rw [hat] at h2
  refine (h2.symm.trans (s.told.trans h1)).cons_inv.trans (.of_eq ?_)
  obtain ⟨q,t,_,e2,e3,_,_⟩:=age s.key he i false
  rw [e2,e3,Xq,al9]
  dsimp only
  rw [ad4 0 _ hoff]; rfl
theorem SOk.nil (s:SOk zc p M u sz cnt E [] z):E = []:=by
  cases E with
  | nil=>rfl
  | cons e E=>
    have h1:Gn sz (e::E) = []:=List.nil_perm.1 s.told
    obtain ⟨j,hj⟩:=List.mem_iff_getElem?.1 (s.one e (gM ..))
    have:e.1*256+(j:Int)*sz∈Gn sz (e::E):=ag7.2 ⟨e,gM ..,j,hj,rfl⟩
    rw [h1] at this
    cases this
theorem SOk.held (s:SOk zc p M u sz cnt E told z):(zM sz E (om (E.map (·.1)))).Perm told:=(ajP s.key).trans s.told.symm
end
end Go.Proofs.YtlgbmkemfinogaaGreat.Sh
