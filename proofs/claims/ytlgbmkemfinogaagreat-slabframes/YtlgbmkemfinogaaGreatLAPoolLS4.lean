/- A frame given back: the code of the buddy, of the pool. -/
import Derived.Test.YtlgbmkemfinogaaGreatLALawLQFn
set_option linter.all false
namespace Go.Proofs.YtlgbmkemfinogaaGreat.Sh
open Go.Ai
theorem acn {k:Int}:∀ {kv:List (Int × Int)},(kv.map (·.1)).Nodup→∀ {e:Int × Int},e∈xJ k kv↔e∈kv∧e.1≠k
  | [],_,e=>by simp [xJ]
  | d::t,h,e=>by
    rw [List.map_cons,List.nodup_cons] at h
    unfold xJ
    by_cases h1:k=d.1
    · rw [if_pos h1,gG]
      refine ⟨fun he=>⟨.inr he,fun h2=>h.1 ?_⟩,fun ⟨he,h2⟩=>?_⟩
      · rw [← h1, ← h2]; exact fY.2 ⟨e,he,rfl⟩
      · rcases he with rfl | he
        · exact (h2 h1.symm).elim
        · exact he
    · rw [if_neg h1,gG,gG,acn h.2]
      constructor
      · rintro (rfl | ⟨h2,h3⟩)
        · exact ⟨.inl rfl,fun e=>h1 e.symm⟩
        · exact ⟨.inr h2,h3⟩
      · rintro ⟨rfl | h2,h3⟩
        · exact .inl rfl
        · exact .inr ⟨h2,h3⟩
theorem adm (k:Int):∀ kv:List (Int × Int),(xJ k kv).Sublist kv
  | []=>.slnil
  | d::t=>by
    unfold xJ
    split
    · exact List.sublist_cons_self ..
    · exact (adm k t).cons_cons d
theorem anK {k:Int} {kv:List (Int × Int)} (h:(kv.map (·.1)).Nodup):((xJ k kv).map (·.1)).Nodup:=h.sublist ((adm k kv).map _)
theorem Yq {k x:Int}:∀ {kv:List (Int × Int)},(kv.map (·.1)).Nodup→(k,x)∈kv→kv.Perm ((k,x)::xJ k kv)
  | [],_,hm=>by simp at hm
  | d::t,h,hm=>by
    rw [List.map_cons,List.nodup_cons] at h
    unfold xJ
    by_cases h1:k=d.1
    · rw [if_pos h1]
      rcases gG.1 hm with h2 | h2
      · rw [← h2]
      · exact (h.1 (fY.2 ⟨_,h2,h1⟩)).elim
    · rw [if_neg h1]
      rcases gG.1 hm with h2 | h2
      · exact (h1 (by rw [← h2])).elim
      · exact ((Yq h.2 h2).cons d).trans (List.Perm.swap ..)
theorem WA {k:Int}:∀ {A:List (Int × Int)},k∉A.map (·.1)→∀ B,xJ k (A++B)=A++xJ k B
  | [],_,B=>rfl
  | d::t,h,B=>by
    rw [List.map_cons,gG,not_or] at h
    rw [List.cons_append,xJ,if_neg h.1,WA h.2]; rfl
structure TakOk (s:cw):Prop where
  norm:eX s
  key:(s.fG.map (·.1)).Nodup
  off:∀ e∈s.fG,mult s e.1=0
theorem _root_.Go.Ai.dk.setTaken {h h':Heap} {p m:Nat} {v:Nat→AV} {s:cw} (b:dk h p m v s) {kv:List (Int × Int)} (hm:ft h' m .i64 kv) (c:Chg (· = m) h h'):dk h' p m v { s with fG:=kv }:=
  ⟨c.own b.own (fun e=>(b.map.ne b.own) e.symm),hm,fun k hk=>(b.lst k hk).chg c fun d e=>(b.lst k hk).neM b.map e,b.dis⟩
structure GaveS (s:cw) (a:Int) (s':cw):Prop where
  norm:eX s'
  n:s'.n=s.n
  fG:s'.fG=xJ a s.fG
  mult:∀ x,Sh.mult s' x=Sh.mult s x+inB a x 0
  sum:lR s' 7=lR s 7+1
theorem GaveS.ok {s s':cw} {a:Int} (g:GaveS s a s') (t:TakOk s):TakOk s':=by
  refine ⟨g.norm,by rw [g.fG]; exact anK t.key,fun e he=>?_⟩
  rw [g.fG,acn t.key] at he
  have h1:=t.off e he.1
  have h2:inB a e.1 0=0:=by
    unfold inB
    rw [if_neg]
    have:=he.2
    intro h
    obtain ⟨h3,h4⟩:=h
    simp at h4
    omega
  rw [g.mult,h1,h2]
theorem v_BGive {n:Nat} (hn:70000<n) {h:Heap} (hro:h.ro≤h.nx) {p m:Nat} {v:Nat→AV} {s:cw} (b:dk h p m v s) (t:TakOk s) {a:Int} (ha:0≤a∧a<4096) (hm:(a,0)∈s.fG) (hfn:lR s 7<70000) :
    aJ (dr n (.ptr p 0) a 0 h) fun r h'=>r=0∧∃ v' s',dk h' p m v' s'∧GaveS s a s'∧(∀ j,j<7→∀ c,(v' j).blk=some c→(v j).blk=some c∨h.nx≤c)∧Chg (fpB p m v) h h':=by
  unfold dr DU wY rx rv rG
  have e1:decide ((0:Int)<0)=false:=rfl
  have e2:decide ((6:Int)<0)=false:=rfl
  have e3:decide (a<0)=false:=by simp; omega
  have e4:((0:Int)==0)=true:=rfl
  simp only [au,anh b.rd,e1,e2,e3,e4,iR b.own.cl,bud_9,abc b.map t.key hm,Bool.not_true]
  refine dz.bind (alL b.map a) ?_
  rintro h9 ⟨m9,c9⟩
  have b9:=b.setTaken m9 c9
  have n9:eX { s with fG:=xJ a s.fG }:=⟨t.norm.inc,t.norm.al,t.norm.np,t.norm.one⟩
  have f9:lR { s with fG:=xJ a s.fG } 7=lR s 7:=aaF rfl 7
  have hz:mult s a=0:=t.off (a,0) hm
  have q1:lR { s with fG:=xJ a s.fG } 7+2^0≤70000:=by rw [f9]; simp; omega
  have q2:∀ x,a≤x→x<a+2^0→mult { s with fG:=xJ a s.fG } x=0:=by
    intro x h1 h2
    have h3:(2:Int)^0=1:=rfl
    rw [h3] at h2
    have:x=a:=by omega
    rw [this]
    exact hz
  have q3:a%2^0=0:=by simp
  have key:=api hn (bV n) n 0 a h9 v { s with fG:=xJ a s.fG } (c9.le hro) n9 b9 q1 ha q3 q2 (by omega) (by omega)
  refine aR.mono key ?_
  rintro ⟨r,h'⟩ ⟨r1,v',s',r2,r3,r4,r5⟩
  refine ⟨r1,v',s',r2,⟨r3.norm,r3.n,r3.fG,fun x=>r3.mult x,by have:=r3.sum; rw [f9] at this; simpa using this⟩,fun j hj c e=>?_,?_⟩
  · rcases r4 j hj c e with h1 | h1
    · exact .inl h1
    · exact .inr (gu c9.nx h1)
  · exact (c9.mono fun d _ e=>.inr (.inl e)).trans r5
theorem u_Of (n:Nat) {f co:Int} (h2:jC co 1 16=true) (hf:0≤f∧f≤4095) (h:Heap) (k:Int→Int→Heap→ab):eQ n f co h k=k (f%co) 0 h:=by
  unfold eQ V4 PX Ez
  have e1:jC f 0 4095=true:=by simp [jC]; omega
  simp only [z8,NI,e1,h2]
  simp [jC] at h2
  simp only [au,Bool.not_true,JP (show co≠0 by omega),Int.tmod_eq_emod_of_nonneg hf.1]
theorem u_Index (n:Nat) {f co:Int} (h2:jC co 1 16=true) (hf:0≤f∧f≤4095) (h:Heap) (k:Int→Int→Heap→ab):d8 n f co h k=k (f/co) 0 h:=by
  unfold d8 OT GL yq
  have e1:jC f 0 4095=true:=by simp [jC]; omega
  simp only [z8,NI,e1,h2]
  simp [jC] at h2
  have q1:=Int.ediv_le_self co hf.1
  have q2:0≤f/co:=Int.ediv_nonneg hf.1 (by omega)
  have w1:IntKind.i64.wrap (f/co)=f/co:=mP (by omega) (by omega)
  simp only [au,Bool.not_true,N6 (show co≠0 by omega),Int.tdiv_eq_ediv_of_nonneg hf.1,w1]
theorem dh.shut {h:Heap} {v:AV} {l:List Int} (s:dh h .i64 v l):dh (h.shut true) .i64 v l:=s
def ZN (z:bf) (i u:Nat) (f:Int) (s':cw):bf:={ z with fE:=upd z.fE i s',uses:=xJ f z.uses,fF:=upd z.fF u (z.fF u-1) }
theorem v_PGive {n:Nat} (hn:70000<n) {h:Heap} (hro:h.ro≤h.nx) {w:bX} {z:bf} (b:bF h w z) (hnd:(z.uses.map (·.1)).Nodup) (hco:jC z.fB 1 16=true) (hup:z.fD.Pairwise (· < ·)) (hcol:∀ x∈z.fD,0≤x∧x<z.fB) {f:Int} (hf:0≤f∧f≤4095) {u:Nat} (hu:2≤u∧u≤6) (hm:(f,(u:Int))∈z.uses)
    (hcnt:1≤z.fF u∧z.fF u≤1000000) {i:Nat} (hi:i<z.fD.length) (hl:z.fD.length<n) {x:Int} (hx:f=x*z.fB+nz z.fD i) (t:TakOk (z.fE i)) (hk:(x,0)∈(z.fE i).fG) (hfn:fL z i<70000) :
    aJ (db n (.ptr w.p 0) f h) fun r h'=>r=0∧∃ w' s',w'.p=w.p∧GaveS (z.fE i) x s'∧bF h' w' (ZN z i u f s')∧(∀ d,fpP w' z.fD.length d→fpP w z.fD.length d∨h.nx≤d)∧Chg (fpP w z.fD.length) h h':=by
  unfold db Gu AW tT
  have e1:((u:Int)==1)=false:=by rw [gK]; omega
  have e0:(!((0:Int)==0))=false:=rfl
  have hco':=hco
  simp [jC] at hco'
  obtain ⟨n1,n2⟩:=hcol _ (by rw [nQ hi]; exact gL hi:nz z.fD i∈z.fD)
  have hmod:f%z.fB=nz z.fD i:=by
    rw [hx,Int.add_comm,Int.add_mul_emod_self_right,Int.emod_eq_of_lt n1 n2]
  have hdiv:f/z.fB=x:=by
    rw [hx,Int.add_comm,Int.add_mul_ediv_right _ _ (by omega),Int.ediv_eq_zero_of_lt n1 n2,Int.zero_add]
  simp only [au,O6 b,Bool.not_true,iR b.own.cl,ab6,abc b.uses hnd hm,e1,pool_0,u_Of n hco hf,e0,u_Index n hco hf,hmod,hdiv,Yi,aoe]
  refine aJ.bind (aoO (dh.shut b.fD.ints) hl (nz z.fD i)) ?_
  rintro r h22 ⟨rfl,hr⟩
  have hr':r=(i:Int):=by
    rcases hr with ⟨_,h1⟩ | ⟨j,rfl,hj,h1⟩
    · exact (h1 (by rw [nQ hi]; exact gL hi)).elim
    · rw [nQ hi,nQ hj] at h1
      rcases gc i j with h2 | h2 | h2
      · have:=List.pairwise_iff_getElem.1 hup i j hi hj h2; omega
      · rw [h2]
      · have:=List.pairwise_iff_getElem.1 hup j i hj hi h2; omega
  subst hr'
  rw [ajE]
  have hx0:0≤x∧x<4096:=by
    constructor
    · rw [← hdiv]; exact Int.ediv_nonneg hf.1 (by omega)
    · have:=Int.ediv_le_self z.fB hf.1
      omega
  simp only [au,b.bud hi]
  refine aJ.bind (v_BGive hn hro (b.each i hi) t hx0 hk hfn) ?_
  rintro _ h26 ⟨rfl,v',s',bn,gs,hsub,c26⟩
  obtain ⟨b26,hfp⟩:=b.setBud hi bn hsub c26
  simp only [au,e0,iR b26.own.cl,ab6]
  refine dz.bind (alL b26.uses f) ?_
  rintro h29 ⟨m29,c29⟩
  have b29:=b26.setUses c29 m29
  have hu7:u<7:=by omega
  have w1:IntKind.i64.wrap (z.fF u-1)=z.fF u-1:=mP (by omega) (by omega)
  simp only [au,DC hu7,iR b29.own.cl,aoo _ _ _ _ hu7,w1]
  refine dz.bind (wd b29.own (by show 13+u<20; omega) rfl) ?_
  intro h36 p36
  have b36:=b29.setCount hu7 p36
  refine mQ ⟨rfl,{ w with bv:=upd w.bv i v' },s',rfl,gs,b36,hfp,?_⟩
  have a1:Chg (fpP w z.fD.length) h h26:=c26.mono fun d _ e=>.inr (.inr (.inr (.inr ⟨i,hi,e⟩)))
  exact a1.trans ((c29.mono fun d _ e=>.inr (.inl e)).trans (p36.chg.mono fun d _ e=>.inl e))
theorem v_Whole {n:Nat} {h:Heap} {w:bX} {z:bf} (b:bF h w z):aJ (bz n (.ptr w.p 0) h) fun r h'=>r=((z.uses.length:Int)==z.fF 1)∧h'=h:=by
  unfold bz Fp yQ sM
  have i1:∀ c,FY 1 7 (.ptr w.p 13) 1 c=c (.ptr w.p 14):=fun c=>DC (n:=7) (k:=1) (by omega) c
  have e1:(zw z w.vm w.vb w.mu)[14]?=some (.int .i64 (z.fF 1)):=rfl
  simp only [au,O6 b,iR b.own.cl,ab6,ajy b.uses,i1,e1]
  exact mQ ⟨rfl,rfl⟩
end Go.Proofs.YtlgbmkemfinogaaGreat.Sh
/- A pool at work that takes and gives back: what stays true. -/
namespace Go.Proofs.YtlgbmkemfinogaaGreat.Sh
open Go.Ai
theorem anl {k x:Int} {kv:List (Int × Int)} (h:(kv.map (·.1)).Nodup) (hm:(k,x)∈kv) (f:Int):(kv.map (·.1)).count f=((xJ k kv).map (·.1)).count f+if k=f then 1 else 0:=by
  have hp:=(Yq h hm).map (·.1)
  rw [hp.count_eq,List.map_cons,List.count_cons]
  by_cases e:k=f<;>simp [e]
theorem R4 {k x:Int} {kv:List (Int × Int)} (h:(kv.map (·.1)).Nodup) (hm:(k,x)∈kv) (u:Int):ob kv u=ob (xJ k kv) u+if x=u then 1 else 0:=by
  unfold ob
  rw [(Yq h hm).countP_eq,List.countP_cons]
  by_cases e:x=u<;>simp [e]
theorem len_delZ {k x:Int} {kv:List (Int × Int)} (h:(kv.map (·.1)).Nodup) (hm:(k,x)∈kv):kv.length=(xJ k kv).length+1:=(Yq h hm).length_eq
theorem adb {zc:br} {p:Nat} {T:List Int} {z:bf} (v:Inv zc p T z) (po:dq zc p):(∀ x∈z.fD,0≤x∧x<zc.fB)∧z.fD.Pairwise (· < ·)∧z.fD.length≤16∧0<z.fD.length:=by
  rw [v.fD]; exact ⟨po.col,po.up,po.few,po.pos⟩
theorem col_inj {l:List Int} (h:l.Pairwise (· < ·)) {i j:Nat} (hi:i<l.length) (hj:j<l.length) (e:nz l i=nz l j):i=j:=by
  rw [nQ hi,nQ hj] at e
  rcases gc i j with h2 | h2 | h2
  · have:=List.pairwise_iff_getElem.1 h i j hi hj h2; omega
  · exact h2
  · have:=List.pairwise_iff_getElem.1 h j i hj hi h2; omega
theorem InvQ.give {zc:br} {p:Nat} {L:List (Int × Int)} {z:bf} (v:InvQ zc p L z) (po:dq zc p) {f:Int} {u i:Nat} (hm:(f,(u:Int))∈L) (hu:u<7) (hi:i<z.fD.length) {x:Int} (hx:f=x*z.fB+nz z.fD i) {s':cw} (g:GaveS (z.fE i) x s') (htop:∀ k,7≤k→z.fF k=0) :
    InvQ zc p (xJ f L) (ZN z i u f s'):=by
  have hnd:=v.inv.nodup
  obtain ⟨m1,m2,m3,m4⟩:=adb v.inv po
  have hsub:=adm f L
  have hc:z.fB=zc.fB:=v.inv.co
  have hlen:=len_delZ hnd hm
  refine ⟨⟨v.inv.fD,v.inv.co,fun j hj y=>?_,fun e he=>?_,fun q=>?_⟩,?_,fun w hw=>?_,fun e he=>v.rng e (hsub.subset he),?_,v.fK,v.total,v.order⟩
  · have hj':j<z.fD.length:=hj
    have hl:=v.inv.law j hj' y
    rw [anl hnd hm] at hl
    show _+mult (upd z.fE i s' j) y=if 0≤y∧y<(CD zc (nz z.fD j):Int) then 1 else 0
    rw [← hl]
    show List.count (y*zc.fB+nz z.fD j) _+_=_
    obtain ⟨i1,i2⟩:=m1 _ (by rw [nQ hi]; exact gL hi:nz z.fD i∈z.fD)
    obtain ⟨j1,j2⟩:=m1 _ (by rw [nQ hj']; exact gL hj':nz z.fD j∈z.fD)
    by_cases e:j=i
    · subst e
      rw [jY,g.mult]
      have hin:inB x y 0=if f=y*zc.fB+nz z.fD j then 1 else 0:=by
        unfold inB
        have h1:(2:Int)^0=1:=rfl
        rw [h1]
        by_cases h2:x=y
        · subst h2
          rw [if_pos (by omega),if_pos (by rw [hx,hc])]
        · rw [if_neg (by omega),if_neg fun h3=>h2 ?_]
          rw [hx,hc] at h3
          exact (aa9 i1 i2 j1 j2 h3).1
      rw [hin]; omega
    · rw [jL _ _ e,if_neg fun h3=>e ?_]
      · omega
      · rw [hx,hc] at h3
        exact (col_inj m2 hi hj' (aa9 i1 i2 j1 j2 h3).2).symm
  · exact v.inv.form e ((hsub.map _).subset he)
  · have h1:=v.inv.cnt q
    have h2:=v.cnt u hu
    have h3:=R4 hnd hm (u:Int)
    rw [if_pos rfl] at h3
    show 0≤upd z.fF u (z.fF u-1) q∧upd z.fF u (z.fF u-1) q≤_
    have h4:ob (xJ f L) u≤(xJ f L).length:=List.countP_le_length
    simp only [gR] at h1 ⊢
    by_cases e:q=u
    · subst e; rw [jY]; omega
    · rw [jL _ _ e]
      refine ⟨h1.1,?_⟩
      by_cases hq:q<7
      · have h5:=v.cnt q hq
        have h6:=R4 hnd hm (q:Int)
        rw [if_neg (by omega)] at h6
        have h7:ob (xJ f L) q≤(xJ f L).length:=List.countP_le_length
        omega
      · rw [htop q (by omega)]; omega
  · show xJ f z.uses=_
    rw [v.uses]
  · have h2:=v.cnt w hw
    have h3:=R4 hnd hm (w:Int)
    show upd z.fF u (z.fF u-1) w=_
    by_cases e:w=u
    · subst e; rw [jY,h2]; rw [if_pos rfl] at h3; omega
    · rw [jL _ _ e,h2]; rw [if_neg (by omega)] at h3; omega
  · have h1:=v.sum
    have hf:fL (ZN z i u f s') i=fL z i+1:=by
      show lR (upd z.fE i s' i) 7=_
      rw [jY]; exact g.sum
    have hf2:∀ j,j≠i→fL (ZN z i u f s') j=fL z j:=fun j hj=>by
      show lR (upd z.fE i s' j) 7=_
      rw [jL _ _ hj]
    have:=(agF (f:=fL (ZN z i u f s')) (f':=fL z) (d:=1) (by rw [hf]) (fun j hj=>(hf2 j hj).symm) z.fD.length).2 hi
    show (Kt (fL (ZN z i u f s')) z.fD.length:Int)+_=_
    omega
theorem TakOk.take {s:cw} (t:TakOk s) {o k:Nat} {a:Int} {rest:List Int} (hok:o≤k) (hk:k<7) (hx:s.free k=a::rest) (hemp:∀ j,o≤j→j<k→s.free j = []) :
    TakOk { uv s o k o a rest with fG:=LJ a o s.fG }∧LJ a o s.fG=s.fG++[(a,(o:Int))]:=by
  have hm:∀ x,mult (uv s o k o a rest) x+inB a x o=mult s x:=ad6 hok hk hx hemp
  have hp:=ahm k
  have hp2:=ahm o
  have hpos:=Sl hk (show a∈s.free k by rw [hx]; exact gM ..) (gJ a) (by omega)
  have hnew:a∉s.fG.map (·.1):=fun h=>by
    obtain ⟨e,he,e1⟩:=fY.1 h
    have:=t.off e he
    rw [e1] at this
    omega
  have hset:=ahh (x:=(o:Int)) hnew
  have nn:=t.norm.take hok hk hx hemp
  refine ⟨⟨⟨nn.inc,nn.al,nn.np,nn.one⟩,?_,fun e he=>?_⟩,hset⟩
  · show ((LJ a o s.fG).map (·.1)).Nodup
    rw [hset,gU]
    refine gP.2 ⟨t.key,by simp,fun b hb c hc=>?_⟩
    simp at hc
    rw [hc]
    exact fun e=>hnew (by rw [← e]; exact hb)
  · have he':e∈LJ a o s.fG:=he
    show mult (uv s o k o a rest) e.1=0
    rw [hset,gT] at he'
    have h1:=hm e.1
    rcases he' with h | h
    · have:=t.off e h; omega
    · simp at h
      have h2:e.1=a:=by rw [h]
      rw [h2] at h1 ⊢
      have h3:inB a a o=1:=by unfold inB; rw [if_pos (by omega)]
      have:=t.norm.one a
      omega
end Go.Proofs.YtlgbmkemfinogaaGreat.Sh
/- A pool at work. -/
namespace Go.Proofs.YtlgbmkemfinogaaGreat.Sh
open Go.Ai
structure PI (zc:br) (p:Nat) (L:List (Int × Int)) (z:bf):Prop where
  inv:InvQ zc p L z
  tak:∀ i,i<z.fD.length→TakOk (z.fE i)
  has:∀ e∈L,2≤e.2→∃ i x,i<z.fD.length∧e.1=x*z.fB+nz z.fD i∧(x,0)∈(z.fE i).fG
  top:∀ k,7≤k→z.fF k=0
end Go.Proofs.YtlgbmkemfinogaaGreat.Sh
/- Rows of bools: asked whether, and where, a bool stands there. -/
namespace Go.Proofs.YtlgbmkemfinogaaGreat.Sh
open Go.Ai
def Bols (h:Heap) (v:AV) (l:List Bool):Prop:=∃ b cl,v = .slice b 0 l.length 0 false∧h.cl b cl∧cl=l.map AV.bool
theorem Bols.len {h:Heap} {v:AV} {l:List Bool} (b:Bols h v l) (k:Int→ab):lz v k=k l.length:=by
  obtain ⟨b,cl,rfl,_⟩:=b
  rfl
theorem apI {h:Heap} {b L i:Nat} (hi:i<L) {cl:List AV} (hc:h.cl b cl) {x:Bool} (hx:cl[i]?=some (.bool x)) (k:AV→Bool→ab):eldB 1 h (.slice b 0 L 0 false) (i:Int) k=k (.ptr b i) x:=by
  unfold eldB Rh
  rw [KR,NL]
  have h1:Nat.blt i L=true:=by rw [blt_eq]; simpa using hi
  rw [h1,tO,nd]
  dsimp only
  have e:Nat.add 0 (Nat.mul i 1)=i:=by simp
  rw [e]
  simp [iR hc,hx]
theorem Bols.eld {h:Heap} {v:AV} {l:List Bool} (b:Bols h v l) {i:Nat} (hi:i<l.length):∃ a,∀ k:AV→Bool→ab,eldB 1 h v (i:Int) k=k a l[i]:=by
  obtain ⟨b,cl,rfl,hc,rfl⟩:=b
  exact ⟨.ptr b i,fun k=>apI hi hc (by simp [hi]) k⟩
def IsAt (l:List Bool) (x:Bool) (r:Int):Prop:=(r = -1∧x∉l)∨∃ (i:Nat) (hi:i<l.length),r=(i:Int)∧l[i]=x∧∀ (j:Nat) (hj:j<i),l[j]'(by omega)≠x
theorem anL {n:Nat} {h:Heap} {v:AV} {l:List Bool} (b:Bols h v l) (hl:l.length≤1000000) (x:Bool):∀ (q i:Nat),i≤l.length→l.length-i<q→(∀ (j:Nat) (hj:j<i) (hj2:j<l.length),l[j]≠x)→
    aJ (fun k=>nI n k q v x (l.length:Int) (i:Int) h) fun r h'=>IsAt l x r∧h'=h:=by
  intro q
  induction q with
  | zero=>omega
  | succ q ih=>
    intro i hi hq hno
    simp only [Ki]
    unfold nH pz
    refine aR.ifB (fun e=>?_) fun e=>?_
    · rw [nw,gn] at e
      have hlt:i<l.length:=by omega
      obtain ⟨a,ea⟩:=b.eld hlt
      simp only [ea]
      have hx:Vx false (eqBB x l[i])=decide (x=l[i]):=by
        cases x<;>cases l[i]<;>rfl
      rw [hx]
      refine aR.ifB (fun e1=>?_) fun e1=>?_
      · rw [gn] at e1
        exact mQ ⟨.inr ⟨i,hlt,rfl,e1.symm,fun j hj=>hno j hj (by omega)⟩,rfl⟩
      · rw [gt] at e1
        simp only [au,kP (show i≤9223372036854775806 by omega)]
        refine ih (i+1) (by omega) (by omega) fun j hj hj2=>?_
        by_cases ej:j=i
        · subst ej; exact fun h=>e1 h.symm
        · exact hno j (by omega) hj2
    · rw [nw,gt] at e
      refine mQ ⟨.inl ⟨rfl,fun hm=>?_⟩,rfl⟩
      obtain ⟨j,hj,ej⟩:=List.mem_iff_getElem.1 hm
      exact hno j (by omega) hj ej
theorem alJ {n:Nat} {h:Heap} {v:AV} {l:List Bool} (b:Bols h v l) (hl:l.length≤1000000) (hn:l.length<n) (x:Bool):aJ (bw n v x h) fun r h'=>IsAt l x r∧h'=h:=by
  unfold bw uo qI
  simp only [b.len]
  exact anL b hl x n 0 (by omega) (by omega) fun j hj=>by omega
theorem afj {n:Nat} {h:Heap} {v:AV} {l:List Bool} (b:Bols h v l) (hl:l.length≤1000000) (hn:l.length<n) (x:Bool):aJ (bI n v x h) fun r h'=>r=decide (x∈l)∧h'=h:=by
  unfold bI rN oL
  refine aJ.bind (alJ b hl hn x) ?_
  rintro r _ ⟨hr,rfl⟩
  refine mQ ⟨?_,rfl⟩
  rw [nw,Ue]
  rcases hr with ⟨rfl,hno⟩ | ⟨i,hi,rfl,e,_⟩
  · rw [gz hno]; rfl
  · have:x∈l:=by rw [← e]; exact gL hi
    rw [gF this,gz (by omega)]; rfl
end Go.Proofs.YtlgbmkemfinogaaGreat.Sh
/- Frames and places as addresses. -/
namespace Go.Proofs.YtlgbmkemfinogaaGreat.Sh
open Go.Ai
theorem XN {n:Int} (h0:0≤n) (h1:n<18446744073709551616):IntKind.u64.wrap n=n:=by
  simp only [IntKind.wrap,IntKind.signed,IntKind.bits]; simp; omega
theorem or_low {a b:Nat} (ha:a<4096) (hb:b<256):(BitVec.ofInt 64 ((a:Int)*256) ||| BitVec.ofInt 64 (b:Int)).toNat=a*256+b:=by
  have e1:(BitVec.ofInt 64 ((a:Int)*256)).toNat=a*256:=by
    rw [show ((a:Int)*256)=((a*256:Nat):Int) by omega,BitVec.ofInt_natCast,BitVec.toNat_ofNat]
    exact Nat.mod_eq_of_lt (by omega)
  have e2:(BitVec.ofInt 64 (b:Int)).toNat=b:=by
    rw [BitVec.ofInt_natCast,BitVec.toNat_ofNat]
    exact Nat.mod_eq_of_lt (by omega)
  rw [BitVec.toNat_or,e1,e2]
  have:=Nat.shiftLeft_add_eq_or_of_lt (show b<2^8 by omega) a
  rw [Nat.shiftLeft_eq] at this
  exact this.symm
theorem and_low (a:Nat) (ha:a<18446744073709551616):(BitVec.ofInt 64 (a:Int) &&& BitVec.ofInt 64 255).toNat=a%256:=by
  have e1:(BitVec.ofInt 64 (a:Int)).toNat=a:=by
    rw [BitVec.ofInt_natCast,BitVec.toNat_ofNat]
    exact Nat.mod_eq_of_lt (by omega)
  have e2:(BitVec.ofInt 64 255).toNat=255:=by decide
  rw [BitVec.toNat_and,e1,e2]
  exact Nat.and_two_pow_sub_one_eq_mod a 8
theorem bitK_or {a b:Nat} (ha:a<4096) (hb:b<256) (c:Int→ab):aa3 .or .u64 ((a:Int)*256) (b:Int) c=c ((a*256+b:Nat):Int):=by
  have h:aa3 .or .u64 ((a:Int)*256) (b:Int) c=c (IntKind.u64.wrap (BitVec.ofInt 64 ((a:Int)*256) ||| BitVec.ofInt 64 (b:Int)).toNat):=by
    show oC (some _) _=_
    rw [pX,qZ]; rfl
  rw [h,or_low ha hb,XN (by omega) (by omega)]
theorem agy {a:Nat} (ha:a<18446744073709551616) (c:Int→ab):aa3 .and .u64 (a:Int) 255 c=c ((a%256:Nat):Int):=by
  have h:aa3 .and .u64 (a:Int) 255 c=c (IntKind.u64.wrap (BitVec.ofInt 64 (a:Int) &&& BitVec.ofInt 64 255).toNat):=by
    show oC (some _) _=_
    rw [pX,qZ]; rfl
  rw [h,and_low a ha,XN (by omega) (by omega)]
theorem aou {q:IntKind} {a:Int} {b:Nat} (c:Int→ab):shrK q a (b:Int) c=c (shrF q a b):=by
  unfold shrK; rw [ak5 (by omega)]; simp [qZ]
theorem u_offMay (n:Nat) (a:Int) (h:Heap) (k:Bool→Heap→ab):eu n a h k=k (decide (0≤a)&&decide (a<256)) h:=by
  unfold eu Rl Ka zq
  simp only [nw,Ue]
  by_cases e:a<0
  · rw [gF e,gz (show ¬ 0≤a by omega)]; rfl
  · rw [gz e,gF (show 0≤a by omega)]; rfl
theorem u_Place (n:Nat) {f o:Nat} (hf:f<4096) (ho:o<256) (h:Heap) (k:Int→Int→Heap→ab):cW n (f:Int) (o:Int) h k=k ((f*256+o:Nat):Int) 0 h:=by
  unfold cW TE Nu Bq Bk
  have e1:decide ((f:Int)<0)=false:=gz (by omega)
  have e2:decide ((f:Int)<4096)=true:=gF (by omega)
  have e3:decide ((0:Int)≤(o:Int))=true:=gF (by omega)
  have e4:decide ((o:Int)<256)=true:=gF (by omega)
  have w1:IntKind.u64.wrap (f:Int)=(f:Int):=XN (by omega) (by omega)
  have w2:IntKind.u64.wrap (o:Int)=(o:Int):=XN (by omega) (by omega)
  have w3:IntKind.u64.wrap (YO .u64 (f:Int) ((8:Int)).toNat)=(f:Int)*256:=by
    have:YO .u64 (f:Int) ((8:Int)).toNat=(f:Int)*256:=rfl
    rw [this,XN (by omega) (by omega)]
  simp only [au,e1,e2,e3,e4,u_offMay,Bool.not_true,Bool.and_true,w1,w2,ND (show (0:Int)≤8 by omega),w3,bitK_or hf ho]
theorem u_AFrame (n:Nat) {a:Nat} (ha:a<1048576) (h:Heap) (k:Int→Int→Int→Heap→ab):ec n (a:Int) h k=k ((a/256:Nat):Int) ((a%256:Nat):Int) 0 h:=by
  unfold ec Uh NF
  have s1:shrF .u64 (a:Int) 20=0:=by
    show ((Nat.div a (Nat.pow 2 (min 20 IntKind.u64.bits)):Nat):Int)=0
    have:Nat.div a (Nat.pow 2 (min 20 IntKind.u64.bits))=a/1048576:=rfl
    rw [this]; omega
  have s2:shrF .u64 (a:Int) 8=((a/256:Nat):Int):=rfl
  have w1:IntKind.i64.wrap ((a/256:Nat):Int)=((a/256:Nat):Int):=mP (by omega) (by omega)
  have w2:IntKind.i64.wrap ((a%256:Nat):Int)=((a%256:Nat):Int):=mP (by omega) (by omega)
  have q1:∀ c:Int→ab,shrK .u64 (a:Int) 20 c=c 0:=fun c=>by
    rw [show (20:Int)=((20:Nat):Int) from rfl,aou,s1]
  have q2:∀ c:Int→ab,shrK .u64 (a:Int) 8 c=c ((a/256:Nat):Int):=fun c=>by
    rw [show (8:Int)=((8:Nat):Int) from rfl,aou,s2]
  have t0:(!((0:Int)==0))=false:=rfl
  simp only [au,q1,q2,t0,w1,w2,agy (show a<18446744073709551616 by omega)]
end Go.Proofs.YtlgbmkemfinogaaGreat.Sh
/- Maps of numbers to values of any kind; rows made. -/
namespace Go.Proofs.YtlgbmkemfinogaaGreat.Sh
open Go.Ai
def OR (kv:List (Int × AV)):List (AV × AV):=kv.map fun e=>(AV.int .i64 e.1,e.2)
structure fj (h:Heap) (b:Nat) (kv:List (Int × AV)):Prop where
  lt:b<h.nx
  ro:h.ro≤b
  get:h.get b=some (.mp (OR kv))
theorem fj.chg {F:Nat→Prop} {h h':Heap} {b:Nat} {kv:List (Int × AV)} (a:fj h b kv) (c:Chg F h h') (hf:¬ F b):fj h' b kv:=
  ⟨gm a.lt c.nx,by rw [c.ro]; exact a.ro,(c.old b a.lt hf).trans a.get⟩
theorem fj.ne {h:Heap} {b c:Nat} {kv:List (Int × AV)} {l:List AV} {g:Nat} (a:fj h b kv) (o:Own h c l g):b≠c:=by
  rintro rfl
  have:=a.get.symm.trans o.get
  cases this
theorem fj.at_ {h:Heap} {b:Nat} {kv:List (Int × AV)} (a:fj h b kv):uw h b=some (OR kv):=by unfold uw; rw [a.get]
theorem aeo (k j:Int):qM (.cell .int) (.int .i64 k) (.int .i64 j)=some (k==j):=by
  show some (eqF k j)=_
  rw [wy]
theorem ajp (k:Int) (e:Int × AV) (t:List (Int × AV)):Pc (.cell .int) (.int .i64 k) (OR (e::t))=if k=e.1 then some (some e.2) else Pc (.cell .int) (.int .i64 k) (OR t):=by
  show (Option.casesOn (qM (.cell .int) (.int .i64 k) (.int .i64 e.1)) none fun b=>Bool.casesOn b (Pc (.cell .int) (.int .i64 k) (OR t)) (some (some e.2)):Option (Option AV))=_
  rw [aeo]
  by_cases h:k=e.1
  · rw [show (k==e.1)=true by simp [h],if_pos h]
  · rw [show (k==e.1)=false by simp [h],if_neg h]
theorem ajO {k:Int} {x:AV}:∀ {kv:List (Int × AV)},(kv.map (·.1)).Nodup→(k,x)∈kv→Pc (.cell .int) (.int .i64 k) (OR kv)=some (some x)
  | [],_,h=>by simp at h
  | e::t,hn,h=>by
    rw [List.map_cons,List.nodup_cons] at hn
    rw [ajp]
    rcases gG.1 h with h | h
    · subst h; rw [if_pos rfl]
    · rw [if_neg fun e'=>hn.1 (by rw [← e']; exact fY.2 ⟨_,h,rfl⟩)]
      exact ajO hn.2 h
theorem akf {k:Int}:∀ {kv:List (Int × AV)},k∉kv.map (·.1)→Pc (.cell .int) (.int .i64 k) (OR kv)=some none
  | [],_=>rfl
  | e::t,hn=>by
    rw [List.map_cons,gG,not_or] at hn
    rw [ajp,if_neg hn.1]
    exact akf hn.2
theorem fj.lookK {h:Heap} {b:Nat} {kv:List (Int × AV)} (a:fj h b kv) (k:Int) {r:Option AV} (hr:Pc (.cell .int) (.int .i64 k) (OR kv)=some r) (z:AV) (c:AV→Bool→ab):xk h (.cell .int) z (.map b) (.int .i64 k) c=match (generalizing:=false) r with
    | some x=>c x true
    | none=>c z false:=by
  unfold xk
  have h1:ajT h (.map b)=some (OR kv):=a.at_
  rw [h1,pX,aeo,pX,hr,pX]
  cases r<;>rfl
theorem fj.look {h:Heap} {b:Nat} {kv:List (Int × AV)} (a:fj h b kv) (hn:(kv.map (·.1)).Nodup) {k:Int} {x:AV} (hm:(k,x)∈kv) (z:AV) (c:AV→Bool→ab):xk h (.cell .int) z (.map b) (.int .i64 k) c=c x true:=by
  rw [a.lookK k (ajO hn hm)]
theorem fj.lookN {h:Heap} {b:Nat} {kv:List (Int × AV)} (a:fj h b kv) {k:Int} (hm:k∉kv.map (·.1)) (z:AV) (c:AV→Bool→ab):xk h (.cell .int) z (.map b) (.int .i64 k) c=c z false:=by
  rw [a.lookK k (akf hm)]
theorem amt {k:Int} {x:AV}:∀ {kv:List (Int × AV)},k∉kv.map (·.1)→putF (.cell .int) (.int .i64 k) x (OR kv)=some (OR (kv++[(k,x)]))
  | [],_=>rfl
  | e::t,hn=>by
    rw [List.map_cons,gG,not_or] at hn
    show (Option.casesOn (qM (.cell .int) (.int .i64 k) (.int .i64 e.1)) none fun b=>Bool.casesOn b (Option.casesOn (putF (.cell .int) (.int .i64 k) x (OR t)) none fun t'=>some ((AV.int .i64 e.1,e.2)::t')) (some ((.int .i64 k,x)::OR t)):Option _)=_
    rw [aeo,amt hn.2,show (k==e.1)=false by simp [hn.1]]
    rfl
theorem r_putA {h:Heap} {b:Nat} {kv:List (Int × AV)} (a:fj h b kv) {k:Int} (hk:k∉kv.map (·.1)) (x:AV) :
    dz (PV h (.cell .int) (.map b) (.int .i64 k) x) fun h'=>fj h' b (kv++[(k,x)])∧Chg (· = b) h h':=by
  refine ⟨h.set b (.mp (OR (kv++[(k,x)]))),⟨⟨by simpa using a.lt,by simpa using a.ro,Heap.fN ..⟩,⟨by simp,by simp,fun c _ hc=>Heap.fM _ (fun e=>hc e.symm) _⟩⟩,fun c=>?_⟩
  unfold PV
  rw [aef]
  have h1:Nat.blt b h.ro=false:=by rw [blt_eq]; simp; exact a.ro
  rw [h1,B6,a.at_,pX,aeo,pX,amt hk,pX,P0]; rfl
def ah3 (k:Int) (kv:List (Int × AV)):List (Int × AV):=kv.filter fun e=>decide (e.1≠k)
theorem ajZ {k:Int}:∀ {kv:List (Int × AV)},(kv.map (·.1)).Nodup→ahq (.cell .int) (.int .i64 k) (OR kv)=some (OR (ah3 k kv))
  | [],_=>rfl
  | e::t,hn=>by
    rw [List.map_cons,List.nodup_cons] at hn
    show (Option.casesOn (qM (.cell .int) (.int .i64 k) (.int .i64 e.1)) none fun b=>Bool.casesOn b (Option.casesOn (ahq (.cell .int) (.int .i64 k) (OR t)) none fun t'=>some ((AV.int .i64 e.1,e.2)::t')) (some (OR t)):Option _)=_
    rw [aeo,ajZ hn.2]
    by_cases h:k=e.1
    · rw [show (k==e.1)=true by simp [h]]
      have:ah3 k (e::t)=t:=by
        unfold ah3
        rw [List.filter_cons_of_neg (by simp [h]),List.filter_eq_self]
        intro x hx
        rw [gn]
        intro e'
        exact hn.1 (by rw [← h, ← e']; exact fY.2 ⟨x,hx,rfl⟩)
      rw [this]
    · rw [show (k==e.1)=false by simp [h]]
      have:ah3 k (e::t)=e::ah3 k t:=by
        unfold ah3
        rw [List.filter_cons_of_pos (by simpa using fun e'=>h e'.symm)]
      rw [this]; rfl
theorem r_delA {h:Heap} {b:Nat} {kv:List (Int × AV)} (a:fj h b kv) (hn:(kv.map (·.1)).Nodup) (k:Int) :
    dz (PE h (.cell .int) (.map b) (.int .i64 k)) fun h'=>fj h' b (ah3 k kv)∧Chg (· = b) h h':=by
  refine ⟨h.set b (.mp (OR (ah3 k kv))),⟨⟨by simpa using a.lt,by simpa using a.ro,Heap.fN ..⟩,⟨by simp,by simp,fun c _ hc=>Heap.fM _ (fun e=>hc e.symm) _⟩⟩,fun c=>?_⟩
  unfold PE alz
  have h1:Nat.blt b h.ro=false:=by rw [blt_eq]; simp; exact a.ro
  rw [aeo]
  dsimp only
  rw [h1,a.at_]
  dsimp only
  rw [ajZ hn]
  dsimp only
  rw [Heap.fO,pX]; rfl
theorem ahT:∀ {kv:List (Int × AV)},(∀ e∈kv,Kg e.1)→L1 (OR kv)=some (kv.map (·.1))
  | [],_=>rfl
  | e::t,h=>by
    have he:=h e (gM ..)
    unfold Kg at he
    have ih:=ahT (kv:=t) fun x hx=>h x (f0 _ hx)
    show (match ltF e.1 (-9223372036854775808),ltF 9223372036854775807 e.1 with
        | false,false=>Option.casesOn (L1 (OR t)) none fun l=>some (e.1::l)
        | _,_=>none:Option (List Int))=_
    rw [nw,nw,show decide (e.1 < -9223372036854775808)=false by simp; omega,show decide (9223372036854775807<e.1)=false by simp; omega,ih]
    rfl
theorem aph {h:Heap} (hro:h.ro≤h.nx) {m:Nat} {kv:List (Int × AV)} (a:fj h m kv) (hk:∀ e∈kv,Kg e.1) (hn:(kv.map (·.1)).Nodup) (hl:kv.length≤1000000) {b:Nat} (hb:h.cl b [.map m]) :
    aJ (qY bh [.func 83 [] [.ptr b 0]] h) fun v h'=>Lst h' v (om (kv.map (·.1)))∧bo h h':=by
  have hc:nU h b=some [.map m]:=IR hb
  have hm:=a.at_
  have run:∀ {v:AV} {h':Heap},KD 83 [.func 83 [] [.ptr b 0]] h=some (v,h')→∀ k,qY bh [.func 83 [] [.ptr b 0]] h k=k v h':=by
    intro v h' e k
    have e0:D7 89 [.func 83 [] [.ptr b 0]] h = .err:=rfl
    unfold qY bh
    rw [e0]
    unfold D7
    rw [e]
  have hp:=qv (kv.map (·.1))
  have hlen:(om (kv.map (·.1))).length=kv.length:=by rw [hp.length_eq,gR]
  by_cases h0:kv = []
  · subst h0
    refine ⟨(.nilslice,h),⟨.inl ⟨rfl,rfl⟩,.refl⟩,run ?_⟩
    unfold KD
    show (Option.casesOn (nU h b) none _:Option (AV × Heap))=_
    rw [hc]
    show (Option.casesOn (uw h m) none _:Option (AV × Heap))=_
    rw [hm]
    rfl
  · have hpos:0<kv.length:=gO.2 h0
    refine ⟨(.slice h.nx 0 kv.length 0 true,h.add (.cells (cH (om (kv.map (·.1)))) true 1)),⟨.inr ⟨h.nx,0,[],by rw [hlen],⟨by simp,by simpa using hro,by rw [Heap.fQ,if_pos rfl]; simp⟩,rfl,by omega,by omega⟩,bo.add⟩,run ?_⟩
    unfold KD
    show (Option.casesOn (nU h b) none _:Option (AV × Heap))=_
    rw [hc]
    show (Option.casesOn (uw h m) none _:Option (AV × Heap))=_
    rw [hm]
    show (Option.casesOn (L1 _) none _:Option (AV × Heap))=_
    rw [ahT hk]
    show (Bool.casesOn (Nat.beq (qh (kv.map (·.1))) 0) (Bool.casesOn (X9 (om (kv.map (·.1)))&&Nat.ble (qh (kv.map (·.1))) 1000000) none
          (h.newK (.cells (mapK ahK (om (kv.map (·.1)))) true 1) fun c H'=>some (.slice c 0 (qh (kv.map (·.1))) 0 true,H'))) (some (.nilslice,h)):Option (AV × Heap))=_
    rw [mU,gR,Qi (Ei hn),show Nat.beq kv.length 0=false from by
      cases hk':Nat.beq kv.length 0 with
      | false=>rfl
      | true=>have:=gw hk'; omega]
    rw [show (true&&Nat.ble kv.length 1000000)=true from by rw [Bool.true_and]; exact fW hl]
    dsimp only
    rw [Heap.fP,agp,amf]
theorem alS (a:AV):∀ n:Nat,Pp [a] n=List.replicate n a
  | 0=>rfl
  | n+1=>by rw [S2,alS a n,List.replicate_succ]; rfl
def abn (b n:Nat):AV:=.slice b 0 n 0 false
theorem r_mkC {h:Heap} (hro:h.ro≤h.nx) (a:AV) {n:Nat} (hn:n≤1048576):aJ (mkK h [a] (n:Int) (n:Int)) fun v h'=>v=abn h.nx n∧Own h' h.nx (List.replicate n a) 0∧bo h h':=by
  refine ⟨(.slice h.nx 0 n 0 false,h.add (.cells (List.replicate n a) true 0)),⟨rfl,⟨by simp,by simpa using hro,by rw [Heap.fQ,if_pos rfl]⟩,bo.add⟩,fun k=>?_⟩
  unfold mkK
  rw [NL,NL]
  have:andB (Nat.ble n n) (Nat.ble n I8)=true:=by
    rw [Yf,fW (gp n),fW (by unfold I8; exact hn)]; rfl
  rw [this,tO,AJ,nd,alS]
  show k (.slice h.nx 0 n (Nat.sub n n) false) _=_
  rw [show Nat.sub n n=0 from Nat.sub_self n]; rfl
theorem row_ia {b n i:Nat} (hi:i<n) (k:AV→ab):Rh 1 (abn b n) (i:Int) k=k (.ptr b i):=by
  unfold Rh abn
  rw [KR,NL]
  have:Nat.blt i n=true:=by rw [blt_eq]; simpa using hi
  rw [this,tO,nd]
  show k (.ptr b (Nat.add 0 (Nat.mul i 1)))=_
  rw [show Nat.add 0 (Nat.mul i 1)=i by simp]
theorem aot {h:Heap} {b n i:Nat} (hi:i<n) (u:AV) (k:AV→Heap→ab):est 1 h (abn b n) (i:Int) 1 u k=nu h (.ptr b i) 1 u fun H=>k (.ptr b i) H:=by
  unfold est
  rw [row_ia hi]
theorem Own.bols {h:Heap} {b:Nat} {l:List Bool} (o:Own h b (l.map AV.bool) 0):Bols h (abn b l.length) l:=⟨b,_,rfl,o.cl,rfl⟩
end Go.Proofs.YtlgbmkemfinogaaGreat.Sh
/- A slab in the heap. -/
namespace Go.Proofs.YtlgbmkemfinogaaGreat.Sh
open Go.Ai
theorem anb (n:Nat) {f o:Int} (hf:0≤f∧f<4096) (ho:0≤o∧o<256) (h:Heap) (k:Int→Int→Heap→ab):cW n f o h k=k (f*256+o) 0 h:=by
  obtain ⟨a,rfl⟩:=gE hf.1
  obtain ⟨b,rfl⟩:=gE ho.1
  rw [u_Place n (by omega) (by omega)]
  congr 1
abbrev Frs:=List (Int × Nat × List Bool)
def kvE (E:Frs):List (Int × AV):=E.map fun e=>(e.1,abn e.2.1 e.2.2.length)
theorem Ph (E:Frs):(kvE E).map (·.1)=E.map (·.1):=by simp [kvE,Function.comp_def]
def Tj (p:Nat) (u:Nat) (sz:Int) (m:Nat):List AV:=[.ptr p 0,.int .u8 u,.int .i64 sz,.map m]
structure bS (h:Heap) (sp sm:Nat) (w:bX) (z:bf) (u:Nat) (sz:Int) (E:Frs):Prop where
  own:Own h sp (Tj w.p u sz sm) 0
  map:fj h sm (kvE E)
  rows:∀ e∈E,Own h e.2.1 (e.2.2.map AV.bool) 0
  dis:(E.map (·.2.1)).Nodup
  pool:bF h w z
  sep:∀ d,fpP w z.fD.length d→d≠sp∧d≠sm∧∀ e∈E,d≠e.2.1
  sepR:∀ e∈E,e.2.1≠sp
def fpS (sp sm:Nat) (w:bX) (L:Nat) (E:Frs) (d:Nat):Prop:=d=sp∨d=sm∨(∃ e∈E,d=e.2.1)∨fpP w L d
section
variable {h:Heap} {sp sm:Nat} {w:bX} {z:bf} {u:Nat} {sz:Int} {E:Frs}
theorem bS.chg {F:Nat→Prop} {h':Heap} (s:bS h sp sm w z u sz E) (c:Chg F h h') (hf:∀ d,fpS sp sm w z.fD.length E d→¬ F d):bS h' sp sm w z u sz E:=
  ⟨c.own s.own (hf _ (.inl rfl)),s.map.chg c (hf _ (.inr (.inl rfl))),fun e he=>c.own (s.rows e he) (hf _ (.inr (.inr (.inl ⟨e,he,rfl⟩)))),s.dis,
   s.pool.chg c fun d hd=>hf d (.inr (.inr (.inr hd))),s.sep,s.sepR⟩
theorem bS.grow {h':Heap} (s:bS h sp sm w z u sz E) (g:bo h h'):bS h' sp sm w z u sz E:=s.chg (g.chg fun _=>False) fun _ _ h=>h
theorem bS.lt (s:bS h sp sm w z u sz E) {d:Nat} (hd:fpS sp sm w z.fD.length E d):d<h.nx:=by
  rcases hd with rfl | rfl | ⟨e,he,rfl⟩ | hd
  · exact s.own.lt
  · exact s.map.lt
  · exact (s.rows e he).lt
  · exact s.pool.lt hd
theorem bS.mapR (s:bS h sp sm w z u sz E) {e:Int × Nat × List Bool} (he:e∈E):e.2.1≠sm:=fun e'=>s.map.ne (s.rows e he) e'.symm
theorem bS.mapS (s:bS h sp sm w z u sz E):sm≠sp:=s.map.ne s.own
def CG (f:Int) (i:Nat) (x:Bool) (E:Frs):Frs:=E.map fun e=>if e.1=f then (e.1,e.2.1,e.2.2.set i x) else e
theorem aeq (f:Int) (i:Nat) (x:Bool) (E:Frs):(CG f i x E).map (·.1)=E.map (·.1):=by
  simp only [CG,List.map_map]
  refine List.map_congr_left fun e _=>?_
  simp only [Function.comp_def]
  split<;>rfl
theorem ao3 (f:Int) (i:Nat) (x:Bool) (E:Frs):(CG f i x E).map (·.2.1)=E.map (·.2.1):=by
  simp only [CG,List.map_map]
  refine List.map_congr_left fun e _=>?_
  simp only [Function.comp_def]
  split<;>rfl
theorem putE_kv (f:Int) (i:Nat) (x:Bool) (E:Frs):kvE (CG f i x E)=kvE E:=by
  simp only [kvE,CG,List.map_map]
  refine List.map_congr_left fun e _=>?_
  simp only [Function.comp_def]
  split<;>simp
theorem Eg {f:Int} {i:Nat} {x:Bool} {E:Frs} {e:Int × Nat × List Bool} (he:e∈CG f i x E):∃ e'∈E,e.1=e'.1∧e.2.1=e'.2.1∧e.2.2=(if e'.1=f then e'.2.2.set i x else e'.2.2):=by
  obtain ⟨e',he',rfl⟩:=fY.1 he
  refine ⟨e',he',?_⟩
  split
  · exact ⟨rfl,rfl,rfl⟩
  · exact ⟨rfl,rfl,rfl⟩
theorem xb {E:Frs} (hn:(E.map (·.1)).Nodup) {e e':Int × Nat × List Bool} (he:e∈E) (he':e'∈E) (h:e.1=e'.1):e=e':=by
  induction E with
  | nil=>cases he
  | cons a E ih=>
    rw [List.map_cons,List.nodup_cons] at hn
    rcases gG.1 he with h1 | h1<;>rcases gG.1 he' with h2 | h2
    · rw [h1,h2]
    · subst h1; exact (hn.1 (by rw [h]; exact fY.2 ⟨_,h2,rfl⟩)).elim
    · subst h2; exact (hn.1 (by rw [← h]; exact fY.2 ⟨_,h1,rfl⟩)).elim
    · exact ih hn.2 h1 h2
theorem blk_inj {E:Frs} (hn:(E.map (·.2.1)).Nodup) {e e':Int × Nat × List Bool} (he:e∈E) (he':e'∈E) (h:e.2.1=e'.2.1):e=e':=by
  induction E with
  | nil=>cases he
  | cons a E ih=>
    rw [List.map_cons,List.nodup_cons] at hn
    rcases gG.1 he with h1 | h1<;>rcases gG.1 he' with h2 | h2
    · rw [h1,h2]
    · subst h1; exact (hn.1 (by rw [h]; exact fY.2 ⟨_,h2,rfl⟩)).elim
    · subst h2; exact (hn.1 (by rw [← h]; exact fY.2 ⟨_,h1,rfl⟩)).elim
    · exact ih hn.2 h1 h2
theorem bS.setRow (s:bS h sp sm w z u sz E) (hn:(E.map (·.1)).Nodup) {f:Int} {b:Nat} {row:List Bool} (he:(f,b,row)∈E) {i:Nat} {x:Bool} {h':Heap} (p:Put h b ((row.map AV.bool).set i (.bool x)) 0 h') :
    bS h' sp sm w z u sz (CG f i x E):=by
  have hb:b≠sp:=s.sepR _ he
  have hm:b≠sm:=s.mapR he
  refine ⟨p.ownO hb.symm s.own,?_,fun e he'=>?_,by rw [ao3]; exact s.dis,s.pool.chg p.chg fun d hd e=>(s.sep d hd).2.2 _ he e,fun d hd=>⟨(s.sep d hd).1,(s.sep d hd).2.1,fun e he'=>?_⟩,fun e he'=>?_⟩
  · rw [putE_kv]
    exact s.map.chg p.chg fun e=>hm e.symm
  · obtain ⟨e2,h2,h3,h4,h5⟩:=Eg he'
    by_cases e3:e2.1=f
    · have:=xb hn h2 he e3
      subst this
      rw [h5,if_pos rfl,h4,List.map_set]
      exact p.own
    · rw [h5,if_neg e3,h4]
      refine p.ownO (fun e4=>e3 ?_) (s.rows e2 h2)
      rw [blk_inj s.dis h2 he e4]
  · obtain ⟨e2,h2,h3,h4,h5⟩:=Eg he'
    rw [h4]; exact (s.sep d hd).2.2 e2 h2
  · obtain ⟨e2,h2,h3,h4,h5⟩:=Eg he'
    rw [h4]; exact s.sepR e2 h2
theorem bS.look (s:bS h sp sm w z u sz E) (hn:(E.map (·.1)).Nodup) {f:Int} {b:Nat} {row:List Bool} (he:(f,b,row)∈E) (v:AV) (c:AV→Bool→ab):xk h (.cell .int) v (.map sm) (.int .i64 f) c=c (abn b row.length) true:=
  s.map.look (by rw [Ph]; exact hn) (fY.2 ⟨_,he,rfl⟩) v c
theorem abv (s:bS h sp sm w z u sz E) (hz:0<sz) (n:Nat) (k:Bool→Heap→ab):cx n (.ptr sp 0) h k=k true h:=by
  unfold cx FG zg sQ
  have t1:(false ^^ true)=true:=rfl
  have e2:(Tj w.p u sz sm)[2]?=some (.int .i64 sz):=rfl
  have e3:decide ((0:Int)<sz)=true:=gF hz
  simp only [au,ac8,t1,iR s.own.cl,e2,e3]
end
end Go.Proofs.YtlgbmkemfinogaaGreat.Sh
