/- Of each use just its quota: the code. -/
import Derived.Test.YtnlbfbiogfilfaaGreatZQFnZQAdds2
import Derived.Test.YtnlbfbiogfilfaaGreatZQLawZAGive
set_option linter.all false
namespace Go.Proofs.YtnlbfbiogfilfaaGreat.Sh
open Go.Ai
structure QSt (zc:CfgZ) (p:Nat) (hb h:Heap) (w:PoolP) (z:PoolZ) (L:List (Int × Int)):Prop where
  pool:PoolIn h w z
  inv:InvQ zc p L z
  low:∀ c,fpP w z.mine.length c→hb.nx≤c
  g:Grow hb h
theorem QSt.grow {zc:CfgZ} {p:Nat} {hb h h':Heap} {w:PoolP} {z:PoolZ} {L:List (Int × Int)} (s:QSt zc p hb h w z L) (g:Grow h h'):QSt zc p hb h' w z L:=⟨s.pool.grow g,s.inv,s.low,s.g.trans g⟩
theorem QSt.take {zc:CfgZ} {p:Nat} {hb h:Heap} {w:PoolP} {z:PoolZ} {L:List (Int × Int)} (s:QSt zc p hb h w z L) (po:PartOk zc p) (qo:QuotaOk zc p) (wi:WithinQ zc p L) {u:Nat} (hu:2≤u∧u≤6) (hlt:(ng L u:Int)<pk (cL zc p) u) {f e:Int} {h':Heap} (ht:alD h w z u f e h') :
    e=0∧∃ w' z',w'.p=w.p∧QSt zc p hb h' w' z' (L++[(f,(u:Int))]):=by
  obtain ⟨e0,w',z',e1,e2,q1,q2,q3,q4⟩:=takeQ s.pool s.inv po qo wi hu hlt ht
  refine ⟨e0,w',z',e1,q1,q2,fun d hd=>?_,q4.grow s.g s.low⟩
  rw [e2] at hd
  rcases q3 d hd with h1 | h1
  · exact s.low d h1
  · exact Nat.le_trans s.g.nx h1
def useK (f k:Nat):Nat:=2+(f+k)%5
structure Round (zc:CfgZ) (p f k:Nat) (L:List (Int × Int)):Prop where
  image:ng L 1=2^(cL zc p).order.toNat
  done:∀ j,j<k→(ng L (useK f j:Int):Int)=pk (cL zc p) (useK f j)
  rest:∀ j,k≤j→j<5→ng L (useK f j:Int)=0
theorem cntU_one (L:List (Int × Int)) (f:Int) (v u:Int):ng (L++[(f,v)]) u=ng L u+if v=u then 1 else 0:=by
  rw [WY]
  congr 1
  by_cases e:v=u<;>simp [ng,e]
end Go.Proofs.YtnlbfbiogfilfaaGreat.Sh
/- A frame given back: the code of the buddy, of the pool. -/
namespace Go.Proofs.YtnlbfbiogfilfaaGreat.Sh
open Go.Ai
theorem ah3 {k:Int}:∀ {kv:List (Int × Int)},(kv.map (·.1)).Nodup→∀ {e:Int × Int},e∈xe k kv↔e∈kv∧e.1≠k
  | [],_,e=>by simp [xe]
  | d::t,h,e=>by
    rw [List.map_cons,List.nodup_cons] at h
    unfold xe
    by_cases h1:k=d.1
    · rw [if_pos h1,List.mem_cons]
      refine ⟨fun he=>⟨.inr he,fun h2=>h.1 ?_⟩,fun ⟨he,h2⟩=>?_⟩
      · rw [← h1, ← h2]; exact List.mem_map.2 ⟨e,he,rfl⟩
      · rcases he with rfl | he
        · exact (h2 h1.symm).elim
        · exact he
    · rw [if_neg h1,List.mem_cons,List.mem_cons,ah3 h.2]
      constructor
      · rintro (rfl | ⟨h2,h3⟩)
        · exact ⟨.inl rfl,fun e=>h1 e.symm⟩
        · exact ⟨.inr h2,h3⟩
      · rintro ⟨rfl | h2,h3⟩
        · exact .inl rfl
        · exact .inr ⟨h2,h3⟩
theorem amA (k:Int):∀ kv:List (Int × Int),(xe k kv).Sublist kv
  | []=>.slnil
  | d::t=>by
    unfold xe
    split
    · exact List.sublist_cons_self ..
    · exact (amA k t).cons_cons d
theorem ayV {k:Int} {kv:List (Int × Int)} (h:(kv.map (·.1)).Nodup):((xe k kv).map (·.1)).Nodup:=h.sublist ((amA k kv).map _)
theorem aiD {k x:Int}:∀ {kv:List (Int × Int)},(kv.map (·.1)).Nodup→(k,x)∈kv→kv.Perm ((k,x)::xe k kv)
  | [],_,hm=>by simp at hm
  | d::t,h,hm=>by
    rw [List.map_cons,List.nodup_cons] at h
    unfold xe
    by_cases h1:k=d.1
    · rw [if_pos h1]
      rcases List.mem_cons.1 hm with h2 | h2
      · rw [← h2]
      · exact (h.1 (List.mem_map.2 ⟨_,h2,h1⟩)).elim
    · rw [if_neg h1]
      rcases List.mem_cons.1 hm with h2 | h2
      · exact (h1 (by rw [← h2])).elim
      · exact ((aiD h.2 h2).cons d).trans (List.Perm.swap ..)
theorem apX {k:Int}:∀ {A:List (Int × Int)},k∉A.map (·.1)→∀ B,xe k (A++B)=A++xe k B
  | [],_,B=>rfl
  | d::t,h,B=>by
    rw [List.map_cons,List.mem_cons,not_or] at h
    rw [List.cons_append,xe,if_neg h.1,apX h.2]; rfl
theorem asX {k:Int}:∀ {kv:List (Int × Int)} {i:Nat},(kv.map (·.1)).Nodup→i<kv.length→nz (kv.map (·.1)) i=k→(xe k kv).map (·.1)=(kv.map (·.1)).eraseIdx i
  | [],i,_,hi,_=>by simp at hi
  | d::t,0,h,hi,hk=>by
    have:k=d.1:=hk.symm
    rw [xe,if_pos this]; rfl
  | d::t,i+1,h,hi,hk=>by
    rw [List.map_cons,List.nodup_cons] at h
    have hi':i<t.length:=by simpa using hi
    have hk':nz (t.map (·.1)) i=k:=hk
    have hmem:k∈t.map (·.1):=by
      rw [← hk',kC (by simpa using hi')]; exact List.getElem_mem _
    rw [xe,if_neg (fun e=>h.1 (by rw [← e]; exact hmem)),List.map_cons,List.map_cons,List.eraseIdx_cons_succ,asX h.2 hi' hk']
structure TakOk (s:BudZ):Prop where
  norm:Norm s
  key:(s.taken.map (·.1)).Nodup
  off:∀ e∈s.taken,mult s e.1=0
theorem _root_.Go.Ai.BudIn.setTaken {h h':Heap} {p m:Nat} {v:Nat→AV} {s:BudZ} (b:BudIn h p m v s) {kv:List (Int × Int)} (hm:MapI h' m .i64 kv) (c:Chg (· = m) h h'):BudIn h' p m v { s with taken:=kv }:=
  ⟨c.own b.own (fun e=>(b.map.ne b.own) e.symm),hm,fun k hk=>(b.lst k hk).chg c fun d e=>(b.lst k hk).neM b.map e,b.dis⟩
structure GaveS (s:BudZ) (a:Int) (s':BudZ):Prop where
  norm:Norm s'
  n:s'.n=s.n
  taken:s'.taken=xe a s.taken
  mult:∀ x,Sh.mult s' x=Sh.mult s x+inB a x 0
  sum:fU s' 7=fU s 7+1
theorem GaveS.ok {s s':BudZ} {a:Int} (g:GaveS s a s') (t:TakOk s):TakOk s':=by
  refine ⟨g.norm,by rw [g.taken]; exact ayV t.key,fun e he=>?_⟩
  rw [g.taken,ah3 t.key] at he
  have h1:=t.off e he.1
  have h2:inB a e.1 0=0:=by
    unfold inB
    rw [if_neg]
    have:=he.2
    intro h
    obtain ⟨h3,h4⟩:=h
    simp at h4
    omega
  rw [g.mult,h1,h2]
theorem v_BGive {n:Nat} (hn:70000<n) {h:Heap} (hro:h.ro≤h.nx) {p m:Nat} {v:Nat→AV} {s:BudZ} (b:BudIn h p m v s) (t:TakOk s) {a:Int} (ha:0≤a∧a<4096) (hm:(a,0)∈s.taken) (hfn:fU s 7<70000) :
    Run1 (ph n (.ptr p 0) a 0 h) fun r h'=>r=0∧∃ v' s',BudIn h' p m v' s'∧GaveS s a s'∧(∀ j,j<7→∀ c,(v' j).blk=some c→(v j).blk=some c∨h.nx≤c)∧Chg (fpB p m v) h h':=by
  unfold ph Fv Fz Bt BB B4 BP Bw BG
  have e1:decide ((0:Int)<0)=false:=rfl
  have e2:decide ((6:Int)<0)=false:=rfl
  have e3:decide (a<0)=false:=by simp; omega
  have e4:((0:Int)==0)=true:=rfl
  simp only [cJ,Nat.reduceAdd,ayU b.rd,e1,e2,e3,e4,bM b.own.cl,bud_9,alM b.map t.key hm,Bool.not_true]
  refine Run0.bind (ayF b.map a) ?_
  rintro h9 ⟨m9,c9⟩
  have b9:=b.setTaken m9 c9
  have n9:Norm { s with taken:=xe a s.taken }:=⟨t.norm.inc,t.norm.al,t.norm.np,t.norm.one⟩
  have f9:fU { s with taken:=xe a s.taken } 7=fU s 7:=alk rfl 7
  have hz:mult s a=0:=t.off (a,0) hm
  have q1:fU { s with taken:=xe a s.taken } 7+2^0≤70000:=by rw [f9]; simp; omega
  have q2:∀ x,a≤x→x<a+2^0→mult { s with taken:=xe a s.taken } x=0:=by
    intro x h1 h2
    have h3:(2:Int)^0=1:=rfl
    rw [h3] at h2
    have:x=a:=by omega
    rw [this]
    exact hz
  have q3:a%2^0=0:=by simp
  have key:=aAv hn (fF n) n 0 a h9 v { s with taken:=xe a s.taken } (c9.le hro) n9 b9 q1 ha q3 q2 (by omega) (by omega)
  refine RunG.mono key ?_
  rintro ⟨r,h'⟩ ⟨r1,v',s',r2,r3,r4,r5⟩
  refine ⟨r1,v',s',r2,⟨r3.norm,r3.n,r3.taken,fun x=>r3.mult x,by have:=r3.sum; rw [f9] at this; simpa using this⟩,fun j hj c e=>?_,?_⟩
  · rcases r4 j hj c e with h1 | h1
    · exact .inl h1
    · exact .inr (Nat.le_trans c9.nx h1)
  · exact (c9.mono fun d _ e=>.inr (.inl e)).trans r5
theorem u_Of (n:Nat) {f co:Int} (h2:cR co 1 16=true) (hf:0≤f∧f≤4095) (h:Heap) (k:Int→Int→Heap→CRes):Jd n f co h k=k (f%co) 0 h:=by
  unfold Jd ahQ agI XV XQ
  have e1:cR f 0 4095=true:=by simp [cR]; omega
  simp only [A8,TF,e1,h2]
  simp [cR] at h2
  simp only [cJ,Nat.reduceAdd,Bool.not_true,aiO (show co≠0 by omega),Int.tmod_eq_emod_of_nonneg hf.1]
theorem u_Index (n:Nat) {f co:Int} (h2:cR co 1 16=true) (hf:0≤f∧f≤4095) (h:Heap) (k:Int→Int→Heap→CRes):yv n f co h k=k (f/co) 0 h:=by
  unfold yv Uk Up Nm Of
  have e1:cR f 0 4095=true:=by simp [cR]; omega
  simp only [A8,TF,e1,h2]
  simp [cR] at h2
  have q1:=Int.ediv_le_self co hf.1
  have q2:0≤f/co:=Int.ediv_nonneg hf.1 (by omega)
  have w1:IntKind.i64.wrap (f/co)=f/co:=jU (by omega) (by omega)
  simp only [cJ,Nat.reduceAdd,Bool.not_true,ary (show co≠0 by omega),Int.tdiv_eq_ediv_of_nonneg hf.1,w1]
theorem avn {q:IntKind} {k:Int}:∀ {kv:List (Int × Int)},k∉kv.map (·.1)→agm (.cell .int) (.int .i64 k) (kv.map fun e=>(AV.int .i64 e.1,AV.int q e.2))=some none
  | [],_=>rfl
  | e::t,hn=>by
    rw [List.map_cons,List.mem_cons,not_or] at hn
    have hk:oQ (.cell .int) (.int .i64 k) (.int .i64 e.1)=some (k==e.1):=by
      show some (eqF k e.1)=_
      rw [zj]
    show (Option.casesOn (oQ (.cell .int) (.int .i64 k) (.int .i64 e.1)) none fun b=>Bool.casesOn b (agm (.cell .int) (.int .i64 k) (t.map fun e=>(AV.int .i64 e.1,AV.int q e.2))) (some (some (.int q e.2))):Option (Option AV))=_
    rw [hk]
    have:(k==e.1)=false:=by simp [hn.1]
    rw [this]
    exact avn hn.2
theorem azu {h:Heap} {b:Nat} {q:IntKind} {kv:List (Int × Int)} (a:MapI h b q kv) {k:Int} (hm:k∉kv.map (·.1)) (z:AV) (c:AV→Bool→CRes):Tn h (.cell .int) z (.map b) (.int .i64 k) c=c z false:=by
  unfold Tn
  have h1:atB h (.map b)=some (kv.map fun e=>(AV.int .i64 e.1,AV.int q e.2)):=by
    show vc h b=_
    unfold vc; rw [a.get]
  have h2:oQ (.cell .int) (.int .i64 k) (.int .i64 k)=some (k==k):=by
    show some (eqF k k)=_
    rw [zj]
  rw [h1,sN,h2,sN,avn hm,sN]
theorem ayX {n:Nat} {h:Heap} {w:PoolP} {z:PoolZ} (b:PoolIn h w z) {f:Int} (hm:f∉z.uses.map (·.1)):Run1 (dN n (.ptr w.p 0) f h) fun r h'=>r=91∧h'=h:=by
  unfold dN Ct Cb xo xl
  simp only [cJ,Nat.reduceAdd,Ps b,Bool.not_true,bM b.own.cl,aiz,azu b.uses hm,Bool.not_false]
  exact je ⟨rfl,rfl⟩
theorem Ints.shut {h:Heap} {v:AV} {l:List Int} (s:Ints h .i64 v l):Ints (h.shut true) .i64 v l:=s
def akD (z:PoolZ) (i u:Nat) (f:Int) (s':BudZ):PoolZ:={ z with buds:=upd z.buds i s',uses:=xe f z.uses,counts:=upd z.counts u (z.counts u-1) }
theorem v_PGive {n:Nat} (hn:70000<n) {h:Heap} (hro:h.ro≤h.nx) {w:PoolP} {z:PoolZ} (b:PoolIn h w z) (hnd:(z.uses.map (·.1)).Nodup) (hco:cR z.colours 1 16=true) (hup:z.mine.Pairwise (· < ·)) (hcol:∀ x∈z.mine,0≤x∧x<z.colours) {f:Int} (hf:0≤f∧f≤4095) {u:Nat} (hu:2≤u∧u≤6) (hm:(f,(u:Int))∈z.uses)
    (hcnt:1≤z.counts u∧z.counts u≤1000000) {i:Nat} (hi:i<z.mine.length) (hl:z.mine.length<n) {x:Int} (hx:f=x*z.colours+nz z.mine i) (t:TakOk (z.buds i)) (hk:(x,0)∈(z.buds i).taken) (hfn:frees z i<70000) :
    Run1 (dN n (.ptr w.p 0) f h) fun r h'=>r=0∧∃ w' s',w'.p=w.p∧GaveS (z.buds i) x s'∧PoolIn h' w' (akD z i u f s')∧(∀ d,fpP w' z.mine.length d→fpP w z.mine.length d∨h.nx≤d)∧Chg (fpP w z.mine.length) h h':=by
  unfold dN Ct Cb xo xl
  have e1:((u:Int)==1)=false:=by rw [beq_eq_false_iff_ne]; omega
  have e0:(!((0:Int)==0))=false:=rfl
  have hco':=hco
  simp [cR] at hco'
  obtain ⟨n1,n2⟩:=hcol _ (by rw [kC hi]; exact List.getElem_mem hi:nz z.mine i∈z.mine)
  have hmod:f%z.colours=nz z.mine i:=by
    rw [hx,Int.add_comm,Int.add_mul_emod_self_right,Int.emod_eq_of_lt n1 n2]
  have hdiv:f/z.colours=x:=by
    rw [hx,Int.add_comm,Int.add_mul_ediv_right _ _ (by omega),Int.ediv_eq_zero_of_lt n1 n2,Int.zero_add]
  simp only [cJ,Nat.reduceAdd,Ps b,Bool.not_true,bM b.own.cl,aiz,alM b.uses hnd hm,e1,pool_0,u_Of n hco hf,e0,u_Index n hco hf,hmod,hdiv,aiq,azr]
  refine Run1.bind (aAl (Ints.shut b.mine.ints) hl (nz z.mine i)) ?_
  rintro r h22 ⟨rfl,hr⟩
  have hr':r=(i:Int):=by
    rcases hr with ⟨_,h1⟩ | ⟨j,rfl,hj,h1⟩
    · exact (h1 (by rw [kC hi]; exact List.getElem_mem hi)).elim
    · rw [kC hi,kC hj] at h1
      rcases Nat.lt_trichotomy i j with h2 | h2 | h2
      · have:=List.pairwise_iff_getElem.1 hup i j hi hj h2; omega
      · rw [h2]
      · have:=List.pairwise_iff_getElem.1 hup j i hj hi h2; omega
  subst hr'
  rw [avi]
  have hx0:0≤x∧x<4096:=by
    constructor
    · rw [← hdiv]; exact Int.ediv_nonneg hf.1 (by omega)
    · have:=Int.ediv_le_self z.colours hf.1
      omega
  simp only [cJ,Nat.reduceAdd,b.bud hi]
  refine Run1.bind (v_BGive hn hro (b.each i hi) t hx0 hk hfn) ?_
  rintro _ h26 ⟨rfl,v',s',bn,gs,hsub,c26⟩
  obtain ⟨b26,hfp⟩:=b.setBud hi bn hsub c26
  simp only [cJ,Nat.reduceAdd,e0,bM b26.own.cl,aiz]
  refine Run0.bind (ayF b26.uses f) ?_
  rintro h29 ⟨m29,c29⟩
  have b29:=b26.setUses c29 m29
  have hu7:u<7:=by omega
  have w1:IntKind.i64.wrap (z.counts u-1)=z.counts u-1:=jU (by omega) (by omega)
  simp only [cJ,Nat.reduceAdd,KO hu7,bM b29.own.cl,ay5 _ _ _ _ hu7,w1]
  refine Run0.bind (G1 b29.own (by show 13+u<20; omega) rfl) ?_
  intro h36 p36
  have b36:=b29.setCount hu7 p36
  refine je ⟨rfl,{ w with bv:=upd w.bv i v' },s',rfl,gs,b36,hfp,?_⟩
  have a1:Chg (fpP w z.mine.length) h h26:=c26.mono fun d _ e=>.inr (.inr (.inr (.inr ⟨i,hi,e⟩)))
  exact a1.trans ((c29.mono fun d _ e=>.inr (.inl e)).trans (p36.chg.mono fun d _ e=>.inl e))
theorem aAe {n:Nat} {h:Heap} {w:PoolP} {z:PoolZ} (b:PoolIn h w z):Run1 (ew n (.ptr w.p 0) h) fun r h'=>r=((z.uses.length:Int)==z.counts 1)∧h'=h:=by
  unfold ew HR HV Dw Dg
  have i1:∀ c,Fw 1 7 (.ptr w.p 13) 1 c=c (.ptr w.p 14):=fun c=>KO (n:=7) (k:=1) (by omega) c
  have e1:(AW z w.vm w.vb w.mu)[14]?=some (.int .i64 (z.counts 1)):=rfl
  simp only [cJ,Nat.reduceAdd,Ps b,bM b.own.cl,aiz,avk b.uses,i1,e1]
  exact je ⟨rfl,rfl⟩
end Go.Proofs.YtnlbfbiogfilfaaGreat.Sh
/- A pool at work that takes and gives back: what stays true. -/
namespace Go.Proofs.YtnlbfbiogfilfaaGreat.Sh
open Go.Ai
theorem azw {k x:Int} {kv:List (Int × Int)} (h:(kv.map (·.1)).Nodup) (hm:(k,x)∈kv) (f:Int):(kv.map (·.1)).count f=((xe k kv).map (·.1)).count f+if k=f then 1 else 0:=by
  have hp:=(aiD h hm).map (·.1)
  rw [hp.count_eq,List.map_cons,List.count_cons]
  by_cases e:k=f<;>simp [e]
theorem aal {k x:Int} {kv:List (Int × Int)} (h:(kv.map (·.1)).Nodup) (hm:(k,x)∈kv) (u:Int):ng kv u=ng (xe k kv) u+if x=u then 1 else 0:=by
  unfold ng
  rw [(aiD h hm).countP_eq,List.countP_cons]
  by_cases e:x=u<;>simp [e]
theorem len_delZ {k x:Int} {kv:List (Int × Int)} (h:(kv.map (·.1)).Nodup) (hm:(k,x)∈kv):kv.length=(xe k kv).length+1:=(aiD h hm).length_eq
theorem atT {zc:CfgZ} {p:Nat} {T:List Int} {z:PoolZ} (v:Inv zc p T z) (po:PartOk zc p):(∀ x∈z.mine,0≤x∧x<zc.colours)∧z.mine.Pairwise (· < ·)∧z.mine.length≤16∧0<z.mine.length:=by
  rw [v.mine]; exact ⟨po.col,po.up,po.few,po.pos⟩
theorem col_inj {l:List Int} (h:l.Pairwise (· < ·)) {i j:Nat} (hi:i<l.length) (hj:j<l.length) (e:nz l i=nz l j):i=j:=by
  rw [kC hi,kC hj] at e
  rcases Nat.lt_trichotomy i j with h2 | h2 | h2
  · have:=List.pairwise_iff_getElem.1 h i j hi hj h2; omega
  · exact h2
  · have:=List.pairwise_iff_getElem.1 h j i hj hi h2; omega
theorem InvQ.give {zc:CfgZ} {p:Nat} {L:List (Int × Int)} {z:PoolZ} (v:InvQ zc p L z) (po:PartOk zc p) {f:Int} {u i:Nat} (hm:(f,(u:Int))∈L) (hu:u<7) (hi:i<z.mine.length) {x:Int} (hx:f=x*z.colours+nz z.mine i) {s':BudZ} (g:GaveS (z.buds i) x s') (htop:∀ k,7≤k→z.counts k=0) :
    InvQ zc p (xe f L) (akD z i u f s'):=by
  have hnd:=v.inv.nodup
  obtain ⟨m1,m2,m3,m4⟩:=atT v.inv po
  have hsub:=amA f L
  have hc:z.colours=zc.colours:=v.inv.co
  have hlen:=len_delZ hnd hm
  refine ⟨⟨v.inv.mine,v.inv.co,fun j hj y=>?_,fun e he=>?_,fun q=>?_⟩,?_,fun w hw=>?_,fun e he=>v.rng e (hsub.subset he),?_,v.quota,v.total,v.order⟩
  · have hj':j<z.mine.length:=hj
    have hl:=v.inv.law j hj' y
    rw [azw hnd hm] at hl
    show _+mult (upd z.buds i s' j) y=if 0≤y∧y<(Db zc (nz z.mine j):Int) then 1 else 0
    rw [← hl]
    show List.count (y*zc.colours+nz z.mine j) _+_=_
    obtain ⟨i1,i2⟩:=m1 _ (by rw [kC hi]; exact List.getElem_mem hi:nz z.mine i∈z.mine)
    obtain ⟨j1,j2⟩:=m1 _ (by rw [kC hj']; exact List.getElem_mem hj':nz z.mine j∈z.mine)
    by_cases e:j=i
    · subst e
      rw [dC,g.mult]
      have hin:inB x y 0=if f=y*zc.colours+nz z.mine j then 1 else 0:=by
        unfold inB
        have h1:(2:Int)^0=1:=rfl
        rw [h1]
        by_cases h2:x=y
        · subst h2
          rw [if_pos (by omega),if_pos (by rw [hx,hc])]
        · rw [if_neg (by omega),if_neg fun h3=>h2 ?_]
          rw [hx,hc] at h3
          exact (alR i1 i2 j1 j2 h3).1
      rw [hin]; omega
    · rw [dh _ _ e,if_neg fun h3=>e ?_]
      · omega
      · rw [hx,hc] at h3
        exact (col_inj m2 hi hj' (alR i1 i2 j1 j2 h3).2).symm
  · exact v.inv.form e ((hsub.map _).subset he)
  · have h1:=v.inv.cnt q
    have h2:=v.cnt u hu
    have h3:=aal hnd hm (u:Int)
    rw [if_pos rfl] at h3
    show 0≤upd z.counts u (z.counts u-1) q∧upd z.counts u (z.counts u-1) q≤_
    have h4:ng (xe f L) u≤(xe f L).length:=List.countP_le_length
    simp only [List.length_map] at h1 ⊢
    by_cases e:q=u
    · subst e; rw [dC]; omega
    · rw [dh _ _ e]
      refine ⟨h1.1,?_⟩
      by_cases hq:q<7
      · have h5:=v.cnt q hq
        have h6:=aal hnd hm (q:Int)
        rw [if_neg (by omega)] at h6
        have h7:ng (xe f L) q≤(xe f L).length:=List.countP_le_length
        omega
      · rw [htop q (by omega)]; omega
  · show xe f z.uses=_
    rw [v.uses]
  · have h2:=v.cnt w hw
    have h3:=aal hnd hm (w:Int)
    show upd z.counts u (z.counts u-1) w=_
    by_cases e:w=u
    · subst e; rw [dC,h2]; rw [if_pos rfl] at h3; omega
    · rw [dh _ _ e,h2]; rw [if_neg (by omega)] at h3; omega
  · have h1:=v.sum
    have hf:frees (akD z i u f s') i=frees z i+1:=by
      show fU (upd z.buds i s' i) 7=_
      rw [dC]; exact g.sum
    have hf2:∀ j,j≠i→frees (akD z i u f s') j=frees z j:=fun j hj=>by
      show fU (upd z.buds i s' j) 7=_
      rw [dh _ _ hj]
    have:=(asf (f:=frees (akD z i u f s')) (f':=frees z) (d:=1) (by rw [hf]) (fun j hj=>(hf2 j hj).symm) z.mine.length).2 hi
    show (F1 (frees (akD z i u f s')) z.mine.length:Int)+_=_
    omega
def img (M:List Int) (N:List (Int × Int)):List (Int × Int):=(M.map fun f=>(f,(1:Int)))++N
structure AInv (zc:CfgZ) (p:Nat) (M:List Int) (N:List (Int × Int)) (z:PoolZ):Prop where
  inv:InvQ zc p (img M N) z
  wi:WithinQ zc p (img M N)
  tak:∀ i,i<z.mine.length→TakOk (z.buds i)
  has:∀ e∈N,∃ i x,i<z.mine.length∧e.1=x*z.colours+nz z.mine i∧(x,0)∈(z.buds i).taken
  us:∀ e∈N,2≤e.2∧e.2≤6
  top:∀ k,7≤k→z.counts k=0
theorem anf (M:List Int) (N:List (Int × Int)):(img M N).map (·.1)=M++N.map (·.1):=by simp [img,Function.comp_def]
theorem AInv.nodup {zc:CfgZ} {p:Nat} {M:List Int} {N:List (Int × Int)} {z:PoolZ} (a:AInv zc p M N z):(M++N.map (·.1)).Nodup:=by
  have:=a.inv.inv.nodup
  rwa [anf] at this
theorem AInv.nodupN {zc:CfgZ} {p:Nat} {M:List Int} {N:List (Int × Int)} {z:PoolZ} (a:AInv zc p M N z):(N.map (·.1)).Nodup:=(List.nodup_append.1 a.nodup).2.1
theorem AInv.len {zc:CfgZ} {p:Nat} {M:List Int} {N:List (Int × Int)} {z:PoolZ} (a:AInv zc p M N z) (po:PartOk zc p) (hm:Qm zc=true):M.length+N.length≤65536:=by
  have h1:=(a.wi.room (aid hm po) a.inv.rng).1
  have h2:=(UY po).2.2
  have:(img M N).length=M.length+N.length:=by simp [img]
  omega
theorem KD (M:List Int) (N:List (Int × Int)) (u:Int):ng (img M N) u=(if u=1 then M.length else 0)+ng N u:=by
  unfold img
  rw [WY,axj]
  by_cases e:u=1
  · rw [if_pos e.symm,if_pos e]
  · rw [if_neg (fun h=>e h.symm),if_neg e]
theorem AInv.cnt1 {zc:CfgZ} {p:Nat} {M:List Int} {N:List (Int × Int)} {z:PoolZ} (a:AInv zc p M N z):z.counts 1=(M.length:Int):=by
  have h:=a.inv.cnt 1 (by omega)
  have h2:=KD M N 1
  rw [if_pos rfl] at h2
  have h3:ng N 1=0:=List.countP_eq_zero.2 fun e he=>by
    have:=a.us e he
    simp; omega
  rw [h]
  show ((ng (img M N) 1:Nat):Int)=_
  omega
theorem TakOk.take {s:BudZ} (t:TakOk s) {o k:Nat} {a:Int} {rest:List Int} (hok:o≤k) (hk:k<7) (hx:s.free k=a::rest) (hemp:∀ j,o≤j→j<k→s.free j = []) :
    TakOk { tL s o k o a rest with taken:=Wl a o s.taken }∧Wl a o s.taken=s.taken++[(a,(o:Int))]:=by
  have hm:∀ x,mult (tL s o k o a rest) x+inB a x o=mult s x:=aoy hok hk hx hemp
  have hp:=atQ k
  have hp2:=atQ o
  have hpos:=aba hk (show a∈s.free k by rw [hx]; exact List.mem_cons_self ..) (Int.le_refl a) (by omega)
  have hnew:a∉s.taken.map (·.1):=fun h=>by
    obtain ⟨e,he,e1⟩:=List.mem_map.1 h
    have:=t.off e he
    rw [e1] at this
    omega
  have hset:=atl (x:=(o:Int)) hnew
  have nn:=t.norm.take hok hk hx hemp
  refine ⟨⟨⟨nn.inc,nn.al,nn.np,nn.one⟩,?_,fun e he=>?_⟩,hset⟩
  · show ((Wl a o s.taken).map (·.1)).Nodup
    rw [hset,List.map_append]
    refine List.nodup_append.2 ⟨t.key,by simp,fun b hb c hc=>?_⟩
    simp at hc
    rw [hc]
    exact fun e=>hnew (by rw [← e]; exact hb)
  · have he':e∈Wl a o s.taken:=he
    show mult (tL s o k o a rest) e.1=0
    rw [hset,List.mem_append] at he'
    have h1:=hm e.1
    rcases he' with h | h
    · have:=t.off e h; omega
    · simp at h
      have h2:e.1=a:=by rw [h]
      rw [h2] at h1 ⊢
      have h3:inB a a o=1:=by unfold inB; rw [if_pos (by omega)]
      have:=t.norm.one a
      omega
theorem AInv.take {zc:CfgZ} {p:Nat} {M:List Int} {N:List (Int × Int)} {z:PoolZ} (a:AInv zc p M N z) (po:PartOk zc p) (hm:Qm zc=true) {h h':Heap} {w:PoolP} (pin:PoolIn h w z) {u:Nat} (hu:2≤u∧u≤6) {f e:Int} (ht:alD h w z u f e h') :
    (f=0∧e=4∧h'=h)∨(e=0∧∃ w' z',w'.p=w.p∧z'.mine=z.mine∧PoolIn h' w' z'∧AInv zc p M (N++[(f,(u:Int))]) z'∧(∀ d,fpP w' z.mine.length d→fpP w z.mine.length d∨h.nx≤d)∧Chg (fpP w z.mine.length) h h'):=by
  have qo:=aid hm po
  have ht0:=ht
  rcases ht with ⟨_,h1,h2,h3⟩ | ⟨hlt,best,r,hbest,hT,_,hf⟩
  · exact .inl ⟨h1,h2,h3⟩
  · have hlt':(ng (img M N) u:Int)<pk (cL zc p) u:=by
      rw [a.inv.quota,a.inv.cnt u (by omega)] at hlt; exact hlt
    obtain ⟨e0,_⟩:=takeQ pin a.inv po qo a.wi hu hlt' ht0
    rcases hT with ⟨e4,_⟩ | ⟨_,k,at_,rest,bv',h1,hk,hx,hemp,_,_,hp,hsub,c⟩
    · rw [e0] at e4; cases e4
    refine .inr ⟨e0,{ w with bv:=bv' },K5 z best 0 u k at_ rest,rfl,rfl,hp,?_,hsub,c⟩
    have hs':=a.inv.step po (u:=u) ⟨by omega,hu.2⟩ hbest.1 (by omega) h1 hk hx hemp
    have hf':=hf e0 k at_ rest hemp hx
    have hfr:jc z.colours (nz z.mine best) at_ (2^0) = [f]:=by simp [jc,hf']
    rw [hfr] at hs'
    have hL:img M N++[f].map (fun f=>(f,(u:Int)))=img M (N++[(f,(u:Int))]):=by simp [img]
    rw [hL] at hs'
    obtain ⟨t1,t2⟩:=(a.tak best hbest.1).take (o:=0) (Nat.zero_le _) hk hx hemp
    have bsame:∀ j,j≠best→(K5 z best 0 u k at_ rest).buds j=z.buds j:=fun j hj=>dh _ _ hj
    have bnew:(K5 z best 0 u k at_ rest).buds best = { tL (z.buds best) 0 k 0 at_ rest with taken:=Wl at_ ((0:Nat):Int) (z.buds best).taken }:=dC ..
    refine ⟨hs',⟨?_,fun v h2 h6=>?_⟩,fun i hi=>?_,fun e he=>?_,fun e he=>?_,fun q hq=>?_⟩
    · have:=a.wi.image
      rw [KD,WY]
      rw [KD] at this
      have h0:ng [(f,(u:Int))] 1=0:=by simp [ng]; omega
      omega
    · have:=a.wi.quota v h2 h6
      have h3:=KD M (N++[(f,(u:Int))]) v
      have h4:=KD M N v
      rw [cntU_one] at h3
      by_cases e1:(u:Int)=(v:Int)
      · have:u=v:=by omega
        subst this
        rw [if_pos rfl] at h3
        omega
      · rw [if_neg e1] at h3; omega
    · by_cases e1:i=best
      · rw [e1,bnew]; exact t1
      · rw [bsame i e1]; exact a.tak i hi
    · rcases List.mem_append.1 he with h | h
      · obtain ⟨i,x,i1,i2,i3⟩:=a.has e h
        refine ⟨i,x,i1,i2,?_⟩
        by_cases e1:i=best
        · rw [e1,bnew]
          show (x,0)∈Wl at_ ((0:Nat):Int) _
          rw [t2]
          exact List.mem_append_left _ (by rw [← e1]; exact i3)
        · rw [bsame i e1]; exact i3
      · simp at h
        refine ⟨best,at_,hbest.1,by rw [h]; exact hf',?_⟩
        rw [bnew]
        show (at_,0)∈Wl at_ ((0:Nat):Int) _
        rw [t2]
        simp
    · rcases List.mem_append.1 he with h | h
      · exact a.us e h
      · simp at h
        rw [h]
        dsimp only
        omega
    · show upd z.counts u _ q=0
      rw [dh _ _ (by omega)]
      exact a.top q hq
theorem AInv.give {zc:CfgZ} {p:Nat} {M:List Int} {N:List (Int × Int)} {z:PoolZ} (a:AInv zc p M N z) (po:PartOk zc p) {f:Int} {u i:Nat} (hmem:(f,(u:Int))∈N) (hi:i<z.mine.length) {x:Int} (hx:f=x*z.colours+nz z.mine i) {s':BudZ} (g:GaveS (z.buds i) x s') :
    AInv zc p M (xe f N) (akD z i u f s'):=by
  have hu:=a.us _ hmem
  dsimp only at hu
  have hmemL:(f,(u:Int))∈img M N:=List.mem_append_right _ hmem
  have hnd:=a.nodup
  have hfM:f∉(M.map fun f=>(f,(1:Int))).map (·.1):=by
    have:(M.map fun f=>(f,(1:Int))).map (·.1)=M:=by simp [Function.comp_def]
    rw [this]
    exact fun h=>(List.nodup_append.1 hnd).2.2 f h f (List.mem_map.2 ⟨_,hmem,rfl⟩) rfl
  have hL:xe f (img M N)=img M (xe f N):=apX hfM N
  have hs:=a.inv.give po hmemL (by omega) hi hx g a.top
  rw [hL] at hs
  have hsub:=amA f N
  obtain ⟨m1,m2,m3,m4⟩:=atT a.inv.inv po
  have hc:=a.inv.inv.co
  have bsame:∀ j,j≠i→(akD z i u f s').buds j=z.buds j:=fun j hj=>dh _ _ hj
  have bnew:(akD z i u f s').buds i=s':=dC ..
  refine ⟨hs,⟨?_,fun v h2 h6=>?_⟩,fun j hj=>?_,fun e he=>?_,fun e he=>a.us e (hsub.subset he),fun q hq=>?_⟩
  · have:=a.wi.image
    rw [KD] at this ⊢
    have h2:=aal a.nodupN hmem 1
    omega
  · have:=a.wi.quota v h2 h6
    rw [KD] at this ⊢
    have h2:=aal a.nodupN hmem v
    omega
  · by_cases e1:j=i
    · rw [e1,bnew]; exact g.ok (a.tak i hi)
    · rw [bsame j e1]; exact a.tak j hj
  · obtain ⟨he1,he2⟩:=(ah3 a.nodupN).1 he
    obtain ⟨j,y,j1,j2,j3⟩:=a.has e he1
    refine ⟨j,y,j1,j2,?_⟩
    by_cases e1:j=i
    · subst e1
      rw [bnew,g.taken,ah3 (a.tak j hi).key]
      refine ⟨j3,fun e2=>he2 ?_⟩
      have e2':y=x:=e2
      rw [j2,hx,e2']
    · rw [bsame j e1]; exact j3
  · show upd z.counts u _ q=0
    rw [dh _ _ (by omega)]
    exact a.top q hq
theorem ayx {n:Nat} (hn:70000<n) {zc:CfgZ} {p:Nat} {h:Heap} (hro:h.ro≤h.nx) {w:PoolP} {z:PoolZ} (b:PoolIn h w z) {M:List Int} {N:List (Int × Int)} (a:AInv zc p M N z) (po:PartOk zc p) (hm:Qm zc=true) {f:Int} (hf:f∈N.map (·.1)) :
    Run1 (dN n (.ptr w.p 0) f h) fun r h'=>r=0∧∃ w' z',w'.p=w.p∧z'.mine=z.mine∧PoolIn h' w' z'∧AInv zc p M (xe f N) z'∧(∀ d,fpP w' z.mine.length d→fpP w z.mine.length d∨h.nx≤d)∧Chg (fpP w z.mine.length) h h':=by
  obtain ⟨⟨f',uu⟩,he,rfl⟩:=List.mem_map.1 hf
  have hu:=a.us _ he
  dsimp only at hu
  obtain ⟨u,rfl⟩:=Int.eq_ofNat_of_zero_le (show 0≤uu by omega)
  obtain ⟨i,x,hi,hx,hk⟩:=a.has _ he
  have heL:(f',(u:Int))∈img M N:=List.mem_append_right _ he
  obtain ⟨m1,m2,m3,m4⟩:=atT a.inv.inv po
  have hc:=a.inv.inv.co
  have hown:=a.inv.inv.own po (f:=f') (List.mem_map.2 ⟨_,heL,rfl⟩)
  have hcnt:=a.inv.cnt u (by omega)
  have hlen:=a.len po hm
  have hl:(img M N).length=M.length+N.length:=by simp [img]
  have c1:1≤ng (img M N) u:=List.countP_pos_iff.2 ⟨_,heL,by simp⟩
  have c2:ng (img M N) u≤(img M N).length:=List.countP_le_length
  have hsum:=a.inv.sum
  have htot:=(UY po).2.2
  have hfr:frees z i<70000:=by
    have h1:=aiU (f:=frees z) (show i+1≤z.mine.length by omega)
    rw [F1] at h1
    omega
  refine RunG.mono (v_PGive (u:=u) hn hro b (by rw [a.inv.uses]; exact a.inv.inv.nodup) (by rw [hc]; exact po.co) m2 (by rw [hc]; exact m1) ⟨hown.1,by omega⟩ ⟨by omega,by omega⟩ (by rw [a.inv.uses]; exact heL) (by rw [hcnt]; omega) hi (by omega) hx (a.tak i hi) hk hfr) ?_
  rintro ⟨r,h'⟩ ⟨r1,w',s',r2,r3,r4,r5,r6⟩
  exact ⟨r1,w',akD z i u f' s',r2,rfl,r4,a.give po he hi hx r3,r5,r6⟩
end Go.Proofs.YtnlbfbiogfilfaaGreat.Sh
/- Small functions of PoolAdds: rows cut and joined, numbers held within. -/
namespace Go.Proofs.YtnlbfbiogfilfaaGreat.Sh
open Go.Ai
structure Shows (h:Heap) (v:AV) (m:List Int):Prop where
  lenF:lenF v=some m.length
  len:∀ k,fH v k=k m.length
  small:m.length≤1048576
  cells:m≠[]→∃ b off ext o cl,v = .slice b off m.length ext o∧h.cl b cl∧sub cl off m.length=some (ju m)
theorem Shows.grow {h h':Heap} {v:AV} {m:List Int} (s:Shows h v m) (g:Grow h h'):Shows h' v m:=
  ⟨s.lenF,s.len,s.small,fun hm=>have ⟨b,off,ext,o,cl,h1,h2,h3⟩:=s.cells hm; ⟨b,off,ext,o,cl,h1,g.cl h2,h3⟩⟩
theorem Shows.ints {h:Heap} {v:AV} {m:List Int} (s:Shows h v m) (hm:m≠[]):Ints h .i64 v m:=by
  obtain ⟨b,off,ext,o,cl,rfl,hc,hs⟩:=s.cells hm
  refine ⟨by have:=s.small; omega,.inr ⟨b,off,ext,o,rfl,fun _=>⟨cl,hc,fun i hi=>?_⟩⟩⟩
  rw [oB] at hs
  split at hs
  · rename_i h1
    have h2:=Option.some.inj hs
    rw [List.length_drop] at h1
    refine ⟨by omega,?_⟩
    rw [Nat.mul_one]
    have h3:cl[off+i]?=some (.int .i64 (nz m i)):=by
      have h4:=congrArg (·[i]?) h2
      simp only [List.getElem?_take,if_pos hi,List.getElem?_drop] at h4
      rw [h4]
      simp only [ju,List.getElem?_map,List.getElem?_eq_getElem hi,Option.map_some]
      rw [kC hi]
    rw [List.drop_eq_getElem_cons (by omega)]
    have h5:=List.getElem?_eq_getElem (l:=cl) (i:=off+i) (by omega)
    rw [h5] at h3
    rw [Option.some.inj h3]
    rfl
  · cases hs
theorem Lst.cut {h:Heap} {v:AV} {l:List Int} (hl:Lst h v l) {i:Nat} (hi:i<l.length) :
    ∃ y z,(∀ c,slK (.sl 1) v none (some (.int .i64 (i:Int))) none c=c y)∧(∀ c,slK (.sl 1) v (some (.int .i64 ((i+1:Nat):Int))) none none c=c z)∧Shows h y (l.take i)∧Shows h z (l.drop (i+1)):=by
  rcases hl with ⟨rfl,rfl⟩ | ⟨b,ext,rest,rfl,ow,hr,h0,hm⟩
  · simp at hi
  have e1:=az3 (b:=b) (len:=l.length) (ext:=ext) (i:=i) (by omega) h0
  have e2:=slV_hi (b:=b) (len:=l.length) (ext:=ext) (i:=i+1) (by omega)
  have lt:(l.take i).length=i:=by rw [List.length_take]; omega
  have ld:(l.drop (i+1)).length=l.length-(i+1):=List.length_drop ..
  refine ⟨_,_,aoX e1,aoX e2,⟨by rw [lt]; rfl,fun k=>by rw [lt]; rfl,by omega,fun _=>⟨b,0,l.length+ext-i,true,_,by rw [lt],ow.cl,?_⟩⟩,?_⟩
  · rw [lt,oB,List.drop_zero,if_pos (by simp [iI]; omega),List.take_append_of_le_length (by rw [iI]; omega)]
    simp [ju,List.map_take]
  · by_cases h1:l.length+ext=i+1
    · rw [if_pos h1]
      refine ⟨by rw [ld,show l.length-(i+1)=0 by omega]; rfl,fun k=>by rw [ld,show l.length-(i+1)=0 by omega]; rfl,by omega,fun hne=>(hne (List.drop_eq_nil_of_le (by omega))).elim⟩
    · rw [if_neg h1]
      refine ⟨by rw [ld]; rfl,fun k=>by rw [ld]; rfl,by omega,fun _=>⟨b,i+1,ext,true,_,by rw [ld],ow.cl,?_⟩⟩
      rw [ld,oB,if_pos (by simp [iI]; omega),List.drop_append_of_le_length (by rw [iI]; omega),List.take_append_of_le_length (by rw [List.length_drop,iI]; omega),List.take_of_length_le (by rw [List.length_drop,iI]; omega)]
      simp [ju,List.map_drop]
theorem arP {h:Heap} (hro:h.ro≤h.nx) {v:AV} {l:List Int} (hl:App h v 1 l.length (ju l)) {x:AV} {m:List Int} (hx:Shows h x m) (hm:l.length+m.length≤1048576) :
    Run1 (mQ h 1 v x) fun v' h'=>App h' v' 1 (l++m).length (ju (l++m))∧(∀ c,v'.blk=some c→v.blk=some c∨h.nx≤c)∧Chg (fun c=>v.blk=some c) h h':=by
  by_cases e:m = []
  · subst e
    rw [List.append_nil]
    refine ⟨(v,h),⟨hl,fun c e=>.inl e,Grow.refl.chg _⟩,fun k=>?_⟩
    unfold mQ
    have:sB h 1 v x=some (v,h):=by
      have hx':=hx.lenF
      rcases hl with ⟨rfl,_,_⟩ | ⟨b,rfl,_⟩
      · simp only [sB,hx',List.length_nil]; rw [if_pos trivial]
      · simp only [sB,hx',List.length_nil]; rw [if_pos trivial]
    rw [this,Ih,pQ,yq]; rfl
  · obtain ⟨b,off,ext,o,cl,rfl,hc,hs⟩:=hx.cells e
    have hpos:0<m.length:=List.length_pos_iff.2 e
    have hs':sub cl off (m.length*1)=some (ju m):=by rw [Nat.mul_one]; exact hs
    have key:=agS (ext:=ext) (o:=o) hro hl hpos hc hs' hm
    refine key.mono ?_
    rintro v' h' ⟨h1,h2,h3⟩
    refine ⟨?_,fun c hc=>.inr (by rw [h2] at hc; cases hc; exact Nat.le_refl _),h3⟩
    have e1:ju (l++m)=ju l++ju m:=by simp [ju]
    rw [List.length_append,e1]
    exact h1
theorem azv {n:Nat} {h:Heap} (hro:h.ro≤h.nx) {x:AV} {m:List Int} (hx:Shows h x m):Run1 (de n x h) fun v' h'=>App h' v' 1 m.length (ju m)∧(∀ c,v'.blk=some c→h.nx≤c)∧Grow h h':=by
  unfold de vi vv
  refine Run1.bind (arP (l:=[]) hro .nil hx (by have:=hx.small; simpa using this)) ?_
  rintro v' h' ⟨a,b,c⟩
  refine je ⟨a,fun d e=>?_,c.grow .refl fun d e=>by cases e⟩
  rcases b d e with h1 | h1
  · cases h1
  · exact h1
theorem axq {n:Nat} {h:Heap} {a m:Int} (hm:0<m∧m≤1000000):Run1 (dp n a m h) fun r h'=>(0≤r∧r<m)∧h'=h:=by
  unfold dp yQ xE vA vr
  have h1:=Int.tmod_lt_of_pos a hm.1
  have h2 : -m<a.tmod m:=by
    have:=Int.tmod_lt_of_pos (-a) hm.1
    rw [Int.neg_tmod] at this
    omega
  simp only [aiO (show m≠0 by omega)]
  refine RunG.ifB (fun e=>?_) fun e=>?_
  · simp at e
    have w1:IntKind.i64.wrap (a.tmod m+m)=a.tmod m+m:=jU (by omega) (by omega)
    simp only [cJ,Nat.reduceAdd,w1]
    exact je ⟨⟨by omega,by omega⟩,rfl⟩
  · simp at e
    exact je ⟨⟨e,h1⟩,rfl⟩
theorem azI {n:Nat} {h:Heap} {a b:AV} {l:List Int} (ha:Shows h a l) (hb:Shows h b l):∀ (q i:Nat),i≤l.length→l.length-i<q→
    Run1 (fun k=>ma n k q a b (i:Int) h) fun r h'=>r=true∧h'=h:=by
  intro q
  induction q with
  | zero=>omega
  | succ q ih=>
    intro i hi hq
    simp only [Wk]
    unfold pB pz vI
    simp only [ha.len]
    refine RunG.ifB (fun e=>?_) fun e=>by exact je ⟨rfl,rfl⟩
    simp at e
    have hs:=ha.small
    have hne:l≠[]:=by rintro rfl; simp at e
    have e1:(!(nz l i==nz l i))=false:=by simp
    simp only [cJ,Nat.reduceAdd,(ha.ints hne).elN e,(hb.ints hne).elN e,e1,fW (show i≤9223372036854775806 by omega)]
    exact ih (i+1) (by omega) (by omega)
theorem v_EqInts {n:Nat} {h:Heap} {a b:AV} {l:List Int} (hn:l.length<n) (ha:Shows h a l) (hb:Shows h b l):Run1 (dq n a b h) fun r h'=>r=true∧h'=h:=by
  unfold dq xI yJ
  have e1:(!((l.length:Int)==(l.length:Int)))=false:=by simp
  simp only [cJ,Nat.reduceAdd,ha.len,hb.len,e1]
  exact azI ha hb n 0 (by omega) (by omega)
def DoK (h:Heap) (v:AV) (m:Nat) (K A U:Nat→Int):Prop:=SlAt h v 3 m (fun i=>[.int .i64 (K i),.int .i64 (A i),.int .u8 (U i)])∧∀ i,i<m→0≤U i∧U i<256
theorem DoK.grow {h h':Heap} {v:AV} {m:Nat} {K A U:Nat→Int} (d:DoK h v m K A U) (g:Grow h h'):DoK h' v m K A U:=⟨d.1.grow g,d.2⟩
theorem DoK.at_ {h:Heap} {v:AV} {m:Nat} {K A U:Nat→Int} (d:DoK h v m K A U) {i:Nat} (hi:i<m):(∃ a,∀ c:AV→Int→CRes,LC 3 v (i:Int) (fun x=>iY .i64 0 h x c)=c a (K i))∧(∃ a,∀ c:AV→Int→CRes,LC 3 v (i:Int) (fun x=>iY .i64 1 h x c)=c a (A i))∧∃ a,∀ c:AV→Int→CRes,LC 3 v (i:Int) (fun x=>iY .u8 2 h x c)=c a (U i):=by
  obtain ⟨s,_⟩:=d
  obtain ⟨b,off,l,d1,d2,d3,d4⟩:=s.at_ (i:=(i:Int)) (by omega) (by omega)
  rw [Int.toNat_natCast] at d4
  have d5:l[off+0]?=some (.int .i64 (K i)):=by
    have:=congrArg (·[0]?) d4
    simp only [List.getElem?_take,List.getElem?_drop] at this
    simpa using this
  have d6:l[off+1]?=some (.int .i64 (A i)):=by
    have:=congrArg (·[1]?) d4
    simp only [List.getElem?_take,List.getElem?_drop] at this
    simpa using this
  have d7:l[off+2]?=some (.int .u8 (U i)):=by
    have:=congrArg (·[2]?) d4
    simp only [List.getElem?_take,List.getElem?_drop] at this
    simpa using this
  exact ⟨⟨_,fun c=>by rw [s.ia (by omega) (by omega),d1,air d2 d5]⟩,⟨_,fun c=>by rw [s.ia (by omega) (by omega),d1,air d2 d6]⟩,⟨_,fun c=>by rw [s.ia (by omega) (by omega),d1,air d2 d7]⟩⟩
end Go.Proofs.YtnlbfbiogfilfaaGreat.Sh
