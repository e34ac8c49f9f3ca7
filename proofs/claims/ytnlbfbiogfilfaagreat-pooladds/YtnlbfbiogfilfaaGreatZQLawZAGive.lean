/- What is taken, with its uses: what a pool keeps of it; how much is free. -/
import Derived.Test.YtnlbfbiogfilfaaGreatZUPoolNewZUInv
set_option linter.all false
namespace Go.Proofs.YtnlbfbiogfilfaaGreat.Sh
open Go.Ai
theorem alk {s s':BudZ} (h:s.free=s'.free):∀ n,fU s n=fU s' n
  | 0=>rfl
  | n+1=>by rw [fU,fU,alk h n,h]
theorem azH {s:BudZ} {o k:Nat} {a:Int} {rest:List Int} (hok:o≤k) (hx:s.free k=a::rest) (hemp:∀ j,o≤j→j<k→s.free j = []) :
    ∀ n,(n≤o→fU (tL s o k o a rest) n=fU s n)∧(o≤n→n≤k→fU (tL s o k o a rest) n+2^o=fU s n+2^n)∧(k<n→fU (tL s o k o a rest) n+2^o=fU s n):=by
  intro n
  induction n with
  | zero=>
    refine ⟨fun _=>rfl,fun h1 _=>?_,fun h=>by omega⟩
    have:o=0:=by omega
    subst this; rfl
  | succ n ih=>
    obtain ⟨i1,i2,i3⟩:=ih
    have fr:(tL s o k o a rest).free n=if n=k then rest else if o≤n∧n<k then [a+2^n] else s.free n:=rfl
    refine ⟨fun h=>?_,fun h1 h2=>?_,fun h=>?_⟩
    · rw [fU,fU,i1 (by omega),fr,if_neg (by omega),if_neg (by omega)]
    · by_cases h3:n+1=o
      · rw [← h3] at i1 ⊢
        rw [fU,fU,i1 (by omega)]
        subst h3
        rw [fr,if_neg (by omega),if_neg (by omega)]
      · have j:=i2 (by omega) (by omega)
        rw [fU,fU,fr,if_neg (by omega),if_pos (by omega),hemp n (by omega) (by omega),List.length_singleton,List.length_nil,Nat.pow_succ]
        omega
    · by_cases h3:n=k
      · subst h3
        have j:=i2 (by omega) (by omega)
        rw [fU,fU,fr,if_pos rfl,hx,List.length_cons,Nat.add_mul]
        omega
      · have j:=i3 (by omega)
        rw [fU,fU,fr,if_neg h3,if_neg (by omega)]
        omega
theorem apT {z:PoolZ} {i o u k:Nat} {a:Int} {rest:List Int} (hok:o≤k) (hk:k<7) (hx:(z.buds i).free k=a::rest) (hemp:∀ j,o≤j→j<k→(z.buds i).free j = []) :
    frees (K5 z i o u k a rest) i+2^o=frees z i∧∀ j,j≠i→frees (K5 z i o u k a rest) j=frees z j:=by
  constructor
  · show fU (upd z.buds i _ i) 7+2^o=_
    rw [dC]
    refine Eq.trans (congrArg (fun x=>x+2^o) (alk (s':=tL (z.buds i) o k o a rest) rfl 7)) ?_
    exact (azH hok hx hemp 7).2.2 hk
  · intro j hj
    show fU (upd z.buds i _ j) 7=_
    rw [dh _ _ hj]
def F1 (f:Nat→Nat):Nat→Nat
  | 0=>0
  | n+1=>F1 f n+f n
theorem asf {f f':Nat→Nat} {i d:Nat} (h1:f' i+d=f i) (h2:∀ j,j≠i→f' j=f j):∀ n,(n≤i→F1 f' n=F1 f n)∧(i<n→F1 f' n+d=F1 f n)
  | 0=>⟨fun _=>rfl,fun h=>by omega⟩
  | n+1=>by
    obtain ⟨a,b⟩:=asf h1 h2 n
    refine ⟨fun h=>by rw [F1,F1,a (by omega),h2 n (by omega)],fun h=>?_⟩
    by_cases e:n=i
    · subst e; rw [F1,F1,a (Nat.le_refl _)]; omega
    · have:=b (by omega); rw [F1,F1,h2 n e]; omega
theorem axp {f:Nat→Nat}:∀ n,0<F1 f n→∃ j,j<n∧0<f j
  | 0,h=>by simp [F1] at h
  | n+1,h=>by
    rw [F1] at h
    by_cases e:0<f n
    · exact ⟨n,by omega,e⟩
    · obtain ⟨j,h1,h2⟩:=axp (f:=f) n (by omega)
      exact ⟨j,by omega,h2⟩
theorem asc {f:Nat→Nat} {b:Nat}:∀ n,(∀ j,j<n→f j=b)→F1 f n=n*b
  | 0,_=>by simp [F1]
  | n+1,h=>by rw [F1,asc n fun j hj=>h j (by omega),h n (by omega),Nat.add_mul]; omega
def ng (L:List (Int × Int)) (u:Int):Nat:=L.countP fun e=>decide (e.2=u)
theorem WY (L M:List (Int × Int)) (u:Int):ng (L++M) u=ng L u+ng M u:=by simp [ng]
theorem axj (l:List Int) (v u:Int):ng (l.map fun f=>(f,v)) u=if v=u then l.length else 0:=by
  induction l with
  | nil=>simp [ng]
  | cons a t ih=>
    have:ng ((a::t).map fun f=>(f,v)) u=ng (t.map fun f=>(f,v)) u+(if v=u then 1 else 0):=by simp [ng,List.countP_cons]
    rw [this,ih]
    by_cases e:v=u<;>simp [e]
theorem atv:∀ (L:List (Int × Int)),(∀ e∈L,1≤e.2∧e.2≤6)→ng L 1+ng L 2+ng L 3+ng L 4+ng L 5+ng L 6=L.length
  | [],_=>rfl
  | e::t,h=>by
    have ih:=atv t fun x hx=>h x (List.mem_cons_of_mem _ hx)
    have he:=h e (List.mem_cons_self ..)
    have c:∀ u,ng (e::t) u=ng t u+if e.2=u then 1 else 0:=fun u=>by simp [ng,List.countP_cons]
    rw [c,c,c,c,c,c,List.length_cons, ← ih]
    have:e.2=1∨e.2=2∨e.2=3∨e.2=4∨e.2=5∨e.2=6:=by omega
    rcases this with h | h | h | h | h | h<;>simp [h]<;>omega
theorem atl {k x:Int}:∀ {kv:List (Int × Int)},k∉kv.map (·.1)→Wl k x kv=kv++[(k,x)]
  | [],_=>rfl
  | e::t,h=>by
    rw [List.map_cons,List.mem_cons,not_or] at h
    rw [Wl,if_neg h.1,atl h.2]; rfl
theorem avy {u:Int}:∀ {l:List Int} {kv:List (Int × Int)},(kv.map (·.1)++l).Nodup→avA u l kv=kv++l.map fun f=>(f,u)
  | [],kv,_=>by simp [avA]
  | f::l,kv,h=>by
    have h1:f∉kv.map (·.1):=fun hm=>by
      have:=(List.nodup_append.1 h).2.2 f hm f (List.mem_cons_self ..)
      exact this rfl
    show avA u l (Wl f u kv)=_
    rw [atl h1,avy (by simpa using h)]
    simp
structure InvQ (zc:CfgZ) (p:Nat) (L:List (Int × Int)) (z:PoolZ):Prop where
  inv:Inv zc p (L.map (·.1)) z
  uses:z.uses=L
  cnt:∀ u:Nat,u<7→z.counts u=(ng L u:Int)
  rng:∀ e∈L,1≤e.2∧e.2≤6
  sum:(F1 (frees z) z.mine.length:Int)+L.length=vj zc p
  quota:z.quota=pk (cL zc p)
  total:z.total=vj zc p
  order:z.order=(cL zc p).order
theorem au4 {zc:CfgZ} {p:Nat} (hm:Qm zc=true) (po:PartOk zc p) {bs:Nat→BudZ} (h:∀ j,j<(cL zc p).cols.length→∃ o,Making (Db zc (nz (cL zc p).cols j)) (Db zc (nz (cL zc p).cols j)) o (bs j)) :
    ∀ j,j<(cL zc p).cols.length→frees (Jn zc p bs) j=(zc.frames/zc.colours).toNat:=by
  intro j hj
  obtain ⟨o,mk⟩:=h j hj
  have h2:frees (Jn zc p bs) j=Db zc (nz (cL zc p).cols j):=mk.sum
  rw [h2]
  unfold Db cntI
  obtain ⟨n1,n2⟩:=po.nz hj
  simp only [Qm,Bool.and_eq_true] at hm
  have hm:=hm.1
  simp only [qG,Bool.and_eq_true] at hm
  obtain ⟨_,hf,hd,_⟩:=hm
  have hco:=po.co
  simp [cR] at hco hf
  simp at hd
  rw [Int.tmod_eq_emod_of_nonneg (by omega)] at hd
  congr 1
  obtain ⟨k,hk⟩:=Int.dvd_of_emod_eq_zero hd
  generalize hx:nz (cL zc p).cols j=x at *
  rw [hk,Int.mul_ediv_cancel_left _ (by omega)]
  rw [show zc.colours*k-x+zc.colours-1=(zc.colours-1-x)+zc.colours*k by omega,Int.add_mul_ediv_left _ _ (by omega),Int.ediv_eq_zero_of_lt (by omega) (by omega)]
  omega
theorem axd {zc:CfgZ} (h1:cR zc.frames 1 4096=true) (h2:cR zc.colours 1 16=true):aso zc=zc.frames/zc.colours∧0≤zc.frames/zc.colours∧zc.frames/zc.colours≤4096:=by
  simp [cR] at h1 h2
  have h3:0≤zc.frames/zc.colours:=Int.ediv_nonneg (by omega) (by omega)
  have h4:zc.frames/zc.colours≤zc.frames:=Int.ediv_le_self _ (by omega)
  refine ⟨?_,h3,by omega⟩
  unfold aso
  rw [Int.tdiv_eq_ediv_of_nonneg (by omega),jU (by omega) (by omega)]
theorem UY {zc:CfgZ} {p:Nat} (po:PartOk zc p):vj zc p=(cL zc p).cols.length*(zc.frames/zc.colours)∧0≤vj zc p∧vj zc p≤65536:=by
  obtain ⟨e1,e2,e3⟩:=axd po.fr po.co
  have hl:=po.few
  have h4:((cL zc p).cols.length:Int)*(zc.frames/zc.colours)≤16*4096:=Int.mul_le_mul (by omega) e3 e2 (by omega)
  have h5:0≤((cL zc p).cols.length:Int)*(zc.frames/zc.colours):=Int.mul_nonneg (by omega) e2
  unfold vj
  rw [e1,jU (by omega) (by omega)]
  exact ⟨rfl,h5,by omega⟩
theorem InvQ.new {zc:CfgZ} {p:Nat} (hm:Qm zc=true) (po:PartOk zc p) {bs:Nat→BudZ} (h:∀ j,j<(cL zc p).cols.length→∃ o,Making (Db zc (nz (cL zc p).cols j)) (Db zc (nz (cL zc p).cols j)) o (bs j)):InvQ zc p [] (Jn zc p bs):=by
  refine ⟨Inv.new h,rfl,fun u _=>rfl,fun e he=>(nomatch he),?_,rfl,rfl,rfl⟩
  obtain ⟨t1,t2,_⟩:=UY po
  obtain ⟨_,e2,_⟩:=axd po.fr po.co
  have:F1 (frees (Jn zc p bs)) (Jn zc p bs).mine.length=(cL zc p).cols.length*(zc.frames/zc.colours).toNat:=asc _ (au4 hm po h)
  rw [this,t1]
  simp
  rw [Int.max_eq_left e2]
theorem InvQ.step {zc:CfgZ} {p:Nat} {L:List (Int × Int)} {z:PoolZ} (v:InvQ zc p L z) (po:PartOk zc p) {i o u k:Nat} {a:Int} {rest:List Int} (hu:1≤u∧u≤6) (hi:i<z.mine.length) (ho:o<7) (hok:o≤k) (hk:k<7) (hx:(z.buds i).free k=a::rest)
    (hemp:∀ j,o≤j→j<k→(z.buds i).free j = []):InvQ zc p (L++(jc z.colours (nz z.mine i) a (2^o)).map fun f=>(f,(u:Int))) (K5 z i o u k a rest):=by
  have hs:=v.inv.step po (u:=u) hi ho hok hk hx hemp
  have hL:(L++(jc z.colours (nz z.mine i) a (2^o)).map fun f=>(f,(u:Int))).map (·.1)=L.map (·.1)++jc z.colours (nz z.mine i) a (2^o):=by simp [Function.comp_def]
  obtain ⟨f1,f2⟩:=apT (u:=u) hok hk hx hemp
  refine ⟨by rw [hL]; exact hs,?_,fun w hw=>?_,fun e he=>?_,?_,v.quota,v.total,v.order⟩
  · show avA u _ z.uses=_
    rw [v.uses]
    exact avy hs.nodup
  · rw [WY,axj,qE]
    show upd z.counts u (z.counts u+((2^o:Nat):Int)) w=_
    by_cases e:w=u
    · subst e; rw [dC,v.cnt w hw,if_pos rfl]; simp
    · rw [dh _ _ e,v.cnt w hw,if_neg (fun h=>e (by omega))]; simp
  · rcases List.mem_append.1 he with he | he
    · exact v.rng e he
    · obtain ⟨f,_,rfl⟩:=List.mem_map.1 he
      dsimp only; omega
  · have h1:=(asf (d:=2^o) f1 f2 z.mine.length).2 hi
    have h2:=v.sum
    show (F1 (frees (K5 z i o u k a rest)) z.mine.length:Int)+_=_
    rw [List.length_append,List.length_map,qE]
    generalize 2^o=D at *
    omega
end Go.Proofs.YtnlbfbiogfilfaaGreat.Sh
/- Free blocks in their one form: what is free tells the lists; a block given back keeps the form. -/
namespace Go.Proofs.YtnlbfbiogfilfaaGreat.Sh
open Go.Ai
def bud (a:Int) (k:Nat):Int:=if a/2^k%2=0 then a+2^k else a-2^k
structure Norm (s:BudZ):Prop where
  inc:∀ k,k<7→(s.free k).Pairwise (· < ·)
  al:∀ k,k<7→∀ a∈s.free k,0≤a∧a%2^k=0
  np:∀ k,k<6→∀ a∈s.free k,bud a k∉s.free k
  one:∀ x,mult s x≤1
theorem agU {k:Nat} (h:k<7):k=0∨k=1∨k=2∨k=3∨k=4∨k=5∨k=6:=by omega
theorem dyadic {a b x:Int} {k j:Nat} (hj:j<7) (hkj:k≤j) (ha:a%2^k=0) (hb:b%2^j=0) (h1:a≤x) (h2:x<a+2^k) (h3:b≤x) (h4:x<b+2^j):b≤a∧a+2^k≤b+2^j:=by
  rcases agU hj with rfl | rfl | rfl | rfl | rfl | rfl | rfl<;>rcases agU (show k<7 by omega) with rfl | rfl | rfl | rfl | rfl | rfl | rfl<;>first | (exfalso; omega) | (simp only [Int.reducePow] at *; omega)
theorem anY {a:Int} {k:Nat} (hk:k<6) (h0:0≤a) (ha:a%2^k=0):0≤bud a k∧bud a k%2^k=0∧bud a k≠a∧bud (bud a k) k=a∧(min a (bud a k))%2^(k+1)=0∧0≤min a (bud a k)∧max a (bud a k)=min a (bud a k)+2^k:=by
  unfold bud
  rcases agU (show k<7 by omega) with rfl | rfl | rfl | rfl | rfl | rfl | rfl
  all_goals first | (exfalso; omega) | skip
  all_goals simp only [Nat.reduceAdd,Int.reducePow] at *
  all_goals split<;>(split<;>omega)
theorem atQ (k:Nat):(1:Int)≤2^k:=by
  have:(0:Int)<2^k:=Int.pow_pos (by decide)
  omega
theorem ahm (s:BudZ) (x:Int):∀ {m n:Nat},m≤n→lz s x m≤lz s x n
  | m,0,h=>by have:m=0:=by omega
              subst this; exact Nat.le_refl _
  | m,n+1,h=>by
    by_cases e:m=n+1
    · subst e; exact Nat.le_refl _
    · have:=ahm s x (show m≤n by omega); rw [lz]; omega
theorem aAS {k:Nat} {l:List Int} {a b x:Int} (ha:a∈l) (hb:b∈l) (hab:a≠b) (h1:a≤x∧x<a+2^k) (h2:b≤x∧x<b+2^k):2≤pH k l x:=by
  induction l with
  | nil=>simp at ha
  | cons c t ih=>
    have e:pH k (c::t) x=pH k t x+if c≤x∧x<c+2^k then 1 else 0:=by
      unfold pH
      rw [List.countP_cons]
      by_cases h:c≤x∧x<c+2^k<;>simp [h]
    rw [e]
    have pos:∀ d,d∈t→d≤x∧x<d+2^k→1≤pH k t x:=fun d hd h=>by
      unfold pH
      exact List.countP_pos_iff.2 ⟨d,hd,by simpa using h⟩
    rcases List.mem_cons.1 ha with rfl | ha'
    · rcases List.mem_cons.1 hb with rfl | hb'
      · exact (hab rfl).elim
      · rw [if_pos h1]; have:=pos b hb' h2; omega
    · rcases List.mem_cons.1 hb with rfl | hb'
      · rw [if_pos h2]; have:=pos a ha' h1; omega
      · have:=ih ha' hb'; omega
theorem azl {s:BudZ} {k j:Nat} {a b x:Int} (hk:k<7) (hj:j<7) (ha:a∈s.free k) (hb:b∈s.free j) (h1:a≤x∧x<a+2^k) (h2:b≤x∧x<b+2^j) (hne:¬ (k=j∧a=b)):2≤mult s x:=by
  rw [abr]
  have one:∀ {k j:Nat} {a b:Int},k<j→j<7→a∈s.free k→b∈s.free j→a≤x∧x<a+2^k→b≤x∧x<b+2^j→2≤lz s x 7:=by
    intro k j a b hkj hj ha hb h1 h2
    have m1:=ale ha h1.1 h1.2 j hkj
    have m2:1≤pH j (s.free j) x:=by
      unfold pH
      exact List.countP_pos_iff.2 ⟨b,hb,by simpa using h2⟩
    have m3:=ahm s x (show j+1≤7 by omega)
    rw [lz] at m3
    omega
  rcases Nat.lt_trichotomy k j with h | h | h
  · exact one h hj ha hb h1 h2
  · subst h
    have m2:=aAS ha hb (fun e=>hne ⟨rfl,e⟩) h1 h2
    have m3:=ahm s x (show k+1≤7 by omega)
    rw [lz] at m3
    omega
  · exact one h hk hb ha h2 h1
theorem anA {s:BudZ} {x:Int}:∀ n,1≤lz s x n→∃ k,k<n∧∃ a∈s.free k,a≤x∧x<a+2^k
  | 0,h=>by simp [lz] at h
  | n+1,h=>by
    rw [lz] at h
    by_cases e:1≤lz s x n
    · obtain ⟨k,hk,r⟩:=anA n e
      exact ⟨k,by omega,r⟩
    · have:0<pH n (s.free n) x:=by omega
      unfold pH at this
      obtain ⟨a,ha,h2⟩:=List.countP_pos_iff.1 this
      exact ⟨n,by omega,a,ha,by simpa using h2⟩
theorem Norm.full {s:BudZ} (v:Norm s):∀ k,k<7→∀ a:Int,0≤a→a%2^k=0→(∀ x,a≤x→x<a+2^k→1≤mult s x)→∃ j,k≤j∧j<7∧∃ b∈s.free j,b≤a∧a+2^k≤b+2^j
  | 0,_,a,h0,_,h=>by
    have:=h a (Int.le_refl _) (by simp; omega)
    rw [abr] at this
    obtain ⟨j,hj,b,hb,h1,h2⟩:=anA 7 this
    exact ⟨j,by omega,hj,b,hb,h1,by simp; omega⟩
  | k+1,hk,a,h0,hal,h=>by
    have hp:(2:Int)^(k+1)=2^k+2^k:=by rw [Int.pow_succ]; omega
    have hpp:=atQ k
    have hal1:a%2^k=0∧(a+2^k)%2^k=0∧a/2^k%2=0:=by
      rcases agU (show k<7 by omega) with rfl | rfl | rfl | rfl | rfl | rfl | rfl<;>(simp only [Nat.reduceAdd,Int.reducePow] at *; omega)
    obtain ⟨j1,i1,i2,b1,i3,i4,i5⟩:=v.full k (by omega) a h0 hal1.1 fun x h1 h2=>h x h1 (by omega)
    obtain ⟨j2,u1,u2,b2,u3,u4,u5⟩:=v.full k (by omega) (a+2^k) (by omega) hal1.2.1 fun x h1 h2=>h x (by omega) (by omega)
    by_cases e1:k+1≤j1
    · have:=dyadic i2 e1 hal (v.al j1 i2 b1 i3).2 (Int.le_refl a) (by omega) i4 (by omega)
      exact ⟨j1,e1,i2,b1,i3,this⟩
    · by_cases e2:k+1≤j2
      · have:=dyadic (x:=a+2^k) u2 e2 hal (v.al j2 u2 b2 u3).2 (by omega) (by omega) u4 (by omega)
        exact ⟨j2,e2,u2,b2,u3,this⟩
      · exfalso
        obtain rfl:j1=k:=by omega
        obtain rfl:j2=j1:=by omega
        have ea:b1=a:=by omega
        have eb:b2=a+2^j2:=by omega
        subst ea eb
        refine v.np j2 (by omega) b1 i3 ?_
        unfold bud
        rw [if_pos hal1.2.2]
        exact u3
theorem Norm.sub {s s':BudZ} (v:Norm s) (v':Norm s') (h:∀ x,mult s x=mult s' x) {k:Nat} (hk:k<7) {a:Int} (ha:a∈s.free k):a∈s'.free k:=by
  obtain ⟨a0,a1⟩:=v.al k hk a ha
  have hp:=atQ k
  obtain ⟨j,j1,j2,b,b1,b2,b3⟩:=v'.full k hk a a0 a1 fun x h1 h2=>by
    rw [← h x]; exact aba hk ha h1 h2
  obtain ⟨c0,c1⟩:=v'.al j j2 b b1
  obtain ⟨i,i1,i2,c,d1,d2,d3⟩:=v.full j j2 b c0 c1 fun x h1 h2=>by
    rw [h x]; exact aba j2 b1 h1 h2
  have hone:k=i∧a=c:=by
    by_cases e:k=i∧a=c
    · exact e
    · have:=azl (x:=a) hk i2 ha d1 ⟨Int.le_refl a,by omega⟩ ⟨by omega,by omega⟩ e
      have:=v.one a
      omega
  obtain ⟨rfl,rfl⟩:=hone
  obtain rfl:j=k:=by omega
  have:b=a:=by omega
  rw [← this]; exact b1
theorem Norm.uniq {s s':BudZ} (v:Norm s) (v':Norm s') (h:∀ x,mult s x=mult s' x) {k:Nat} (hk:k<7):s.free k=s'.free k:=by
  have hp:(s.free k).Perm (s'.free k):=by
    refine (List.perm_ext_iff_of_nodup ((v.inc k hk).imp fun h=>Int.ne_of_lt h) ((v'.inc k hk).imp fun h=>Int.ne_of_lt h)).2 fun a=>⟨fun ha=>v.sub v' h hk ha,fun ha=>v'.sub v (fun x=>(h x).symm) hk ha⟩
  exact hp.eq_of_pairwise (fun a b _ _ h1 h2=>by omega) (v.inc k hk) (v'.inc k hk)
theorem Norm.take {s:BudZ} {o k:Nat} {a:Int} {rest:List Int} (v:Norm s) (hok:o≤k) (hk:k<7) (hx:s.free k=a::rest) (hemp:∀ j,o≤j→j<k→s.free j = []):Norm (tL s o k o a rest):=by
  have fr:∀ n,(tL s o k o a rest).free n=if n=k then rest else if o≤n∧n<k then [a+2^n] else s.free n:=fun n=>rfl
  obtain ⟨a0,a1⟩:=v.al k hk a (by rw [hx]; exact List.mem_cons_self ..)
  refine ⟨fun n hn=>?_,fun n hn c hc=>?_,fun n hn c hc=>?_,fun x=>?_⟩
  · rw [fr]
    by_cases e1:n=k
    · rw [if_pos e1]
      have:=v.inc k hk
      rw [hx] at this
      exact (List.pairwise_cons.1 this).2
    · rw [if_neg e1]
      by_cases e2:o≤n∧n<k
      · rw [if_pos e2]; simp
      · rw [if_neg e2]; exact v.inc n hn
  · rw [fr] at hc
    by_cases e1:n=k
    · rw [if_pos e1] at hc
      subst e1
      exact v.al n hn c (by rw [hx]; exact List.mem_cons_of_mem _ hc)
    · rw [if_neg e1] at hc
      by_cases e2:o≤n∧n<k
      · rw [if_pos e2] at hc
        simp at hc
        subst hc
        have:=atQ n
        refine ⟨by omega,?_⟩
        obtain ⟨_,e3⟩:=e2
        rcases agU hk with rfl | rfl | rfl | rfl | rfl | rfl | rfl<;>rcases agU (show n<7 by omega) with rfl | rfl | rfl | rfl | rfl | rfl | rfl<;>first | (exfalso; omega) | (simp only [Int.reducePow] at *; omega)
      · rw [if_neg e2] at hc
        exact v.al n hn c hc
  · rw [fr] at hc ⊢
    by_cases e1:n=k
    · rw [if_pos e1] at hc ⊢
      subst e1
      intro hb
      exact v.np n hn c (by rw [hx]; exact List.mem_cons_of_mem _ hc) (by rw [hx]; exact List.mem_cons_of_mem _ hb)
    · rw [if_neg e1] at hc ⊢
      by_cases e2:o≤n∧n<k
      · rw [if_pos e2] at hc ⊢
        simp at hc
        subst hc
        simp only [List.mem_singleton]
        have hne:(a+2^n)%2^n=0:=by
          obtain ⟨_,e3⟩:=e2
          rcases agU hk with rfl | rfl | rfl | rfl | rfl | rfl | rfl<;>rcases agU (show n<7 by omega) with rfl | rfl | rfl | rfl | rfl | rfl | rfl<;>first | (exfalso; omega) | (simp only [Int.reducePow] at *; omega)
        have:=atQ n
        exact (anY hn (by omega) hne).2.2.1
      · rw [if_neg e2] at hc ⊢
        exact v.np n hn c hc
  · have h1:=aoy hok hk hx hemp x
    have h2:=v.one x
    omega
end Go.Proofs.YtnlbfbiogfilfaaGreat.Sh
/- A new buddy is in the one form; a block put in, a block out. -/
namespace Go.Proofs.YtnlbfbiogfilfaaGreat.Sh
open Go.Ai
theorem Norm.new {n o:Nat} {s:BudZ} (mk:Making n n o s):Norm s:=by
  refine ⟨mk.ninc,fun k hk a ha=>⟨(mk.hs k hk a ha).1,(mk.nfr k hk a ha).1⟩,fun k hk a ha hb=>?_,fun x=>?_⟩
  · have hl:=mk.nsm k hk
    have h0:=(mk.hs k (by omega) a ha).1
    have hne:=(anY hk h0 (mk.nfr k (by omega) a ha).1).2.2.1
    match hq:s.free k,ha,hb,hl with
    | [],ha,_,_=>simp at ha
    | [c],ha,hb,_=>
      simp at ha hb
      rw [ha] at hne hb
      exact hne hb
    | _::_::_,_,_,hl=>simp at hl
  · rw [mk.hm]; split<;>omega
theorem asI (s:BudZ) (k:Nat) (l:List Int) (x:Int):∀ n,lz { s with free:=upd s.free k l } x n+(if k<n then pH k (s.free k) x else 0)=lz s x n+if k<n then pH k l x else 0
  | 0=>by simp [lz]
  | n+1=>by
    have ih:=asI s k l x n
    rw [lz,lz]
    show _+pH n (upd s.free k l n) x+_=_
    by_cases e:n=k
    · subst e
      rw [dC,if_pos (by omega),if_pos (by omega)]
      rw [if_neg (by omega),if_neg (by omega)] at ih
      omega
    · rw [dh _ _ e]
      by_cases h:k<n
      · rw [if_pos (by omega),if_pos (by omega)]
        rw [if_pos h,if_pos h] at ih
        omega
      · rw [if_neg (by omega),if_neg (by omega)]
        rw [if_neg h,if_neg h] at ih
        omega
theorem ax6 (s:BudZ) {k:Nat} (hk:k<7) (l:List Int) (x:Int):mult { s with free:=upd s.free k l } x+pH k (s.free k) x=mult s x+pH k l x:=by
  have:=asI s k l x 7
  rw [if_pos hk,if_pos hk] at this
  rw [abr,abr]; exact this
theorem aon (s:BudZ) (k:Nat) (l:List Int):∀ n,fU { s with free:=upd s.free k l } n+(if k<n then (s.free k).length*2^k else 0)=fU s n+if k<n then l.length*2^k else 0
  | 0=>by simp [fU]
  | n+1=>by
    have ih:=aon s k l n
    rw [fU,fU]
    show _+(upd s.free k l n).length*_+_=_
    by_cases e:n=k
    · subst e
      rw [dC,if_pos (by omega),if_pos (by omega)]
      rw [if_neg (by omega),if_neg (by omega)] at ih
      omega
    · rw [dh _ _ e]
      by_cases h:k<n
      · rw [if_pos (by omega),if_pos (by omega)]
        rw [if_pos h,if_pos h] at ih
        omega
      · rw [if_neg (by omega),if_neg (by omega)]
        rw [if_neg h,if_neg h] at ih
        omega
theorem avG {s:BudZ}:∀ {n k:Nat},k<n→(s.free k).length≤fU s n
  | 0,k,h=>by omega
  | n+1,k,h=>by
    rw [fU]
    by_cases e:k=n
    · subst e
      have:(s.free k).length*1≤(s.free k).length*2^k:=Nat.mul_le_mul_left _ Nat.one_le_two_pow
      omega
    · have:=avG (s:=s) (show k<n by omega); omega
theorem ayY (l:List Int) (i:Nat) (a:Int):(Dz l i a).Perm (a::l):=by
  unfold Dz
  have h:=(List.perm_middle (a:=a) (l₁:=l.take i) (l₂:=l.drop i))
  rwa [List.take_append_drop] at h
theorem asn {k:Nat} {l l':List Int} (h:l.Perm l') (x:Int):pH k l x=pH k l' x:=h.countP_eq _
theorem nz_mem {l:List Int} {c:Int} (h:c∈l):∃ j,j<l.length∧nz l j=c:=by
  obtain ⟨j,hj,rfl⟩:=List.mem_iff_getElem.1 h
  exact ⟨j,hj,kC hj⟩
theorem aAG {l:List Int} {a:Int} {i:Nat} (hl:l.Pairwise (· < ·)) (hn:a∉l) (hs:alG l a i):(Dz l i a).Pairwise (· < ·):=by
  obtain ⟨hi,hs⟩:=hs
  obtain ⟨h1,h2⟩:=hs hl
  have ht:∀ c∈l.take i,c<a:=fun c hc=>by
    obtain ⟨j,hj,rfl⟩:=List.mem_iff_getElem.1 hc
    simp at hj
    rw [List.getElem_take, ← kC (show j<l.length by omega)]
    exact h1 j (by omega)
  have hd:∀ c∈l.drop i,a<c:=fun c hc=>by
    have hm:c∈l:=List.mem_of_mem_drop hc
    obtain ⟨j,hj,rfl⟩:=List.mem_iff_getElem.1 hc
    simp at hj
    have h3:=h2 (i+j) (by omega) (by omega)
    rw [kC (by omega)] at h3
    rw [List.getElem_drop] at hm ⊢
    have:l[i+j]≠a:=fun e=>hn (by rw [← e]; exact hm)
    omega
  unfold Dz
  refine List.pairwise_append.2 ⟨hl.sublist (List.take_sublist _ _),List.pairwise_cons.2 ⟨hd,hl.sublist (List.drop_sublist _ _)⟩,fun c hc d hd'=>?_⟩
  rcases List.mem_cons.1 hd' with rfl | hd'
  · exact ht c hc
  · exact Int.lt_trans (ht c hc) (hd d hd')
structure GivenS (s:BudZ) (a:Int) (o:Nat) (s':BudZ):Prop where
  norm:Norm s'
  n:s'.n=s.n
  taken:s'.taken=s.taken
  mult:∀ x,Sh.mult s' x=Sh.mult s x+inB a x o
  sum:fU s' 7=fU s 7+2^o
theorem Norm.put {s:BudZ} (v:Norm s) {k:Nat} (hk:k<7) {a:Int} (h0:0≤a) (hal:a%2^k=0) (hf:∀ x,a≤x→x<a+2^k→mult s x=0) (hb:k<6→bud a k∉s.free k) {i:Nat} (hs:alG (s.free k) a i) :
    GivenS s a k { s with free:=upd s.free k (Dz (s.free k) i a) }:=by
  have hp:=ayY (s.free k) i a
  have hpp:=atQ k
  have hn:a∉s.free k:=fun hm=>by
    have:=aba hk hm (Int.le_refl a) (by omega)
    have:=hf a (Int.le_refl a) (by omega)
    omega
  have hm:∀ x,mult { s with free:=upd s.free k (Dz (s.free k) i a) } x=mult s x+inB a x k:=fun x=>by
    have h1:=ax6 s hk (Dz (s.free k) i a) x
    have h2:pH k (Dz (s.free k) i a) x=pH k (s.free k) x+inB a x k:=by
      rw [asn hp,ab2]
    omega
  refine ⟨⟨fun j hj=>?_,fun j hj c hc=>?_,fun j hj c hc=>?_,fun x=>?_⟩,rfl,rfl,hm,?_⟩
  · show (upd s.free k (Dz (s.free k) i a) j).Pairwise _
    by_cases e:j=k
    · subst e; rw [dC]; exact aAG (v.inc j hj) hn hs
    · rw [dh _ _ e]; exact v.inc j hj
  · have hc':c∈upd s.free k (Dz (s.free k) i a) j:=hc
    by_cases e:j=k
    · subst e
      rw [dC,hp.mem_iff,List.mem_cons] at hc'
      rcases hc' with rfl | h
      · exact ⟨h0,hal⟩
      · exact v.al j hj c h
    · rw [dh _ _ e] at hc'; exact v.al j hj c hc'
  · have hc':c∈upd s.free k (Dz (s.free k) i a) j:=hc
    show bud c j∉upd s.free k (Dz (s.free k) i a) j
    by_cases e:j=k
    · subst e
      rw [dC,hp.mem_iff,List.mem_cons] at hc' ⊢
      intro hbad
      rcases hc' with rfl | h
      · rcases hbad with hbad | hbad
        · exact (anY hj h0 hal).2.2.1 hbad
        · exact hb hj hbad
      · obtain ⟨c0,c1⟩:=v.al j hk c h
        rcases hbad with hbad | hbad
        · have:=(anY hj c0 c1).2.2.2.1
          rw [hbad] at this
          exact hb hj (by rw [this]; exact h)
        · exact v.np j hj c h hbad
    · rw [dh _ _ e] at hc' ⊢; exact v.np j hj c hc'
  · rw [hm]
    unfold inB
    split
    · rename_i h; rw [hf x h.1 h.2]; omega
    · have:=v.one x; omega
  · have h1:=aon s k (Dz (s.free k) i a) 7
    rw [if_pos hk,if_pos hk,hp.length_eq,List.length_cons,Nat.add_mul] at h1
    omega
theorem auM {l:List Int} {i:Nat} (hi:i<l.length):l.Perm (nz l i::l.eraseIdx i):=by
  have h:=(List.perm_middle (a:=nz l i) (l₁:=l.take i) (l₂:=l.drop (i+1)))
  rw [List.eraseIdx_eq_take_drop_succ]
  refine List.Perm.trans ?_ h
  rw [kC hi,List.getElem_cons_drop,List.take_append_drop]
theorem Norm.del {s:BudZ} (v:Norm s) {k:Nat} (hk:k<7) {i:Nat} (hi:i<(s.free k).length) :
    Norm { s with free:=upd s.free k ((s.free k).eraseIdx i) }∧(∀ x,mult { s with free:=upd s.free k ((s.free k).eraseIdx i) } x+inB (nz (s.free k) i) x k=mult s x)∧fU { s with free:=upd s.free k ((s.free k).eraseIdx i) } 7+2^k=fU s 7:=by
  have hp:=auM hi
  have hsub:((s.free k).eraseIdx i).Sublist (s.free k):=List.eraseIdx_sublist _ _
  have hm:∀ x,mult { s with free:=upd s.free k ((s.free k).eraseIdx i) } x+inB (nz (s.free k) i) x k=mult s x:=fun x=>by
    have h1:=ax6 s hk ((s.free k).eraseIdx i) x
    have h2:pH k (s.free k) x=pH k ((s.free k).eraseIdx i) x+inB (nz (s.free k) i) x k:=by
      rw [asn hp,ab2]
    omega
  refine ⟨⟨fun j hj=>?_,fun j hj c hc=>?_,fun j hj c hc=>?_,fun x=>?_⟩,hm,?_⟩
  · show (upd s.free k _ j).Pairwise _
    by_cases e:j=k
    · subst e; rw [dC]; exact (v.inc j hj).sublist hsub
    · rw [dh _ _ e]; exact v.inc j hj
  · have hc':c∈upd s.free k ((s.free k).eraseIdx i) j:=hc
    by_cases e:j=k
    · subst e; rw [dC] at hc'; exact v.al j hj c (hsub.subset hc')
    · rw [dh _ _ e] at hc'; exact v.al j hj c hc'
  · have hc':c∈upd s.free k ((s.free k).eraseIdx i) j:=hc
    show bud c j∉upd s.free k ((s.free k).eraseIdx i) j
    by_cases e:j=k
    · subst e
      rw [dC] at hc' ⊢
      exact fun h=>v.np j hj c (hsub.subset hc') (hsub.subset h)
    · rw [dh _ _ e] at hc' ⊢; exact v.np j hj c hc'
  · have:=hm x; have:=v.one x; omega
  · have h1:=aon s k ((s.free k).eraseIdx i) 7
    have hl:((s.free k).eraseIdx i).length+1=(s.free k).length:=by rw [List.length_eraseIdx_of_lt hi]; omega
    rw [if_pos hk,if_pos hk, ← hl,Nat.add_mul] at h1
    omega
theorem aAP {a:Int} {k:Nat} (ha:0≤a∧a<4096) (hk:k<7):IntKind.i64.wrap (BitVec.ofInt 64 a ^^^ BitVec.ofInt 64 (2^k)).toNat=bud a k:=by
  have h:(List.range 4096).all (fun a=>(List.range 7).all fun k=>decide (IntKind.i64.wrap (BitVec.ofInt 64 (a:Int) ^^^ BitVec.ofInt 64 (2^k)).toNat=bud (a:Int) k))=true:=by decide +kernel
  obtain ⟨n,rfl⟩:=Int.eq_ofNat_of_zero_le ha.1
  have h1:=List.all_eq_true.1 h n (List.mem_range.2 (by omega))
  have h2:=List.all_eq_true.1 h1 k (List.mem_range.2 hk)
  exact of_decide_eq_true h2
end Go.Proofs.YtnlbfbiogfilfaaGreat.Sh
/- A block given back: the buddy's code. -/
namespace Go.Proofs.YtnlbfbiogfilfaaGreat.Sh
open Go.Ai
theorem bitK_bud {a:Int} {k:Nat} (ha:0≤a∧a<4096) (hk:k<7) (c:Int→CRes):aol .xor .i64 a (2^k) c=c (bud a k):=by
  have h:aol .xor .i64 a (2^k) c=c (IntKind.i64.wrap (BitVec.ofInt 64 a ^^^ BitVec.ofInt 64 (2^k)).toNat):=by
    show oC (some _) _=_
    rw [sN,lW]; rfl
  rw [h,aAP ha hk]
theorem min_K (a b:Int) (c:AV→CRes):O1 false [.int .i64 a,.int .i64 b] c=c (.int .i64 (min a b)):=by
  have h:W9 false (.int .i64 a) [.int .i64 b]=some (.int .i64 (if ltF b a then b else a)):=rfl
  show oC (W9 false (.int .i64 a) [.int .i64 b]) c=_
  rw [h,sN,y4]
  congr 2
  by_cases e:b<a
  · simp [e]; omega
  · simp [e]; omega
def xe (k:Int):List (Int × Int)→List (Int × Int)
  | []=>[]
  | e::t=>if k=e.1 then t else e::xe k t
theorem aAH (q:IntKind) (k:Int):∀ kv:List (Int × Int),delF (.cell .int) (.int .i64 k) (kv.map fun e=>(AV.int .i64 e.1,AV.int q e.2))=some ((xe k kv).map fun e=>(AV.int .i64 e.1,AV.int q e.2)):=by
  intro kv
  induction kv with
  | nil=>rfl
  | cons e t ih=>
    show (Option.casesOn (oQ (.cell .int) (.int .i64 k) (.int .i64 e.1)) none fun b=>Bool.casesOn b (Option.casesOn (delF (.cell .int) (.int .i64 k) (t.map fun e=>(AV.int .i64 e.1,AV.int q e.2))) none fun t'=>some ((AV.int .i64 e.1,AV.int q e.2)::t')) (some (t.map fun e=>(AV.int .i64 e.1,AV.int q e.2))):Option _)=_
    have hk:oQ (.cell .int) (.int .i64 k) (.int .i64 e.1)=some (k==e.1):=by
      show some (eqF k e.1)=_
      rw [zj]
    rw [hk,ih]
    dsimp only
    by_cases h:k=e.1
    · have:(k==e.1)=true:=by simp [h]
      rw [this]
      simp [xe,h]
    · have:(k==e.1)=false:=by simp [h]
      rw [this]
      simp [xe,h]
theorem ayF {h:Heap} {b:Nat} {q:IntKind} {kv:List (Int × Int)} (a:MapI h b q kv) (k:Int) :
    Run0 (aiE h (.cell .int) (.map b) (.int .i64 k)) fun h'=>MapI h' b q (xe k kv)∧Chg (· = b) h h':=by
  refine ⟨h.set b (.mp ((xe k kv).map fun e=>(AV.int .i64 e.1,AV.int q e.2))),⟨⟨by simpa using a.lt,by simpa using a.ro,Heap.get_set_same ..⟩,⟨by simp,by simp,fun c _ hc=>Heap.get_set_other _ (fun e=>hc e.symm) _⟩⟩,fun c=>?_⟩
  unfold aiE azZ
  have h1:Nat.blt b h.ro=false:=by rw [blt_eq]; simp; exact a.ro
  have h2:vc h b=some (kv.map fun e=>(AV.int .i64 e.1,AV.int q e.2)):=by unfold vc; rw [a.get]
  have h3:oQ (.cell .int) (.int .i64 k) (.int .i64 k)=some (k==k):=by
    show some (eqF k k)=_
    rw [zj]
  rw [h3]
  dsimp only
  rw [h1,h2]
  dsimp only
  rw [aAH]
  dsimp only
  rw [Heap.setK_eq,sN]; rfl
theorem aAo {a:Int} {k:Nat} (hk:k<6) (h0:0≤a) (ha:a%2^k=0) (x:Int):inB (min a (bud a k)) x (k+1)=inB a x k+inB (bud a k) x k:=by
  obtain ⟨_,_,hne,_,_,_,hmax⟩:=anY hk h0 ha
  have h:=axL (min a (bud a k)) x k
  by_cases e:a≤bud a k
  · rw [Int.min_eq_left e] at h hmax ⊢
    rw [Int.max_eq_right e] at hmax
    rw [← hmax] at h; omega
  · rw [Int.min_eq_right (by omega)] at h hmax ⊢
    rw [Int.max_eq_left (by omega)] at hmax
    rw [← hmax] at h; omega
theorem BS_found {l:List Int} {x:Int} {i:Nat} (hl:l.Pairwise (· < ·)) (hs:alG l x i) (hd:¬ (i<l.length∧nz l i=x)):x∉l:=by
  intro hm
  obtain ⟨hi,hs⟩:=hs
  obtain ⟨h1,h2⟩:=hs hl
  obtain ⟨j,hj,e⟩:=nz_mem hm
  have hji:i≤j:=by
    rcases Nat.lt_or_ge j i with h | h
    · have:=h1 j h; omega
    · exact h
  have h3:=h2 i (Nat.le_refl _) (by omega)
  have h4:=avL hl hji hj
  exact hd ⟨by omega,by omega⟩
theorem aAv {n:Nat} (hn:70000<n) {p m:Nat} (f1):∀ (q o:Nat) (a:Int) (h:Heap) (v:Nat→AV) (s:BudZ),h.ro≤h.nx→Norm s→BudIn h p m v s→fU s 7+2^o≤70000→0≤a∧a<4096→a%2^o=0→(∀ x,a≤x→x<a+2^o→mult s x=0)→o≤6→6-o<q→
    Run1 (fun k=>pE n f1 (dQ n) (eo n) (fY n) k q (.ptr p 0) a (o:Int) h) fun r h'=>r=0∧∃ v' s',BudIn h' p m v' s'∧GivenS s a o s'∧(∀ j,j<7→∀ c,(v' j).blk=some c→(v j).blk=some c∨h.nx≤c)∧Chg (fpB p m v) h h':=by
  intro q
  induction q with
  | zero=>omega
  | succ q ih=>
    intro o a h v s hro nm b hfn ha hal hfree ho hq
    simp only [aeP]
    unfold uH uX Br
    have hk:o<7:=by omega
    have hlen:(s.free o).length≤70000:=Nat.le_trans (avG (s:=s) hk) (Nat.le_trans (Nat.le_add_right _ _) hfn)
    have stop:(o<6→bud a o∉s.free o)→Run1 (fun (k:Int→Heap→CRes)=>fY n (.ptr p 0) a (o:Int) h fun h10=>k 0 h10) fun r h'=>r=0∧∃ v' s',BudIn h' p m v' s'∧GivenS s a o s'∧(∀ j,j<7→∀ c,(v' j).blk=some c→(v j).blk=some c∨h.nx≤c)∧Chg (fpB p m v) h h':=by
      intro hb
      refine Run0.bind (v_put hro b hk (by omega) (by omega) a) ?_
      rintro h10 ⟨y,i,hs,b',hy,c⟩
      refine je ⟨rfl,_,_,b',nm.put hk ha.1 hal hfree hb hs,fun j hj d e=>?_,c⟩
      by_cases e1:j=o
      · subst e1; rw [dC] at e; exact .inr (hy d e)
      · rw [dh _ _ e1] at e; exact .inl e
    refine RunG.ifB (fun e=>?_) fun e=>stop fun h=>by simp at e; omega
    simp at e
    have ho6:o<6:=by omega
    obtain ⟨p1,p2,p3⟩:=abE hk
    obtain ⟨u1,u2,u3,u4,u5,u6,u7⟩:=anY ho6 ha.1 hal
    simp only [cJ,Nat.reduceAdd,TZ (Int.natCast_nonneg o),p1,bitK_bud ha hk,KO hk,bM b.own.cl,aiB _ _ _ hk]
    refine Run2.bind (v_BS (b.lst o hk).ints (by omega) (by omega) (bud a o)) ?_
    rintro _ bb h18 ⟨rfl,i,rfl,hs,rfl⟩
    refine RunG.ifB (fun hd=>?_) fun hd=>?_
    · simp at hd
      exact stop fun _=>BS_found (nm.inc o hk) hs fun hh=>by
        rcases hd with hd | hd
        · omega
        · exact hd hh.2
    · simp at hd
      obtain ⟨hi,hnz⟩:=hd
      simp only [cJ,Nat.reduceAdd,KO hk,bM b.own.cl,aiB _ _ _ hk,fW (show i≤9223372036854775806 by omega)]
      refine Run1.bind (axN (b.lst o hk) hi) ?_
      rintro y h24 ⟨l24,b24,c24⟩
      have o24:Own h24 p (ahz s.n v m) 0:=c24.own b.own fun e'=>(b.lst o hk).ne b.own e' rfl
      refine Run0.bind (G1 o24 (by show 2+o<10; omega) (by rcases l24 with ⟨rfl,_⟩ | ⟨d,e',r,rfl,_⟩<;>rfl)) ?_
      intro h27 p27
      obtain ⟨b27,c27⟩:=b.row hk c24 l24 (fun c e'=>.inl (by rw [← b24]; exact e')) p27
      obtain ⟨d1,d2,d3⟩:=nm.del hk hi
      rw [hnz] at d2
      have hsum:fU { s with free:=upd s.free o ((s.free o).eraseIdx i) } 7+2^(o+1)≤70000:=by rw [Nat.pow_succ]; omega
      have w1:IntKind.i64.wrap ((o:Int)+1)=((o+1:Nat):Int):=fW (by omega)
      simp only [cJ,Nat.reduceAdd,min_K,w1]
      have hfree':∀ x,min a (bud a o)≤x→x<min a (bud a o)+2^(o+1)→mult { s with free:=upd s.free o ((s.free o).eraseIdx i) } x=0:=by
        intro x h1 h2
        have h3:=d2 x
        have h4:=aAo ho6 ha.1 hal x
        have h5:inB (min a (bud a o)) x (o+1)=1:=by unfold inB; rw [if_pos ⟨h1,h2⟩]
        by_cases h6:a≤x∧x<a+2^o
        · have:=hfree x h6.1 h6.2; omega
        · have h7:inB a x o=0:=by unfold inB; rw [if_neg h6]
          have h8:=nm.one x
          omega
      refine RunG.mono (ih (o+1) (min a (bud a o)) h27 _ _ (c27.le hro) d1 b27 hsum ⟨u6,by omega⟩ u5 hfree' (by omega) (by omega)) ?_
      rintro ⟨r,h'⟩ ⟨r1,v',s',r2,r3,r4,r5⟩
      refine ⟨r1,v',s',r2,⟨r3.norm,r3.n,r3.taken,fun x=>?_,?_⟩,fun j hj c e=>?_,?_⟩
      · have h1:=r3.mult x
        have h2:=d2 x
        have h3:=aAo ho6 ha.1 hal x
        omega
      · have h1:=r3.sum
        rw [Nat.pow_succ] at h1
        omega
      · rcases r4 j hj c e with h1 | h1
        · by_cases e1:j=o
          · subst e1; rw [dC,b24] at h1; exact .inl h1
          · rw [dh _ _ e1] at h1; exact .inl h1
        · exact .inr (Nat.le_trans c27.nx h1)
      · refine c27.trans (r5.mono fun c hc1 hc2=>?_)
        have hsub:∀ c,fpB p m (upd v o y) c→fpB p m v c:=fun c hc=>by
          rcases hc with h1 | h1 | ⟨j,hj,h1⟩
          · exact .inl h1
          · exact .inr (.inl h1)
          · by_cases e1:j=o
            · subst e1; rw [dC,b24] at h1; exact .inr (.inr ⟨j,hj,h1⟩)
            · rw [dh _ _ e1] at h1; exact .inr (.inr ⟨j,hj,h1⟩)
        exact hsub c hc2
end Go.Proofs.YtnlbfbiogfilfaaGreat.Sh
