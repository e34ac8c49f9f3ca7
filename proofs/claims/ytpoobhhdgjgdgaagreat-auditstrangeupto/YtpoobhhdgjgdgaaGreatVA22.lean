/- AuditStrange: the plain law of what is told; rows that are copied and grow. -/
import Derived.Test.YtpoobhhdgjgdgaaGreatAiFlatBVA21
set_option linter.all false
namespace Go.Proofs.YtpoobhhdgjgdgaaGreat.Sh
open Go.Ai
theorem Told.mi {zc:bA} {ps:List StZ} {j:Nat} {fs:List (Int × Int)} (t:Told zc ps j fs) {p:Nat} (hp:p<j) (h:¬ ∀ i,i<(stZ ps p).m→Uv zc ((stZ ps p).F i) p true 0):((281:Int),(p:Int))∈fs:=by
  induction t with
  | zero=>omega
  | @step j fs tw mi su _ h1 h2 h3 ih=>
    by_cases e:p=j
    · subst e
      have:mi=false:=by
        cases mi with
        | false=>rfl
        | true=>exact (h (h2 rfl)).elim
      subst this
      exact gm _ (by simp [one,fl])
    · exact gl _ (ih (by omega))
theorem Told.tw {zc:bA} {ps:List StZ} {j:Nat} {fs:List (Int × Int)} (t:Told zc ps j fs) {p:Nat} (hp:p<j) (h:acJ (Ke (fun _=>0) (pre ps p)) (frs (stZ ps p))=true):((280:Int),(p:Int))∈fs:=by
  induction t with
  | zero=>omega
  | @step j fs tw mi su _ h1 h2 h3 ih=>
    by_cases e:p=j
    · subst e
      have:=h1 h
      subst this
      exact gm _ (by simp [one,fl])
    · exact gl _ (ih (by omega))
theorem apR {f:Int→Int} {a:Int} {B:Int} (h:∀ k,0≤f k∧f k≤B) (hB:B≤9223372036854775806):(∀ k,f k≤Kc f a k∧Kc f a k≤B+1)∧Kc f a a=f a+1:=by
  have h1:=h a
  have w:IntKind.i64.wrap (f a+1)=f a+1:=m9 (by omega) (by omega)
  refine ⟨fun k=>?_,?_⟩
  · unfold Kc
    have h2:=h k
    by_cases e:k=a
    · rw [if_pos e,w,e]; omega
    · rw [if_neg e]; omega
  · unfold Kc
    rw [if_pos rfl,w]
theorem abu:∀ (L:List Int) (f:Int→Int) (B:Int),(∀ k,0≤f k∧f k≤B)→B+L.length≤9223372036854775806→(∀ k,f k≤Ke f L k∧Ke f L k≤B+L.length)∧∀ x,x∈L→1≤Ke f L x
  | [],f,B,h,_=>⟨fun k=>by have:=h k; simp [Ke]; omega,fun x hx=>by cases hx⟩
  | a::t,f,B,h,hB=>by
    rw [List.length_cons] at hB ⊢
    obtain ⟨o1,o2⟩:=apR (a:=a) h (by omega)
    obtain ⟨r1,r2⟩:=abu t (Kc f a) (B+1) (fun k=>by have:=h k; have:=o1 k; omega) (by omega)
    have e:∀ k,Ke f (a::t) k=Ke (Kc f a) t k:=fun k=>rfl
    refine ⟨fun k=>?_,fun x hx=>?_⟩
    · rw [e]; have:=o1 k; have:=r1 k; omega
    · rw [e]
      rcases gk.1 hx with rfl | hx
      · have:=r1 x; have:=h x; omega
      · exact r2 x hx
theorem amz:∀ (L:List Int) (f:Int→Int) (B:Int) (x:Int),(∀ k,0≤f k∧f k≤B)→B+L.length≤9223372036854775806→x∈L→1≤f x→acJ f L=true
  | [],_,_,_,_,_,hx,_=>by cases hx
  | a::t,f,B,x,h,hB,hx,h1=>by
    rw [List.length_cons] at hB
    obtain ⟨o1,o2⟩:=apR (a:=a) h (by omega)
    simp only [acJ,Bool.or_eq_true]
    by_cases e:x=a
    · subst e
      refine .inl ?_
      unfold aaU
      have:=h x
      rw [m9 (by omega) (by omega),fX]; omega
    · refine .inr (amz t (Kc f a) (B+1) x (fun k=>by have:=h k; have:=o1 k; omega) (by omega) ((gk.1 hx).resolve_left e) ?_)
      have:=o1 x; omega
theorem ad7:∀ (a b:List Int) (f:Int→Int),acJ f (a++b)=(acJ f a||acJ (Ke f a) b)
  | [],_,_=>rfl
  | x::a,b,f=>by
    show (aaU f x||acJ (Kc f x) (a++b))=_
    rw [ad7 a b, ← Bool.or_assoc]; rfl
theorem amw {ps:List StZ} {i:Nat} {x:Int}:∀ j,i<j→x∈frs (stZ ps i)→x∈pre ps j
  | 0,h,_=>by omega
  | j+1,h,hx=>by
    by_cases e:i=j
    · subst e; exact gm _ hx
    · exact gl _ (amw j (by omega) hx)
theorem aat (z:StZ):(frs z).length=z.m:=by simp [frs,TZ]
theorem ap7 {ps:List StZ}:∀ j,(∀ i,i<j→(stZ ps i).m≤1048576)→(pre ps j).length≤j*1048576
  | 0,_=>by simp [pre]
  | j+1,h=>by
    have:=ap7 j fun i hi=>h i (by omega)
    have:=h j (by omega)
    show (pre ps j++frs (stZ ps j)).length≤_
    rw [gt,aat]; omega
def Cw (z:StZ) (f u:Int):StZ:=⟨z.m+1,fun k=>if k=z.m then f else z.F k,fun k=>if k=z.m then u else z.U k,z.free,z.whole⟩
theorem apN (z:StZ) (f u:Int):frs (Cw z f u)=frs z++[f]:=by
  unfold frs TZ Cw
  dsimp only
  rw [Nat.sub_zero,Nat.sub_zero,List.range'_concat,gx,Nat.zero_add,Nat.one_mul]
  refine congr (congrArg _ (List.map_congr_left fun k hk=>?_)) ?_
  · have:=List.mem_range'_1.1 hk
    rw [if_neg (by omega)]
  · simp
theorem K0 {ps:List StZ} {p:Nat} (hp:p<ps.length) (z:StZ) (i:Nat):stZ (ps.set p z) i=if i=p then z else stZ ps i:=by
  unfold stZ
  rw [gh,gh,List.getElem?_set]
  by_cases e:i=p
  · subst e; rw [if_pos rfl,if_pos hp,if_pos rfl]; rfl
  · rw [if_neg (fun h=>e h.symm),if_neg e]
theorem aoO {ps:List StZ} {p:Nat} (hp:p<ps.length) (h8:ps.length≤8) (hb:∀ j,j<ps.length→(stZ ps j).m≤1048575) {i k:Nat} (hi:i<ps.length) (hk:k<(stZ ps i).m) {f u:Int} (e:(stZ ps i).F k=f) :
    acJ (Ke (fun _=>0) (pre (ps.set p (Cw (stZ ps p) f u)) (max i p))) (frs (stZ (ps.set p (Cw (stZ ps p) f u)) (max i p)))=true:=by
  have hx:f∈frs (stZ ps i):=frs_mem.2 ⟨k,hk,e⟩
  have hb':∀ j,j<ps.length→(stZ (ps.set p (Cw (stZ ps p) f u)) j).m≤1048576:=by
    intro j hj
    rw [K0 hp]
    have:=hb j hj
    have:=hb p hp
    split
    · show (stZ ps p).m+1≤_; omega
    · omega
  have hfp:f∈frs (stZ (ps.set p (Cw (stZ ps p) f u)) p):=by
    rw [K0 hp,if_pos rfl,apN]; exact gm _ (by simp)
  have z0:∀ k:Int,(0:Int)≤(fun _=>0:Int→Int) k∧(fun _=>0:Int→Int) k≤0:=fun k=>⟨Int.le_refl _,Int.le_refl _⟩
  have hpl:∀ j,j<ps.length→((pre (ps.set p (Cw (stZ ps p) f u)) j).length:Int)≤8388608:=by
    intro j hj
    have:=ap7 (ps:=ps.set p (Cw (stZ ps p) f u)) j fun i hi=>hb' i (by omega)
    have:j*1048576≤8*1048576:=Nat.mul_le_mul_right _ (by omega)
    omega
  have rb:∀ j,j<ps.length→∀ k,0≤Ke (fun _=>0) (pre (ps.set p (Cw (stZ ps p) f u)) j) k∧Ke (fun _=>0) (pre (ps.set p (Cw (stZ ps p) f u)) j) k≤8388608:=by
    intro j hj k
    have h1:=hpl j hj
    have:=(abu (pre (ps.set p (Cw (stZ ps p) f u)) j) (fun _=>0) 0 z0 (by omega)).1 k
    omega
  have main:∀ j,j<ps.length→f∈pre (ps.set p (Cw (stZ ps p) f u)) j→f∈frs (stZ (ps.set p (Cw (stZ ps p) f u)) j)→acJ (Ke (fun _=>0) (pre (ps.set p (Cw (stZ ps p) f u)) j)) (frs (stZ (ps.set p (Cw (stZ ps p) f u)) j))=true:=by
    intro j hj h1 h2
    refine amz _ _ 8388608 f (rb j hj) ?_ h2 ?_
    · have:=hb' j hj
      rw [aat]; omega
    · exact (abu _ _ 0 z0 (by have:=hpl j hj; omega)).2 f h1
  rcases fO i p with h | h | h
  · rw [Nat.max_eq_right (by omega)]
    refine main p hp (amw p h ?_) hfp
    rw [K0 hp,if_neg (by omega)]; exact hx
  · subst h
    rw [Nat.max_self,K0 hp,if_pos rfl,apN,ad7,Bool.or_eq_true]
    refine .inr ?_
    have h0:=rb i hp f
    have h1:1≤Ke (Ke (fun _=>0) (pre (ps.set i (Cw (stZ ps i) f u)) i)) (frs (stZ ps i)) f:=by
      refine (abu _ _ 8388608 (rb i hp) ?_).2 f hx
      have:=hb i hp
      rw [aat]; omega
    have h2:=(abu (frs (stZ ps i)) _ 8388608 (rb i hp) (by have:=hb i hp; rw [aat]; omega)).1
    refine amz _ _ 16777216 f (fun k=>?_) (by simp) (by simp) h1
    have:=h2 k
    have:=rb i hp k
    have:=hb i hp
    rw [aat] at *; omega
  · rw [Nat.max_eq_left (by omega)]
    refine main i hi (amw i h hfp) ?_
    rw [K0 hp,if_neg (by omega)]; exact hx
def ri (f:Nat→List AV):Nat→List AV
  | 0=>[]
  | i+1=>ri f i++f i
theorem Qq {f g:Nat→List AV}:∀ m,(∀ i,i<m→f i=g i)→ri f m=ri g m
  | 0,_=>rfl
  | m+1,h=>by
    show ri f m++f m=ri g m++g m
    rw [Qq m fun i hi=>h i (by omega),h m (by omega)]
theorem ahN {f:Nat→List AV} {sz:Nat}:∀ m,(∀ i,i<m→(f i).length=sz)→(ri f m).length=m*sz
  | 0,_=>by simp [ri]
  | m+1,h=>by
    show (ri f m++f m).length=_
    rw [gt,ahN m fun i hi=>h i (by omega),h m (by omega),Nat.add_mul,Nat.one_mul]
theorem aqm {f:Nat→List AV} {sz:Nat}:∀ (m:Nat),(∀ i,i<m→(f i).length=sz)→∀ j,j<m→((ri f m).drop (j*sz)).take sz=f j
  | 0,_,j,h=>by omega
  | m+1,hf,j,h=>by
    have hl:=ahN m fun i hi=>hf i (by omega)
    show ((ri f m++f m).drop _).take sz=_
    by_cases hj:j=m
    · subst hj
      rw [← hl,List.drop_left, ← hf j (by omega),List.take_length]
    · have:j*sz+sz≤m*sz:=by rw [← Nat.succ_mul]; exact Nat.mul_le_mul_right _ (by omega)
      rw [List.drop_append_of_le_length (by omega),List.take_append_of_le_length (by rw [List.length_drop]; omega)]
      exact aqm m (fun i hi=>hf i (by omega)) j (by omega)
theorem ahK {h:Heap} {v:AV} {sz m:Nat} {f:Nat→List AV} (a:App h v sz m (ri f m)) (hm:m≤1048576) (hf:∀ i,i<m→(f i).length=sz):bI h v sz m f:=by
  refine ⟨by omega,?_⟩
  rcases a with ⟨rfl,h0,_⟩ | ⟨b,rfl,o,hlen,_⟩
  · exact .inl ⟨rfl,h0⟩
  · refine .inr ⟨b,0,0,true,rfl,fun _=>⟨_,o.cl,fun i hi=>⟨?_,?_⟩⟩⟩
    · have:i*sz+sz≤m*sz:=by rw [← Nat.succ_mul]; exact Nat.mul_le_mul_right _ (by omega)
      omega
    · rw [Nat.zero_add]; exact aqm m hf i hi
theorem anr {l:List AV} {off sz:Nat} {f:Nat→List AV}:∀ m,(∀ i,i<m→off+i*sz+sz≤l.length∧(l.drop (off+i*sz)).take sz=f i)→(l.drop off).take (m*sz)=ri f m
  | 0,_=>by simp [ri]
  | m+1,h=>by
    rw [Nat.add_mul,Nat.one_mul,List.take_add,anr m fun i hi=>h i (by omega),List.drop_drop,(h m (by omega)).2]; rfl
theorem ak6 {h:Heap} (hro:h.ro≤h.nx) {v:AV} {sz m:Nat} {f:Nat→List AV} (s:bI h v sz m f) (hm:m≤1048576) (hf:∀ i,i<m→(f i).length=sz) :
    aM (rX h sz .nilslice v) fun v' h'=>App h' v' sz m (ri f m)∧aY h h'∧∀ b,v'.blk=some b→h.nx≤b:=by
  have zero:∀ v,adj v=some 0→aM (rX h sz .nilslice v) fun v' h'=>App h' v' sz 0 (ri f 0)∧aY h h'∧∀ b,v'.blk=some b→h.nx≤b:=by
    intro v hv
    refine ⟨(.nilslice,h),⟨.nil,.refl,(fun b hb=>nomatch hb)⟩,fun k=>?_⟩
    unfold rX
    have:Ch h sz .nilslice v=some (.nilslice,h):=by
      unfold Ch
      rw [hv]; rfl
    rw [this,acH,Bn,It]; rfl
  obtain ⟨_,⟨rfl,rfl⟩ | ⟨b,off,ext,o,rfl,hc⟩⟩:=id s
  · exact zero _ rfl
  · by_cases h0:m=0
    · subst h0; exact zero _ rfl
    · obtain ⟨l,h1,h2⟩:=hc (by omega)
      have hl:=ahN m hf
      have hs:sub l off (m*sz)=some (ri f m):=by
        have:=(h2 (m-1) (by omega)).1
        have e:(m-1)*sz+sz=m*sz:=by rw [← Nat.succ_mul]; congr 1; omega
        rw [nP,if_pos (by rw [List.length_drop]; omega),anr m h2]
      refine aM.mono (Cj hro (App.nil (sz:=sz)) (by omega) h1 hs (by omega)) ?_
      rintro v' h' ⟨a,bl,c⟩
      rw [Nat.zero_add,List.nil_append] at a
      exact ⟨a,c.grow .refl (fun b hb=>nomatch hb),fun b hb=>by rw [bl] at hb; cases hb; exact fY _⟩
theorem aps {n:Nat} {h:Heap} {r:AV} {fs:List (Int × Int)} (s:RdF h r fs) (hn:fs.length<n) (c a:Int):aM (be n r c a h) fun b h'=>h'=h∧((c,a)∈fs→b=true):=by
  unfold be wA rp
  have key:∀ (q i:Nat),i≤fs.length→fs.length-i<q→aM (fun k=>mr n k q r c a (i:Int) h) fun b h'=>h'=h∧((c,a)∈fs.drop i→b=true):=by
    intro q
    induction q with
    | zero=>omega
    | succ q ih=>
      intro i hi hq
      simp only [Pf]
      unfold nI pN
      have hsm:=s.1
      simp only [bI.len s]
      refine aH.ifB (fun e=>?_) fun e=>?_
      · rw [kg,fX] at e
        have hlt:i<fs.length:=by omega
        have hg:fs.getD i (0,0)=fs[i]:=by rw [gh,fU hlt]; rfl
        obtain ⟨a0,h0⟩:=bI.fI s (i:=i) (j:=0) hlt (by omega) (sp_0 ..)
        obtain ⟨a1,h1⟩:=bI.fI s (i:=i) (j:=1) hlt (by omega) (sp_1 ..)
        have hd:fs.drop i=fs[i]::fs.drop (i+1):=gc hlt
        have f2:∀ b:Bool,((c,a)=fs[i]→b=true)→aM (fun k=>mt n k (mr n k q) r c a (i:Int) b h) fun b h'=>h'=h∧((c,a)∈fs.drop i→b=true):=by
          intro b hb
          unfold mt
          refine aH.ifB (fun _=>jL ⟨rfl,fun _=>rfl⟩) fun eb=>?_
          simp only [aB,jq (show i≤9223372036854775806 by omega)]
          refine aH.mono (ih (i+1) (by omega) (by omega)) ?_
          rintro ⟨b',h'⟩ ⟨q1,q2⟩
          refine ⟨q1,fun hm=>q2 ?_⟩
          rw [hd] at hm
          rcases gk.1 hm with h | h
          · have:=hb h; rw [eb] at this; cases this
          · exact h
        simp only [aB,h0,hg]
        refine aH.ifB (fun e1=>?_) fun e1=>f2 false fun h=>?_
        · simp only [aB,h1,hg]
          refine f2 _ fun h=>?_
          rw [← h]; simp
        · rw [← h] at e1; simp at e1
      · rw [kg,f8] at e
        refine jL ⟨rfl,fun h=>?_⟩
        rw [List.drop_eq_nil_of_le (by omega)] at h
        cases h
  have:=key n 0 (by omega) (by omega)
  rw [List.drop_zero] at this
  exact this
theorem max_i (a b:Int) (K:AV→aa):tg true [.int .i64 a,.int .i64 b] K=K (.int .i64 (max a b)):=by
  have:KZ true (.int .i64 a) [.int .i64 b]=some (.int .i64 (max a b)):=by
    show some (AV.int .i64 (if true=true then (if ltF a b=true then b else a) else _))=_
    rw [if_pos rfl,kg]
    by_cases h:a<b
    · rw [if_pos (by simpa using h),show max a b=b by omega]
    · rw [if_neg (by simpa using h),show max a b=a by omega]
  unfold tg
  show oC (KZ true (.int .i64 a) [.int .i64 b]) K=_
  rw [this,yR]
end Go.Proofs.YtpoobhhdgjgdgaaGreat.Sh
