/- Free blocks in their one form: what is free tells the lists; a block given back keeps the form. -/
import Derived.Test.YtlgbmkemfinogaaGreatLUPoolNewLQLaw
set_option linter.all false
namespace Go.Proofs.YtlgbmkemfinogaaGreat.Sh
open Go.Ai
def bud (a:Int) (k:Nat):Int:=if a/2^k%2=0 then a+2^k else a-2^k
structure eX (s:cw):Prop where
  inc:∀ k,k<7→(s.free k).Pairwise (· < ·)
  al:∀ k,k<7→∀ a∈s.free k,0≤a∧a%2^k=0
  np:∀ k,k<6→∀ a∈s.free k,bud a k∉s.free k
  one:∀ x,mult s x≤1
theorem XK {k:Nat} (h:k<7):k=0∨k=1∨k=2∨k=3∨k=4∨k=5∨k=6:=by omega
theorem dyadic {a b x:Int} {k j:Nat} (hj:j<7) (hkj:k≤j) (ha:a%2^k=0) (hb:b%2^j=0) (h1:a≤x) (h2:x<a+2^k) (h3:b≤x) (h4:x<b+2^j):b≤a∧a+2^k≤b+2^j:=by
  rcases XK hj with rfl | rfl | rfl | rfl | rfl | rfl | rfl<;>rcases XK (show k<7 by omega) with rfl | rfl | rfl | rfl | rfl | rfl | rfl<;>first | (exfalso; omega) | (simp only [Int.reducePow] at *; omega)
theorem ad7 {a:Int} {k:Nat} (hk:k<6) (h0:0≤a) (ha:a%2^k=0):0≤bud a k∧bud a k%2^k=0∧bud a k≠a∧bud (bud a k) k=a∧(min a (bud a k))%2^(k+1)=0∧0≤min a (bud a k)∧max a (bud a k)=min a (bud a k)+2^k:=by
  unfold bud
  rcases XK (show k<7 by omega) with rfl | rfl | rfl | rfl | rfl | rfl | rfl
  all_goals first | (exfalso; omega) | skip
  all_goals simp only [Nat.reduceAdd,Int.reducePow] at *
  all_goals split<;>(split<;>omega)
theorem ahm (k:Nat):(1:Int)≤2^k:=by
  have:(0:Int)<2^k:=Int.pow_pos (by decide)
  omega
theorem XQ (s:cw) (x:Int):∀ {m n:Nat},m≤n→ol s x m≤ol s x n
  | m,0,h=>by have:m=0:=by omega
              subst this; exact gp _
  | m,n+1,h=>by
    by_cases e:m=n+1
    · subst e; exact gp _
    · have:=XQ s x (show m≤n by omega); rw [ol]; omega
theorem apA {k:Nat} {l:List Int} {a b x:Int} (ha:a∈l) (hb:b∈l) (hab:a≠b) (h1:a≤x∧x<a+2^k) (h2:b≤x∧x<b+2^k):2≤ru k l x:=by
  induction l with
  | nil=>simp at ha
  | cons c t ih=>
    have e:ru k (c::t) x=ru k t x+if c≤x∧x<c+2^k then 1 else 0:=by
      unfold ru
      rw [List.countP_cons]
      by_cases h:c≤x∧x<c+2^k<;>simp [h]
    rw [e]
    have pos:∀ d,d∈t→d≤x∧x<d+2^k→1≤ru k t x:=fun d hd h=>by
      unfold ru
      exact gN.2 ⟨d,hd,by simpa using h⟩
    rcases gG.1 ha with rfl | ha'
    · rcases gG.1 hb with rfl | hb'
      · exact (hab rfl).elim
      · rw [if_pos h1]; have:=pos b hb' h2; omega
    · rcases gG.1 hb with rfl | hb'
      · rw [if_pos h2]; have:=pos a ha' h1; omega
      · have:=ih ha' hb'; omega
theorem ank {s:cw} {k j:Nat} {a b x:Int} (hk:k<7) (hj:j<7) (ha:a∈s.free k) (hb:b∈s.free j) (h1:a≤x∧x<a+2^k) (h2:b≤x∧x<b+2^j) (hne:¬ (k=j∧a=b)):2≤mult s x:=by
  rw [TL]
  have one:∀ {k j:Nat} {a b:Int},k<j→j<7→a∈s.free k→b∈s.free j→a≤x∧x<a+2^k→b≤x∧x<b+2^j→2≤ol s x 7:=by
    intro k j a b hkj hj ha hb h1 h2
    have m1:=aaA ha h1.1 h1.2 j hkj
    have m2:1≤ru j (s.free j) x:=by
      unfold ru
      exact gN.2 ⟨b,hb,by simpa using h2⟩
    have m3:=XQ s x (show j+1≤7 by omega)
    rw [ol] at m3
    omega
  rcases gc k j with h | h | h
  · exact one h hj ha hb h1 h2
  · subst h
    have m2:=apA ha hb (fun e=>hne ⟨rfl,e⟩) h1 h2
    have m3:=XQ s x (show k+1≤7 by omega)
    rw [ol] at m3
    omega
  · exact one h hk hb ha h2 h1
theorem acF {s:cw} {x:Int}:∀ n,1≤ol s x n→∃ k,k<n∧∃ a∈s.free k,a≤x∧x<a+2^k
  | 0,h=>by simp [ol] at h
  | n+1,h=>by
    rw [ol] at h
    by_cases e:1≤ol s x n
    · obtain ⟨k,hk,r⟩:=acF n e
      exact ⟨k,by omega,r⟩
    · have:0<ru n (s.free n) x:=by omega
      unfold ru at this
      obtain ⟨a,ha,h2⟩:=gN.1 this
      exact ⟨n,by omega,a,ha,by simpa using h2⟩
theorem eX.full {s:cw} (v:eX s):∀ k,k<7→∀ a:Int,0≤a→a%2^k=0→(∀ x,a≤x→x<a+2^k→1≤mult s x)→∃ j,k≤j∧j<7∧∃ b∈s.free j,b≤a∧a+2^k≤b+2^j
  | 0,_,a,h0,_,h=>by
    have:=h a (gJ _) (by simp; omega)
    rw [TL] at this
    obtain ⟨j,hj,b,hb,h1,h2⟩:=acF 7 this
    exact ⟨j,by omega,hj,b,hb,h1,by simp; omega⟩
  | k+1,hk,a,h0,hal,h=>by
    have hp:(2:Int)^(k+1)=2^k+2^k:=by rw [Int.pow_succ]; omega
    have hpp:=ahm k
    have hal1:a%2^k=0∧(a+2^k)%2^k=0∧a/2^k%2=0:=by
      rcases XK (show k<7 by omega) with rfl | rfl | rfl | rfl | rfl | rfl | rfl<;>(simp only [Nat.reduceAdd,Int.reducePow] at *; omega)
    obtain ⟨j1,i1,i2,b1,i3,i4,i5⟩:=v.full k (by omega) a h0 hal1.1 fun x h1 h2=>h x h1 (by omega)
    obtain ⟨j2,u1,u2,b2,u3,u4,u5⟩:=v.full k (by omega) (a+2^k) (by omega) hal1.2.1 fun x h1 h2=>h x (by omega) (by omega)
    by_cases e1:k+1≤j1
    · have:=dyadic i2 e1 hal (v.al j1 i2 b1 i3).2 (gJ a) (by omega) i4 (by omega)
      exact ⟨j1,e1,i2,b1,i3,this⟩
    · by_cases e2:k+1≤j2
      · have:=dyadic (x:=a+2^k) u2 e2 hal (v.al j2 u2 b2 u3).2 (by omega) (by omega) u4 (by omega)
        exact ⟨j2,e2,u2,b2,u3,this⟩
      · exfalso
        obtain rfl:j1=k:=by omega
        obtain rfl:j2=j1:=by omega
        have ea:b1=a:=by omega
        have eb:b2=a+2^j2:=by omega
        subst ea eb
        refine v.np j2 (by omega) b1 i3 ?_
        unfold bud
        rw [if_pos hal1.2.2]
        exact u3
theorem eX.sub {s s':cw} (v:eX s) (v':eX s') (h:∀ x,mult s x=mult s' x) {k:Nat} (hk:k<7) {a:Int} (ha:a∈s.free k):a∈s'.free k:=by
  obtain ⟨a0,a1⟩:=v.al k hk a ha
  have hp:=ahm k
  obtain ⟨j,j1,j2,b,b1,b2,b3⟩:=v'.full k hk a a0 a1 fun x h1 h2=>by
    rw [← h x]; exact Sl hk ha h1 h2
  obtain ⟨c0,c1⟩:=v'.al j j2 b b1
  obtain ⟨i,i1,i2,c,d1,d2,d3⟩:=v.full j j2 b c0 c1 fun x h1 h2=>by
    rw [h x]; exact Sl j2 b1 h1 h2
  have hone:k=i∧a=c:=by
    by_cases e:k=i∧a=c
    · exact e
    · have:=ank (x:=a) hk i2 ha d1 ⟨gJ a,by omega⟩ ⟨by omega,by omega⟩ e
      have:=v.one a
      omega
  obtain ⟨rfl,rfl⟩:=hone
  obtain rfl:j=k:=by omega
  have:b=a:=by omega
  rw [← this]; exact b1
theorem eX.uniq {s s':cw} (v:eX s) (v':eX s') (h:∀ x,mult s x=mult s' x) {k:Nat} (hk:k<7):s.free k=s'.free k:=by
  have hp:(s.free k).Perm (s'.free k):=by
    refine (List.perm_ext_iff_of_nodup ((v.inc k hk).imp fun h=>Int.ne_of_lt h) ((v'.inc k hk).imp fun h=>Int.ne_of_lt h)).2 fun a=>⟨fun ha=>v.sub v' h hk ha,fun ha=>v'.sub v (fun x=>(h x).symm) hk ha⟩
  exact hp.eq_of_pairwise (fun a b _ _ h1 h2=>by omega) (v.inc k hk) (v'.inc k hk)
theorem eX.take {s:cw} {o k:Nat} {a:Int} {rest:List Int} (v:eX s) (hok:o≤k) (hk:k<7) (hx:s.free k=a::rest) (hemp:∀ j,o≤j→j<k→s.free j = []):eX (uv s o k o a rest):=by
  have fr:∀ n,(uv s o k o a rest).free n=if n=k then rest else if o≤n∧n<k then [a+2^n] else s.free n:=fun n=>rfl
  obtain ⟨a0,a1⟩:=v.al k hk a (by rw [hx]; exact gM ..)
  refine ⟨fun n hn=>?_,fun n hn c hc=>?_,fun n hn c hc=>?_,fun x=>?_⟩
  · rw [fr]
    by_cases e1:n=k
    · rw [if_pos e1]
      have:=v.inc k hk
      rw [hx] at this
      exact (fX.1 this).2
    · rw [if_neg e1]
      by_cases e2:o≤n∧n<k
      · rw [if_pos e2]; simp
      · rw [if_neg e2]; exact v.inc n hn
  · rw [fr] at hc
    by_cases e1:n=k
    · rw [if_pos e1] at hc
      subst e1
      exact v.al n hn c (by rw [hx]; exact f0 _ hc)
    · rw [if_neg e1] at hc
      by_cases e2:o≤n∧n<k
      · rw [if_pos e2] at hc
        simp at hc
        subst hc
        have:=ahm n
        refine ⟨by omega,?_⟩
        obtain ⟨_,e3⟩:=e2
        rcases XK hk with rfl | rfl | rfl | rfl | rfl | rfl | rfl<;>rcases XK (show n<7 by omega) with rfl | rfl | rfl | rfl | rfl | rfl | rfl<;>first | (exfalso; omega) | (simp only [Int.reducePow] at *; omega)
      · rw [if_neg e2] at hc
        exact v.al n hn c hc
  · rw [fr] at hc ⊢
    by_cases e1:n=k
    · rw [if_pos e1] at hc ⊢
      subst e1
      intro hb
      exact v.np n hn c (by rw [hx]; exact f0 _ hc) (by rw [hx]; exact f0 _ hb)
    · rw [if_neg e1] at hc ⊢
      by_cases e2:o≤n∧n<k
      · rw [if_pos e2] at hc ⊢
        simp at hc
        subst hc
        simp only [List.mem_singleton]
        have hne:(a+2^n)%2^n=0:=by
          obtain ⟨_,e3⟩:=e2
          rcases XK hk with rfl | rfl | rfl | rfl | rfl | rfl | rfl<;>rcases XK (show n<7 by omega) with rfl | rfl | rfl | rfl | rfl | rfl | rfl<;>first | (exfalso; omega) | (simp only [Int.reducePow] at *; omega)
        have:=ahm n
        exact (ad7 hn (by omega) hne).2.2.1
      · rw [if_neg e2] at hc ⊢
        exact v.np n hn c hc
  · have h1:=ad6 hok hk hx hemp x
    have h2:=v.one x
    omega
end Go.Proofs.YtlgbmkemfinogaaGreat.Sh
/- A new buddy is in the one form; a block put in, a block out. -/
namespace Go.Proofs.YtlgbmkemfinogaaGreat.Sh
open Go.Ai
theorem eX.new {n o:Nat} {s:cw} (mk:dx n n o s):eX s:=by
  refine ⟨mk.ninc,fun k hk a ha=>⟨(mk.hs k hk a ha).1,(mk.nfr k hk a ha).1⟩,fun k hk a ha hb=>?_,fun x=>?_⟩
  · have hl:=mk.nsm k hk
    have h0:=(mk.hs k (by omega) a ha).1
    have hne:=(ad7 hk h0 (mk.nfr k (by omega) a ha).1).2.2.1
    match hq:s.free k,ha,hb,hl with
    | [],ha,_,_=>simp at ha
    | [c],ha,hb,_=>
      simp at ha hb
      rw [ha] at hne hb
      exact hne hb
    | _::_::_,_,_,hl=>simp at hl
  · rw [mk.hm]; split<;>omega
theorem aid (s:cw) (k:Nat) (l:List Int) (x:Int):∀ n,ol { s with free:=upd s.free k l } x n+(if k<n then ru k (s.free k) x else 0)=ol s x n+if k<n then ru k l x else 0
  | 0=>by simp [ol]
  | n+1=>by
    have ih:=aid s k l x n
    rw [ol,ol]
    show _+ru n (upd s.free k l n) x+_=_
    by_cases e:n=k
    · subst e
      rw [jY,if_pos (by omega),if_pos (by omega)]
      rw [if_neg (by omega),if_neg (by omega)] at ih
      omega
    · rw [jL _ _ e]
      by_cases h:k<n
      · rw [if_pos (by omega),if_pos (by omega)]
        rw [if_pos h,if_pos h] at ih
        omega
      · rw [if_neg (by omega),if_neg (by omega)]
        rw [if_neg h,if_neg h] at ih
        omega
theorem alW (s:cw) {k:Nat} (hk:k<7) (l:List Int) (x:Int):mult { s with free:=upd s.free k l } x+ru k (s.free k) x=mult s x+ru k l x:=by
  have:=aid s k l x 7
  rw [if_pos hk,if_pos hk] at this
  rw [TL,TL]; exact this
theorem aeA (s:cw) (k:Nat) (l:List Int):∀ n,lR { s with free:=upd s.free k l } n+(if k<n then (s.free k).length*2^k else 0)=lR s n+if k<n then l.length*2^k else 0
  | 0=>by simp [lR]
  | n+1=>by
    have ih:=aeA s k l n
    rw [lR,lR]
    show _+(upd s.free k l n).length*_+_=_
    by_cases e:n=k
    · subst e
      rw [jY,if_pos (by omega),if_pos (by omega)]
      rw [if_neg (by omega),if_neg (by omega)] at ih
      omega
    · rw [jL _ _ e]
      by_cases h:k<n
      · rw [if_pos (by omega),if_pos (by omega)]
        rw [if_pos h,if_pos h] at ih
        omega
      · rw [if_neg (by omega),if_neg (by omega)]
        rw [if_neg h,if_neg h] at ih
        omega
theorem ajo {s:cw}:∀ {n k:Nat},k<n→(s.free k).length≤lR s n
  | 0,k,h=>by omega
  | n+1,k,h=>by
    rw [lR]
    by_cases e:k=n
    · subst e
      have:(s.free k).length*1≤(s.free k).length*2^k:=Nat.mul_le_mul_left _ Nat.one_le_two_pow
      omega
    · have:=ajo (s:=s) (show k<n by omega); omega
theorem anB (l:List Int) (i:Nat) (a:Int):(BK l i a).Perm (a::l):=by
  unfold BK
  have h:=(List.perm_middle (a:=a) (l₁:=l.take i) (l₂:=l.drop i))
  rwa [List.take_append_drop] at h
theorem ahQ {k:Nat} {l l':List Int} (h:l.Perm l') (x:Int):ru k l x=ru k l' x:=h.countP_eq _
theorem nz_mem {l:List Int} {c:Int} (h:c∈l):∃ j,j<l.length∧nz l j=c:=by
  obtain ⟨j,hj,rfl⟩:=List.mem_iff_getElem.1 h
  exact ⟨j,hj,nQ hj⟩
theorem ao5 {l:List Int} {a:Int} {i:Nat} (hl:l.Pairwise (· < ·)) (hn:a∉l) (hs:aaX l a i):(BK l i a).Pairwise (· < ·):=by
  obtain ⟨hi,hs⟩:=hs
  obtain ⟨h1,h2⟩:=hs hl
  have ht:∀ c∈l.take i,c<a:=fun c hc=>by
    obtain ⟨j,hj,rfl⟩:=List.mem_iff_getElem.1 hc
    simp at hj
    rw [List.getElem_take, ← nQ (show j<l.length by omega)]
    exact h1 j (by omega)
  have hd:∀ c∈l.drop i,a<c:=fun c hc=>by
    have hm:c∈l:=List.mem_of_mem_drop hc
    obtain ⟨j,hj,rfl⟩:=List.mem_iff_getElem.1 hc
    simp at hj
    have h3:=h2 (i+j) (by omega) (by omega)
    rw [nQ (by omega)] at h3
    rw [List.getElem_drop] at hm ⊢
    have:l[i+j]≠a:=fun e=>hn (by rw [← e]; exact hm)
    omega
  unfold BK
  refine List.pairwise_append.2 ⟨hl.sublist (List.take_sublist _ _),fX.2 ⟨hd,hl.sublist (List.drop_sublist _ _)⟩,fun c hc d hd'=>?_⟩
  rcases gG.1 hd' with rfl | hd'
  · exact ht c hc
  · exact Int.lt_trans (ht c hc) (hd d hd')
structure GivenS (s:cw) (a:Int) (o:Nat) (s':cw):Prop where
  norm:eX s'
  n:s'.n=s.n
  fG:s'.fG=s.fG
  mult:∀ x,Sh.mult s' x=Sh.mult s x+inB a x o
  sum:lR s' 7=lR s 7+2^o
theorem eX.put {s:cw} (v:eX s) {k:Nat} (hk:k<7) {a:Int} (h0:0≤a) (hal:a%2^k=0) (hf:∀ x,a≤x→x<a+2^k→mult s x=0) (hb:k<6→bud a k∉s.free k) {i:Nat} (hs:aaX (s.free k) a i) :
    GivenS s a k { s with free:=upd s.free k (BK (s.free k) i a) }:=by
  have hp:=anB (s.free k) i a
  have hpp:=ahm k
  have hn:a∉s.free k:=fun hm=>by
    have:=Sl hk hm (gJ a) (by omega)
    have:=hf a (gJ a) (by omega)
    omega
  have hm:∀ x,mult { s with free:=upd s.free k (BK (s.free k) i a) } x=mult s x+inB a x k:=fun x=>by
    have h1:=alW s hk (BK (s.free k) i a) x
    have h2:ru k (BK (s.free k) i a) x=ru k (s.free k) x+inB a x k:=by
      rw [ahQ hp,TQ]
    omega
  refine ⟨⟨fun j hj=>?_,fun j hj c hc=>?_,fun j hj c hc=>?_,fun x=>?_⟩,rfl,rfl,hm,?_⟩
  · show (upd s.free k (BK (s.free k) i a) j).Pairwise _
    by_cases e:j=k
    · subst e; rw [jY]; exact ao5 (v.inc j hj) hn hs
    · rw [jL _ _ e]; exact v.inc j hj
  · have hc':c∈upd s.free k (BK (s.free k) i a) j:=hc
    by_cases e:j=k
    · subst e
      rw [jY,hp.mem_iff,gG] at hc'
      rcases hc' with rfl | h
      · exact ⟨h0,hal⟩
      · exact v.al j hj c h
    · rw [jL _ _ e] at hc'; exact v.al j hj c hc'
  · have hc':c∈upd s.free k (BK (s.free k) i a) j:=hc
    show bud c j∉upd s.free k (BK (s.free k) i a) j
    by_cases e:j=k
    · subst e
      rw [jY,hp.mem_iff,gG] at hc' ⊢
      intro hbad
      rcases hc' with rfl | h
      · rcases hbad with hbad | hbad
        · exact (ad7 hj h0 hal).2.2.1 hbad
        · exact hb hj hbad
      · obtain ⟨c0,c1⟩:=v.al j hk c h
        rcases hbad with hbad | hbad
        · have:=(ad7 hj c0 c1).2.2.2.1
          rw [hbad] at this
          exact hb hj (by rw [this]; exact h)
        · exact v.np j hj c h hbad
    · rw [jL _ _ e] at hc' ⊢; exact v.np j hj c hc'
  · rw [hm]
    unfold inB
    split
    · rename_i h; rw [hf x h.1 h.2]; omega
    · have:=v.one x; omega
  · have h1:=aeA s k (BK (s.free k) i a) 7
    rw [if_pos hk,if_pos hk,hp.length_eq,List.length_cons,Nat.add_mul] at h1
    omega
theorem Re {l:List Int} {i:Nat} (hi:i<l.length):l.Perm (nz l i::l.eraseIdx i):=by
  have h:=(List.perm_middle (a:=nz l i) (l₁:=l.take i) (l₂:=l.drop (i+1)))
  rw [List.eraseIdx_eq_take_drop_succ]
  refine List.Perm.trans ?_ h
  rw [nQ hi,List.getElem_cons_drop,List.take_append_drop]
theorem eX.del {s:cw} (v:eX s) {k:Nat} (hk:k<7) {i:Nat} (hi:i<(s.free k).length) :
    eX { s with free:=upd s.free k ((s.free k).eraseIdx i) }∧(∀ x,mult { s with free:=upd s.free k ((s.free k).eraseIdx i) } x+inB (nz (s.free k) i) x k=mult s x)∧lR { s with free:=upd s.free k ((s.free k).eraseIdx i) } 7+2^k=lR s 7:=by
  have hp:=Re hi
  have hsub:((s.free k).eraseIdx i).Sublist (s.free k):=List.eraseIdx_sublist _ _
  have hm:∀ x,mult { s with free:=upd s.free k ((s.free k).eraseIdx i) } x+inB (nz (s.free k) i) x k=mult s x:=fun x=>by
    have h1:=alW s hk ((s.free k).eraseIdx i) x
    have h2:ru k (s.free k) x=ru k ((s.free k).eraseIdx i) x+inB (nz (s.free k) i) x k:=by
      rw [ahQ hp,TQ]
    omega
  refine ⟨⟨fun j hj=>?_,fun j hj c hc=>?_,fun j hj c hc=>?_,fun x=>?_⟩,hm,?_⟩
  · show (upd s.free k _ j).Pairwise _
    by_cases e:j=k
    · subst e; rw [jY]; exact (v.inc j hj).sublist hsub
    · rw [jL _ _ e]; exact v.inc j hj
  · have hc':c∈upd s.free k ((s.free k).eraseIdx i) j:=hc
    by_cases e:j=k
    · subst e; rw [jY] at hc'; exact v.al j hj c (hsub.subset hc')
    · rw [jL _ _ e] at hc'; exact v.al j hj c hc'
  · have hc':c∈upd s.free k ((s.free k).eraseIdx i) j:=hc
    show bud c j∉upd s.free k ((s.free k).eraseIdx i) j
    by_cases e:j=k
    · subst e
      rw [jY] at hc' ⊢
      exact fun h=>v.np j hj c (hsub.subset hc') (hsub.subset h)
    · rw [jL _ _ e] at hc' ⊢; exact v.np j hj c hc'
  · have:=hm x; have:=v.one x; omega
  · have h1:=aeA s k ((s.free k).eraseIdx i) 7
    have hl:((s.free k).eraseIdx i).length+1=(s.free k).length:=by rw [List.length_eraseIdx_of_lt hi]; omega
    rw [if_pos hk,if_pos hk, ← hl,Nat.add_mul] at h1
    omega
theorem apR {a:Int} {k:Nat} (ha:0≤a∧a<4096) (hk:k<7):IntKind.i64.wrap (BitVec.ofInt 64 a ^^^ BitVec.ofInt 64 (2^k)).toNat=bud a k:=by
  have h:(List.range 4096).all (fun a=>(List.range 7).all fun k=>decide (IntKind.i64.wrap (BitVec.ofInt 64 (a:Int) ^^^ BitVec.ofInt 64 (2^k)).toNat=bud (a:Int) k))=true:=by decide +kernel
  obtain ⟨n,rfl⟩:=gE ha.1
  have h1:=gW.1 h n (gS.2 (by omega))
  have h2:=gW.1 h1 k (gS.2 hk)
  exact of_decide_eq_true h2
end Go.Proofs.YtlgbmkemfinogaaGreat.Sh
/- A block given back: the buddy's code. -/
namespace Go.Proofs.YtlgbmkemfinogaaGreat.Sh
open Go.Ai
theorem bitK_bud {a:Int} {k:Nat} (ha:0≤a∧a<4096) (hk:k<7) (c:Int→ab):aa3 .xor .i64 a (2^k) c=c (bud a k):=by
  have h:aa3 .xor .i64 a (2^k) c=c (IntKind.i64.wrap (BitVec.ofInt 64 a ^^^ BitVec.ofInt 64 (2^k)).toNat):=by
    show oC (some _) _=_
    rw [pX,qZ]; rfl
  rw [h,apR ha hk]
theorem min_K (a b:Int) (c:AV→ab):NJ false [.int .i64 a,.int .i64 b] c=c (.int .i64 (min a b)):=by
  have h:Qt false (.int .i64 a) [.int .i64 b]=some (.int .i64 (if ltF b a then b else a)):=rfl
  show oC (Qt false (.int .i64 a) [.int .i64 b]) c=_
  rw [h,pX,nw]
  congr 2
  by_cases e:b<a
  · simp [e]; omega
  · simp [e]; omega
def xJ (k:Int):List (Int × Int)→List (Int × Int)
  | []=>[]
  | e::t=>if k=e.1 then t else e::xJ k t
theorem ao9 (q:IntKind) (k:Int):∀ kv:List (Int × Int),ahq (.cell .int) (.int .i64 k) (kv.map fun e=>(AV.int .i64 e.1,AV.int q e.2))=some ((xJ k kv).map fun e=>(AV.int .i64 e.1,AV.int q e.2)):=by
  intro kv
  induction kv with
  | nil=>rfl
  | cons e t ih=>
    show (Option.casesOn (qM (.cell .int) (.int .i64 k) (.int .i64 e.1)) none fun b=>Bool.casesOn b (Option.casesOn (ahq (.cell .int) (.int .i64 k) (t.map fun e=>(AV.int .i64 e.1,AV.int q e.2))) none fun t'=>some ((AV.int .i64 e.1,AV.int q e.2)::t')) (some (t.map fun e=>(AV.int .i64 e.1,AV.int q e.2))):Option _)=_
    have hk:qM (.cell .int) (.int .i64 k) (.int .i64 e.1)=some (k==e.1):=by
      show some (eqF k e.1)=_
      rw [wy]
    rw [hk,ih]
    dsimp only
    by_cases h:k=e.1
    · have:(k==e.1)=true:=by simp [h]
      rw [this]
      simp [xJ,h]
    · have:(k==e.1)=false:=by simp [h]
      rw [this]
      simp [xJ,h]
theorem alL {h:Heap} {b:Nat} {q:IntKind} {kv:List (Int × Int)} (a:ft h b q kv) (k:Int) :
    dz (PE h (.cell .int) (.map b) (.int .i64 k)) fun h'=>ft h' b q (xJ k kv)∧Chg (· = b) h h':=by
  refine ⟨h.set b (.mp ((xJ k kv).map fun e=>(AV.int .i64 e.1,AV.int q e.2))),⟨⟨by simpa using a.lt,by simpa using a.ro,Heap.fN ..⟩,⟨by simp,by simp,fun c _ hc=>Heap.fM _ (fun e=>hc e.symm) _⟩⟩,fun c=>?_⟩
  unfold PE alz
  have h1:Nat.blt b h.ro=false:=by rw [blt_eq]; simp; exact a.ro
  have h2:uw h b=some (kv.map fun e=>(AV.int .i64 e.1,AV.int q e.2)):=by unfold uw; rw [a.get]
  have h3:qM (.cell .int) (.int .i64 k) (.int .i64 k)=some (k==k):=by
    show some (eqF k k)=_
    rw [wy]
  rw [h3]
  dsimp only
  rw [h1,h2]
  dsimp only
  rw [ao9]
  dsimp only
  rw [Heap.fO,pX]; rfl
theorem aoB {a:Int} {k:Nat} (hk:k<6) (h0:0≤a) (ha:a%2^k=0) (x:Int):inB (min a (bud a k)) x (k+1)=inB a x k+inB (bud a k) x k:=by
  obtain ⟨_,_,hne,_,_,_,hmax⟩:=ad7 hk h0 ha
  have h:=amP (min a (bud a k)) x k
  by_cases e:a≤bud a k
  · rw [Int.min_eq_left e] at h hmax ⊢
    rw [Int.max_eq_right e] at hmax
    rw [← hmax] at h; omega
  · rw [Int.min_eq_right (by omega)] at h hmax ⊢
    rw [Int.max_eq_left (by omega)] at hmax
    rw [← hmax] at h; omega
theorem BS_found {l:List Int} {x:Int} {i:Nat} (hl:l.Pairwise (· < ·)) (hs:aaX l x i) (hd:¬ (i<l.length∧nz l i=x)):x∉l:=by
  intro hm
  obtain ⟨hi,hs⟩:=hs
  obtain ⟨h1,h2⟩:=hs hl
  obtain ⟨j,hj,e⟩:=nz_mem hm
  have hji:i≤j:=by
    rcases ge j i with h | h
    · have:=h1 j h; omega
    · exact h
  have h3:=h2 i (gp _) (by omega)
  have h4:=akN hl hji hj
  exact hd ⟨by omega,by omega⟩
theorem api {n:Nat} (hn:70000<n) {p m:Nat} (f1):∀ (q o:Nat) (a:Int) (h:Heap) (v:Nat→AV) (s:cw),h.ro≤h.nx→eX s→dk h p m v s→lR s 7+2^o≤70000→0≤a∧a<4096→a%2^o=0→(∀ x,a≤x→x<a+2^o→mult s x=0)→o≤6→6-o<q→
    aJ (fun k=>rD n f1 (bB n) (bC n) (bR n) k q (.ptr p 0) a (o:Int) h) fun r h'=>r=0∧∃ v' s',dk h' p m v' s'∧GivenS s a o s'∧(∀ j,j<7→∀ c,(v' j).blk=some c→(v j).blk=some c∨h.nx≤c)∧Chg (fpB p m v) h h':=by
  intro q
  induction q with
  | zero=>omega
  | succ q ih=>
    intro o a h v s hro nm b hfn ha hal hfree ho hq
    simp only [Vn]
    unfold rt rE
    have hk:o<7:=by omega
    have hlen:(s.free o).length≤70000:=gu (ajo (s:=s) hk) (gu (Nat.le_add_right _ _) hfn)
    have stop:(o<6→bud a o∉s.free o)→aJ (fun (k:Int→Heap→ab)=>bR n (.ptr p 0) a (o:Int) h fun h10=>k 0 h10) fun r h'=>r=0∧∃ v' s',dk h' p m v' s'∧GivenS s a o s'∧(∀ j,j<7→∀ c,(v' j).blk=some c→(v j).blk=some c∨h.nx≤c)∧Chg (fpB p m v) h h':=by
      intro hb
      refine dz.bind (v_put hro b hk (by omega) (by omega) a) ?_
      rintro h10 ⟨y,i,hs,b',hy,c⟩
      refine mQ ⟨rfl,_,_,b',nm.put hk ha.1 hal hfree hb hs,fun j hj d e=>?_,c⟩
      by_cases e1:j=o
      · subst e1; rw [jY] at e; exact .inr (hy d e)
      · rw [jL _ _ e1] at e; exact .inl e
    refine aR.ifB (fun e=>?_) fun e=>stop fun h=>by simp at e; omega
    simp at e
    have ho6:o<6:=by omega
    obtain ⟨p1,p2,p3⟩:=Yz hk
    obtain ⟨u1,u2,u3,u4,u5,u6,u7⟩:=ad7 ho6 ha.1 hal
    simp only [au,ND (gd o),p1,bitK_bud ha hk,DC hk,iR b.own.cl,Yj _ _ _ hk]
    refine dY.bind (v_BS (b.lst o hk).ints (by omega) (by omega) (bud a o)) ?_
    rintro _ bb h18 ⟨rfl,i,rfl,hs,rfl⟩
    refine aR.ifB (fun hd=>?_) fun hd=>?_
    · simp at hd
      exact stop fun _=>BS_found (nm.inc o hk) hs fun hh=>by
        rcases hd with hd | hd
        · omega
        · exact hd hh.2
    · simp at hd
      obtain ⟨hi,hnz⟩:=hd
      simp only [au,DC hk,iR b.own.cl,Yj _ _ _ hk,kP (show i≤9223372036854775806 by omega)]
      refine aJ.bind (al8 (b.lst o hk) hi) ?_
      rintro y h24 ⟨l24,b24,c24⟩
      have o24:Own h24 p (VS s.n v m) 0:=c24.own b.own fun e'=>(b.lst o hk).ne b.own e' rfl
      refine dz.bind (wd o24 (by show 2+o<10; omega) (by rcases l24 with ⟨rfl,_⟩ | ⟨d,e',r,rfl,_⟩<;>rfl)) ?_
      intro h27 p27
      obtain ⟨b27,c27⟩:=b.row hk c24 l24 (fun c e'=>.inl (by rw [← b24]; exact e')) p27
      obtain ⟨d1,d2,d3⟩:=nm.del hk hi
      rw [hnz] at d2
      have hsum:lR { s with free:=upd s.free o ((s.free o).eraseIdx i) } 7+2^(o+1)≤70000:=by rw [Nat.pow_succ]; omega
      have w1:IntKind.i64.wrap ((o:Int)+1)=((o+1:Nat):Int):=kP (by omega)
      simp only [au,min_K,w1]
      have hfree':∀ x,min a (bud a o)≤x→x<min a (bud a o)+2^(o+1)→mult { s with free:=upd s.free o ((s.free o).eraseIdx i) } x=0:=by
        intro x h1 h2
        have h3:=d2 x
        have h4:=aoB ho6 ha.1 hal x
        have h5:inB (min a (bud a o)) x (o+1)=1:=by unfold inB; rw [if_pos ⟨h1,h2⟩]
        by_cases h6:a≤x∧x<a+2^o
        · have:=hfree x h6.1 h6.2; omega
        · have h7:inB a x o=0:=by unfold inB; rw [if_neg h6]
          have h8:=nm.one x
          omega
      refine aR.mono (ih (o+1) (min a (bud a o)) h27 _ _ (c27.le hro) d1 b27 hsum ⟨u6,by omega⟩ u5 hfree' (by omega) (by omega)) ?_
      rintro ⟨r,h'⟩ ⟨r1,v',s',r2,r3,r4,r5⟩
      refine ⟨r1,v',s',r2,⟨r3.norm,r3.n,r3.fG,fun x=>?_,?_⟩,fun j hj c e=>?_,?_⟩
      · have h1:=r3.mult x
        have h2:=d2 x
        have h3:=aoB ho6 ha.1 hal x
        omega
      · have h1:=r3.sum
        rw [Nat.pow_succ] at h1
        omega
      · rcases r4 j hj c e with h1 | h1
        · by_cases e1:j=o
          · subst e1; rw [jY,b24] at h1; exact .inl h1
          · rw [jL _ _ e1] at h1; exact .inl h1
        · exact .inr (gu c27.nx h1)
      · refine c27.trans (r5.mono fun c hc1 hc2=>?_)
        have hsub:∀ c,fpB p m (upd v o y) c→fpB p m v c:=fun c hc=>by
          rcases hc with h1 | h1 | ⟨j,hj,h1⟩
          · exact .inl h1
          · exact .inr (.inl h1)
          · by_cases e1:j=o
            · subst e1; rw [jY,b24] at h1; exact .inr (.inr ⟨j,hj,h1⟩)
            · rw [jL _ _ e1] at h1; exact .inr (.inr ⟨j,hj,h1⟩)
        exact hsub c hc2
end Go.Proofs.YtlgbmkemfinogaaGreat.Sh
/- Small functions of the statements; what a pool tells: counts, and what is owned. -/
namespace Go.Proofs.YtlgbmkemfinogaaGreat.Sh
open Go.Ai
theorem ajy {h:Heap} {b:Nat} {q:IntKind} {kv:List (Int × Int)} (a:ft h b q kv) (c:Int→ab):aih h (.map b) c=c kv.length:=by
  unfold aih
  have:ajT h (.map b)=some (kv.map fun e=>(AV.int .i64 e.1,AV.int q e.2)):=by
    show uw h b=_
    unfold uw; rw [a.get]
  rw [this,pX,nd,mU,gR]; rfl
def N2 (z:bf):List AV:=[.int .i64 (z.fF 0),.int .i64 (z.fF 1),.int .i64 (z.fF 2),.int .i64 (z.fF 3),.int .i64 (z.fF 4),.int .i64 (z.fF 5),.int .i64 (z.fF 6)]
theorem ahD (z:bf) (vm vb:AV) (mu:Nat):(zw z vm vb mu)[12]?=some (.map mu):=rfl
theorem ano (z:bf) (vm vb:AV) (mu:Nat):sub (zw z vm vb mu) 13 7=some (N2 z):=by rw [pN]; rfl
theorem al4 {l:List AV} (hl:l.length=7):sub l 0 7=some l:=by rw [pN,List.drop_zero,if_pos (by omega), ← hl,List.take_length]
theorem v_Counts {n:Nat} {h:Heap} (hro:h.ro≤h.nx) {w:bX} {z:bf} (b:bF h w z) (ht:0≤z.total∧z.total≤65536) (hu:z.uses.length≤1000000) :
    aJ (dt n (.ptr w.p 0) h) fun r h'=>r = .agg ((N2 z).set 0 (.int .i64 (z.total-z.uses.length)))∧bo h h':=by
  unfold dt DY w6
  refine aJ.bind (aeY hro _ 0) ?_
  rintro x0 h1 ⟨hx0,o0,g1⟩
  have b1:=b.grow g1
  simp only [au,O6 b1,Bool.not_true,iR b1.own.cl,ano]
  have hro1:=g1.le hro
  refine aJ.bind (aeY hro1 _ 0) ?_
  rintro x9 h10 ⟨hx9,o9,g10⟩
  refine dz.bind (Yu o9 (cs:=N2 z) rfl (by simp [N2])) ?_
  intro h11 p11
  rw [VU (N2 z) _ (by rfl)] at p11
  have g11:bo h1 h11:=p11.grow g10 hx9
  have b11:=b1.grow g11
  have w1:IntKind.i64.wrap (z.total-(z.uses.length:Int))=z.total-z.uses.length:=mP (by omega) (by omega)
  have i0:∀ c,FY 1 7 (.ptr x9 0) 0 c=c (.ptr x9 (0+0)):=fun c=>DC (n:=7) (k:=0) (by omega) c
  simp only [au,iR b11.own.cl,pool_10,ahD,ajy b11.uses,w1,i0]
  refine dz.bind (wd p11.own (by simp [N2]) rfl) ?_
  intro h19 p19
  have o19:=p19.own
  have l19:((N2 z).set 0 (.int .i64 (z.total-(z.uses.length:Int)))).length=7:=rfl
  simp only [au,iR o19.cl,al4 l19]
  have g19:bo h1 h19:=p19.grow g11 hx9
  refine dz.bind (Yu (o0.grow g19) l19 (by simp)) ?_
  intro h21 p21
  rw [VU _ _ (by rw [l19]; rfl)] at p21
  simp only [au,iR p21.own.cl,al4 l19]
  exact mQ ⟨rfl,p21.grow (g1.trans g19) hx0⟩
theorem ajs {q:IntKind} {k x:Int}:∀ {kv:List (Int × Int)},(kv.map (·.1)).Nodup→(k,x)∈kv→Pc (.cell .int) (.int .i64 k) (kv.map fun e=>(AV.int .i64 e.1,AV.int q e.2))=some (some (.int q x))
  | [],_,h=>by simp at h
  | e::t,hn,h=>by
    rw [List.map_cons,List.nodup_cons] at hn
    have hk:qM (.cell .int) (.int .i64 k) (.int .i64 e.1)=some (k==e.1):=by
      show some (eqF k e.1)=_
      rw [wy]
    show (Option.casesOn (qM (.cell .int) (.int .i64 k) (.int .i64 e.1)) none fun b=>Bool.casesOn b (Pc (.cell .int) (.int .i64 k) (t.map fun e=>(AV.int .i64 e.1,AV.int q e.2))) (some (some (.int q e.2))):Option (Option AV))=_
    rw [hk]
    rcases gG.1 h with h | h
    · subst h
      simp
    · have hne:k≠e.1:=fun e'=>hn.1 (by rw [← e']; exact fY.2 ⟨_,h,rfl⟩)
      have:(k==e.1)=false:=by simp [hne]
      rw [this]
      exact ajs hn.2 h
theorem abc {h:Heap} {b:Nat} {q:IntKind} {kv:List (Int × Int)} (a:ft h b q kv) (hn:(kv.map (·.1)).Nodup) {k x:Int} (hm:(k,x)∈kv) (z:AV) (c:AV→Bool→ab):xk h (.cell .int) z (.map b) (.int .i64 k) c=c (.int q x) true:=by
  unfold xk
  have h1:ajT h (.map b)=some (kv.map fun e=>(AV.int .i64 e.1,AV.int q e.2)):=by
    show uw h b=_
    unfold uw; rw [a.get]
  have h2:qM (.cell .int) (.int .i64 k) (.int .i64 k)=some (k==k):=by
    show some (eqF k k)=_
    rw [wy]
  rw [h1,pX,h2,pX,ajs hn hm,pX]
theorem ajL {q:IntKind}:∀ {kv:List (Int × Int)},(∀ e∈kv,Kg e.1)→L1 (kv.map fun e=>(AV.int .i64 e.1,AV.int q e.2))=some (kv.map (·.1))
  | [],_=>rfl
  | e::t,h=>by
    have he:=h e (gM ..)
    unfold Kg at he
    have ih:=ajL (q:=q) (kv:=t) fun x hx=>h x (f0 _ hx)
    show (match ltF e.1 (-9223372036854775808),ltF 9223372036854775807 e.1 with
        | false,false=>Option.casesOn (L1 (t.map fun e=>(AV.int .i64 e.1,AV.int q e.2))) none fun l=>some (e.1::l)
        | _,_=>none:Option (List Int))=_
    rw [nw,nw,show decide (e.1 < -9223372036854775808)=false by simp; omega,show decide (9223372036854775807<e.1)=false by simp; omega,ih]
    rfl
theorem amf (l:List Int):l.map ahK=cH l:=rfl
theorem r_sorted {h:Heap} (hro:h.ro≤h.nx) {m:Nat} {q:IntKind} {kv:List (Int × Int)} (a:ft h m q kv) (hk:∀ e∈kv,Kg e.1) (hn:(kv.map (·.1)).Nodup) (hl:kv.length≤1000000) {b:Nat} (hb:h.cl b [.map m]) :
    aJ (qY bh [.func 89 [] [.ptr b 0]] h) fun v h'=>Lst h' v (om (kv.map (·.1)))∧bo h h':=by
  have hc:nU h b=some [.map m]:=IR hb
  have hm:uw h m=some (kv.map fun e=>(AV.int .i64 e.1,AV.int q e.2)):=by unfold uw; rw [a.get]
  have run:∀ {v:AV} {h':Heap},KD 89 [.func 89 [] [.ptr b 0]] h=some (v,h')→∀ k,qY bh [.func 89 [] [.ptr b 0]] h k=k v h':=by
    intro v h' e k
    unfold qY bh D7
    rw [e]
  have hp:=qv (kv.map (·.1))
  have hlen:(om (kv.map (·.1))).length=kv.length:=by rw [hp.length_eq,gR]
  by_cases h0:kv = []
  · subst h0
    refine ⟨(.nilslice,h),⟨.inl ⟨rfl,rfl⟩,.refl⟩,run ?_⟩
    unfold KD
    show (Option.casesOn (nU h b) none _:Option (AV × Heap))=_
    rw [hc]
    show (Option.casesOn (uw h m) none _:Option (AV × Heap))=_
    rw [hm]
    rfl
  · have hpos:0<kv.length:=gO.2 h0
    refine ⟨(.slice h.nx 0 kv.length 0 true,h.add (.cells (cH (om (kv.map (·.1)))) true 1)),⟨.inr ⟨h.nx,0,[],by rw [hlen],⟨by simp,by simpa using hro,by rw [Heap.fQ,if_pos rfl]; simp⟩,rfl,by omega,by omega⟩,bo.add⟩,run ?_⟩
    unfold KD
    show (Option.casesOn (nU h b) none _:Option (AV × Heap))=_
    rw [hc]
    show (Option.casesOn (uw h m) none _:Option (AV × Heap))=_
    rw [hm]
    show (Option.casesOn (L1 _) none _:Option (AV × Heap))=_
    rw [ajL hk]
    show (Bool.casesOn (Nat.beq (qh (kv.map (·.1))) 0) (Bool.casesOn (X9 (om (kv.map (·.1)))&&Nat.ble (qh (kv.map (·.1))) 1000000) none
          (h.newK (.cells (mapK ahK (om (kv.map (·.1)))) true 1) fun c H'=>some (.slice c 0 (qh (kv.map (·.1))) 0 true,H'))) (some (.nilslice,h)):Option (AV × Heap))=_
    rw [mU,gR,Qi (Ei hn),show Nat.beq kv.length 0=false from by
      cases hk':Nat.beq kv.length 0 with
      | false=>rfl
      | true=>have:=gw hk'; omega]
    rw [show (true&&Nat.ble kv.length 1000000)=true from by rw [Bool.true_and]; exact fW hl]
    dsimp only
    rw [Heap.fP,agp,amf]
def prs (R:List (Int × Int)):List AV:=R.flatMap fun e=>[.int .i64 e.1,.int .u8 e.2]
theorem ahU:∀ R:List (Int × Int),(prs R).length=R.length*2
  | []=>rfl
  | e::t=>by simp [prs] at *; rw [Nat.add_mul]; have:=ahU t; simp [prs] at this; omega
theorem an6 (R S:List (Int × Int)):prs (R++S)=prs R++prs S:=by simp [prs]
theorem prs_at:∀ (R:List (Int × Int)) (i:Nat) (hi:i<R.length),((prs R).drop (i*2)).take 2 = [.int .i64 R[i].1,.int .u8 R[i].2]
  | e::t,0,_=>rfl
  | e::t,i+1,hi=>by
    have:=prs_at t i (by simpa using hi)
    rw [Nat.add_mul]
    show ((AV.int .i64 e.1::.int .u8 e.2::prs t).drop (i*2+2)).take 2=_
    simpa using this
theorem amS (H:Heap) (b:Nat) (c:Nat→Heap→ab):A5 H (.map b) c=c H.nx (H.add (.cells [.map b] true 0)):=by
  show zy H (.cells [.map b] true 0) c=_; simp
structure OwnedOf (kv R:List (Int × Int)):Prop where
  keys:R.map (·.1)=om (kv.map (·.1))
  mem:∀ e∈R,e∈kv
theorem apn {n:Nat} {w:bX} {z:bf} {h0:Heap} (hro:h0.ro≤h0.nx) (b0:bF h0 w z) (hn:(z.uses.map (·.1)).Nodup) {v14:AV} {ks:List Int} (hks:ks.length≤1000000) (hmem:∀ k∈ks,∃ x,(k,x)∈z.uses) (f1 f2 f3) :
    ∀ (q i:Nat) (h:Heap) (v:AV) (R:List (Int × Int)),bo h0 h→dh h .i64 v14 ks→(∀ c,v14.blk=some c→c<h0.nx)→App h v 2 i (prs R)→R.length=i→R.map (·.1)=ks.take i→(∀ e∈R,e∈z.uses)→(∀ c,v.blk=some c→h0.nx≤c)→i≤ks.length→ks.length-i<q→
    aJ (fun k=>sX n f1 f2 f3 k q (.ptr w.p 0) v v14 (ks.length:Int) (i:Int) h) fun r h'=>∃ R,R.map (·.1)=ks∧(∀ e∈R,e∈z.uses)∧App h' r 2 ks.length (prs R)∧(∀ c,r.blk=some c→h0.nx≤c)∧bo h0 h':=by
  intro q
  induction q with
  | zero=>omega
  | succ q ih=>
    intro i h v R g hv14 h14 ha hR hR2 hR3 hlow hi hq
    simp only [Xy]
    unfold sS vP
    refine aR.ifB (fun e=>?_) fun e=>?_
    · simp at e
      have b:=b0.grow g
      obtain ⟨x,hx⟩:=hmem (nz ks i) (by rw [nQ e]; exact gL e)
      have bk:∀ K,tw [.int .i64 0,.int .u8 0] [(0,1,.int .i64 (nz ks i)),(1,1,.int .u8 x)] K=K (.agg [.int .i64 (nz ks i),.int .u8 x]):=fun K=>rfl
      simp only [au,hv14.elN e,iR b.own.cl,ahD,abc b.uses hn hx,bk,kP (show i≤9223372036854775806 by omega)]
      refine aJ.bind (Co (fun k=>by rfl)) ?_
      rintro _ h18 ⟨rfl,c18,g18⟩
      have gg:=g.trans g18
      refine aJ.bind (SU (gg.le hro) (ha.grow g18) (n:=1) (by decide) c18 (new:=[.int .i64 (nz ks i),.int .u8 x]) (by rw [pN]; rfl) (by omega)) ?_
      rintro v' h20 ⟨a20,b20,c20⟩
      have hg20:bo h0 h20:=c20.grow gg fun c hc=>hlow c hc
      refine ih (i+1) h20 v' (R++[(nz ks i,x)]) hg20 ?_ h14 ?_ (by simp [hR]) ?_ (fun e he=>?_) (fun c hc=>?_) (by omega) (by omega)
      · obtain ⟨p1,p2⟩:=hv14.grow g18
        refine ⟨p1,?_⟩
        rcases p2 with p2 | ⟨bb,off,ext,opn,p3,p4⟩
        · exact .inl p2
        · refine .inr ⟨bb,off,ext,opn,p3,fun h0'=>?_⟩
          obtain ⟨l,p5,p6⟩:=p4 h0'
          refine ⟨l,c20.cl p5 fun hbad=>?_,p6⟩
          have y1:=hlow bb hbad
          have y2:=h14 bb (by rw [p3]; rfl)
          omega
      · rw [an6]; exact a20
      · rw [gU,hR2,List.take_add_one,gk e,nQ e]; rfl
      · rcases gT.1 he with he | he
        · exact hR3 e he
        · simp at he; subst he; exact hx
      · rw [b20] at hc
        cases hc
        exact gg.nx
    · simp at e
      have:i=ks.length:=by omega
      subst this
      exact mQ ⟨R,by rw [hR2,List.take_length],hR3,ha,hlow,g⟩
theorem v_Owned {n:Nat} {h:Heap} (hro:h.ro≤h.nx) {w:bX} {z:bf} (b:bF h w z) (hk:∀ e∈z.uses,Kg e.1) (hnd:(z.uses.map (·.1)).Nodup) (hl:z.uses.length≤1000000) (hln:z.uses.length<n) :
    aJ (cL n (.ptr w.p 0) h) fun r h'=>∃ R,OwnedOf z.uses R∧App h' r 2 R.length (prs R)∧(∀ c,r.blk=some c→h.nx≤c)∧bo h h':=by
  unfold cL Fl yW cn pj nl
  simp only [au,O6 b,Bool.not_true,iR b.own.cl,ahD,amS]
  have g5:bo h (h.add (.cells [.map w.mu] true 0)):=bo.add
  have b5:=b.grow g5
  refine aJ.bind (r_sorted (g5.le hro) b5.uses hk hnd hl (akm ..)) ?_
  rintro x6 h7 ⟨l7,g7⟩
  have hp:=qv (z.uses.map (·.1))
  have hlen:(om (z.uses.map (·.1))).length=z.uses.length:=by rw [hp.length_eq,gR]
  simp only [l7.len]
  have gg:=g5.trans g7
  refine aR.mono (apn (gg.le hro) (b.grow gg) hnd (by omega) (fun k hk'=>?_) _ _ _ n 0 h7 .nilslice [] .refl l7.ints (fun c hc=>(l7.lt hc).1) App.nil rfl rfl (fun e he=>(nomatch he)) (fun c e=>by cases e) (by omega) (by omega)) ?_
  · have:=hp.mem_iff.1 hk'
    obtain ⟨e,he,rfl⟩:=fY.1 this
    exact ⟨e.2,he⟩
  · rintro ⟨r,h'⟩ ⟨R,r1,r2,r3,r5,r4⟩
    have hRl:R.length=(om (z.uses.map (·.1))).length:=by rw [← r1,gR]
    exact ⟨R,⟨r1,r2⟩,by rw [hRl]; exact r3,fun c hc=>gu gg.nx (r5 c hc),gg.trans r4⟩
end Go.Proofs.YtlgbmkemfinogaaGreat.Sh
