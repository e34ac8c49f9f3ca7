/- Free blocks in their one form: what is free tells the lists; a block given back keeps the form. -/
import Derived.Test.YtnlbfbiogfilfaaGreatPUPoolNewPQLaw
set_option linter.all false
namespace Go.Proofs.YtnlbfbiogfilfaaGreat.Sh
open Go.Ai
def bud (a:Int) (k:Nat):Int:=if a/2^k%2=0 then a+2^k else a-2^k
structure fS (s:cw):Prop where
  inc:∀ k,k<7→(s.free k).Pairwise (· < ·)
  al:∀ k,k<7→∀ a∈s.free k,0≤a∧a%2^k=0
  np:∀ k,k<6→∀ a∈s.free k,bud a k∉s.free k
  one:∀ x,mult s x≤1
theorem ago {k:Nat} (h:k<7):k=0∨k=1∨k=2∨k=3∨k=4∨k=5∨k=6:=by omega
theorem dyadic {a b x:Int} {k j:Nat} (hj:j<7) (hkj:k≤j) (ha:a%2^k=0) (hb:b%2^j=0) (h1:a≤x) (h2:x<a+2^k) (h3:b≤x) (h4:x<b+2^j):b≤a∧a+2^k≤b+2^j:=by
  rcases ago hj with rfl | rfl | rfl | rfl | rfl | rfl | rfl<;>rcases ago (show k<7 by omega) with rfl | rfl | rfl | rfl | rfl | rfl | rfl<;>first | (exfalso; omega) | (simp only [Int.reducePow] at *; omega)
theorem avd {a:Int} {k:Nat} (hk:k<6) (h0:0≤a) (ha:a%2^k=0):0≤bud a k∧bud a k%2^k=0∧bud a k≠a∧bud (bud a k) k=a∧(min a (bud a k))%2^(k+1)=0∧0≤min a (bud a k)∧max a (bud a k)=min a (bud a k)+2^k:=by
  unfold bud
  rcases ago (show k<7 by omega) with rfl | rfl | rfl | rfl | rfl | rfl | rfl
  all_goals first | (exfalso; omega) | skip
  all_goals simp only [Nat.reduceAdd,Int.reducePow] at *
  all_goals split<;>(split<;>omega)
theorem UU (k:Nat):(1:Int)≤2^k:=by
  have:(0:Int)<2^k:=Int.pow_pos (by decide)
  omega
theorem aoI (s:cw) (x:Int):∀ {m n:Nat},m≤n→tO s x m≤tO s x n
  | m,0,h=>by have:m=0:=by omega
              subst this; exact iA _
  | m,n+1,h=>by
    by_cases e:m=n+1
    · subst e; exact iA _
    · have:=aoI s x (show m≤n by omega); rw [tO]; omega
theorem aGg {k:Nat} {l:List Int} {a b x:Int} (ha:a∈l) (hb:b∈l) (hab:a≠b) (h1:a≤x∧x<a+2^k) (h2:b≤x∧x<b+2^k):2≤yu k l x:=by
  induction l with
  | nil=>simp at ha
  | cons c t ih=>
    have e:yu k (c::t) x=yu k t x+if c≤x∧x<c+2^k then 1 else 0:=by
      unfold yu
      rw [List.countP_cons]
      by_cases h:c≤x∧x<c+2^k<;>simp [h]
    rw [e]
    have pos:∀ d,d∈t→d≤x∧x<d+2^k→1≤yu k t x:=fun d hd h=>by
      unfold yu
      exact iW.2 ⟨d,hd,by simpa using h⟩
    rcases iP.1 ha with rfl | ha'
    · rcases iP.1 hb with rfl | hb'
      · exact (hab rfl).elim
      · rw [if_pos h1]; have:=pos b hb' h2; omega
    · rcases iP.1 hb with rfl | hb'
      · rw [if_pos h2]; have:=pos a ha' h1; omega
      · have:=ih ha' hb'; omega
theorem asM {s:cw} {k j:Nat} {a b x:Int} (hk:k<7) (hj:j<7) (ha:a∈s.free k) (hb:b∈s.free j) (h1:a≤x∧x<a+2^k) (h2:b≤x∧x<b+2^j) (hne:¬ (k=j∧a=b)):2≤mult s x:=by
  rw [ae7]
  have one:∀ {k j:Nat} {a b:Int},k<j→j<7→a∈s.free k→b∈s.free j→a≤x∧x<a+2^k→b≤x∧x<b+2^j→2≤tO s x 7:=by
    intro k j a b hkj hj ha hb h1 h2
    have m1:=asW ha h1.1 h1.2 j hkj
    have m2:1≤yu j (s.free j) x:=by
      unfold yu
      exact iW.2 ⟨b,hb,by simpa using h2⟩
    have m3:=aoI s x (show j+1≤7 by omega)
    rw [tO] at m3
    omega
  rcases ik k j with h | h | h
  · exact one h hj ha hb h1 h2
  · subst h
    have m2:=aGg ha hb (fun e=>hne ⟨rfl,e⟩) h1 h2
    have m3:=aoI s x (show k+1≤7 by omega)
    rw [tO] at m3
    omega
  · exact one h hk hb ha h2 h1
theorem ama {s:cw} {x:Int}:∀ n,1≤tO s x n→∃ k,k<n∧∃ a∈s.free k,a≤x∧x<a+2^k
  | 0,h=>by simp [tO] at h
  | n+1,h=>by
    rw [tO] at h
    by_cases e:1≤tO s x n
    · obtain ⟨k,hk,r⟩:=ama n e
      exact ⟨k,by omega,r⟩
    · have:0<yu n (s.free n) x:=by omega
      unfold yu at this
      obtain ⟨a,ha,h2⟩:=iW.1 this
      exact ⟨n,by omega,a,ha,by simpa using h2⟩
theorem fS.full {s:cw} (v:fS s):∀ k,k<7→∀ a:Int,0≤a→a%2^k=0→(∀ x,a≤x→x<a+2^k→1≤mult s x)→∃ j,k≤j∧j<7∧∃ b∈s.free j,b≤a∧a+2^k≤b+2^j
  | 0,_,a,h0,_,h=>by
    have:=h a (iS _) (by simp; omega)
    rw [ae7] at this
    obtain ⟨j,hj,b,hb,h1,h2⟩:=ama 7 this
    exact ⟨j,by omega,hj,b,hb,h1,by simp; omega⟩
  | k+1,hk,a,h0,hal,h=>by
    have hp:(2:Int)^(k+1)=2^k+2^k:=by rw [Int.pow_succ]; omega
    have hpp:=UU k
    have hal1:a%2^k=0∧(a+2^k)%2^k=0∧a/2^k%2=0:=by
      rcases ago (show k<7 by omega) with rfl | rfl | rfl | rfl | rfl | rfl | rfl<;>(simp only [Nat.reduceAdd,Int.reducePow] at *; omega)
    obtain ⟨j1,i1,i2,b1,i3,i4,i5⟩:=v.full k (by omega) a h0 hal1.1 fun x h1 h2=>h x h1 (by omega)
    obtain ⟨j2,u1,u2,b2,u3,u4,u5⟩:=v.full k (by omega) (a+2^k) (by omega) hal1.2.1 fun x h1 h2=>h x (by omega) (by omega)
    by_cases e1:k+1≤j1
    · have:=dyadic i2 e1 hal (v.al j1 i2 b1 i3).2 (iS a) (by omega) i4 (by omega)
      exact ⟨j1,e1,i2,b1,i3,this⟩
    · by_cases e2:k+1≤j2
      · have:=dyadic (x:=a+2^k) u2 e2 hal (v.al j2 u2 b2 u3).2 (by omega) (by omega) u4 (by omega)
        exact ⟨j2,e2,u2,b2,u3,this⟩
      · exfalso
        obtain rfl:j1=k:=by omega
        obtain rfl:j2=j1:=by omega
        have ea:b1=a:=by omega
        have eb:b2=a+2^j2:=by omega
        subst ea eb
        refine v.np j2 (by omega) b1 i3 ?_
        unfold bud
        rw [if_pos hal1.2.2]
        exact u3
theorem fS.take {s:cw} {o k:Nat} {a:Int} {rest:List Int} (v:fS s) (hok:o≤k) (hk:k<7) (hx:s.free k=a::rest) (hemp:∀ j,o≤j→j<k→s.free j = []):fS (Dq s o k o a rest):=by
  have fr:∀ n,(Dq s o k o a rest).free n=if n=k then rest else if o≤n∧n<k then [a+2^n] else s.free n:=fun n=>rfl
  obtain ⟨a0,a1⟩:=v.al k hk a (by rw [hx]; exact iV ..)
  refine ⟨fun n hn=>?_,fun n hn c hc=>?_,fun n hn c hc=>?_,fun x=>?_⟩
  · rw [fr]
    by_cases e1:n=k
    · rw [if_pos e1]
      have:=v.inc k hk
      rw [hx] at this
      exact (ib.1 this).2
    · rw [if_neg e1]
      by_cases e2:o≤n∧n<k
      · rw [if_pos e2]; simp
      · rw [if_neg e2]; exact v.inc n hn
  · rw [fr] at hc
    by_cases e1:n=k
    · rw [if_pos e1] at hc
      subst e1
      exact v.al n hn c (by rw [hx]; exact ig _ hc)
    · rw [if_neg e1] at hc
      by_cases e2:o≤n∧n<k
      · rw [if_pos e2] at hc
        simp at hc
        subst hc
        have:=UU n
        refine ⟨by omega,?_⟩
        obtain ⟨_,e3⟩:=e2
        rcases ago hk with rfl | rfl | rfl | rfl | rfl | rfl | rfl<;>rcases ago (show n<7 by omega) with rfl | rfl | rfl | rfl | rfl | rfl | rfl<;>first | (exfalso; omega) | (simp only [Int.reducePow] at *; omega)
      · rw [if_neg e2] at hc
        exact v.al n hn c hc
  · rw [fr] at hc ⊢
    by_cases e1:n=k
    · rw [if_pos e1] at hc ⊢
      subst e1
      intro hb
      exact v.np n hn c (by rw [hx]; exact ig _ hc) (by rw [hx]; exact ig _ hb)
    · rw [if_neg e1] at hc ⊢
      by_cases e2:o≤n∧n<k
      · rw [if_pos e2] at hc ⊢
        simp at hc
        subst hc
        simp only [List.mem_singleton]
        have hne:(a+2^n)%2^n=0:=by
          obtain ⟨_,e3⟩:=e2
          rcases ago hk with rfl | rfl | rfl | rfl | rfl | rfl | rfl<;>rcases ago (show n<7 by omega) with rfl | rfl | rfl | rfl | rfl | rfl | rfl<;>first | (exfalso; omega) | (simp only [Int.reducePow] at *; omega)
        have:=UU n
        exact (avd hn (by omega) hne).2.2.1
      · rw [if_neg e2] at hc ⊢
        exact v.np n hn c hc
  · have h1:=aqI hok hk hx hemp x
    have h2:=v.one x
    omega
end Go.Proofs.YtnlbfbiogfilfaaGreat.Sh
/- A new buddy is in the one form; a block put in, a block out. -/
namespace Go.Proofs.YtnlbfbiogfilfaaGreat.Sh
open Go.Ai
theorem fS.new {n o:Nat} {s:cw} (mk:eM n n o s):fS s:=by
  refine ⟨mk.ninc,fun k hk a ha=>⟨(mk.hs k hk a ha).1,(mk.nfr k hk a ha).1⟩,fun k hk a ha hb=>?_,fun x=>?_⟩
  · have hl:=mk.nsm k hk
    have h0:=(mk.hs k (by omega) a ha).1
    have hne:=(avd hk h0 (mk.nfr k (by omega) a ha).1).2.2.1
    match hq:s.free k,ha,hb,hl with
    | [],ha,_,_=>simp at ha
    | [c],ha,hb,_=>
      simp at ha hb
      rw [ha] at hne hb
      exact hne hb
    | _::_::_,_,_,hl=>simp at hl
  · rw [mk.hm]; split<;>omega
theorem azD (s:cw) (k:Nat) (l:List Int) (x:Int):∀ n,tO { s with free:=upd s.free k l } x n+(if k<n then yu k (s.free k) x else 0)=tO s x n+if k<n then yu k l x else 0
  | 0=>by simp [tO]
  | n+1=>by
    have ih:=azD s k l x n
    rw [tO,tO]
    show _+yu n (upd s.free k l n) x+_=_
    by_cases e:n=k
    · subst e
      rw [lm,if_pos (by omega),if_pos (by omega)]
      rw [if_neg (by omega),if_neg (by omega)] at ih
      omega
    · rw [kX _ _ e]
      by_cases h:k<n
      · rw [if_pos (by omega),if_pos (by omega)]
        rw [if_pos h,if_pos h] at ih
        omega
      · rw [if_neg (by omega),if_neg (by omega)]
        rw [if_neg h,if_neg h] at ih
        omega
theorem aC8 (s:cw) {k:Nat} (hk:k<7) (l:List Int) (x:Int):mult { s with free:=upd s.free k l } x+yu k (s.free k) x=mult s x+yu k l x:=by
  have:=azD s k l x 7
  rw [if_pos hk,if_pos hk] at this
  rw [ae7,ae7]; exact this
theorem avN (s:cw) (k:Nat) (l:List Int):∀ n,pW { s with free:=upd s.free k l } n+(if k<n then (s.free k).length*2^k else 0)=pW s n+if k<n then l.length*2^k else 0
  | 0=>by simp [pW]
  | n+1=>by
    have ih:=avN s k l n
    rw [pW,pW]
    show _+(upd s.free k l n).length*_+_=_
    by_cases e:n=k
    · subst e
      rw [lm,if_pos (by omega),if_pos (by omega)]
      rw [if_neg (by omega),if_neg (by omega)] at ih
      omega
    · rw [kX _ _ e]
      by_cases h:k<n
      · rw [if_pos (by omega),if_pos (by omega)]
        rw [if_pos h,if_pos h] at ih
        omega
      · rw [if_neg (by omega),if_neg (by omega)]
        rw [if_neg h,if_neg h] at ih
        omega
theorem aAt {s:cw}:∀ {n k:Nat},k<n→(s.free k).length≤pW s n
  | 0,k,h=>by omega
  | n+1,k,h=>by
    rw [pW]
    by_cases e:k=n
    · subst e
      have:(s.free k).length*1≤(s.free k).length*2^k:=Nat.mul_le_mul_left _ Nat.one_le_two_pow
      omega
    · have:=aAt (s:=s) (show k<n by omega); omega
theorem aEp (l:List Int) (i:Nat) (a:Int):(Pf l i a).Perm (a::l):=by
  unfold Pf
  have h:=(List.perm_middle (a:=a) (l₁:=l.take i) (l₂:=l.drop i))
  rwa [List.take_append_drop] at h
theorem ay2 {k:Nat} {l l':List Int} (h:l.Perm l') (x:Int):yu k l x=yu k l' x:=h.countP_eq _
theorem nz_mem {l:List Int} {c:Int} (h:c∈l):∃ j,j<l.length∧nz l j=c:=by
  obtain ⟨j,hj,rfl⟩:=List.mem_iff_getElem.1 h
  exact ⟨j,hj,un hj⟩
theorem aG5 {l:List Int} {a:Int} {i:Nat} (hl:l.Pairwise (· < ·)) (hn:a∉l) (hs:as7 l a i):(Pf l i a).Pairwise (· < ·):=by
  obtain ⟨hi,hs⟩:=hs
  obtain ⟨h1,h2⟩:=hs hl
  have ht:∀ c∈l.take i,c<a:=fun c hc=>by
    obtain ⟨j,hj,rfl⟩:=List.mem_iff_getElem.1 hc
    simp at hj
    rw [List.getElem_take, ← un (show j<l.length by omega)]
    exact h1 j (by omega)
  have hd:∀ c∈l.drop i,a<c:=fun c hc=>by
    have hm:c∈l:=List.mem_of_mem_drop hc
    obtain ⟨j,hj,rfl⟩:=List.mem_iff_getElem.1 hc
    simp at hj
    have h3:=h2 (i+j) (by omega) (by omega)
    rw [un (by omega)] at h3
    rw [List.getElem_drop] at hm ⊢
    have:l[i+j]≠a:=fun e=>hn (by rw [← e]; exact hm)
    omega
  unfold Pf
  refine List.pairwise_append.2 ⟨hl.sublist (List.take_sublist _ _),ib.2 ⟨hd,hl.sublist (List.drop_sublist _ _)⟩,fun c hc d hd'=>?_⟩
  rcases iP.1 hd' with rfl | hd'
  · exact ht c hc
  · exact Int.lt_trans (ht c hc) (hd d hd')
structure GivenS (s:cw) (a:Int) (o:Nat) (s':cw):Prop where
  norm:fS s'
  n:s'.n=s.n
  gL:s'.gL=s.gL
  mult:∀ x,Sh.mult s' x=Sh.mult s x+inB a x o
  sum:pW s' 7=pW s 7+2^o
theorem fS.put {s:cw} (v:fS s) {k:Nat} (hk:k<7) {a:Int} (h0:0≤a) (hal:a%2^k=0) (hf:∀ x,a≤x→x<a+2^k→mult s x=0) (hb:k<6→bud a k∉s.free k) {i:Nat} (hs:as7 (s.free k) a i) :
    GivenS s a k { s with free:=upd s.free k (Pf (s.free k) i a) }:=by
  have hp:=aEp (s.free k) i a
  have hpp:=UU k
  have hn:a∉s.free k:=fun hm=>by
    have:=Nd hk hm (iS a) (by omega)
    have:=hf a (iS a) (by omega)
    omega
  have hm:∀ x,mult { s with free:=upd s.free k (Pf (s.free k) i a) } x=mult s x+inB a x k:=fun x=>by
    have h1:=aC8 s hk (Pf (s.free k) i a) x
    have h2:yu k (Pf (s.free k) i a) x=yu k (s.free k) x+inB a x k:=by
      rw [ay2 hp,agp]
    omega
  refine ⟨⟨fun j hj=>?_,fun j hj c hc=>?_,fun j hj c hc=>?_,fun x=>?_⟩,rfl,rfl,hm,?_⟩
  · show (upd s.free k (Pf (s.free k) i a) j).Pairwise _
    by_cases e:j=k
    · subst e; rw [lm]; exact aG5 (v.inc j hj) hn hs
    · rw [kX _ _ e]; exact v.inc j hj
  · have hc':c∈upd s.free k (Pf (s.free k) i a) j:=hc
    by_cases e:j=k
    · subst e
      rw [lm,hp.mem_iff,iP] at hc'
      rcases hc' with rfl | h
      · exact ⟨h0,hal⟩
      · exact v.al j hj c h
    · rw [kX _ _ e] at hc'; exact v.al j hj c hc'
  · have hc':c∈upd s.free k (Pf (s.free k) i a) j:=hc
    show bud c j∉upd s.free k (Pf (s.free k) i a) j
    by_cases e:j=k
    · subst e
      rw [lm,hp.mem_iff,iP] at hc' ⊢
      intro hbad
      rcases hc' with rfl | h
      · rcases hbad with hbad | hbad
        · exact (avd hj h0 hal).2.2.1 hbad
        · exact hb hj hbad
      · obtain ⟨c0,c1⟩:=v.al j hk c h
        rcases hbad with hbad | hbad
        · have:=(avd hj c0 c1).2.2.2.1
          rw [hbad] at this
          exact hb hj (by rw [this]; exact h)
        · exact v.np j hj c h hbad
    · rw [kX _ _ e] at hc' ⊢; exact v.np j hj c hc'
  · rw [hm]
    unfold inB
    split
    · rename_i h; rw [hf x h.1 h.2]; omega
    · have:=v.one x; omega
  · have h1:=avN s k (Pf (s.free k) i a) 7
    rw [if_pos hk,if_pos hk,hp.length_eq,List.length_cons,Nat.add_mul] at h1
    omega
theorem az4 {l:List Int} {i:Nat} (hi:i<l.length):l.Perm (nz l i::l.eraseIdx i):=by
  have h:=(List.perm_middle (a:=nz l i) (l₁:=l.take i) (l₂:=l.drop (i+1)))
  rw [List.eraseIdx_eq_take_drop_succ]
  refine List.Perm.trans ?_ h
  rw [un hi,List.getElem_cons_drop,List.take_append_drop]
theorem fS.del {s:cw} (v:fS s) {k:Nat} (hk:k<7) {i:Nat} (hi:i<(s.free k).length) :
    fS { s with free:=upd s.free k ((s.free k).eraseIdx i) }∧(∀ x,mult { s with free:=upd s.free k ((s.free k).eraseIdx i) } x+inB (nz (s.free k) i) x k=mult s x)∧pW { s with free:=upd s.free k ((s.free k).eraseIdx i) } 7+2^k=pW s 7:=by
  have hp:=az4 hi
  have hsub:((s.free k).eraseIdx i).Sublist (s.free k):=List.eraseIdx_sublist _ _
  have hm:∀ x,mult { s with free:=upd s.free k ((s.free k).eraseIdx i) } x+inB (nz (s.free k) i) x k=mult s x:=fun x=>by
    have h1:=aC8 s hk ((s.free k).eraseIdx i) x
    have h2:yu k (s.free k) x=yu k ((s.free k).eraseIdx i) x+inB (nz (s.free k) i) x k:=by
      rw [ay2 hp,agp]
    omega
  refine ⟨⟨fun j hj=>?_,fun j hj c hc=>?_,fun j hj c hc=>?_,fun x=>?_⟩,hm,?_⟩
  · show (upd s.free k _ j).Pairwise _
    by_cases e:j=k
    · subst e; rw [lm]; exact (v.inc j hj).sublist hsub
    · rw [kX _ _ e]; exact v.inc j hj
  · have hc':c∈upd s.free k ((s.free k).eraseIdx i) j:=hc
    by_cases e:j=k
    · subst e; rw [lm] at hc'; exact v.al j hj c (hsub.subset hc')
    · rw [kX _ _ e] at hc'; exact v.al j hj c hc'
  · have hc':c∈upd s.free k ((s.free k).eraseIdx i) j:=hc
    show bud c j∉upd s.free k ((s.free k).eraseIdx i) j
    by_cases e:j=k
    · subst e
      rw [lm] at hc' ⊢
      exact fun h=>v.np j hj c (hsub.subset hc') (hsub.subset h)
    · rw [kX _ _ e] at hc' ⊢; exact v.np j hj c hc'
  · have:=hm x; have:=v.one x; omega
  · have h1:=avN s k ((s.free k).eraseIdx i) 7
    have hl:((s.free k).eraseIdx i).length+1=(s.free k).length:=by rw [List.length_eraseIdx_of_lt hi]; omega
    rw [if_pos hk,if_pos hk, ← hl,Nat.add_mul] at h1
    omega
theorem aGM {a:Int} {k:Nat} (ha:0≤a∧a<4096) (hk:k<7):IntKind.i64.wrap (BitVec.ofInt 64 a ^^^ BitVec.ofInt 64 (2^k)).toNat=bud a k:=by
  have h:(List.range 4096).all (fun a=>(List.range 7).all fun k=>decide (IntKind.i64.wrap (BitVec.ofInt 64 (a:Int) ^^^ BitVec.ofInt 64 (2^k)).toNat=bud (a:Int) k))=true:=by decide +kernel
  obtain ⟨n,rfl⟩:=iM ha.1
  have h1:=jb.1 h n (i7.2 (by omega))
  have h2:=jb.1 h1 k (i7.2 hk)
  exact of_decide_eq_true h2
end Go.Proofs.YtnlbfbiogfilfaaGreat.Sh
/- The greatest blocks, going from the least place on, are those of the one form. -/
namespace Go.Proofs.YtnlbfbiogfilfaaGreat.Sh
open Go.Ai
def Clear (s:cw) (at_:Int):Prop:=∀ j,j<7→∀ a∈s.free j,a<at_→a+2^j≤at_
theorem fS.begins {s:cw} (v:fS s) {at_:Int} (c:Clear s at_) (ho:1≤mult s at_):∃ j,j<7∧at_∈s.free j:=by
  rw [ae7] at ho
  obtain ⟨j,hj,a,ha,h1,h2⟩:=ama 7 ho
  have:a=at_:=by
    rcases Int.lt_or_eq_of_le h1 with h | h
    · have:=c j hj a ha h; omega
    · exact h
  exact ⟨j,hj,this▸ha⟩
def OpenB (s:cw) (at_:Int) (k:Nat):Prop:=∀ x,at_≤x→x<at_+2^k→1≤mult s x
theorem aFX {k j:Nat} (h:k≤j):(2:Int)^k≤2^j:=by
  have:=Nat.pow_le_pow_right (show 0<2 by omega) h
  exact_mod_cast this
theorem OpenB.of {s:cw} {at_:Int} {j k:Nat} (hj:j<7) (ha:at_∈s.free j) (hk:k≤j):OpenB s at_ k:=by
  intro x h1 h2
  have:=aFX hk
  exact Nd hj ha h1 (by omega)
theorem al_down {a:Int} {k j:Nat} (hj:j<7) (hk:k≤j) (h:a%2^j=0):a%2^k=0:=by
  rcases ago hj with rfl | rfl | rfl | rfl | rfl | rfl | rfl<;>rcases ago (show k<7 by omega) with rfl | rfl | rfl | rfl | rfl | rfl | rfl<;>first | (exfalso; omega) | (simp only [Int.reducePow] at *; omega)
theorem fS.stops {s:cw} (v:fS s) {at_:Int} {j:Nat} (hj:j<6) (ha:at_∈s.free j) (hal:at_%2^(j+1)=0):¬ OpenB s at_ (j+1):=by
  intro ho
  obtain ⟨a0,a1⟩:=v.al j (by omega) at_ ha
  obtain ⟨i,i1,i2,b,b1,b2,b3⟩:=v.full (j+1) (by omega) at_ a0 hal ho
  have hp:=UU j
  have hp1:=UU (j+1)
  have:=asM (x:=at_) (show j<7 by omega) i2 ha b1 ⟨iS _,by omega⟩ ⟨b2,by omega⟩ (by omega)
  have:=v.one at_
  omega
theorem Clear.next {s:cw} (v:fS s) {at_:Int} (c:Clear s at_) {j:Nat} (hj:j<7) (ha:at_∈s.free j):Clear s (at_+2^j):=by
  intro i hi a h1 h2
  have hp:=UU j
  have hpi:=UU i
  rcases Int.lt_or_le a at_ with h | h
  · have:=c i hi a h1 h; omega
  · by_cases e:j=i∧at_=a
    · obtain ⟨rfl,rfl⟩:=e; exact iS _
    · have:=asM (x:=a) hj hi ha h1 ⟨h,h2⟩ ⟨iS _,by omega⟩ e
      have:=v.one a
      omega
theorem Clear.skip {s:cw} {at_:Int} (c:Clear s at_) (h0:mult s at_=0):Clear s (at_+1):=by
  intro i hi a h1 h2
  have hpi:=UU i
  rcases Int.lt_or_le a at_ with h | h
  · have:=c i hi a h1 h; omega
  · have:a=at_:=by omega
    subst this
    have:=Nd hi h1 (iS _) (by omega)
    omega
theorem Clear.zero {s:cw} (v:fS s):Clear s 0:=fun j hj a ha h=>by have:=(v.al j hj a ha).1; omega
def aie (s:cw) (at_:Int) (k:Nat):List Int:=(s.free k).filter fun a=>decide (a<at_)
theorem aD9 {l:List Int} (hs:l.Pairwise (· < ·)) {a b:Int} (ha:a∈l) (hab:a<b) (hno:∀ c∈l,a<c→b≤c):l.filter (fun c=>decide (c<b))=l.filter (fun c=>decide (c<a))++[a]:=by
  induction l with
  | nil=>simp at ha
  | cons x t ih=>
    rw [ib] at hs
    by_cases e:x=a
    · subst e
      have h1:t.filter (fun c=>decide (c<b)) = []:=List.filter_eq_nil_iff.2 fun c hc=>by
        have:=hno c (ig _ hc) (hs.1 c hc)
        simp; omega
      have h2:t.filter (fun c=>decide (c<x)) = []:=List.filter_eq_nil_iff.2 fun c hc=>by
        have:=hs.1 c hc
        simp; omega
      rw [List.filter_cons,List.filter_cons,if_pos (by simpa using hab),if_neg (by simp),h1,h2]; rfl
    · have ha':a∈t:=by
        rcases iP.1 ha with h | h
        · exact (e h.symm).elim
        · exact h
      have hx:=hs.1 a ha'
      rw [List.filter_cons,List.filter_cons,if_pos (by simp; omega),if_pos (by simp; omega),ih hs.2 ha' fun c hc h=>hno c (ig _ hc) h]; rfl
theorem aDD {s:cw} (v:fS s) {at_:Int} {j:Nat} (hj:j<7) (ha:at_∈s.free j) {k:Nat} (hk:k<7):aie s (at_+2^j) k=if k=j then aie s at_ k++[at_] else aie s at_ k:=by
  have hp:=UU j
  have alone:∀ i,i<7→∀ c∈s.free i,¬ (j=i∧at_=c)→at_≤c→at_+2^j≤c:=by
    intro i hi c hc e h
    rcases Int.lt_or_le c (at_+2^j) with h2 | h2
    · have:=asM (x:=c) hj hi ha hc ⟨h,h2⟩ ⟨iS _,by have:=UU i; omega⟩ e
      have:=v.one c
      omega
    · exact h2
  by_cases e:k=j
  · subst e
    rw [if_pos rfl]
    exact aD9 (v.inc k hk) ha (by omega) fun c hc h=>alone k hk c hc (by omega) (by omega)
  · rw [if_neg e]
    unfold aie
    refine List.filter_congr fun c hc=>?_
    have:c<at_+2^j↔c<at_:=by
      constructor
      · intro h
        rcases Int.lt_or_le c at_ with h2 | h2
        · exact h2
        · have:=alone k hk c hc (by omega) h2; omega
      · omega
    simp [this]
theorem aEz {s:cw} {at_:Int} (h0:mult s at_=0) {k:Nat} (hk:k<7):aie s (at_+1) k=aie s at_ k:=by
  unfold aie
  refine List.filter_congr fun c hc=>?_
  have hp:=UU k
  have hne:c≠at_:=by
    rintro rfl
    have:=Nd hk hc (iS _) (by omega)
    omega
  have:c<at_+1↔c<at_:=by omega
  simp [this]
theorem aGL {s:cw} {n:Int} (h:∀ x,n≤x→mult s x=0) {at_:Int} (hn:n≤at_) {k:Nat} (hk:k<7):aie s at_ k=s.free k:=by
  unfold aie
  refine List.filter_eq_self.2 fun c hc=>?_
  have hp:=UU k
  rcases Int.lt_or_le c at_ with h2 | h2
  · simpa using h2
  · have:=h c (by omega)
    have:=Nd hk hc (iS _) (by omega)
    omega
end Go.Proofs.YtnlbfbiogfilfaaGreat.Sh
/- A block given back: the buddy's code. -/
namespace Go.Proofs.YtnlbfbiogfilfaaGreat.Sh
open Go.Ai
theorem bitK_bud {a:Int} {k:Nat} (ha:0≤a∧a<4096) (hk:k<7) (c:Int→ah):bitK .xor .i64 a (2^k) c=c (bud a k):=by
  have h:bitK .xor .i64 a (2^k) c=c (IntKind.i64.wrap (BitVec.ofInt 64 a ^^^ BitVec.ofInt 64 (2^k)).toNat):=by
    show oC (some _) _=_
    rw [Aa,E2]; rfl
  rw [h,aGM ha hk]
theorem min_K (a b:Int) (c:AV→ah):Ui false [.int .i64 a,.int .i64 b] c=c (.int .i64 (min a b)):=by
  have h:ahP false (.int .i64 a) [.int .i64 b]=some (.int .i64 (if ltF b a then b else a)):=rfl
  show oC (ahP false (.int .i64 a) [.int .i64 b]) c=_
  rw [h,Aa,yA]
  congr 2
  by_cases e:b<a
  · simp [e]; omega
  · simp [e]; omega
def SO (k:Int):List (Int × Int)→List (Int × Int)
  | []=>[]
  | e::t=>if k=e.1 then t else e::SO k t
theorem aGH (q:IntKind) (k:Int):∀ kv:List (Int × Int),delF (.cell .int) (.int .i64 k) (kv.map fun e=>(AV.int .i64 e.1,AV.int q e.2))=some ((SO k kv).map fun e=>(AV.int .i64 e.1,AV.int q e.2)):=by
  intro kv
  induction kv with
  | nil=>rfl
  | cons e t ih=>
    show (Option.casesOn (zM (.cell .int) (.int .i64 k) (.int .i64 e.1)) none fun b=>Bool.casesOn b (Option.casesOn (delF (.cell .int) (.int .i64 k) (t.map fun e=>(AV.int .i64 e.1,AV.int q e.2))) none fun t'=>some ((AV.int .i64 e.1,AV.int q e.2)::t')) (some (t.map fun e=>(AV.int .i64 e.1,AV.int q e.2))):Option _)=_
    have hk:zM (.cell .int) (.int .i64 k) (.int .i64 e.1)=some (k==e.1):=by
      show some (eqF k e.1)=_
      rw [Mr]
    rw [hk,ih]
    dsimp only
    by_cases h:k=e.1
    · have:(k==e.1)=true:=by simp [h]
      rw [this]
      simp [SO,h]
    · have:(k==e.1)=false:=by simp [h]
      rw [this]
      simp [SO,h]
theorem aDg {h:ad} {b:Nat} {q:IntKind} {kv:List (Int × Int)} (a:gn h b q kv) (k:Int) :
    ed (at8 h (.cell .int) (.map b) (.int .i64 k)) fun h'=>gn h' b q (SO k kv)∧Chg (· = b) h h':=by
  refine ⟨h.set b (.mp ((SO k kv).map fun e=>(AV.int .i64 e.1,AV.int q e.2))),⟨⟨by simpa using a.lt,by simpa using a.ro,ad.gS ..⟩,⟨by simp,by simp,fun c _ hc=>ad.gR _ (fun e=>hc e.symm) _⟩⟩,fun c=>?_⟩
  unfold at8 aFI
  have h1:Nat.blt b h.ro=false:=by rw [blt_eq]; simp; exact a.ro
  have h2:JA h b=some (kv.map fun e=>(AV.int .i64 e.1,AV.int q e.2)):=by unfold JA; rw [a.get]
  have h3:zM (.cell .int) (.int .i64 k) (.int .i64 k)=some (k==k):=by
    show some (eqF k k)=_
    rw [Mr]
  rw [h3]
  dsimp only
  rw [h1,h2]
  dsimp only
  rw [aGH]
  dsimp only
  rw [ad.gT,Aa]; rfl
theorem aFx {a:Int} {k:Nat} (hk:k<6) (h0:0≤a) (ha:a%2^k=0) (x:Int):inB (min a (bud a k)) x (k+1)=inB a x k+inB (bud a k) x k:=by
  obtain ⟨_,_,hne,_,_,_,hmax⟩:=avd hk h0 ha
  have h:=aDh (min a (bud a k)) x k
  by_cases e:a≤bud a k
  · rw [Int.min_eq_left e] at h hmax ⊢
    rw [Int.max_eq_right e] at hmax
    rw [← hmax] at h; omega
  · rw [Int.min_eq_right (by omega)] at h hmax ⊢
    rw [Int.max_eq_left (by omega)] at hmax
    rw [← hmax] at h; omega
theorem BS_found {l:List Int} {x:Int} {i:Nat} (hl:l.Pairwise (· < ·)) (hs:as7 l x i) (hd:¬ (i<l.length∧nz l i=x)):x∉l:=by
  intro hm
  obtain ⟨hi,hs⟩:=hs
  obtain ⟨h1,h2⟩:=hs hl
  obtain ⟨j,hj,e⟩:=nz_mem hm
  have hji:i≤j:=by
    rcases io j i with h | h
    · have:=h1 j h; omega
    · exact h
  have h3:=h2 i (iA _) (by omega)
  have h4:=aCd hl hji hj
  exact hd ⟨by omega,by omega⟩
theorem aHd {n:Nat} (hn:70000<n) {p m:Nat} (f1):∀ (q o:Nat) (a:Int) (h:ad) (v:Nat→AV) (s:cw),h.ro≤h.nx→fS s→d9 h p m v s→pW s 7+2^o≤70000→0≤a∧a<4096→a%2^o=0→(∀ x,a≤x→x<a+2^o→mult s x=0)→o≤6→6-o<q→
    aF (fun k=>A4 n f1 (b7 n) (b8 n) (cF n) k q (.ptr p 0) a (o:Int) h) fun r h'=>r=0∧∃ v' s',d9 h' p m v' s'∧GivenS s a o s'∧(∀ j,j<7→∀ c,(v' j).blk=some c→(v j).blk=some c∨h.nx≤c)∧Chg (fpB p m v) h h':=by
  intro q
  induction q with
  | zero=>omega
  | succ q ih=>
    intro o a h v s hro nm b hfn ha hal hfree ho hq
    simp only [anM]
    unfold Bj Bb
    have hk:o<7:=by omega
    have hlen:(s.free o).length≤70000:=iE (aAt (s:=s) hk) (iE (Nat.le_add_right _ _) hfn)
    have stop:(o<6→bud a o∉s.free o)→aF (fun (k:Int→ad→ah)=>cF n (.ptr p 0) a (o:Int) h fun h10=>k 0 h10) fun r h'=>r=0∧∃ v' s',d9 h' p m v' s'∧GivenS s a o s'∧(∀ j,j<7→∀ c,(v' j).blk=some c→(v j).blk=some c∨h.nx≤c)∧Chg (fpB p m v) h h':=by
      intro hb
      refine ed.bind (v_put hro b hk (by omega) (by omega) a) ?_
      rintro h10 ⟨y,i,hs,b',hy,c⟩
      refine nT ⟨rfl,_,_,b',nm.put hk ha.1 hal hfree hb hs,fun j hj d e=>?_,c⟩
      by_cases e1:j=o
      · subst e1; rw [lm] at e; exact .inr (hy d e)
      · rw [kX _ _ e1] at e; exact .inl e
    refine aL.ifB (fun e=>?_) fun e=>stop fun h=>by simp at e; omega
    simp at e
    have ho6:o<6:=by omega
    obtain ⟨p1,p2,p3⟩:=aaQ hk
    obtain ⟨u1,u2,u3,u4,u5,u6,u7⟩:=avd ho6 ha.1 hal
    simp only [au,IL (il o),p1,bitK_bud ha hk,UR hk,jC b.own.cl,aqv _ _ _ hk]
    refine dM.bind (v_BS (b.lst o hk).ints (by omega) (by omega) (bud a o)) ?_
    rintro _ bb h18 ⟨rfl,i,rfl,hs,rfl⟩
    refine aL.ifB (fun hd=>?_) fun hd=>?_
    · simp at hd
      exact stop fun _=>BS_found (nm.inc o hk) hs fun hh=>by
        rcases hd with hd | hd
        · omega
        · exact hd hh.2
    · simp at hd
      obtain ⟨hi,hnz⟩:=hd
      simp only [au,UR hk,jC b.own.cl,aqv _ _ _ hk,mt (show i≤9223372036854775806 by omega)]
      refine aF.bind (aEb (b.lst o hk) hi) ?_
      rintro y h24 ⟨l24,b24,c24⟩
      have o24:Own h24 p (apD s.n v m) 0:=c24.own b.own fun e'=>(b.lst o hk).ne b.own e' rfl
      refine ed.bind (uI o24 (by show 2+o<10; omega) (by rcases l24 with ⟨rfl,_⟩ | ⟨d,e',r,rfl,_⟩<;>rfl)) ?_
      intro h27 p27
      obtain ⟨b27,c27⟩:=b.row hk c24 l24 (fun c e'=>.inl (by rw [← b24]; exact e')) p27
      obtain ⟨d1,d2,d3⟩:=nm.del hk hi
      rw [hnz] at d2
      have hsum:pW { s with free:=upd s.free o ((s.free o).eraseIdx i) } 7+2^(o+1)≤70000:=by rw [Nat.pow_succ]; omega
      have w1:IntKind.i64.wrap ((o:Int)+1)=((o+1:Nat):Int):=mt (by omega)
      simp only [au,min_K,w1]
      have hfree':∀ x,min a (bud a o)≤x→x<min a (bud a o)+2^(o+1)→mult { s with free:=upd s.free o ((s.free o).eraseIdx i) } x=0:=by
        intro x h1 h2
        have h3:=d2 x
        have h4:=aFx ho6 ha.1 hal x
        have h5:inB (min a (bud a o)) x (o+1)=1:=by unfold inB; rw [if_pos ⟨h1,h2⟩]
        by_cases h6:a≤x∧x<a+2^o
        · have:=hfree x h6.1 h6.2; omega
        · have h7:inB a x o=0:=by unfold inB; rw [if_neg h6]
          have h8:=nm.one x
          omega
      refine aL.mono (ih (o+1) (min a (bud a o)) h27 _ _ (c27.le hro) d1 b27 hsum ⟨u6,by omega⟩ u5 hfree' (by omega) (by omega)) ?_
      rintro ⟨r,h'⟩ ⟨r1,v',s',r2,r3,r4,r5⟩
      refine ⟨r1,v',s',r2,⟨r3.norm,r3.n,r3.gL,fun x=>?_,?_⟩,fun j hj c e=>?_,?_⟩
      · have h1:=r3.mult x
        have h2:=d2 x
        have h3:=aFx ho6 ha.1 hal x
        omega
      · have h1:=r3.sum
        rw [Nat.pow_succ] at h1
        omega
      · rcases r4 j hj c e with h1 | h1
        · by_cases e1:j=o
          · subst e1; rw [lm,b24] at h1; exact .inl h1
          · rw [kX _ _ e1] at h1; exact .inl h1
        · exact .inr (iE c27.nx h1)
      · refine c27.trans (r5.mono fun c hc1 hc2=>?_)
        have hsub:∀ c,fpB p m (upd v o y) c→fpB p m v c:=fun c hc=>by
          rcases hc with h1 | h1 | ⟨j,hj,h1⟩
          · exact .inl h1
          · exact .inr (.inl h1)
          · by_cases e1:j=o
            · subst e1; rw [lm,b24] at h1; exact .inr (.inr ⟨j,hj,h1⟩)
            · rw [kX _ _ e1] at h1; exact .inr (.inr ⟨j,hj,h1⟩)
        exact hsub c hc2
end Go.Proofs.YtnlbfbiogfilfaaGreat.Sh
