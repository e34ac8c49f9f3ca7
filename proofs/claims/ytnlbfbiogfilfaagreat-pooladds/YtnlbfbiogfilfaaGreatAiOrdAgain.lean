/- The order among the operations of a region, and what temporaries hold when some of them have run. -/
import Derived.Test.YtnlbfbiogfilfaaGreatAiAllLex
set_option linter.all false
namespace Go.Ai
theorem P.eqb_iff:∀ {p q:P},P.eqb p q=true↔p=q
  | .h,.h=>by simp [P.eqb]
  | .o p,.o q=>by simp [P.eqb,P.eqb_iff (p:=p) (q:=q)]
  | .i p,.i q=>by simp [P.eqb,P.eqb_iff (p:=p) (q:=q)]
  | .h,.o _=>by simp [P.eqb]
  | .h,.i _=>by simp [P.eqb]
  | .o _,.h=>by simp [P.eqb]
  | .o _,.i _=>by simp [P.eqb]
  | .i _,.h=>by simp [P.eqb]
  | .i _,.o _=>by simp [P.eqb]
theorem P.mem_iff {p:P}:∀ {l:List P},P.mem p l=true↔p∈l
  | []=>by simp [P.mem]
  | q::l=>by simp [P.mem,P.eqb_iff,P.mem_iff (l:=l)]
theorem touch_dr {x y:Ins} {p:P} (hx:x.dst=some p) (hy:p∈y.reads):aeB x y=true:=by
  unfold aeB; rw [hx]; simp [P.mem_iff.2 hy]
theorem touch_dd {x y:Ins} {p:P} (hx:x.dst=some p) (hy:y.dst=some p):aeB x y=true:=by
  unfold aeB; rw [hx,hy]; simp [P.eqb_iff.2 rfl]
theorem touch_rd {x y:Ins} {p:P} (hx:p∈x.reads) (hy:y.dst=some p):aeB x y=true:=by
  unfold aeB; rw [hy]; simp [P.mem_iff.2 hx]
def Bef (ops:Array Oper) (i j:Nat):Prop:=i∈(Nr ops.toList).getD j []
theorem aqb (l:List Oper) (o:Oper):Nr (l++[o])=Nr l++[o.after.toList.flatMap fun e=>if Region.binds .any e then e.on::(Nr l).getD e.on [] else []]:=by
  simp [Nr]
theorem aue (l:List Oper):(Nr l).length=l.length:=by
  rw [← List.reverse_reverse l]
  induction l.reverse with
  | nil=>rfl
  | cons o l ih=>rw [List.reverse_cons,aqb]; simp [ih]
theorem aqe (l:List Oper):∀ j o,l[j]?=some o→∀ i,i∈(Nr l).getD j []→∃ e∈o.after,Region.binds .any e=true∧(i=e.on∨i∈(Nr l).getD e.on []):=by
  rw [← List.reverse_reverse l]
  induction l.reverse with
  | nil=>intro j o h; simp at h
  | cons p r ih=>
    intro j o hj i hi
    rw [List.reverse_cons] at hj hi ⊢
    rw [aqb] at hi ⊢
    have hl:=aue r.reverse
    have grow:∀ (m x:Nat) (y:List Nat),x∈(Nr r.reverse).getD m []→x∈(Nr r.reverse++[y]).getD m []:=by
      intro m x y hx
      simp only [List.getD_eq_getElem?_getD] at hx ⊢
      by_cases hm:m<(Nr r.reverse).length
      · rw [List.getElem?_append_left hm]; exact hx
      · rw [List.getElem?_eq_none (by omega)] at hx; simp at hx
    by_cases hlt:j<r.reverse.length
    · rw [List.getElem?_append_left hlt] at hj
      simp only [List.getD_eq_getElem?_getD] at hi
      rw [List.getElem?_append_left (by omega)] at hi
      obtain ⟨e,he,hb,hor⟩:=ih j o hj i (by simpa [List.getD_eq_getElem?_getD] using hi)
      exact ⟨e,he,hb,hor.imp id (grow _ _ _)⟩
    · have hje:j=r.reverse.length:=by
        rcases Nat.lt_or_ge j (r.reverse++[p]).length with h | h
        · simp at h hlt ⊢; omega
        · rw [List.getElem?_eq_none h] at hj; cases hj
      subst hje
      rw [List.getElem?_append_right (Nat.le_refl _)] at hj
      simp at hj; subst hj
      simp only [List.getD_eq_getElem?_getD] at hi
      rw [List.getElem?_append_right (by omega)] at hi
      simp only [hl,Nat.sub_self,List.getElem?_cons_zero,Option.getD_some,List.mem_flatMap] at hi
      obtain ⟨e,he,hie⟩:=hi
      split at hie
      · rename_i hb
        refine ⟨e,by simpa using he,hb,?_⟩
        rcases List.mem_cons.1 hie with h | h
        · exact .inl h
        · exact .inr (grow _ _ _ h)
      · cases hie
def Late (p q:Ins):Prop:=US p=true∧lG q = .eff
structure Draws (ops:Array Oper) (l:List Ins) (π:Nat→Nat) (R:Nat→Nat→Prop):Prop where
  len:l.length=ops.size
  ord:∀ i j p q,i<j→l[i]?=some p→l[j]?=some q→Bef ops (π i) (π j)∨(aeB p q=false∧(afy (lG p) (lG q)=false∨R i j∨Late p q))
  back:∀ j o,ops[j]?=some o→∀ e∈o.after,Region.binds .any e=true→e.on<j
  inj:∀ i j,i<l.length→j<l.length→π i=π j→i=j
  sur:∀ r,r<ops.size→∃ i,i<l.length∧π i=r
  rng:∀ i,i<l.length→π i<ops.size
def On (S:Array Bool) (j:Nat):Prop:=S.getD j false=true
structure Closed (ops:Array Oper) (S:Array Bool):Prop where
  size:S.size=ops.size
  down:∀ j o,ops[j]?=some o→On S j→∀ e∈o.after,Region.binds .any e=true→On S e.on
section
variable {ops:Array Oper} {l:List Ins} {π:Nat→Nat} {R:Nat→Nat→Prop} {S:Array Bool}
theorem On.lt (h:Closed ops S) {j:Nat} (hj:On S j):j<ops.size:=by
  rcases Nat.lt_or_ge j S.size with h' | h'
  · rw [← h.size]; exact h'
  · unfold On at hj; simp [Array.getElem?_eq_none h'] at hj
theorem Closed.bef (h:Closed ops S) (d:Draws ops l π R):∀ {j i:Nat},On S j→Bef ops i j→On S i:=by
  intro j
  induction j using Nat.strongRecOn with
  | _ j ih=>
    intro i hj hb
    have hlt:=hj.lt h
    have hjo:ops[j]?=some ops[j]:=Array.getElem?_eq_getElem hlt
    obtain ⟨e,he,hbd,hor⟩:=aqe ops.toList j ops[j] (by simp [hlt]) i hb
    have hon:=h.down j _ hjo hj e he hbd
    rcases hor with rfl | hor
    · exact hon
    · exact ih e.on (d.back j _ hjo e he hbd) hon hor
theorem Closed.ready (h:Closed ops S) (d:Draws ops l π R) {j i:Nat} (hj:j∈Region.ready .any ops S) (hb:Bef ops i j):On S i:=by
  obtain ⟨_,o,ho,hall⟩:=mem_ready.1 hj
  obtain ⟨e,he,hbd,hor⟩:=aqe ops.toList j o (by simpa using ho) i hb
  have hon:=hall e he hbd
  rcases hor with rfl | hor
  · exact hon
  · exact h.bef d hon hor
theorem N1 {j:Nat} (hj:j∈Region.ready .any ops S):¬ On S j∧∃ o,ops[j]?=some o:=by
  obtain ⟨h1,o,ho,_⟩:=mem_ready.1 hj
  refine ⟨fun h=>?_,o,ho⟩
  unfold On at h
  rcases Nat.lt_or_ge j S.size with h' | h'
  · simp [h'] at h h1; rw [h] at h1; cases h1
  · simp [Array.getElem?_eq_none h'] at h
theorem On.set {i j:Nat} (h:On S j):On (S.setIfInBounds i true) j:=getD_set_true h
theorem On.of_set {i j:Nat} (h:On (S.setIfInBounds i true) j):j=i∨On S j:=by
  by_cases e:i=j
  · exact .inl e.symm
  · unfold On at h; rw [getD_set_ne false e] at h; exact .inr h
theorem On.at_set {i:Nat} (h:i<S.size):On (S.setIfInBounds i true) i:=by unfold On; simp [h]
theorem Closed.set (h:Closed ops S) {i:Nat} (hi:i∈Region.ready .any ops S):Closed ops (S.setIfInBounds i true):=by
  obtain ⟨_,o,ho,hall⟩:=mem_ready.1 hi
  refine ⟨by simp [h.size],fun j p hj hon e he hb=>?_⟩
  rcases hon.of_set with rfl | hon
  · rw [ho] at hj; cases hj; exact On.set (hall e he hb)
  · exact On.set (h.down j p hj hon e he hb)
theorem Closed.done (h:Closed ops S) (d:Draws ops l π R) (hr:Region.ready .any ops S = []):∀ j,j<ops.size→On S j:=by
  intro j
  induction j using Nat.strongRecOn with
  | _ j ih=>
    intro hj
    refine Classical.byContradiction fun hn=>?_
    have hjo:ops[j]?=some ops[j]:=Array.getElem?_eq_getElem hj
    have hm:j∈Region.ready .any ops S:=by
      refine mem_ready.2 ⟨?_,ops[j],hjo,fun e he hb=>?_⟩
      · have:S.getD j false=false:=by cases hs:S.getD j false with
          | false=>rfl
          | true=>exact (hn hs).elim
        have hs:j<S.size:=by rw [h.size]; exact hj
        simp [hs] at this ⊢; exact this
      · have:=d.back j _ hjo e he hb
        exact ih e.on this (by omega)
    rw [hr] at hm; cases hm
end
open Classical in
noncomputable def val (l:List Ins) (π:Nat→Nat) (V:Nat→AV) (t₀:Tr AV) (S:Array Bool):Nat→P→Option AV
  | 0,p=>t₀.get p
  | k+1,p=>match l[k]? with
    | some x=>if On S (π k)∧x.dst=some p then some (V k) else val l π V t₀ S k p
    | none=>val l π V t₀ S k p
section
variable {cf:jp} {l:List Ins} {π:Nat→Nat} {T:Nat→Tr AV} {H:Nat→Heap} {V:Nat→AV} {S:Array Bool} {p:P}
theorem akb (tm:Tr AV) {d:Option P} (v:AV) (h:d=some p):(tm.putO d v).get p=some v:=by
  subst h; exact Tr.get_set_same _ _ _
theorem ahy (tm:Tr AV) {d:Option P} (v:AV) (h:d≠some p):(tm.putO d v).get p=tm.get p:=by
  cases d with
  | none=>rfl
  | some q=>exact Tr.get_set_other (fun e=>h (by rw [e])) _ _
theorem ayc {k:Nat} {x:Ins} (hx:l[k]?=some x) (ho:On S (π k)) (hd:x.dst=some p):val l π V (T 0) S (k+1) p=some (V k):=by
  simp [val,hx,ho,hd]
theorem ayD {k:Nat} (h:∀ x,l[k]?=some x→¬ (On S (π k)∧x.dst=some p)):val l π V (T 0) S (k+1) p=val l π V (T 0) S k p:=by
  cases hx:l[k]? with
  | none=>simp [val,hx]
  | some x=>simp only [val,hx]; rw [if_neg (h x hx)]
theorem avS (h:Lex cf l T H V):∀ {k:Nat},k≤l.length→(∀ j x,j<k→l[j]?=some x→x.dst=some p→On S (π j))→val l π V (T 0) S k p=(T k).get p
  | 0,_,_=>rfl
  | k+1,hk,ha=>by
    have hx:l[k]?=some l[k]:=List.getElem?_eq_getElem (by omega)
    rw [h.tm k _ hx]
    by_cases e:(l[k]).dst=some p
    · rw [ayc hx (ha k _ (by omega) hx e) e,akb _ _ e]
    · rw [ahy _ _ e,ayD,avS h (by omega) (fun j x hj=>ha j x (by omega))]
      intro x hx'
      rw [hx] at hx'; cases hx'
      exact fun c=>e c.2
theorem amG {i:Nat}:∀ {k:Nat},i≤k→(∀ j x,i≤j→j<k→l[j]?=some x→x.dst=some p→¬ On S (π j))→val l π V (T 0) S k p=val l π V (T 0) S i p
  | 0,hk,_=>by have:i=0:=by omega
               subst this; rfl
  | k+1,hk,ha=>by
    by_cases e:i=k+1
    · subst e; rfl
    · rw [ayD,amG (i:=i) (k:=k) (by omega) (fun j x h1 h2=>ha j x h1 (by omega))]
      intro x hx c
      exact ha k x (by omega) (by omega) hx c.2 c.1
theorem arp {r:Nat} (hn:∀ k x,π k=r→l[k]?=some x→x.dst≠some p):∀ (k:Nat),val l π V (T 0) (S.setIfInBounds r true) k p=val l π V (T 0) S k p
  | 0=>rfl
  | k+1=>by
    cases hx:l[k]? with
    | none=>simp only [val,hx]; exact arp hn k
    | some x=>
      simp only [val,hx]
      by_cases e:π k=r
      · rw [if_neg (fun c=>hn k x e hx c.2),if_neg (fun c=>hn k x e hx c.2)]; exact arp hn k
      · by_cases c:On S (π k)∧x.dst=some p
        · rw [if_pos c,if_pos ⟨c.1.set,c.2⟩]
        · rw [if_neg c,if_neg]
          · exact arp hn k
          · intro c'; rcases c'.1.of_set with h | h
            · exact e h
            · exact c ⟨h,c'.2⟩
theorem azX (h:Lex cf l T H V) {v:AV}:∀ {k:Nat},k≤l.length→(T k).get p=some v→(T 0).get p=some v∨∃ j x,j<k∧l[j]?=some x∧x.dst=some p∧v=V j
  | 0,_,hv=>.inl hv
  | k+1,hk,hv=>by
    have hx:l[k]?=some l[k]:=List.getElem?_eq_getElem (by omega)
    rw [h.tm k _ hx] at hv
    by_cases e:(l[k]).dst=some p
    · rw [akb _ _ e] at hv; cases hv
      exact .inr ⟨k,_,by omega,hx,e,rfl⟩
    · rw [ahy _ _ e] at hv
      rcases azX h (by omega) hv with h1 | ⟨j,x,h1,h2⟩
      · exact .inl h1
      · exact .inr ⟨j,x,by omega,h2⟩
end
end Go.Ai
/- Loads that stand in no order with effects: done again, and held equal. -/
namespace Go.Ai
theorem ikC_inj {k q:IntKind} (h:Nat.beq (ikC k) (ikC q)=true):k=q:=by
  cases k<;>cases q<;>first | rfl | cases h
theorem aoG {a b:AV} (h:arE a b=true):a=b:=by
  unfold arE at h
  split at h
  · simp only [beq_iff_eq] at h; rw [h]
  · simp only [Bool.and_eq_true] at h
    have h2:=h.2
    rw [zj,beq_iff_eq] at h2
    rw [ikC_inj h.1,h2]
  · rw [abG,beq_iff_eq] at h; rw [h]
  · simp only [Bool.and_eq_true] at h
    rw [Nat.eq_of_beq_eq_true h.1,Nat.eq_of_beq_eq_true h.2]
  · rfl
  · simp only [Bool.and_eq_true,beq_iff_eq] at h
    obtain ⟨⟨⟨⟨h1,h2⟩,h3⟩,h4⟩,h5⟩:=h
    rw [Nat.eq_of_beq_eq_true h1,Nat.eq_of_beq_eq_true h2,Nat.eq_of_beq_eq_true h3,Nat.eq_of_beq_eq_true h4,h5]
  · rfl
  · rw [Nat.eq_of_beq_eq_true h]
  · rfl
  · rfl
  · rfl
  · cases h
theorem abe {f:AV→AV→Bool} (hf:∀ {a b},f a b=true→a=b):∀ {a b:List AV},an7 f a b=true→a=b
  | [],[],_=>rfl
  | [],_::_,h=>by cases h
  | _::_,[],h=>by cases h
  | x::a,y::b,h=>by
    have h0:(Bool.casesOn (f x y) false (an7 f a b):Bool)=true:=h
    cases hx:f x y with
    | false=>rw [hx] at h0; cases h0
    | true=>rw [hx] at h0; rw [hf hx,abe hf h0]
theorem ayA {a b:AV} (h:sameC a b=true):a=b:=by
  unfold sameC at h
  split at h
  · simp only [Bool.and_eq_true] at h
    rw [Nat.eq_of_beq_eq_true h.1.1,abe aoG h.1.2,abe aoG h.2]
  · exact aoG h
theorem axH {a b:AV} (h:sameS a b=true):a=b:=by
  unfold sameS at h
  split at h
  · rw [abe ayA h]
  · exact ayA h
theorem sameA_ok {a b:AV} (h:sameA a b=true):a=b:=by
  unfold sameA at h
  split at h
  · rw [abe axH h]
  · exact axH h
theorem abI {α:Type} {f:α→Bool}:∀ {l:List α},alu f l=true→∀ x∈l,f x=true
  | [],_,x,hx=>by cases hx
  | y::l,h,x,hx=>by
    have h0:(Bool.casesOn (f y) false (alu f l):Bool)=true:=h
    cases hy:f y with
    | false=>rw [hy] at h0; cases h0
    | true=>
      rw [hy] at h0
      rcases List.mem_cons.1 hx with rfl | hx
      · exact hy
      · exact abI h0 x hx
theorem apl {a b:Nat} (h:Nat.blt a b=true):a<b:=by simpa [Nat.blt_eq] using h
section
variable {D:Nat→Prop} {n:Nat}
theorem arJ {a:AV} (h:apJ n a=true) (hv:okv D a):okv (fun b=>D b∧b<n) a:=by
  unfold apJ at h
  split at h
  case h_4=>simp only [okv] at hv ⊢; exact ⟨hv,apl h⟩
  case h_6=>simp only [okv] at hv ⊢; exact ⟨hv,apl h⟩
  case h_8=>simp only [okv] at hv ⊢; exact ⟨hv,apl h⟩
  all_goals first | (simp [okv]; done) | cases h
theorem az8 {a:AV} (h:lowC n a=true) (hv:okv D a):okv (fun b=>D b∧b<n) a:=by
  unfold lowC at h
  split at h
  · rename_i f x c
    have h1:(Bool.casesOn (alu (apJ n) x) false (alu (apJ n) c):Bool)=true:=h
    cases hx:alu (apJ n) x with
    | false=>rw [hx] at h1; cases h1
    | true=>
      rw [hx] at h1
      simp only [okv] at hv ⊢
      exact ⟨(py _ _).2 fun v hm=>arJ (abI hx v hm) ((py _ _).1 hv.1 v hm),(py _ _).2 fun v hm=>arJ (abI h1 v hm) ((py _ _).1 hv.2 v hm)⟩
  · exact arJ h hv
theorem aAb {a:AV} (h:lowS n a=true) (hv:okv D a):okv (fun b=>D b∧b<n) a:=by
  unfold lowS at h
  split at h
  · simp only [okv] at hv ⊢
    exact ⟨(py _ _).2 fun x hx=>az8 (abI h x hx) ((py _ _).1 hv.1 x hx),hv.2⟩
  · exact az8 h hv
theorem lowA_ok {a:AV} (h:lowA n a=true) (hv:okv D a):okv (fun b=>D b∧b<n) a:=by
  unfold lowA at h
  split at h
  · simp only [okv] at hv ⊢
    exact (py _ _).2 fun x hx=>aAb (abI h x hx) ((py _ _).1 hv x hx)
  · exact aAb h hv
end
theorem aop {α:Type} {n:Nat}:∀ {l:List (Nat × α)} {a:α},apI n l=some a→(n,a)∈l
  | [],a,h=>by cases h
  | x::l,a,h=>by
    have h0:(Bool.casesOn (Nat.beq x.1 n) (apI n l) (some x.2):Option α)=some a:=h
    cases hx:Nat.beq x.1 n with
    | false=>rw [hx] at h0; exact List.mem_cons_of_mem _ (aop h0)
    | true=>
      rw [hx] at h0
      cases h0
      rw [← Nat.eq_of_beq_eq_true hx]
      exact List.mem_cons_self
theorem ayw {cf:jp} {x:Ins} {tm:Tr AV} {H:Heap} {v:AV} (h:amp cf x tm H v=true):∃ H',lT cf x tm H=some (v,H'):=by
  unfold amp at h
  cases hv:lT cf x tm H with
  | none=>rw [hv] at h; cases h
  | some r=>rw [hv] at h; obtain ⟨a,b⟩:=r; rw [sameA_ok h]; exact ⟨b,rfl⟩
structure Again (cf:jp) (us:List UI) (T:Nat→Tr AV) (H:Nat→Heap) (V:Nat→AV):Prop where
  back:∀ i u,us[i]?=some u→∀ k∈u.back,∃ H',lT cf u.x (T i) (H k)=some (V i,H')
  again:∀ j u,us[j]?=some u→∀ i∈u.again,∃ y,us[i]?=some y∧(∃ H',lT cf y.x (T i) (H (j+1))=some (V i,H'))∧lowA (H i).nx (V i)=true
structure Redo (cf:jp) (l:List Ins) (T:Nat→Tr AV) (H:Nat→Heap) (V:Nat→AV) (R:Nat→Nat→Prop):Prop where
  kind:∀ i j x y,l[i]?=some x→l[j]?=some y→R i j→(lG x = .load∧lG y = .eff)∨(lG x = .eff∧lG y = .load)
  fwd:∀ i j x y,l[i]?=some x→l[j]?=some y→R i j→lG x = .load→(∃ H',lT cf x (T i) (H (j+1))=some (V i,H'))∧lowA (H i).nx (V i)=true
  bwd:∀ i j x y,l[i]?=some x→l[j]?=some y→R i j→lG y = .load→∃ H',lT cf y (T j) (H i)=some (V j,H')
theorem Redo.none (cf:jp) (l:List Ins) (T:Nat→Tr AV) (H:Nat→Heap) (V:Nat→AV):Redo cf l T H V fun _ _=>False:=
  ⟨fun _ _ _ _ _ _ h=>h.elim,fun _ _ _ _ _ _ h=>h.elim,fun _ _ _ _ _ _ h=>h.elim⟩
theorem atq {us:List UI} {i j:Nat} (h:anN us i j=true):∃ p q,us[i]?=some p∧us[j]?=some q∧
    ((lG p.x = .load∧lG q.x = .eff∧i∈q.again)∨(lG p.x = .eff∧lG q.x = .load∧i∈q.back)):=by
  unfold anN at h
  split at h
  · rename_i p q hp hq
    refine ⟨p,q,hp,hq,?_⟩
    split at h
    · rename_i h1 h2; exact .inl ⟨h1,h2,by simpa using h⟩
    · rename_i h1 h2; exact .inr ⟨h1,h2,by simpa using h⟩
    · cases h
  · cases h
theorem Again.redo {cf:jp} {us:List UI} {T:Nat→Tr AV} {H:Nat→Heap} {V:Nat→AV} (h:Again cf us T H V):Redo cf (us.map UI.x) T H V fun i j=>anN us i j=true:=by
  have get:∀ {i:Nat} {x:Ins} {p:UI},(us.map UI.x)[i]?=some x→us[i]?=some p→x=p.x:=fun hx hp=>by
    rw [List.getElem?_map,hp] at hx; simpa using hx.symm
  refine ⟨fun i j x y hx hy hr=>?_,fun i j x y hx hy hr hl=>?_,fun i j x y hx hy hr hl=>?_⟩
  all_goals
    obtain ⟨p,q,hp,hq,hor⟩:=atq hr
    have e1:=get hx hp
    have e2:=get hy hq
    subst e1 e2
  · rcases hor with ⟨h1,h2,_⟩ | ⟨h1,h2,_⟩
    · exact .inl ⟨h1,h2⟩
    · exact .inr ⟨h1,h2⟩
  · rcases hor with ⟨_,_,h3⟩ | ⟨h1,_,_⟩
    · obtain ⟨y,hy',h4,h5⟩:=h.again j q hq i h3
      rw [hp] at hy'; cases hy'
      exact ⟨h4,h5⟩
    · rw [h1] at hl; cases hl
  · rcases hor with ⟨_,h2,_⟩ | ⟨_,_,h3⟩
    · rw [h2] at hl; cases hl
    · exact h.back j q hq i h3
theorem axK {cf:jp} {us:List UI} {T:Nat→Tr AV} {H:Nat→Heap} {V:Nat→AV} (lex:Lex cf (us.map UI.x) T H V) {e:Ex} {s':St} :
    ∀ (n j:Nat) {sn:List (Nat × Heap)} {sv:List (Nat × Sv)},j+n=us.length→acG cf (us.drop j) j sn sv ⟨T j,H j⟩ = .fin e s'→
      (∀ p∈sn,p.2=H p.1)→(∀ p∈sv,∃ y,us[p.1]?=some y∧p.2=⟨y.x,T p.1,V p.1,(H p.1).nx⟩)→
      ∀ i u,j≤i→us[i]?=some u→(∀ k∈u.back,∃ H',lT cf u.x (T i) (H k)=some (V i,H'))∧
        ∀ m∈u.again,∃ y,us[m]?=some y∧(∃ H',lT cf y.x (T m) (H (i+1))=some (V m,H'))∧lowA (H m).nx (V m)=true:=by
  intro n
  induction n with
  | zero=>
    intro j sn sv hn h h1 h2 i u hi hu
    rw [List.getElem?_eq_none (by omega)] at hu; cases hu
  | succ n ih=>
    intro j sn sv hn h h1 h2 i u hi hu
    have hj:j<us.length:=by omega
    have hx:us[j]?=some us[j]:=List.getElem?_eq_getElem hj
    rw [List.drop_eq_getElem_cons hj] at h
    have hval:=lex.val j us[j].x (by rw [List.getElem?_map,hx]; rfl)
    have htm:=lex.tm j us[j].x (by rw [List.getElem?_map,hx]; rfl)
    simp only [acG] at h
    rw [hval] at h
    dsimp only at h
    split at h
    · cases h
    · rename_i hok
      rw [Bool.and_eq_true] at hok
      by_cases e:j=i
      · subst e
        rw [hx] at hu; cases hu
        refine ⟨fun k hk=>?_,fun m hm=>?_⟩
        · have:=abI hok.1 k hk
          cases hf:apI k sn with
          | none=>rw [hf] at this; cases this
          | some K=>
            rw [hf] at this
            have hK:=h1 _ (aop hf)
            dsimp only at hK
            rw [← hK]
            exact ayw this
        · have:=abI hok.2 m hm
          cases hf:apI m sv with
          | none=>rw [hf] at this; cases this
          | some s=>
            rw [hf] at this
            obtain ⟨y,hy,hs⟩:=h2 _ (aop hf)
            dsimp only at hy hs
            subst hs
            dsimp only at this
            cases hr:amp cf y.x (T m) (H (j+1)) (V m) with
            | false=>rw [hr] at this; cases this
            | true=>rw [hr] at this; exact ⟨y,hy,ayw hr,this⟩
      · rw [← htm] at h
        refine ih (j+1) (by omega) h ?_ ?_ i u (by omega) hu
        · intro p hp
          split at hp
          · rcases List.mem_cons.1 hp with rfl | hp
            · rfl
            · exact h1 p hp
          · exact h1 p hp
        · intro p hp
          split at hp
          · rcases List.mem_cons.1 hp with rfl | hp
            · exact ⟨_,hx,rfl⟩
            · exact h2 p hp
          · exact h2 p hp
theorem aA3 {cf:jp} {us:List UI} {s s':St} {e:Ex} (h:acG cf us 0 [] [] s = .fin e s') :
    ∃ T H V,Lex cf (us.map UI.x) T H V∧Again cf us T H V∧T 0=s.tm∧H 0=s.hp∧T us.length=s'.tm∧H us.length=s'.hp:=by
  obtain ⟨T,H,V,lex,t0,h0,tn,hn⟩:=afG (ais h)
  rw [List.length_map] at tn hn
  have hs:s=⟨T 0,H 0⟩:=by rw [t0,h0]
  subst hs
  have:=axK lex us.length 0 (by omega) (by simpa using h) (fun p hp=>by cases hp) (fun p hp=>by cases hp)
  exact ⟨T,H,V,lex,⟨fun i u hu k hk=>(this i u (Nat.zero_le _) hu).1 k hk,fun j u hu i hi=>(this j u (Nat.zero_le _) hu).2 i hi⟩,rfl,rfl,tn,hn⟩
end Go.Ai
