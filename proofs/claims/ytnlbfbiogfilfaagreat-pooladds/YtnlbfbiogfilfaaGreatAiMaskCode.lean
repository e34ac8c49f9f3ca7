/- What the compiler sees of a region's order by masks is what stands ahead, and what touches. -/
import Derived.Test.YtnlbfbiogfilfaaGreatAiOrdAgain
import Derived.Test.YtnlbfbiogfilfaaGreatAiDraw
import Derived.Scope
set_option linter.all false
namespace Go.Ai
theorem aix (m i:Nat):Ll m i=m.testBit i:=by
  unfold Ll
  rw [Nat.testBit_eq_decide_div_mod_eq]
  by_cases h:m/2^i%2=1
  · rw [decide_eq_true h]
    show Nat.beq (m/2^i%2) 1=true
    rw [h]; rfl
  · rw [decide_eq_false h]
    show Nat.beq (m/2^i%2) 1=false
    have:m/2^i%2=0:=by omega
    rw [this]; rfl
theorem ait (a b i:Nat):Ll (Nat.lor a b) i=(Ll a i||Ll b i):=by
  rw [aix,aix,aix]; exact Nat.testBit_or a b i
theorem azE (n i:Nat):Ll (bitM n) i=decide (n=i):=by
  rw [aix]; exact Nat.testBit_two_pow
theorem ZG (i:Nat):Ll 0 i=false:=by rw [aix]; exact Nat.zero_testBit i
theorem avt:∀ {acc:List Nat} {x j:Nat},afQ (acc++[x]) j=if j<acc.length then afQ acc j else if j=acc.length then x else 0
  | [],x,0=>rfl
  | [],x,j+1=>by simp [afQ]
  | y::acc,x,0=>by simp [afQ]
  | y::acc,x,j+1=>by
    show afQ (acc++[x]) j=_
    rw [avt]
    simp [afQ]
theorem alF {acc:List Nat} {i:Nat}:∀ {es:List Edge} {m:Nat},Ll (axS acc es m) i=true→Ll m i=true∨∃ e∈es,Region.binds .any e=true∧(i=e.on∨Ll (afQ acc e.on) i=true)
  | [],m,h=>.inl h
  | e::es,m,h=>by
    rw [axS] at h
    split at h
    · rename_i hb
      rcases alF h with h1 | ⟨e',h1,h2⟩
      · rw [ait,ait,Bool.or_eq_true,Bool.or_eq_true,azE,decide_eq_true_eq] at h1
        rcases h1 with h1 | h1 | h1
        · exact .inl h1
        · exact .inr ⟨e,by simp,hb,.inl h1.symm⟩
        · exact .inr ⟨e,by simp,hb,.inr h1⟩
      · exact .inr ⟨e',by simp [h1],h2⟩
    · rcases alF h with h1 | ⟨e',h1,h2⟩
      · exact .inl h1
      · exact .inr ⟨e',by simp [h1],h2⟩
theorem aqd:∀ (l:List Oper) (acc:List Nat) (accL:List (List Nat)),acc.length=accL.length→(∀ j i,Ll (afQ acc j) i=true→i∈accL.getD j [])→
    ∀ j i,Ll (afQ (awR l acc) j) i=true→i∈(l.foldl (fun acc o=>acc++[o.after.toList.flatMap fun e=>if Region.binds .any e then e.on::acc.getD e.on [] else []]) accL).getD j []
  | [],acc,accL,_,h,j,i,hb=>h j i hb
  | o::l,acc,accL,hl,h,j,i,hb=>by
    rw [awR] at hb
    rw [List.foldl_cons]
    refine aqd l _ _ (by simp [hl]) (fun j i hb=>?_) j i hb
    rw [avt] at hb
    rw [List.getD_eq_getElem?_getD]
    split at hb
    · rename_i hj
      rw [List.getElem?_append_left (by omega)]
      have:=h j i hb
      rwa [List.getD_eq_getElem?_getD] at this
    · split at hb
      · rename_i hj
        subst hj
        rw [List.getElem?_append_right (by omega),hl,Nat.sub_self]
        simp only [List.getElem?_cons_zero,Option.getD_some,List.mem_flatMap]
        rcases alF hb with h1 | ⟨e,h1,h2,h3⟩
        · rw [ZG] at h1; cases h1
        · refine ⟨e,h1,?_⟩
          rw [if_pos h2]
          rcases h3 with h3 | h3
          · simp [h3]
          · exact List.mem_cons_of_mem _ (h _ _ h3)
      · rw [ZG] at hb; cases hb
theorem avr {ops:Array Oper} {i j:Nat} (h:Ll (afQ (aqh ops.toList) j) i=true):Bef ops i j:=
  aqd ops.toList [] [] rfl (fun j i hb=>by
    have:afQ [] j=0:=rfl
    rw [this,ZG] at hb; cases hb) j i h
theorem aos {p:P}:∀ {l:List P} {m:Nat},(Ll m (numP p)=true∨p∈l)→Ll (Wz l m) (numP p)=true
  | [],m,h=>by
    rcases h with h | h
    · exact h
    · cases h
  | q::l,m,h=>by
    rw [Wz]
    refine aos ?_
    rw [ait,Bool.or_eq_true,azE,decide_eq_true_eq]
    rcases h with h | h
    · exact .inl (.inl h)
    · rcases List.mem_cons.1 h with rfl | h
      · exact .inl (.inr rfl)
      · exact .inr h
theorem ao6 {p:P} {d:Option P} (h:d=some p):Ll (LM d) (numP p)=true:=by
  subst h
  rw [LM,azE]; simp
theorem au5 {a b i:Nat} (h:Ll a i=true) (h':Ll b i=true):Ll (Nat.land a b) i=true:=by
  rw [aix] at *
  have:=Nat.testBit_and a b i
  rw [h,h'] at this
  exact this
theorem azd {b b':List Nat} {r r':Nat} {x y:Ins} (h:anE (miOf b r x) (miOf b' r' y)=true):aeB x y=false:=by
  unfold anE at h
  have h:=Nat.eq_of_beq_eq_true h
  have none:∀ i,Ll (Nat.land (LM x.dst) (Nat.lor (Wz y.reads 0) (LM y.dst))) i=true→False:=fun i hi=>by
    have h2:Ll (Nat.lor (Nat.land (LM x.dst) (Nat.lor (Wz y.reads 0) (LM y.dst))) (Nat.land (LM y.dst) (Wz x.reads 0))) i=true:=by rw [ait,hi]; rfl
    have h3:Nat.lor (Nat.land (LM x.dst) (Nat.lor (Wz y.reads 0) (LM y.dst))) (Nat.land (LM y.dst) (Wz x.reads 0))=0:=h
    rw [h3,ZG] at h2; cases h2
  have none':∀ i,Ll (Nat.land (LM y.dst) (Wz x.reads 0)) i=true→False:=fun i hi=>by
    have h2:Ll (Nat.lor (Nat.land (LM x.dst) (Nat.lor (Wz y.reads 0) (LM y.dst))) (Nat.land (LM y.dst) (Wz x.reads 0))) i=true:=by rw [ait,hi]; simp
    have h3:Nat.lor (Nat.land (LM x.dst) (Nat.lor (Wz y.reads 0) (LM y.dst))) (Nat.land (LM y.dst) (Wz x.reads 0))=0:=h
    rw [h3,ZG] at h2; cases h2
  cases ht:aeB x y with
  | false=>rfl
  | true=>
    exfalso
    unfold aeB at ht
    rw [Bool.or_eq_true] at ht
    rcases ht with ht | ht
    · cases hx:x.dst with
      | none=>rw [hx] at ht; cases ht
      | some d=>
        rw [hx] at ht
        dsimp only at ht
        rw [Bool.or_eq_true] at ht
        refine none (numP d) (au5 (ao6 hx) ?_)
        rw [ait,Bool.or_eq_true]
        rcases ht with ht | ht
        · exact .inl (aos (.inr (P.mem_iff.1 ht)))
        · cases hy:y.dst with
          | none=>rw [hy] at ht; cases ht
          | some e=>rw [hy] at ht; rw [P.eqb_iff.1 ht]; exact .inr (ao6 rfl)
    · cases hy:y.dst with
      | none=>rw [hy] at ht; cases ht
      | some d=>
        rw [hy] at ht
        exact none' (numP d) (au5 (ao6 hy) (aos (.inr (P.mem_iff.1 ht))))
theorem avs {cl:Nat→Nat→Ins→Ins→Bool} {x:Ins} {m:MI} {j:Nat}:∀ {l:List (Ins × MI)} {k:Nat},avN cl x m j l k=true→∀ (i:Nat) (p:Ins × MI),l[i]?=some p→(Ll m.b p.2.r||(anE p.2 m&&cl (k+i) j p.1 x))=true
  | [],k,h,i,p,hp=>by simp at hp
  | (y,n)::l,k,h,i,p,hp=>by
    rw [avN,Bool.and_eq_true] at h
    cases i with
    | zero=>simp at hp; subst hp; simpa using h.1
    | succ i=>
      have:=avs h.2 i p (by simpa using hp)
      rwa [show k+1+i=k+(i+1) by omega] at this
theorem aAg {cl:Nat→Nat→Ins→Ins→Bool} {all:List (Ins × MI)}:∀ {l:List (Ins × MI)} {k:Nat},allF cl all l k=true→∀ (j:Nat) (q:Ins × MI),l[j]?=some q→∀ (i:Nat) (p:Ins × MI),i<k+j→all[i]?=some p→
    (Ll q.2.b p.2.r||(anE p.2 q.2&&cl i (k+j) p.1 q.1))=true
  | [],k,h,j,q,hq,_,_,_,_=>by simp at hq
  | (x,m)::l,k,h,j,q,hq,i,p,hi,hp=>by
    rw [allF,Bool.and_eq_true] at h
    cases j with
    | zero=>
      simp at hq; subst hq
      have:=avs h.1 i p (by rw [List.getElem?_take,if_pos (by omega)]; exact hp)
      simpa using this
    | succ j=>
      have:=aAg h.2 j q (by simpa using hq) i p (by omega) hp
      rwa [show k+1+j=k+(j+1) by omega] at this
theorem asC {b:List Nat}:∀ {π:List Nat} {l:List Ins} (i:Nat) (x:Ins),l[i]?=some x→i<π.length→(af1 b π l)[i]?=some (x,miOf b (π.getD i 0) x)
  | [],l,i,x,hx,hi=>by simp at hi
  | r::π,[],i,x,hx,hi=>by simp at hx
  | r::π,y::l,i,x,hx,hi=>by
    cases i with
    | zero=>simp at hx; subst hx; rfl
    | succ i=>
      have:=asC (b:=b) (π:=π) i x (by simpa using hx) (by simpa using hi)
      simpa [af1] using this
theorem azT {b π:List Nat} {l:List Ins} {cl:Nat→Nat→Ins→Ins→Bool} (h:allF cl (af1 b π l) (af1 b π l) 0=true) {i j:Nat} {p q:Ins} (hij:i<j) (hp:l[i]?=some p) (hq:l[j]?=some q) (hj:j<π.length) :
    Ll (afQ b (π.getD j 0)) (π.getD i 0)=true∨(aeB p q=false∧cl i j p q=true):=by
  have:=aAg h j _ (asC j q hq hj) i _ (by omega) (asC i p hp (by omega))
  rw [Bool.or_eq_true,Bool.and_eq_true] at this
  refine this.imp (fun h=>h) fun h=>⟨azd h.1,?_⟩
  simpa using h.2
end Go.Ai
/- Code of the interpreter is the model's; so are its calls. -/
namespace Go.Ai
def Good (M₀:Mp) (D₀:Nat→Prop) (H₀:Heap) (w₀:World) (nt:Nat) (s:St) (a:Act) (w:World):Prop:=
  ∃ M D,Ext M₀ D₀ H₀ w₀ M D s.hp w∧Rel M D s.hp w∧TmRel M D nt s.tm a∧a.defers = []∧HpOk s.hp
def Ex.to:Ex→Exit
  | .nrm=>.normal
  | .exi id=>.exit id
  | .ret=>.ret
def Post (M₀:Mp) (D₀:Nat→Prop) (H₀:Heap) (w₀:World) (nt:Nat) (e:Ex) (s:St):Exit→Act→World→Prop:=
  fun x a w=>x=e.to∧Good M₀ D₀ H₀ w₀ nt s a w
section
variable {P:Program} {nt:Nat} {ops:Array Oper} {M₀:Mp} {D₀:Nat→Prop} {H₀:Heap} {w₀:World} {cf:jp}
theorem avO {q:Bool} {o:Oper} {x:Ins} (hc:Di P nt ops q o=some x):aiI nt o.dst=some x.dst:=by
  unfold Di at hc
  simp only [Option.bind_eq_some_iff] at hc
  obtain ⟨g,_,c,hc',hc⟩:=hc
  rw [hc']
  split at hc
  · simp only [Option.bind_eq_some_iff,Option.some.injEq] at hc
    obtain ⟨_,_,_,_,rfl⟩:=hc; rfl
  · simp only [Option.bind_eq_some_iff,Option.some.injEq] at hc
    obtain ⟨_,_,rfl⟩:=hc; rfl
theorem TmRel.putO {M:Mp} {D:Nat→Prop} {tm:Tr AV} {a:Act} {v:AV} {d:Option Tmp} {c:Option Ai.P} (hc:aiI nt d=some c) (h:TmRel M D nt tm a) (hv:okv D v) :
    TmRel M D nt (tm.putO c v) (a.put d (bF M v)):=by
  cases d with
  | none=>cases hc; exact h
  | some d=>
    simp only [aiI] at hc
    split at hc
    · cases hc; rw [WA]; exact h.put (by assumption) hv
    · cases hc
theorem ayL (a:Act) (d:Option Tmp) (v:Value):(a.put d v).defers=a.defers:=by cases d<;>rfl
theorem KH:∀ {q:Nat→Bool} {os:List Oper} {i:Nat} {l:List Ins},Jk P nt ops q i os=some l→
    l.length=os.length∧∀ (j:Nat) (o:Oper),os[j]?=some o→∃ x,l[j]?=some x∧Di P nt ops (q (i+j)) o=some x
  | q,[],i,l,h=>by cases h; simp
  | q,o::os,i,l,h=>by
    simp only [Jk,Option.bind_eq_some_iff,Option.map_eq_some_iff] at h
    obtain ⟨x,hx,r,hr,rfl⟩:=h
    obtain ⟨h1,h2⟩:=KH hr
    refine ⟨by simp [h1],fun j p hp=>?_⟩
    cases j with
    | zero=>simp at hp; subst hp; exact ⟨x,rfl,hx⟩
    | succ j=>
      obtain ⟨y,h3,h4⟩:=h2 j p (by simpa using hp)
      exact ⟨y,by simpa using h3,by rw [show i+(j+1)=i+1+j by omega]; exact h4⟩
theorem Good.next {q:Bool} {o:Oper} {x:Ins} {i:Nat} {Q:Exit→Act→World→Prop} {K:Act→World→Prop} {s s':St} {a:Act} {w:World} (hk:Xj P cf) (hm:pR cf)
    (hc:Di P nt ops q o=some x) (ho:ops[i]?=some o) (hg:Good M₀ D₀ H₀ w₀ nt s a w) (hs:aqS cf x s=some s')
    (hK:∀ a' w',Good M₀ D₀ H₀ w₀ nt s' a' w'→K a' w'):wpOp P ops Q i K a w:=by
  obtain ⟨M,D,hx,hr,ht,hd,hp⟩:=hg
  obtain ⟨tm,H⟩:=s
  rw [aiH] at hs
  cases hv:lT cf x tm H with
  | none=>rw [hv] at hs; cases hs
  | some r=>
    rw [hv] at hs; cases hs
    refine T3 hk hp hc ho ht hr (v:=r.1) (H':=r.2) hv fun M' D' w' hr' hx' hv'=>hK _ _ ⟨M',D',hx.trans hx',hr',?_,by rw [ayL]; exact hd,hp.mono (OI hm hp.ro hv)⟩
    exact (ht.mono hx'.keep hx'.agree).putO (avO hc) hv'
theorem aAu {Q:Exit→Act→World→Prop} {l:List Ins} (hk:Xj P cf) (hm:pR cf) (hcs:∀ (j:Nat) (o:Oper),ops[j]?=some o→∃ q x,l[j]?=some x∧Di P nt ops q o=some x) (hl:l.length=ops.size) :
    ∀ (n m:Nat) {s s':St} {e:Ex} {a:Act} {w:World},m+n=ops.size→aa9 cf (l.drop m) s = .fin e s'→Good M₀ D₀ H₀ w₀ nt s a w→(∀ a' w',Good M₀ D₀ H₀ w₀ nt s' a' w'→Q .normal a' w')→wpOps P ops Q (List.range' m n) a w:=by
  intro n
  induction n with
  | zero=>
    intro m s s' e a w hmn h hg hQ
    rw [List.drop_eq_nil_of_le (by omega),am0] at h
    cases h
    exact hQ _ _ hg
  | succ n ih=>
    intro m s s' e a w hmn h hg hQ
    have hmo:ops[m]?=some ops[m]:=Array.getElem?_eq_getElem (by omega)
    obtain ⟨q,x,hx,hc⟩:=hcs m _ hmo
    have hxe:l[m]=x:=by rw [List.getElem?_eq_getElem (by omega)] at hx; simpa using hx
    rw [List.drop_eq_getElem_cons (by omega),hxe] at h
    obtain ⟨s₁,h1,h2⟩:=aaq h
    rw [List.range'_succ,wpOps_cons]
    exact Good.next hk hm hc hmo hg h1 fun a' w' hg'=>ih (m+1) (by omega) h2 hg' hQ
def awC (ops:Array Oper):Prop:=∀ j o,ops[j]?=some o→∀ e∈o.after,Region.binds .any e=true→e.on<j
theorem aBl (h2:(ops.toList.zipIdx.all fun (o,i)=>o.after.toList.all fun e=>!Region.binds .any e||decide (e.on<i))=true):awC ops:=by
  intro j o ho e he hb
  simp only [List.all_eq_true] at h2
  have hmem:(o,j)∈ops.toList.zipIdx:=by
    rw [List.mem_zipIdx_iff_getElem?]; simpa using ho
  have:=h2 (o,j) hmem e (by simpa using he)
  simpa [hb] using this
theorem awq {l:List Ins} (hl:l.length=ops.size) (h1:awM ops l=true) (h2:awC ops):Draws ops l id fun _ _=>False:=by
  refine ⟨hl,fun i j p q hij hp hq=>?_,h2,fun _ _ _ _ h=>h,fun r hr=>⟨r,by omega,rfl⟩,fun i hi=>by rw [← hl]; exact hi⟩
  have hjl:j<ops.size:=by
    rcases Nat.lt_or_ge j l.length with h' | h'
    · omega
    · rw [List.getElem?_eq_none h'] at hq; cases hq
  unfold awM at h1
  simp only [List.all_eq_true,List.mem_range] at h1
  have:=h1 j hjl i hij
  simp only [Bool.or_eq_true,List.contains_iff_mem,hp,hq,Bool.and_eq_true,Bool.not_eq_true'] at this
  exact this.imp id fun h=>⟨h.1,.inl h.2⟩
theorem aAK {p q:Ins} (h:ay9 p q=true):afy (lG p) (lG q)=false∨Late p q:=by
  unfold ay9 at h
  rw [Bool.or_eq_true,Bool.and_eq_true,Bool.not_eq_true'] at h
  refine h.imp id fun h=>⟨h.1,?_⟩
  cases hc:lG q<;>simp_all
theorem aw7 {r:Nat}:∀ {l:List Nat},inN r l=true↔r∈l
  | []=>by simp [inN]
  | x::l=>by
    rw [inN,Bool.or_eq_true,aw7,List.mem_cons,Nat.beq_eq]
    exact ⟨fun h=>h.imp Eq.symm id,fun h=>h.imp Eq.symm id⟩
theorem ap7:∀ {l:List Nat},distN l=true→l.Nodup
  | [],_=>List.nodup_nil
  | x::l,h=>by
    rw [distN,Bool.and_eq_true,Bool.not_eq_true'] at h
    refine List.nodup_cons.2 ⟨fun hm=>?_,ap7 h.2⟩
    rw [aw7.2 hm] at h; cases h.1
theorem arO {n:Nat} {π:List Nat} (h:awk n π=true):π.length=n∧(∀ r,r<n→∃ i,i<n∧π.getD i 0=r)∧(∀ i j,i<n→j<n→π.getD i 0=π.getD j 0→i=j)∧∀ i,i<n→π.getD i 0<n:=by
  unfold awk at h
  rw [Bool.and_eq_true,Bool.and_eq_true,Bool.and_eq_true] at h
  obtain ⟨h1,h2,h3,h4⟩:=h
  have h1:=Nat.eq_of_beq_eq_true h1
  rw [List.all_eq_true] at h2 h4
  have hnd:=ap7 h3
  have get:∀ i,i<n→∃ x,π[i]?=some x∧π.getD i 0=x:=fun i hi=>⟨π[i]'(by omega),List.getElem?_eq_getElem (by omega),by rw [List.getD_eq_getElem?_getD,List.getElem?_eq_getElem (by omega)]; rfl⟩
  refine ⟨h1,fun r hr=>?_,fun i j hi hj e=>?_,fun i hi=>?_⟩
  · obtain ⟨i,hi⟩:=List.mem_iff_getElem?.1 (aw7.1 (h2 r (List.mem_range.2 hr)))
    have hil:i<π.length:=(List.getElem?_eq_some_iff.1 hi).1
    exact ⟨i,by omega,by rw [List.getD_eq_getElem?_getD,hi]; rfl⟩
  · obtain ⟨x,hx,ex⟩:=get i hi
    obtain ⟨y,hy,ey⟩:=get j hj
    have hxy:x=y:=by rw [← ex, ← ey]; exact e
    subst hxy
    obtain ⟨hi',e1⟩:=List.getElem?_eq_some_iff.1 hx
    obtain ⟨hj',e2⟩:=List.getElem?_eq_some_iff.1 hy
    exact (List.getElem_inj hnd).1 (e1.trans e2.symm)
  · obtain ⟨x,hx,ex⟩:=get i hi
    rw [ex]
    have:=h4 x (List.mem_of_getElem? hx)
    simpa [Nat.blt_eq] using this
theorem atX {l:List Ins} (hl:l.length=ops.size) (h1:amE ops l=true) (h2:awC ops):Draws ops l id fun _ _=>False:=by
  refine ⟨hl,fun i j p q hij hp hq=>?_,h2,fun _ _ _ _ h=>h,fun r hr=>⟨r,by omega,rfl⟩,fun i hi=>by rw [← hl]; exact hi⟩
  have hjl:j<l.length:=(List.getElem?_eq_some_iff.1 hq).1
  unfold amE at h1
  rw [Bool.and_eq_true] at h1
  have hr:∀ k,k<ops.size→(List.range ops.size).getD k 0=k:=fun k hk=>by
    rw [List.getD_eq_getElem?_getD,List.getElem?_range hk]; rfl
  have:=azT h1.2 hij hp hq (by rw [List.length_range]; omega)
  rw [hr i (by omega),hr j (by omega)] at this
  refine this.imp avr fun h=>⟨h.1,.inl ?_⟩
  have:=h.2
  rwa [Bool.not_eq_true'] at this
theorem acF {us:List UI} {π:List Nat} (hl:us.length=ops.size) (hp:awk ops.size π=true) (h1:aiS (aqh ops.toList) π us=true) (h2:awC ops) :
    Draws ops (us.map UI.x) (fun i=>π.getD i 0) fun i j=>anN us i j=true:=by
  obtain ⟨p0,p1,p2,p3⟩:=arO hp
  have hml:(us.map UI.x).length=ops.size:=by simpa using hl
  refine ⟨hml,fun i j p q hij hp hq=>?_,h2,fun i j hi hj=>p2 i j (by omega) (by omega),fun r hr=>by rw [hml]; exact p1 r hr,fun i hi=>p3 i (by omega)⟩
  have hjl:j<(us.map UI.x).length:=(List.getElem?_eq_some_iff.1 hq).1
  unfold aiS at h1
  rw [Bool.and_eq_true] at h1
  rcases azT h1.2 hij hp hq (by omega) with h | ⟨h3,h4⟩
  · exact .inl (avr h)
  · rw [Bool.or_eq_true] at h4
    rcases h4 with h4 | h4
    · exact .inr ⟨h3,(aAK h4).imp id fun h=>.inr h⟩
    · exact .inr ⟨h3,.inr (.inl h4)⟩
theorem ar0 {l₀:List Ins}:∀ {π:List Nat} {l:List Ins},ars l₀ π=some l→l.length=π.length∧∀ i,i<π.length→∃ x,l[i]?=some x∧l₀[π.getD i 0]?=some x
  | [],l,h=>by cases h; exact ⟨rfl,fun i hi=>by simp at hi⟩
  | r::π,l,h=>by
    simp only [ars,Option.bind_eq_some_iff,Option.map_eq_some_iff] at h
    obtain ⟨x,hx,l',hl',rfl⟩:=h
    obtain ⟨h1,h2⟩:=ar0 hl'
    refine ⟨by simp [h1],fun i hi=>?_⟩
    cases i with
    | zero=>exact ⟨x,rfl,hx⟩
    | succ i=>
      obtain ⟨y,h3,h4⟩:=h2 i (by simpa using hi)
      exact ⟨y,by simpa using h3,by simpa using h4⟩
theorem ak4 {m j:Nat}:(Array.replicate m false).getD j false=false:=by
  rcases Nat.lt_or_ge j m with h | h
  · simp [h]
  · simp [h]
theorem WL {id:Nat} {l:List Ins} {R:Nat→Nat→Prop} {s s':St} {a:Act} {w:World} {T:Nat→Tr AV} {H:Nat→Heap} {V:Nat→AV} (hmix:P.follows .mixedOrders=true) (hk:Xj P cf) (hm:pR cf)
    {π:Nat→Nat} (d:Draws ops l π R) (cs:Comps P nt ops l π) (lex:Lex cf l T H V) (hR:Redo cf l T H V R) (t0:T 0=s.tm) (h0:H 0=s.hp) (tn:T l.length=s'.tm) (hn:H l.length=s'.hp) (hg:Good M₀ D₀ H₀ w₀ nt s a w) :
    (Code.region id ops true).wp P (Post M₀ D₀ H₀ w₀ nt .nrm s') a w:=by
  have hl':=d.len
  obtain ⟨M,D,hx,hr,ht,hd,hp⟩:=hg
  rw [← t0] at ht
  rw [← h0] at hx hr hp
  obtain ⟨k,_,k1,k2,k3⟩:=axZ l 0 (Nat.zero_le _)
  have nxm:=Lex.nx lex hm hp (Nat.zero_le k) k1
  have calm:=fun b (hb:b<(H 0).nx)=>(Lex.calm lex hm (Nat.zero_le k) k1 (fun m x h1 h2 h3=>k2 m x h1 h2 h3) b hb).2
  refine wp_region_any hmix ?_
  let I:Array Bool→Act→World→Prop:=fun S a w'=>∃ M' D' k',Inv nt ops l π T H V M D w S M' D' k' a w'
  have off:∀ j,¬ On (Array.replicate ops.size false) j:=fun j hj=>by unfold On at hj; rw [ak4] at hj; cases hj
  refine aAM (I:=I) ?_ ?_ (fun S a w' ⟨M',D',k',h⟩=>h.cl.size) ops.size _ a _ ⟨M,D,k,?_⟩ (by
    have:=List.countP_le_length (p:=fun j=>!(Array.replicate ops.size false).getD j false) (l:=List.range ops.size)
    simpa using this)
  · intro S a w' i ⟨M',D',k',hinv⟩ hi
    obtain ⟨_,o,ho⟩:=N1 hi
    obtain ⟨i,hil,rfl⟩:=d.sur i (Array.getElem?_eq_some_iff.1 ho).1
    exact hinv.step d cs hk hm lex hR hp hr.dom (fun t v htn hv=>(ht.at_ t v htn hv).2) hil hi fun a' w'' M'' D'' k'' hi'=>⟨M'',D'',k'',hi'⟩
  · intro S a' w' ⟨M',D',k',hinv⟩ hnone
    have all:∀ j,j<l.length→On S (π j):=fun j hj=>hinv.cl.done d hnone _ (d.rng j hj)
    have hk':k'=l.length:=by
      rcases Nat.lt_or_ge k' l.length with h' | h'
      · exact ((hinv.k3 _ (List.getElem?_eq_getElem h')).2 (all k' h')).elim
      · have:=hinv.k1; omega
    subst hk'
    refine ⟨rfl,M',D',hx.trans ?_,?_,⟨hinv.asz,fun t v htn hv=>?_⟩,hinv.df,?_⟩
    · rw [← hn]; exact hinv.ext
    · rw [← hn]; exact hinv.rel
    · refine hinv.t1 t v htn ?_
      rw [avS lex (Nat.le_refl _) (fun j x hj _ _=>all j hj),tn]; exact hv
    · rw [← hn]; exact lex.mono hm hp l.length (Nat.le_refl _)
  · have hx0:Ext M D (H 0) w M D (H 0) w.drew:=Ext.drew
    have hr0:Rel M D (H 0) w.drew:=hr.same rfl
    refine ⟨⟨by simp,fun j o ho hj=>(off j hj).elim⟩,ht.size,hd,fun t v htn hv=>?_,fun j _ hj=>(off _ hj).elim,k1,fun j x h1 h2 h3=>(k2 j x (Nat.zero_le _) h1 h2 h3).elim,fun x hx=>⟨k3 x hx,off _⟩,
      hr0.later nxm calm,hx0.later hr.dom nxm calm,fun b hb=>.inl hb,fun m hmk hne b hb hbm=>?_,fun i x h1 h2 h3 h4 b h5 h6=>?_⟩
    · rw [amG (i:=0) (Nat.zero_le _) (fun j _ _ _ _ _=>off _)] at hv
      exact ht.at_ t v htn hv
    · rw [calm b (hr.dom b hb)]
      have hnm:=Lex.nx lex hm hp (Nat.zero_le m) (by omega)
      exact (hr.blk b hb).okB.mono fun c hc=>⟨hc,Nat.lt_of_lt_of_le (hr.dom c hc) hnm⟩
    · exact (Lex.calm lex hm (i:=i+1) (j:=k) h1 k1 (fun m x h7 h8 h9=>k2 m x (Nat.zero_le _) h8 h9) b h6).2
theorem mkUF_x (n:Nat) (all:List (Ins × MI)):∀ (l:List (Ins × MI)) (i:Nat),(mkUF n all l i).map UI.x=l.map (·.1)
  | [],_=>rfl
  | (x,m)::l,i=>by
    rw [mkUF,List.map_cons,List.map_cons,mkUF_x n all l (i+1)]
    congr 1
    cases lG x<;>rfl
theorem azU {b:List Nat}:∀ {π:List Nat} {l:List Ins},π.length=l.length→(af1 b π l).map (·.1)=l
  | [],[],_=>rfl
  | r::π,x::l,h=>by rw [af1,List.map_cons,azU (by simpa using h)]
  | [],_::_,h=>by simp at h
  | _::_,[],h=>by simp at h
theorem mkU_x {b:List Nat} {π:List Nat} {l:List Ins} (h:π.length=l.length):(mkU b π l).map UI.x=l:=by
  unfold mkU
  rw [mkUF_x,azU h]
theorem aAY {id:Nat} {m draw:Bool} {ac:AC} {ih:AC→St→Out} {s s':St} {e:Ex} {a:Act} {w:World} (hmix:P.follows .mixedOrders=true) (hk:Xj P cf) (hm:pR cf)
    (hc:awa P nt m ops draw=some ac) (h:step cf ih ac s = .fin e s') (hg:Good M₀ D₀ H₀ w₀ nt s a w) :
    (Code.region id ops draw).wp P (Post M₀ D₀ H₀ w₀ nt e s') a w:=by
  unfold awa at hc
  cases draw with
  | false=>
    simp only [Bool.false_eq_true,if_false,Option.map_eq_some_iff] at hc
    obtain ⟨l,hc,rfl⟩:=hc
    have h:aa9 cf l s = .fin e s':=h
    have he:=Zq h
    subst he
    obtain ⟨hl,hcs⟩:=KH hc
    refine wp_region ?_
    rw [List.range_eq_range']
    exact aAu hk hm (fun j o ho=>⟨_,hcs j o (by simpa using ho)⟩) (by simpa using hl) ops.size 0 (by omega) (by simpa using h) hg fun a' w' hg'=>⟨rfl,hg'⟩
  | true=>
    simp only [if_true] at hc
    split at hc
    · rename_i hback
      have hback:=aBl hback
      simp only [Option.bind_eq_some_iff] at hc
      have plain:∀ {q:Nat→Bool} {l:List Ins},Jk P nt ops q 0 ops.toList=some l→awM ops l=true→ac = .reg l→(Code.region id ops true).wp P (Post M₀ D₀ H₀ w₀ nt e s') a w:=by
        intro q l hl hd hac
        subst hac
        have h:aa9 cf l s = .fin e s':=h
        have he:=Zq h
        subst he
        obtain ⟨hl,hcs⟩:=KH hl
        have hl':l.length=ops.size:=by simpa using hl
        obtain ⟨T,H,V,lex,t0,h0,tn,hn⟩:=afG h
        exact WL hmix hk hm (awq hl' hd hback) ⟨fun i o _ ho=>⟨_,hcs i o (by simpa using ho)⟩⟩ lex (Redo.none _ _ _ _ _) t0 h0 tn hn hg
      have plainF:∀ {q:Nat→Bool} {l:List Ins},Jk P nt ops q 0 ops.toList=some l→amE ops l=true→ac = .reg l→(Code.region id ops true).wp P (Post M₀ D₀ H₀ w₀ nt e s') a w:=by
        intro q l hl hd hac
        subst hac
        have h:aa9 cf l s = .fin e s':=h
        have he:=Zq h
        subst he
        obtain ⟨hl,hcs⟩:=KH hl
        have hl':l.length=ops.size:=by simpa using hl
        obtain ⟨T,H,V,lex,t0,h0,tn,hn⟩:=afG h
        exact WL hmix hk hm (atX hl' hd hback) ⟨fun i o _ ho=>⟨_,hcs i o (by simpa using ho)⟩⟩ lex (Redo.none _ _ _ _ _) t0 h0 tn hn hg
      obtain ⟨l₀,hl₀,hc⟩:=hc
      split at hc
      · rename_i hd; cases hc; exact plainF hl₀ hd rfl
      · split at hc
        · rename_i c hcu
          cases hc
          split at hcu
          · cases hcu
          unfold compU at hcu
          dsimp only at hcu
          split at hcu
          · rename_i hperm
            rw [Option.bind_eq_some_iff] at hcu
            obtain ⟨l,hl,hcu⟩:=hcu
            obtain ⟨g1,g2⟩:=ar0 hl
            obtain ⟨g3,g4⟩:=KH hl₀
            obtain ⟨p0,p1,p2,p3⟩:=arO hperm
            have hls:l.length=ops.size:=by omega
            have cs:Comps P nt ops l fun i=>(axW (aqh ops.toList) (effB l₀) ops.size (List.range ops.size) 0 []).getD i 0:=⟨fun i o hi ho=>by
              obtain ⟨x,h3,h4⟩:=g2 i (by omega)
              obtain ⟨y,h5,h6⟩:=g4 _ o (show ops.toList[_]?=some o by rw [Array.getElem?_toList]; exact ho)
              have e:=h4.symm.trans h5
              cases e
              exact ⟨_,x,h3,h6⟩⟩
            split at hcu
            · rename_i hd
              cases hcu
              have h:aa9 cf l s = .fin e s':=h
              have he:=Zq h
              subst he
              obtain ⟨T,H,V,lex,t0,h0,tn,hn⟩:=afG h
              have hpx:(ak0 l).map UI.x=l:=by unfold ak0; rw [List.map_map]; exact List.map_id'' (fun _=>rfl) _
              have hpl:(ak0 l).length=l.length:=by unfold ak0; simp
              have d:=acF (by rw [hpl]; exact hls) hperm hd hback
              rw [hpx] at d
              have nored:∀ i j,¬ anN (ak0 l) i j=true:=fun i j hr=>by
                obtain ⟨p,q,hp,hq,hor⟩:=atq hr
                unfold ak0 at hp hq
                rw [List.getElem?_map,Option.map_eq_some_iff] at hp hq
                obtain ⟨_,_,rfl⟩:=hp
                obtain ⟨_,_,rfl⟩:=hq
                rcases hor with ⟨_,_,h⟩ | ⟨_,_,h⟩<;>cases h
              exact WL hmix hk hm d cs lex ⟨fun i j _ _ _ _ h=>(nored i j h).elim,fun i j _ _ _ _ h=>(nored i j h).elim,fun i j _ _ _ _ h=>(nored i j h).elim⟩ t0 h0 tn hn hg
            · split at hcu
              · rename_i hd
                cases hcu
                have h:acG cf (mkU (aqh ops.toList) (axW (aqh ops.toList) (effB l₀) ops.size (List.range ops.size) 0 []) l) 0 [] [] s = .fin e s':=h
                have he:=Zq (ais h)
                subst he
                obtain ⟨T,H,V,lex,ag,t0,h0,tn,hn⟩:=aA3 h
                have hux:=mkU_x (b:=aqh ops.toList) g1.symm
                have hlen:=congrArg List.length hux
                rw [List.length_map] at hlen
                have d:=acF (by rw [hlen]; exact hls) hperm hd hback
                have hR:=ag.redo
                rw [hux] at lex d hR
                rw [hlen] at tn hn
                exact WL hmix hk hm d cs lex hR t0 h0 tn hn hg
              · cases hcu
          · cases hcu
        · simp only [Option.bind_eq_some_iff] at hc
          obtain ⟨l,hl,hc⟩:=hc
          split at hc
          · rename_i hd; cases hc; exact plain hl hd rfl
          · cases hc
    · cases hc
end
end Go.Ai
