/- What the compiler sees of a region's order by masks is what stands ahead, and what touches. -/
import Derived.Test.YtpoobhhdgjgdgaaGreatAiAgain
import Derived.Test.YtpoobhhdgjgdgaaGreatAiDraw
import Derived.Scope
set_option linter.all false
namespace Go.Ai
theorem Xd (m i:Nat):Co m i=m.testBit i:=by
  unfold Co
  rw [Nat.testBit_eq_decide_div_mod_eq]
  by_cases h:m/2^i%2=1
  · rw [gj h]
    show Nat.beq (m/2^i%2) 1=true
    rw [h]; rfl
  · rw [ge h]
    show Nat.beq (m/2^i%2) 1=false
    have:m/2^i%2=0:=by omega
    rw [this]; rfl
theorem W5 (a b i:Nat):Co (Nat.lor a b) i=(Co a i||Co b i):=by
  rw [Xd,Xd,Xd]; exact Nat.testBit_or a b i
theorem apz (n i:Nat):Co (bitM n) i=decide (n=i):=by
  rw [Xd]; exact Nat.testBit_two_pow
theorem M7 (i:Nat):Co 0 i=false:=by rw [Xd]; exact Nat.zero_testBit i
theorem ak8:∀ {acc:List Nat} {x j:Nat},TN (acc++[x]) j=if j<acc.length then TN acc j else if j=acc.length then x else 0
  | [],x,0=>rfl
  | [],x,j+1=>by simp [TN]
  | y::acc,x,0=>by simp [TN]
  | y::acc,x,j+1=>by
    show TN (acc++[x]) j=_
    rw [ak8]
    simp [TN]
theorem ZG {acc:List Nat} {i:Nat}:∀ {es:List Edge} {m:Nat},Co (aot acc es m) i=true→Co m i=true∨∃ e∈es,Region.binds .any e=true∧(i=e.on∨Co (TN acc e.on) i=true)
  | [],m,h=>.inl h
  | e::es,m,h=>by
    rw [aot] at h
    split at h
    · rename_i hb
      rcases ZG h with h1 | ⟨e',h1,h2⟩
      · rw [W5,W5,Bool.or_eq_true,Bool.or_eq_true,apz,fX] at h1
        rcases h1 with h1 | h1 | h1
        · exact .inl h1
        · exact .inr ⟨e,by simp,hb,.inl h1.symm⟩
        · exact .inr ⟨e,by simp,hb,.inr h1⟩
      · exact .inr ⟨e',by simp [h1],h2⟩
    · rcases ZG h with h1 | ⟨e',h1,h2⟩
      · exact .inl h1
      · exact .inr ⟨e',by simp [h1],h2⟩
theorem aep:∀ (l:List Oper) (acc:List Nat) (accL:List (List Nat)),acc.length=accL.length→(∀ j i,Co (TN acc j) i=true→i∈accL.getD j [])→
    ∀ j i,Co (TN (amF l acc) j) i=true→i∈(l.foldl (fun acc o=>acc++[o.after.toList.flatMap fun e=>if Region.binds .any e then e.on::acc.getD e.on [] else []]) accL).getD j []
  | [],acc,accL,_,h,j,i,hb=>h j i hb
  | o::l,acc,accL,hl,h,j,i,hb=>by
    rw [amF] at hb
    rw [List.foldl_cons]
    refine aep l _ _ (by simp [hl]) (fun j i hb=>?_) j i hb
    rw [ak8] at hb
    rw [gh]
    split at hb
    · rename_i hj
      rw [List.getElem?_append_left (by omega)]
      have:=h j i hb
      rwa [gh] at this
    · split at hb
      · rename_i hj
        subst hj
        rw [List.getElem?_append_right (by omega),hl,Nat.sub_self]
        simp only [List.getElem?_cons_zero,Option.getD_some,List.mem_flatMap]
        rcases ZG hb with h1 | ⟨e,h1,h2,h3⟩
        · rw [M7] at h1; cases h1
        · refine ⟨e,h1,?_⟩
          rw [if_pos h2]
          rcases h3 with h3 | h3
          · simp [h3]
          · exact fL _ (h _ _ h3)
      · rw [M7] at hb; cases hb
theorem ak7 {ops:Array Oper} {i j:Nat} (h:Co (TN (ad4 ops.toList) j) i=true):Bef ops i j:=
  aep ops.toList [] [] rfl (fun j i hb=>by
    have:TN [] j=0:=rfl
    rw [this,M7] at hb; cases hb) j i h
theorem acr {p:P}:∀ {l:List P} {m:Nat},(Co m (numP p)=true∨p∈l)→Co (Ku l m) (numP p)=true
  | [],m,h=>by
    rcases h with h | h
    · exact h
    · cases h
  | q::l,m,h=>by
    rw [Ku]
    refine acr ?_
    rw [W5,Bool.or_eq_true,apz,fX]
    rcases h with h | h
    · exact .inl (.inl h)
    · rcases gk.1 h with rfl | h
      · exact .inl (.inr rfl)
      · exact .inr h
theorem acF {p:P} {d:Option P} (h:d=some p):Co (DS d) (numP p)=true:=by
  subst h
  rw [DS,apz]; simp
theorem akE {a b i:Nat} (h:Co a i=true) (h':Co b i=true):Co (Nat.land a b) i=true:=by
  rw [Xd] at *
  have:=Nat.testBit_and a b i
  rw [h,h'] at this
  exact this
theorem ao1 {b b':List Nat} {r r':Nat} {x y:Ins} (h:Z5 (miOf b r x) (miOf b' r' y)=true):SY x y=false:=by
  unfold Z5 at h
  have h:=gb h
  have none:∀ i,Co (Nat.land (DS x.dst) (Nat.lor (Ku y.reads 0) (DS y.dst))) i=true→False:=fun i hi=>by
    have h2:Co (Nat.lor (Nat.land (DS x.dst) (Nat.lor (Ku y.reads 0) (DS y.dst))) (Nat.land (DS y.dst) (Ku x.reads 0))) i=true:=by rw [W5,hi]; rfl
    have h3:Nat.lor (Nat.land (DS x.dst) (Nat.lor (Ku y.reads 0) (DS y.dst))) (Nat.land (DS y.dst) (Ku x.reads 0))=0:=h
    rw [h3,M7] at h2; cases h2
  have none':∀ i,Co (Nat.land (DS y.dst) (Ku x.reads 0)) i=true→False:=fun i hi=>by
    have h2:Co (Nat.lor (Nat.land (DS x.dst) (Nat.lor (Ku y.reads 0) (DS y.dst))) (Nat.land (DS y.dst) (Ku x.reads 0))) i=true:=by rw [W5,hi]; simp
    have h3:Nat.lor (Nat.land (DS x.dst) (Nat.lor (Ku y.reads 0) (DS y.dst))) (Nat.land (DS y.dst) (Ku x.reads 0))=0:=h
    rw [h3,M7] at h2; cases h2
  cases ht:SY x y with
  | false=>rfl
  | true=>
    exfalso
    unfold SY at ht
    rw [Bool.or_eq_true] at ht
    rcases ht with ht | ht
    · cases hx:x.dst with
      | none=>rw [hx] at ht; cases ht
      | some d=>
        rw [hx] at ht
        dsimp only at ht
        rw [Bool.or_eq_true] at ht
        refine none (numP d) (akE (acF hx) ?_)
        rw [W5,Bool.or_eq_true]
        rcases ht with ht | ht
        · exact .inl (acr (.inr (P.mem_iff.1 ht)))
        · cases hy:y.dst with
          | none=>rw [hy] at ht; cases ht
          | some e=>rw [hy] at ht; rw [P.eqb_iff.1 ht]; exact .inr (acF rfl)
    · cases hy:y.dst with
      | none=>rw [hy] at ht; cases ht
      | some d=>
        rw [hy] at ht
        exact none' (numP d) (akE (acF hy) (acr (.inr (P.mem_iff.1 ht))))
theorem akF {cl:Nat→Nat→Ins→Ins→Bool} {x:Ins} {m:MI} {j:Nat}:∀ {l:List (Ins × MI)} {k:Nat},alE cl x m j l k=true→∀ (i:Nat) (p:Ins × MI),l[i]?=some p→(Co m.b p.2.r||(Z5 p.2 m&&cl (k+i) j p.1 x))=true
  | [],k,h,i,p,hp=>by simp at hp
  | (y,n)::l,k,h,i,p,hp=>by
    rw [alE,fV] at h
    cases i with
    | zero=>simp at hp; subst hp; simpa using h.1
    | succ i=>
      have:=akF h.2 i p (by simpa using hp)
      rwa [show k+1+i=k+(i+1) by omega] at this
theorem apX {cl:Nat→Nat→Ins→Ins→Bool} {all:List (Ins × MI)}:∀ {l:List (Ins × MI)} {k:Nat},allF cl all l k=true→∀ (j:Nat) (q:Ins × MI),l[j]?=some q→∀ (i:Nat) (p:Ins × MI),i<k+j→all[i]?=some p→
    (Co q.2.b p.2.r||(Z5 p.2 q.2&&cl i (k+j) p.1 q.1))=true
  | [],k,h,j,q,hq,_,_,_,_=>by simp at hq
  | (x,m)::l,k,h,j,q,hq,i,p,hi,hp=>by
    rw [allF,fV] at h
    cases j with
    | zero=>
      simp at hq; subst hq
      have:=akF h.1 i p (by rw [List.getElem?_take,if_pos (by omega)]; exact hp)
      simpa using this
    | succ j=>
      have:=apX h.2 j q (by simpa using hq) i p (by omega) hp
      rwa [show k+1+j=k+(j+1) by omega] at this
theorem ahv {b:List Nat}:∀ {π:List Nat} {l:List Ins} (i:Nat) (x:Ins),l[i]?=some x→i<π.length→(WA b π l)[i]?=some (x,miOf b (π.getD i 0) x)
  | [],l,i,x,hx,hi=>by simp at hi
  | r::π,[],i,x,hx,hi=>by simp at hx
  | r::π,y::l,i,x,hx,hi=>by
    cases i with
    | zero=>simp at hx; subst hx; rfl
    | succ i=>
      have:=ahv (b:=b) (π:=π) i x (by simpa using hx) (by simpa using hi)
      simpa [WA] using this
theorem aqh {b π:List Nat} {l:List Ins} {cl:Nat→Nat→Ins→Ins→Bool} (h:allF cl (WA b π l) (WA b π l) 0=true) {i j:Nat} {p q:Ins} (hij:i<j) (hp:l[i]?=some p) (hq:l[j]?=some q) (hj:j<π.length) :
    Co (TN b (π.getD j 0)) (π.getD i 0)=true∨(SY p q=false∧cl i j p q=true):=by
  have:=apX h j _ (ahv j q hq hj) i _ (by omega) (ahv i p hp (by omega))
  rw [Bool.or_eq_true,fV] at this
  refine this.imp (fun h=>h) fun h=>⟨ao1 h.1,?_⟩
  simpa using h.2
end Go.Ai
/- Code of the interpreter is the model's; so are its calls. -/
namespace Go.Ai
def Good (M₀:Mp) (D₀:Nat→Prop) (H₀:Heap) (w₀:World) (nt:Nat) (s:St) (a:Act) (w:World):Prop:=
  ∃ M D,Ext M₀ D₀ H₀ w₀ M D s.hp w∧Rel M D s.hp w∧bX M D nt s.tm a∧a.defers = []∧HpOk s.hp
def Ex.to:Ex→Exit
  | .nrm=>.normal
  | .exi id=>.exit id
  | .ret=>.ret
def Post (M₀:Mp) (D₀:Nat→Prop) (H₀:Heap) (w₀:World) (nt:Nat) (e:Ex) (s:St):Exit→Act→World→Prop:=
  fun x a w=>x=e.to∧Good M₀ D₀ H₀ w₀ nt s a w
section
variable {P:Program} {nt:Nat} {ops:Array Oper} {M₀:Mp} {D₀:Nat→Prop} {H₀:Heap} {w₀:World} {cf:cj}
theorem amA {q:Bool} {o:Oper} {x:Ins} (hc:xl P nt ops q o=some x):WV nt o.dst=some x.dst:=by
  unfold xl at hc
  simp only [fT] at hc
  obtain ⟨g,_,c,hc',hc⟩:=hc
  rw [hc']
  split at hc
  · simp only [fT,Option.some.injEq] at hc
    obtain ⟨_,_,_,_,rfl⟩:=hc; rfl
  · simp only [fT,Option.some.injEq] at hc
    obtain ⟨_,_,rfl⟩:=hc; rfl
theorem bX.putO {M:Mp} {D:Nat→Prop} {tm:Tr AV} {a:Act} {v:AV} {d:Option Tmp} {c:Option Ai.P} (hc:WV nt d=some c) (h:bX M D nt tm a) (hv:okv D v) :
    bX M D nt (tm.putO c v) (a.put d (im M v)):=by
  cases d with
  | none=>cases hc; exact h
  | some d=>
    simp only [WV] at hc
    split at hc
    · cases hc; rw [Li]; exact h.put (by assumption) hv
    · cases hc
theorem apa (a:Act) (d:Option Tmp) (v:Value):(a.put d v).defers=a.defers:=by cases d<;>rfl
theorem CP:∀ {q:Nat→Bool} {os:List Oper} {i:Nat} {l:List Ins},Bu P nt ops q i os=some l→
    l.length=os.length∧∀ (j:Nat) (o:Oper),os[j]?=some o→∃ x,l[j]?=some x∧xl P nt ops (q (i+j)) o=some x
  | q,[],i,l,h=>by cases h; simp
  | q,o::os,i,l,h=>by
    simp only [Bu,fT,fF] at h
    obtain ⟨x,hx,r,hr,rfl⟩:=h
    obtain ⟨h1,h2⟩:=CP hr
    refine ⟨by simp [h1],fun j p hp=>?_⟩
    cases j with
    | zero=>simp at hp; subst hp; exact ⟨x,rfl,hx⟩
    | succ j=>
      obtain ⟨y,h3,h4⟩:=h2 j p (by simpa using hp)
      exact ⟨y,by simpa using h3,by rw [show i+(j+1)=i+1+j by omega]; exact h4⟩
theorem Good.next {q:Bool} {o:Oper} {x:Ins} {i:Nat} {Q:Exit→Act→World→Prop} {K:Act→World→Prop} {s s':St} {a:Act} {w:World} (hk:eN P cf) (hm:cH cf)
    (hc:xl P nt ops q o=some x) (ho:ops[i]?=some o) (hg:Good M₀ D₀ H₀ w₀ nt s a w) (hs:afs cf x s=some s')
    (hK:∀ a' w',Good M₀ D₀ H₀ w₀ nt s' a' w'→K a' w'):wpOp P ops Q i K a w:=by
  obtain ⟨M,D,hx,hr,ht,hd,hp⟩:=hg
  obtain ⟨tm,H⟩:=s
  rw [WX] at hs
  cases hv:nQ cf x tm H with
  | none=>rw [hv] at hs; cases hs
  | some r=>
    rw [hv] at hs; cases hs
    refine Iu hk hp hc ho ht hr (v:=r.1) (H':=r.2) hv fun M' D' w' hr' hx' hv'=>hK _ _ ⟨M',D',hx.trans hx',hr',?_,by rw [apa]; exact hd,hp.mono (Is hm hp.ro hv)⟩
    exact (ht.mono hx'.keep hx'.agree).putO (amA hc) hv'
theorem aqQ {Q:Exit→Act→World→Prop} {l:List Ins} (hk:eN P cf) (hm:cH cf) (hcs:∀ (j:Nat) (o:Oper),ops[j]?=some o→∃ q x,l[j]?=some x∧xl P nt ops q o=some x) (hl:l.length=ops.size) :
    ∀ (n m:Nat) {s s':St} {e:Ex} {a:Act} {w:World},m+n=ops.size→OH cf (l.drop m) s = .fin e s'→Good M₀ D₀ H₀ w₀ nt s a w→(∀ a' w',Good M₀ D₀ H₀ w₀ nt s' a' w'→Q .normal a' w')→wpOps P ops Q (List.range' m n) a w:=by
  intro n
  induction n with
  | zero=>
    intro m s s' e a w hmn h hg hQ
    rw [List.drop_eq_nil_of_le (by omega),aaC] at h
    cases h
    exact hQ _ _ hg
  | succ n ih=>
    intro m s s' e a w hmn h hg hQ
    have hmo:ops[m]?=some ops[m]:=Array.getElem?_eq_getElem (by omega)
    obtain ⟨q,x,hx,hc⟩:=hcs m _ hmo
    have hxe:l[m]=x:=by rw [fU (by omega)] at hx; simpa using hx
    rw [gc (by omega),hxe] at h
    obtain ⟨s₁,h1,h2⟩:=NS h
    rw [List.range'_succ,wpOps_cons]
    exact Good.next hk hm hc hmo hg h1 fun a' w' hg'=>ih (m+1) (by omega) h2 hg' hQ
def amy (ops:Array Oper):Prop:=∀ j o,ops[j]?=some o→∀ e∈o.after,Region.binds .any e=true→e.on<j
theorem aqM (h2:(ops.toList.zipIdx.all fun (o,i)=>o.after.toList.all fun e=>!Region.binds .any e||decide (e.on<i))=true):amy ops:=by
  intro j o ho e he hb
  simp only [gz] at h2
  have hmem:(o,j)∈ops.toList.zipIdx:=by
    rw [List.mem_zipIdx_iff_getElem?]; simpa using ho
  have:=h2 (o,j) hmem e (by simpa using he)
  simpa [hb] using this
theorem alZ {l:List Ins} (hl:l.length=ops.size) (h1:alB ops l=true) (h2:amy ops):Draws ops l id fun _ _=>False:=by
  refine ⟨hl,fun i j p q hij hp hq=>?_,h2,fun _ _ _ _ h=>h,fun r hr=>⟨r,by omega,rfl⟩,fun i hi=>by rw [← hl]; exact hi⟩
  have hjl:j<ops.size:=by
    rcases fQ j l.length with h' | h'
    · omega
    · rw [gf h'] at hq; cases hq
  unfold alB at h1
  simp only [gz,gv] at h1
  have:=h1 j hjl i hij
  simp only [Bool.or_eq_true,List.contains_iff_mem,hp,hq,fV,Bool.not_eq_true'] at this
  exact this.imp id fun h=>⟨h.1,.inl h.2⟩
theorem aqC {p q:Ins} (h:aoX p q=true):U7 (mw p) (mw q)=false∨Late p q:=by
  unfold aoX at h
  rw [Bool.or_eq_true,fV,Bool.not_eq_true'] at h
  refine h.imp id fun h=>⟨h.1,?_⟩
  cases hc:mw q<;>simp_all
theorem amR {r:Nat}:∀ {l:List Nat},inN r l=true↔r∈l
  | []=>by simp [inN]
  | x::l=>by
    rw [inN,Bool.or_eq_true,amR,gk,Nat.beq_eq]
    exact ⟨fun h=>h.imp Eq.symm id,fun h=>h.imp Eq.symm id⟩
theorem aeq:∀ {l:List Nat},distN l=true→l.Nodup
  | [],_=>List.nodup_nil
  | x::l,h=>by
    rw [distN,fV,Bool.not_eq_true'] at h
    refine List.nodup_cons.2 ⟨fun hm=>?_,aeq h.2⟩
    rw [amR.2 hm] at h; cases h.1
theorem ahL {n:Nat} {π:List Nat} (h:amd n π=true):π.length=n∧(∀ r,r<n→∃ i,i<n∧π.getD i 0=r)∧(∀ i j,i<n→j<n→π.getD i 0=π.getD j 0→i=j)∧∀ i,i<n→π.getD i 0<n:=by
  unfold amd at h
  rw [fV,fV,fV] at h
  obtain ⟨h1,h2,h3,h4⟩:=h
  have h1:=gb h1
  rw [gz] at h2 h4
  have hnd:=aeq h3
  have get:∀ i,i<n→∃ x,π[i]?=some x∧π.getD i 0=x:=fun i hi=>⟨π[i]'(by omega),fU (by omega),by rw [gh,fU (by omega)]; rfl⟩
  refine ⟨h1,fun r hr=>?_,fun i j hi hj e=>?_,fun i hi=>?_⟩
  · obtain ⟨i,hi⟩:=List.mem_iff_getElem?.1 (amR.1 (h2 r (gv.2 hr)))
    have hil:i<π.length:=(fZ.1 hi).1
    exact ⟨i,by omega,by rw [gh,hi]; rfl⟩
  · obtain ⟨x,hx,ex⟩:=get i hi
    obtain ⟨y,hy,ey⟩:=get j hj
    have hxy:x=y:=by rw [← ex, ← ey]; exact e
    subst hxy
    obtain ⟨hi',e1⟩:=fZ.1 hx
    obtain ⟨hj',e2⟩:=fZ.1 hy
    exact (List.getElem_inj hnd).1 (e1.trans e2.symm)
  · obtain ⟨x,hx,ex⟩:=get i hi
    rw [ex]
    have:=h4 x (fS hx)
    simpa [Nat.blt_eq] using this
theorem aiS {l:List Ins} (hl:l.length=ops.size) (h1:ZR ops l=true) (h2:amy ops):Draws ops l id fun _ _=>False:=by
  refine ⟨hl,fun i j p q hij hp hq=>?_,h2,fun _ _ _ _ h=>h,fun r hr=>⟨r,by omega,rfl⟩,fun i hi=>by rw [← hl]; exact hi⟩
  have hjl:j<l.length:=(fZ.1 hq).1
  unfold ZR at h1
  rw [fV] at h1
  have hr:∀ k,k<ops.size→(List.range ops.size).getD k 0=k:=fun k hk=>by
    rw [gh,List.getElem?_range hk]; rfl
  have:=aqh h1.2 hij hp hq (by rw [List.length_range]; omega)
  rw [hr i (by omega),hr j (by omega)] at this
  refine this.imp ak7 fun h=>⟨h.1,.inl ?_⟩
  have:=h.2
  rwa [Bool.not_eq_true'] at this
theorem Rx {us:List UI} {π:List Nat} (hl:us.length=ops.size) (hp:amd ops.size π=true) (h1:W8 (ad4 ops.toList) π us=true) (h2:amy ops) :
    Draws ops (us.map UI.x) (fun i=>π.getD i 0) fun i j=>adI us i j=true:=by
  obtain ⟨p0,p1,p2,p3⟩:=ahL hp
  have hml:(us.map UI.x).length=ops.size:=by simpa using hl
  refine ⟨hml,fun i j p q hij hp hq=>?_,h2,fun i j hi hj=>p2 i j (by omega) (by omega),fun r hr=>by rw [hml]; exact p1 r hr,fun i hi=>p3 i (by omega)⟩
  have hjl:j<(us.map UI.x).length:=(fZ.1 hq).1
  unfold W8 at h1
  rw [fV] at h1
  rcases aqh h1.2 hij hp hq (by omega) with h | ⟨h3,h4⟩
  · exact .inl (ak7 h)
  · rw [Bool.or_eq_true] at h4
    rcases h4 with h4 | h4
    · exact .inr ⟨h3,(aqC h4).imp id fun h=>.inr h⟩
    · exact .inr ⟨h3,.inr (.inl h4)⟩
theorem ai5 {l₀:List Ins}:∀ {π:List Nat} {l:List Ins},agC l₀ π=some l→l.length=π.length∧∀ i,i<π.length→∃ x,l[i]?=some x∧l₀[π.getD i 0]?=some x
  | [],l,h=>by cases h; exact ⟨rfl,fun i hi=>by simp at hi⟩
  | r::π,l,h=>by
    simp only [agC,fT,fF] at h
    obtain ⟨x,hx,l',hl',rfl⟩:=h
    obtain ⟨h1,h2⟩:=ai5 hl'
    refine ⟨by simp [h1],fun i hi=>?_⟩
    cases i with
    | zero=>exact ⟨x,rfl,hx⟩
    | succ i=>
      obtain ⟨y,h3,h4⟩:=h2 i (by simpa using hi)
      exact ⟨y,by simpa using h3,by simpa using h4⟩
theorem ZI {m j:Nat}:(Array.replicate m false).getD j false=false:=by
  rcases fQ j m with h | h
  · simp [h]
  · simp [h]
theorem Lm {id:Nat} {l:List Ins} {R:Nat→Nat→Prop} {s s':St} {a:Act} {w:World} {T:Nat→Tr AV} {H:Nat→Heap} {V:Nat→AV} (hmix:P.follows .mixedOrders=true) (hk:eN P cf) (hm:cH cf)
    {π:Nat→Nat} (d:Draws ops l π R) (cs:Comps P nt ops l π) (lex:Lex cf l T H V) (hR:Redo cf l T H V R) (t0:T 0=s.tm) (h0:H 0=s.hp) (tn:T l.length=s'.tm) (hn:H l.length=s'.hp) (hg:Good M₀ D₀ H₀ w₀ nt s a w) :
    (Code.region id ops true).wp P (Post M₀ D₀ H₀ w₀ nt .nrm s') a w:=by
  have hl':=d.len
  obtain ⟨M,D,hx,hr,ht,hd,hp⟩:=hg
  rw [← t0] at ht
  rw [← h0] at hx hr hp
  obtain ⟨k,_,k1,k2,k3⟩:=aog l 0 (Nat.zero_le _)
  have nxm:=Lex.nx lex hm hp (Nat.zero_le k) k1
  have calm:=fun b (hb:b<(H 0).nx)=>(Lex.calm lex hm (Nat.zero_le k) k1 (fun m x h1 h2 h3=>k2 m x h1 h2 h3) b hb).2
  refine wp_region_any hmix ?_
  let I:Array Bool→Act→World→Prop:=fun S a w'=>∃ M' D' k',Inv nt ops l π T H V M D w S M' D' k' a w'
  have off:∀ j,¬ On (Array.replicate ops.size false) j:=fun j hj=>by unfold On at hj; rw [ZI] at hj; cases hj
  refine aqV (I:=I) ?_ ?_ (fun S a w' ⟨M',D',k',h⟩=>h.cl.size) ops.size _ a _ ⟨M,D,k,?_⟩ (by
    have:=List.countP_le_length (p:=fun j=>!(Array.replicate ops.size false).getD j false) (l:=List.range ops.size)
    simpa using this)
  · intro S a w' i ⟨M',D',k',hinv⟩ hi
    obtain ⟨_,o,ho⟩:=EP hi
    obtain ⟨i,hil,rfl⟩:=d.sur i (fM.1 ho).1
    exact hinv.step d cs hk hm lex hR hp hr.dom (fun t v htn hv=>(ht.at_ t v htn hv).2) hil hi fun a' w'' M'' D'' k'' hi'=>⟨M'',D'',k'',hi'⟩
  · intro S a' w' ⟨M',D',k',hinv⟩ hnone
    have all:∀ j,j<l.length→On S (π j):=fun j hj=>hinv.cl.done d hnone _ (d.rng j hj)
    have hk':k'=l.length:=by
      rcases fQ k' l.length with h' | h'
      · exact ((hinv.k3 _ (fU h')).2 (all k' h')).elim
      · have:=hinv.k1; omega
    subst hk'
    refine ⟨rfl,M',D',hx.trans ?_,?_,⟨hinv.asz,fun t v htn hv=>?_⟩,hinv.df,?_⟩
    · rw [← hn]; exact hinv.ext
    · rw [← hn]; exact hinv.rel
    · refine hinv.t1 t v htn ?_
      rw [amI lex (fY _) (fun j x hj _ _=>all j hj),tn]; exact hv
    · rw [← hn]; exact lex.mono hm hp l.length (fY _)
  · have hx0:Ext M D (H 0) w M D (H 0) w.drew:=Ext.drew
    have hr0:Rel M D (H 0) w.drew:=hr.same rfl
    refine ⟨⟨by simp,fun j o ho hj=>(off j hj).elim⟩,ht.size,hd,fun t v htn hv=>?_,fun j _ hj=>(off _ hj).elim,k1,fun j x h1 h2 h3=>(k2 j x (Nat.zero_le _) h1 h2 h3).elim,fun x hx=>⟨k3 x hx,off _⟩,
      hr0.later nxm calm,hx0.later hr.dom nxm calm,fun b hb=>.inl hb,fun m hmk hne b hb hbm=>?_,fun i x h1 h2 h3 h4 b h5 h6=>?_⟩
    · rw [abC (i:=0) (Nat.zero_le _) (fun j _ _ _ _ _=>off _)] at hv
      exact ht.at_ t v htn hv
    · rw [calm b (hr.dom b hb)]
      have hnm:=Lex.nx lex hm hp (Nat.zero_le m) (by omega)
      exact (hr.blk b hb).okB.mono fun c hc=>⟨hc,fW (hr.dom c hc) hnm⟩
    · exact (Lex.calm lex hm (i:=i+1) (j:=k) h1 k1 (fun m x h7 h8 h9=>k2 m x (Nat.zero_le _) h8 h9) b h6).2
theorem mkUF_x (n:Nat) (all:List (Ins × MI)):∀ (l:List (Ins × MI)) (i:Nat),(mkUF n all l i).map UI.x=l.map (·.1)
  | [],_=>rfl
  | (x,m)::l,i=>by
    rw [mkUF,List.map_cons,List.map_cons,mkUF_x n all l (i+1)]
    congr 1
    cases mw x<;>rfl
theorem aqc {b:List Nat}:∀ {π:List Nat} {l:List Ins},π.length=l.length→(WA b π l).map (·.1)=l
  | [],[],_=>rfl
  | r::π,x::l,h=>by rw [WA,List.map_cons,aqc (by simpa using h)]
  | [],_::_,h=>by simp at h
  | _::_,[],h=>by simp at h
theorem mkU_x {b:List Nat} {π:List Nat} {l:List Ins} (h:π.length=l.length):(mkU b π l).map UI.x=l:=by
  unfold mkU
  rw [mkUF_x,aqc h]
theorem ard {id:Nat} {m draw:Bool} {ac:AC} {ih:AC→St→Out} {s s':St} {e:Ex} {a:Act} {w:World} (hmix:P.follows .mixedOrders=true) (hk:eN P cf) (hm:cH cf)
    (hc:aml P nt m ops draw=some ac) (h:step cf ih ac s = .fin e s') (hg:Good M₀ D₀ H₀ w₀ nt s a w) :
    (Code.region id ops draw).wp P (Post M₀ D₀ H₀ w₀ nt e s') a w:=by
  unfold aml at hc
  cases draw with
  | false=>
    simp only [fK,if_false,fF] at hc
    obtain ⟨l,hc,rfl⟩:=hc
    have h:OH cf l s = .fin e s':=h
    have he:=OQ h
    subst he
    obtain ⟨hl,hcs⟩:=CP hc
    refine wp_region ?_
    rw [List.range_eq_range']
    exact aqQ hk hm (fun j o ho=>⟨_,hcs j o (by simpa using ho)⟩) (by simpa using hl) ops.size 0 (by omega) (by simpa using h) hg fun a' w' hg'=>⟨rfl,hg'⟩
  | true=>
    simp only [if_true] at hc
    split at hc
    · rename_i hback
      have hback:=aqM hback
      simp only [fT] at hc
      have plain:∀ {q:Nat→Bool} {l:List Ins},Bu P nt ops q 0 ops.toList=some l→alB ops l=true→ac = .reg l→(Code.region id ops true).wp P (Post M₀ D₀ H₀ w₀ nt e s') a w:=by
        intro q l hl hd hac
        subst hac
        have h:OH cf l s = .fin e s':=h
        have he:=OQ h
        subst he
        obtain ⟨hl,hcs⟩:=CP hl
        have hl':l.length=ops.size:=by simpa using hl
        obtain ⟨T,H,V,lex,t0,h0,tn,hn⟩:=WN h
        exact Lm hmix hk hm (alZ hl' hd hback) ⟨fun i o _ ho=>⟨_,hcs i o (by simpa using ho)⟩⟩ lex (Redo.none _ _ _ _ _) t0 h0 tn hn hg
      have plainF:∀ {q:Nat→Bool} {l:List Ins},Bu P nt ops q 0 ops.toList=some l→ZR ops l=true→ac = .reg l→(Code.region id ops true).wp P (Post M₀ D₀ H₀ w₀ nt e s') a w:=by
        intro q l hl hd hac
        subst hac
        have h:OH cf l s = .fin e s':=h
        have he:=OQ h
        subst he
        obtain ⟨hl,hcs⟩:=CP hl
        have hl':l.length=ops.size:=by simpa using hl
        obtain ⟨T,H,V,lex,t0,h0,tn,hn⟩:=WN h
        exact Lm hmix hk hm (aiS hl' hd hback) ⟨fun i o _ ho=>⟨_,hcs i o (by simpa using ho)⟩⟩ lex (Redo.none _ _ _ _ _) t0 h0 tn hn hg
      obtain ⟨l₀,hl₀,hc⟩:=hc
      split at hc
      · rename_i hd; cases hc; exact plainF hl₀ hd rfl
      · split at hc
        · rename_i c hcu
          cases hc
          split at hcu
          · cases hcu
          unfold compU at hcu
          dsimp only at hcu
          split at hcu
          · rename_i hperm
            rw [fT] at hcu
            obtain ⟨l,hl,hcu⟩:=hcu
            obtain ⟨g1,g2⟩:=ai5 hl
            obtain ⟨g3,g4⟩:=CP hl₀
            obtain ⟨p0,p1,p2,p3⟩:=ahL hperm
            have hls:l.length=ops.size:=by omega
            have cs:Comps P nt ops l fun i=>(anG (ad4 ops.toList) (effB l₀) ops.size (List.range ops.size) 0 []).getD i 0:=⟨fun i o hi ho=>by
              obtain ⟨x,h3,h4⟩:=g2 i (by omega)
              obtain ⟨y,h5,h6⟩:=g4 _ o (show ops.toList[_]?=some o by rw [Array.getElem?_toList]; exact ho)
              have e:=h4.symm.trans h5
              cases e
              exact ⟨_,x,h3,h6⟩⟩
            split at hcu
            · rename_i hd
              cases hcu
              have h:OH cf l s = .fin e s':=h
              have he:=OQ h
              subst he
              obtain ⟨T,H,V,lex,t0,h0,tn,hn⟩:=WN h
              have hpx:(Zw l).map UI.x=l:=by unfold Zw; rw [List.map_map]; exact List.map_id'' (fun _=>rfl) _
              have hpl:(Zw l).length=l.length:=by unfold Zw; simp
              have d:=Rx (by rw [hpl]; exact hls) hperm hd hback
              rw [hpx] at d
              have nored:∀ i j,¬ adI (Zw l) i j=true:=fun i j hr=>by
                obtain ⟨p,q,hp,hq,hor⟩:=ahB hr
                unfold Zw at hp hq
                rw [gy,fF] at hp hq
                obtain ⟨_,_,rfl⟩:=hp
                obtain ⟨_,_,rfl⟩:=hq
                rcases hor with ⟨_,_,h⟩ | ⟨_,_,h⟩<;>cases h
              exact Lm hmix hk hm d cs lex ⟨fun i j _ _ _ _ h=>(nored i j h).elim,fun i j _ _ _ _ h=>(nored i j h).elim,fun i j _ _ _ _ h=>(nored i j h).elim⟩ t0 h0 tn hn hg
            · split at hcu
              · rename_i hd
                cases hcu
                have h:Ky cf (mkU (ad4 ops.toList) (anG (ad4 ops.toList) (effB l₀) ops.size (List.range ops.size) 0 []) l) 0 [] [] s = .fin e s':=h
                have he:=OQ (W3 h)
                subst he
                obtain ⟨T,H,V,lex,ag,t0,h0,tn,hn⟩:=aqv h
                have hux:=mkU_x (b:=ad4 ops.toList) g1.symm
                have hlen:=congrArg List.length hux
                rw [gu] at hlen
                have d:=Rx (by rw [hlen]; exact hls) hperm hd hback
                have hR:=ag.redo
                rw [hux] at lex d hR
                rw [hlen] at tn hn
                exact Lm hmix hk hm d cs lex hR t0 h0 tn hn hg
              · cases hcu
          · cases hcu
        · simp only [fT] at hc
          obtain ⟨l,hl,hc⟩:=hc
          split at hc
          · rename_i hd; cases hc; exact plain hl hd rfl
          · cases hc
    · cases hc
end
end Go.Ai
