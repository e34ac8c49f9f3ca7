/- Maps. -/
import Derived.Test.YtnlbfbiogfilfaaGreatAiPure3Mem
import Derived.Test.YtnlbfbiogfilfaaGreatAiPurePure2
set_option linter.all false
namespace Go.Ai
section
variable {P:Program} {nt:Nat} {M:Mp} {D:Nat→Prop} {tm:Tr AV} {a:Act} {w:World} {H H':Heap} {v:AV} {o:Oper}
def agT (P:Program) (t:TypeId):KeyK→Prop
  | .cell .int=>∃ k,P.underlying t=some (.int k)
  | .cell .str=>P.underlying t=some .string
  | .cell .bool=>P.underlying t=some .bool
  | .agg ks=>∃ n e k,P.underlying t=some (.array n e)∧P.underlying e=some (.int k)∧JS P 8 t=some ks∧ks.length=n∧szT P e=some 1
theorem awG {t:TypeId} {kk:KeyK} (h:keyT P t=some kk):agT P t kk:=by
  unfold keyT at h
  split at h
  · rename_i hu; cases h; exact ⟨_,hu⟩
  · rename_i hu; cases h; exact hu
  · rename_i hu; cases h; exact hu
  · rename_i n e hu
    split at h
    · rename_i k he
      obtain ⟨ks,hks,h⟩:=Option.bind_eq_some_iff.1 h
      split at h
      · rename_i hn
        cases h
        simp only [Bool.and_eq_true,beq_iff_eq] at hn
        exact ⟨n,e,k,hu,he,hks,hn.1,hn.2⟩
      · cases h
    · cases h
  · cases h
theorem apK:∀ {ks:List CK} {l l':List AV} {r:Bool},q8 ks l l'=some r→l.length=ks.length∧l'.length=ks.length
  | [],l,l',r,h=>by obtain ⟨rfl,rfl,_⟩:=vY h; exact ⟨rfl,rfl⟩
  | c::ks,l,l',r,h=>by
    obtain ⟨x,y,s,t,r1,r2,rfl,rfl,h1,h2,rfl⟩:=wg h
    obtain ⟨e1,e2⟩:=apK h2
    exact ⟨by simp [e1],by simp [e2]⟩
theorem ao2 {ks:List CK} {x y:AV} {r:Bool} (h:oQ (.agg ks) x y=some r):∃ a b,x = .agg a∧y = .agg b∧q8 ks a b=some r:=by
  simp only [oQ] at h
  split at h
  · exact ⟨_,_,rfl,rfl,h⟩
  · cases h
theorem sj {t:TypeId} {kk:KeyK} (hk:agT P t kk) {y:AV} {r:Bool} (hsb:oQ kk y y=some r) (empty:Bool):(Instr.checkKey empty 10000 t (bF M y)).run P w = .ok () w:=by
  have key:∀ n,(Instr.checkKey empty (n+2) t (bF M y)).run P w = .ok () w:=by
    intro n
    cases kk with
    | agg ks=>
      obtain ⟨m,e,k,hu,he,_,hlen,hsz⟩:=hk
      obtain ⟨a,b,ha,hb,hc⟩:=ao2 hsb
      rw [ha] at hb
      cases hb
      subst ha
      have hl:=(apK hc).1
      have hagg:Tq P e=some false:=by unfold Tq; rw [he]
      rw [Instr.checkKey]
      simp only [bF,lX,Sem.run_bind,run_underlying hu,Result.andThen_ok]
      simp only [Std.Legacy.Range.forIn_eq_forIn_range',Std.Legacy.Range.size,Nat.sub_zero,Nat.add_one_sub_one,Nat.div_one]
      have each:∀ j∈List.range' 0 m,j<a.length:=fun j hj=>by
        rw [List.mem_range'] at hj
        obtain ⟨i,hi,rfl⟩:=hj
        omega
      generalize List.range' 0 m=is at each
      induction is with
      | nil=>simp
      | cons j is ih=>
        have hj:=each j (by simp)
        have hget:((a.map (bF M)).toArray)[j]?=some (bF M a[j]):=by simp [hj]
        simp only [List.forIn_cons,Sem.run_bind,oK hsz,Result.andThen_ok,Nat.mul_one,part,arv hagg,Sem.run_ite,Bool.false_eq_true,if_false,hget,Sem.run_pure]
        rw [show (Instr.checkKey empty (n+1) e (bF M a[j])).run P w = .ok () w by simp [Instr.checkKey,run_underlying he]]
        simp only [Result.andThen_ok]
        exact ih (fun y hy=>each y (by simp [hy]))
    | cell c=>
      cases c with
      | int=>obtain ⟨k,hu⟩:=hk; simp [Instr.checkKey,run_underlying hu]
      | bool=>have hu:P.underlying t=some .bool:=hk; simp [Instr.checkKey,run_underlying hu]
      | str=>have hu:P.underlying t=some .string:=hk; simp [Instr.checkKey,run_underlying hu]
  exact key 9998
theorem alA {t:TypeId} {c:CK} {d:TypeDesc} (hk:agT P t (.cell c)) (hd:P.underlying t=some d) {x y:AV} {r:Bool} (h:oQ (.cell c) x y=some r):Instr.sameNow d (bF M x) (bF M y)=some r∧(r=true→bF M x=bF M y):=by
  cases c with
  | int=>
    obtain ⟨k,hu⟩:=hk
    rw [hu] at hd; cases hd
    obtain ⟨q,m,n,rfl,rfl,rfl⟩:=ab3 h
    exact ⟨by simp [Instr.sameNow,bF],fun e=>by simp [bF]; simpa using e⟩
  | bool=>
    have hu:P.underlying t=some .bool:=hk
    rw [hu] at hd; cases hd
    obtain ⟨m,n,rfl,rfl,rfl⟩:=WG h
    exact ⟨by simp [Instr.sameNow,bF],fun e=>by simp [bF]; simpa using e⟩
  | str=>
    have hu:P.underlying t=some .string:=hk
    rw [hu] at hd; cases hd
    obtain ⟨m,n,rfl,rfl,rfl⟩:=abu h
    refine ⟨?_,fun e=>by simp [bF]; simpa using e⟩
    simp only [Instr.sameNow,bF]
    rw [beq_toListBytes,azK]
theorem akr {c:CK} {x:AV} {r:Bool} (h:Ng c x x=some r) (n:Nat):Instr.sameBits n (bF M x) (bF M x)=true:=by
  cases c with
  | int=>obtain ⟨q,m,n,rfl,_,_⟩:=ab3 h; simp [Instr.sameBits,bF]
  | bool=>obtain ⟨m,n,rfl,_,_⟩:=WG h; simp [Instr.sameBits,bF]
  | str=>obtain ⟨m,n,rfl,_,_⟩:=abu h; simp [Instr.sameBits,bF,beq_toListBytes]
theorem amQ:∀ {ks:List CK} {l:List AV} {r:Bool},q8 ks l l=some r→∀ x∈l,∃ c r',Ng c x x=some r'
  | [],l,r,h,x,hx=>by obtain ⟨rfl,_,_⟩:=vY h; cases hx
  | c::ks,l,r,h,x,hx=>by
    obtain ⟨a,b,s,t,r1,r2,rfl,e,h1,h2,rfl⟩:=wg h
    cases e
    rcases List.mem_cons.1 hx with rfl | hx
    · exact ⟨c,r1,h1⟩
    · exact amQ h2 x hx
theorem aua {kk:KeyK} {x:AV} {r:Bool} (h:oQ kk x x=some r):Instr.sameBits 10000 (bF M x) (bF M x)=true:=by
  cases kk with
  | agg ks=>
    obtain ⟨a,b,ha,hb,hc⟩:=ao2 h
    · rw [ha] at hb
      cases hb
      subst ha
      have hall:=amQ hc
      simp only [bF,Instr.sameBits,beq_self_eq_true,Bool.true_and,lX]
      rw [List.all_eq_true]
      intro p hp
      obtain ⟨u,v⟩:=p
      have huv:u=v∧u∈a.map (bF M):=by
        have h1:=List.mem_iff_getElem.1 hp
        obtain ⟨i,hi,he⟩:=h1
        simp only [List.getElem_zip,Prod.mk.injEq] at he
        obtain ⟨e1,e2⟩:=he
        refine ⟨by rw [← e1, ← e2],?_⟩
        rw [← e1]; exact List.getElem_mem _
      obtain ⟨rfl,hm⟩:=huv
      obtain ⟨z,hz,rfl⟩:=List.mem_map.1 hm
      obtain ⟨c,r',hc⟩:=hall z hz
      exact akr hc 9999
  | cell c=>exact akr h 10000
theorem anx:∀ {ks:List CK} {l l':List AV},q8 ks l l'=some true→l.map (bF M)=l'.map (bF M)
  | [],l,l',h=>by obtain ⟨rfl,rfl,_⟩:=vY h; rfl
  | c::ks,l,l',h=>by
    obtain ⟨x,y,s,t,r1,r2,rfl,rfl,h1,h2,e⟩:=wg h
    have e':=e.symm
    simp only [Bool.and_eq_true] at e'
    obtain ⟨rfl,rfl⟩:=e'
    have hxy:bF M x=bF M y:=by
      cases c with
      | int=>obtain ⟨q,m,n,rfl,rfl,e⟩:=ab3 h1; simp [bF]; simpa using e.symm
      | bool=>obtain ⟨m,n,rfl,rfl,e⟩:=WG h1; simp [bF]; simpa using e.symm
      | str=>obtain ⟨m,n,rfl,rfl,e⟩:=abu h1; simp [bF]; simpa using e.symm
    simp [hxy,anx h2]
def Seek (P:Program) (t:TypeId) (kk:KeyK) (k:Value) (ms:List MapEntry) (i:Nat) (res:Option (Nat × Value)):Prop:=match kk with
  | .cell _=>∃ d,P.underlying t=some d∧Instr.findNow d k ms i=some res
  | .agg _=>∀ w,(Instr.findAsking t k ms i).run P w = .ok res w
theorem K4 {t:TypeId} {kk:KeyK} (hk:agT P t kk):∃ d,P.underlying t=some d:=by
  cases kk with
  | agg _=>obtain ⟨n,e,k,hu,_⟩:=hk; exact ⟨_,hu⟩
  | cell c=>cases c with
    | int=>obtain ⟨k,hu⟩:=hk; exact ⟨_,hu⟩
    | bool=>exact ⟨_,hk⟩
    | str=>exact ⟨_,hk⟩
theorem Seek.nil {t:TypeId} {kk:KeyK} (hk:agT P t kk) {k:Value} {i:Nat}:Seek P t kk k [] i none:=by
  cases kk with
  | cell c=>obtain ⟨d,hd⟩:=K4 hk; exact ⟨d,hd,rfl⟩
  | agg ks=>intro w; simp [Instr.findAsking]
theorem apv {t:TypeId} {ks:List CK} (hk:agT P t (.agg ks)) {x y:AV} {r:Bool} (h:oQ (.agg ks) x y=some r) (w:World):(Op.equal t (bF M x) (bF M y)).run P w = .ok r w∧(r=true→bF M x=bF M y):=by
  obtain ⟨n,e,k,hu,he,hp,hn,_⟩:=hk
  obtain ⟨a,b,rfl,rfl,h⟩:=ao2 h
  · have ha:Tq P t=some true:=by unfold Tq; rw [hu]
    have hrun:=axm (P:=P) (M:=M) (w:=w) 8 t ks true hp ha a b r 10000 h (by omega)
    have hv1:bF M (.agg a)=pI M true a:=by simp [bF,pI,lX]
    have hv2:bF M (.agg b)=pI M true b:=by simp [bF,pI,lX]
    rw [hv1,hv2]
    refine ⟨hrun,fun e=>?_⟩
    subst e
    simp [pI,anx (M:=M) h]
theorem Seek.hit {t:TypeId} {kk:KeyK} (hk:agT P t kk) {x y:AV} (h:oQ kk x y=some true) {m:MapEntry} {ms:List MapEntry} {i:Nat} (hm:m.key=bF M y):Seek P t kk (bF M x) (m::ms) i (some (i,m.val)):=by
  cases kk with
  | cell c=>
    obtain ⟨d,hd⟩:=K4 hk
    exact ⟨d,hd,by simp [Instr.findNow,hm,(alA (M:=M) hk hd h).1]⟩
  | agg ks=>intro w; simp [Instr.findAsking,hm,(apv (M:=M) hk h w).1]
theorem Seek.miss {t:TypeId} {kk:KeyK} (hk:agT P t kk) {x y:AV} (h:oQ kk x y=some false) {m:MapEntry} {ms:List MapEntry} {i:Nat} {res:Option (Nat × Value)} (hm:m.key=bF M y) (hs:Seek P t kk (bF M x) ms (i+1) res) :
    Seek P t kk (bF M x) (m::ms) i res:=by
  cases kk with
  | cell c=>
    obtain ⟨d,hd,hs⟩:=hs
    exact ⟨d,hd,by simp [Instr.findNow,hm,(alA (M:=M) hk hd h).1,hs]⟩
  | agg ks=>intro w; simp [Instr.findAsking,hm,(apv (M:=M) hk h w).1,hs w]
theorem Seek.same {t:TypeId} {kk:KeyK} (hk:agT P t kk) {x y:AV} (h:oQ kk x y=some true):bF M x=bF M y:=by
  cases kk with
  | cell c=>
    obtain ⟨d,hd⟩:=K4 hk
    exact (alA (M:=M) hk hd h).2 rfl
  | agg ks=>exact (apv (M:=M) hk h default).2 rfl
theorem Seek.run {t:TypeId} {kk:KeyK} (hk:agT P t kk) {k:Value} {ms:List MapEntry} {res:Option (Nat × Value)} (hs:Seek P t kk k ms 0 res):(Instr.findKey t k ms).run P w = .ok res w:=by
  cases kk with
  | cell c=>
    obtain ⟨d,hd,hs⟩:=hs
    simp [Instr.findKey,run_underlying hd,hs]
  | agg ks=>
    obtain ⟨n,e,q,hu,_⟩:=hk
    cases ms with
    | nil=>
      have h:=hs w
      simp [Instr.findAsking] at h
      simp [Instr.findKey,run_underlying hu,Instr.findNow,h]
    | cons m ms=>simpa [Instr.findKey,run_underlying hu,Instr.findNow,Instr.sameNow] using hs w
theorem azN {kk:KeyK} {k:AV} {e:AV × AV} {es:List (AV × AV)} {r:Option AV} (h:agm kk k (e::es)=some r) :
    (oQ kk k e.1=some true∧r=some e.2)∨(oQ kk k e.1=some false∧agm kk k es=some r):=by
  have h':Option.casesOn (motive:=fun _=>Option (Option AV)) (oQ kk k e.1) none (fun b=>Bool.casesOn (motive:=fun _=>Option (Option AV)) b (agm kk k es) (some (some e.2)))=some r:=h
  obtain ⟨b,hb,h'⟩:=cB h'
  cases b with
  | true=>exact .inl ⟨hb,by simpa using h'.symm⟩
  | false=>exact .inr ⟨hb,h'⟩
theorem aAa {t:TypeId} {kk:KeyK} (hk:agT P t kk) {k:AV}:∀ {es:List (AV × AV)} {ms:List MapEntry} {r:Option AV} (i:Nat),EntOk M D es ms→agm kk k es=some r→
    (r=none→Seek P t kk (bF M k) ms i none)∧(∀ x,r=some x→okv D x∧∃ j,Seek P t kk (bF M k) ms i (some (i+j,bF M x))∧j<ms.length)
  | [],[],r,i,_,h=>by
    have:(none:Option AV)=r:=by have h':some none=some r:=h
                                simpa using h'
    subst this
    exact ⟨fun _=>.nil hk,fun x hx=>(by cases hx)⟩
  | e::es,m::ms,r,i,hE,h=>by
    obtain ⟨⟨e1,e2,e3,e4⟩,hE'⟩:=hE
    rcases azN h with ⟨hq,rfl⟩ | ⟨hq,h'⟩
    · refine ⟨fun h=>(by cases h),fun x hx=>?_⟩
      have hx:e.2=x:=by simpa using hx
      subst hx
      refine ⟨e4,0,?_,by simp⟩
      have:=Seek.hit (M:=M) hk hq (ms:=ms) (i:=i) e1
      rwa [e2] at this
    · obtain ⟨g1,g2⟩:=aAa hk (i+1) hE' h'
      refine ⟨fun hr=>.miss hk hq e1 (g1 hr),fun x hx=>?_⟩
      obtain ⟨o1,j,hj,hlt⟩:=g2 x hx
      exact ⟨o1,j+1,.miss hk hq e1 (by rw [show i+(j+1)=i+1+j by omega]; exact hj),by simpa using hlt⟩
  | [],_::_,_,_,h,_=>h.elim
  | _::_,[],_,_,h,_=>h.elim
theorem axh {t:TypeId} {kk:KeyK} (hk:agT P t kk) {k:AV} {es:List (AV × AV)} {ms:List MapEntry} {r:Option AV} (hE:EntOk M D es ms) (h:agm kk k es=some r) :
    (r=none→(Instr.findKey t (bF M k) ms).run P w = .ok none w)∧(∀ x,r=some x→okv D x∧∃ j,(Instr.findKey t (bF M k) ms).run P w = .ok (some (j,bF M x)) w∧j<ms.length):=by
  obtain ⟨g1,g2⟩:=aAa (M:=M) (D:=D) hk 0 hE h
  refine ⟨fun hr=>(g1 hr).run hk,fun x hx=>?_⟩
  obtain ⟨o1,j,hj,hlt⟩:=g2 x hx
  exact ⟨o1,j,by rw [Nat.zero_add] at hj; exact hj.run hk,hlt⟩
theorem avK (hr:Rel M D H w) {b:Nat} (hb:D b) {es:List (AV × AV)} (hg:H.get b=some (.mp es)):MapOk M D w (M b) es:=by
  have:=hr.blk b hb; rwa [hg] at this
theorem Nu {r:Nat} {ms:Array MapEntry} {clock:Nat} (h:w.heap[r]?=some (.map ms clock)):(getObj r).run P w = .ok (.map ms clock) w:=by
  simp [getObj,Sem.run,h]
theorem abV {r:Nat} {ms ms':Array MapEntry} {clock clock':Nat} (h:w.heap[r]?=some (.map ms clock)):(setObj r (.map ms' clock')).run P w = .ok () { w with heap:=w.heap.setIfInBounds r (.map ms' clock') }:=by
  simp [setObj,Sem.run,h]
theorem awr {t kt e:TypeId} {kk:KeyK} {z:AV} {ok:Bool} {x k:Operand} {X K:Opd} (ho:o.op = .lookup t x k ok) (hu:P.underlying t=some (.map kt e)) (hk:agT P kt kk) (hz:Gz P e=some z)
    (hx:opd nt x=some X) (hkk:opd nt k=some K) (ht:TmRel M D nt tm a) (hr:Rel M D H w) (h:opF (.lookup kk z ok X K) tm H=some (v,H')):Sound1 P w M D H (execOp a.eval o) v H':=by
  obtain ⟨u,hu',h1⟩:=cB h
  clear h
  obtain ⟨q,hq,h2⟩:=cB h1
  clear h1
  obtain ⟨e1,k1⟩:=lR hx ht hu'
  obtain ⟨e2,k2⟩:=lR hkk ht hq
  obtain ⟨es,hes,h1⟩:=cB h2
  clear h2
  obtain ⟨sb,hsb,h2⟩:=cB h1
  clear h1
  obtain ⟨r,hf,h⟩:=cB h2
  clear h2
  have zo:okv D z:=(Dy (M:=M) (D:=D) hz).2.1
  obtain ⟨ms,hE,hms⟩:∃ ms:Array MapEntry,EntOk M D es ms.toList∧((bF M u = .map none∧ms = #[])∨∃ r c,bF M u = .map (some r)∧(getObj r).run P w = .ok (.map ms c) w):=by
    split at hes
    · rename_i b
      have hg:=U3 hes
      simp only [okv] at k1
      obtain ⟨ms,clock,m1,m2,m3⟩:=(avK hr k1 hg).at_
      exact ⟨ms,m2,.inr ⟨_,clock,rfl,Nu m1⟩⟩
    · cases hes
      exact ⟨#[],trivial,.inl ⟨rfl,rfl⟩⟩
    · cases hes
  obtain ⟨g1,g2⟩:=axh (P:=P) (w:=w) hk hE hf
  cases r with
  | none=>
    have h':some (if ok then AV.tuple [z,.bool false] else z,H)=some (v,H'):=h
    cases h'
    refine Sound1.same hr ?_ ?_
    · have g1:=g1 rfl
      rcases hms with ⟨hc,rfl⟩ | ⟨r,c,hc,hg⟩
      · simp only [execOp,ho,Instr.lookup,Sem.run_bind,run_underlying hu,Result.andThen_ok,e1,e2,hc,Sem.run_pure,sj (M:=M) hk hsb,g1,JK (M:=M) hz]
        cases ok<;>simp [bF,wj]
      · simp only [execOp,ho,Instr.lookup,Sem.run_bind,run_underlying hu,Result.andThen_ok,e1,e2,hc,hg,Sem.run_pure,sj (M:=M) hk hsb,g1,JK (M:=M) hz]
        cases ok<;>simp [bF,wj]
    · cases ok<;>simp [okv,okL,zo]
  | some x=>
    have h':some (if ok then AV.tuple [x,.bool true] else x,H)=some (v,H'):=h
    cases h'
    obtain ⟨o1,j,hj,_⟩:=g2 x rfl
    refine Sound1.same hr ?_ ?_
    · rcases hms with ⟨hc,rfl⟩ | ⟨r,c,hc,hg⟩
      · simp only [execOp,ho,Instr.lookup,Sem.run_bind,run_underlying hu,Result.andThen_ok,e1,e2,hc,Sem.run_pure,sj (M:=M) hk hsb,hj]
        cases ok<;>simp [bF,wj]
      · simp only [execOp,ho,Instr.lookup,Sem.run_bind,run_underlying hu,Result.andThen_ok,e1,e2,hc,hg,Sem.run_pure,sj (M:=M) hk hsb,hj]
        cases ok<;>simp [bF,wj]
    · cases ok<;>simp [okv,okL,o1]
theorem awf {t kt e:TypeId} {x:Operand} {X:Opd} {ats:Array TypeId} {args:Array Operand} (ho:o.op = .call { callee:=.builtin .len,args,argTypes:=ats })
    (hats:ats.toList = [t]) (hargs:args.toList = [x]) (hu:P.underlying t=some (.map kt e)) (hx:opd nt x=some X) (ht:TmRel M D nt tm a) (hr:Rel M D H w)
    (h:opF (.len .mp X) tm H=some (v,H')):Sound1 P w M D H (execOp a.eval o) v H':=by
  obtain ⟨u,hu',h1⟩:=cB h
  clear h
  obtain ⟨e1,k1⟩:=lR hx ht hu'
  have hats':ats = #[t]:=by rw [← Array.toArray_toList (xs:=ats),hats]
  have hargs':args = #[x]:=by rw [← Array.toArray_toList (xs:=args),hargs]
  subst hats'; subst hargs'
  have hrun:(execOp a.eval o).run P w=((Builtin.len_ #[t] o.type #[a.eval x]).run P w).andThen fun v w'=>.ok (.value v) w':=by
    rw [y0 ho]
    show ((do pure (.value (← Builtin.len_ #[t] o.type (#[x].map a.eval))):Sem Next)).run P w=_
    simp
  rw [e1] at hrun
  cases u<;>first | (cases h1; done) | skip
  · rename_i b
    obtain ⟨es,hes,h2⟩:=cB h1
    cases h2
    have hg:=U3 hes
    simp only [okv] at k1
    obtain ⟨ms,clock,m1,m2,m3⟩:=(avK hr k1 hg).at_
    refine Sound1.same hr ?_ (by simp [okv])
    rw [hrun]
    have hlen:∀ {es:List (AV × AV)} {ms:List MapEntry},EntOk M D es ms→es.length=ms.length:=by
      intro es
      induction es with
      | nil=>intro ms h; cases ms with
        | nil=>rfl
        | cons _ _=>exact h.elim
      | cons e es ih=>intro ms h; cases ms with
        | nil=>exact h.elim
        | cons m ms=>simp [ih h.2]
    have:=hlen m2
    simp only [Array.length_toList] at this
    simp [Builtin.len_,bF,run_underlying hu,Nu m1,goInt,jC,this]
  · cases h1
    refine Sound1.same hr ?_ (by simp [okv])
    rw [hrun]
    simp [Builtin.len_,bF,run_underlying hu,goInt]
theorem aAB {kk:KeyK} {k x:AV} {e:AV × AV} {es r:List (AV × AV)} (h:putF kk k x (e::es)=some r) :
    (oQ kk k e.1=some true∧r=(k,x)::es)∨(oQ kk k e.1=some false∧∃ t,putF kk k x es=some t∧r=e::t):=by
  have h':Option.casesOn (motive:=fun _=>Option (List (AV × AV))) (oQ kk k e.1) none (fun b=>Bool.casesOn (motive:=fun _=>Option (List (AV × AV))) b (Option.casesOn (motive:=fun _=>Option (List (AV × AV))) (putF kk k x es) none (fun t'=>some (e::t'))) (some ((k,x)::es)))=some r:=h
  obtain ⟨b,hb,h'⟩:=cB h'
  cases b with
  | true=>exact .inl ⟨hb,by simpa using h'.symm⟩
  | false=>
    obtain ⟨t,ht,h'⟩:=cB h'
    exact .inr ⟨hb,t,ht,by simpa using h'.symm⟩
theorem BornOk.tail {m:MapEntry} {ms:List MapEntry} {c:Nat} (h:BornOk (m::ms) c):BornOk ms c:=
  ⟨(List.pairwise_cons.1 h.1).2,fun x hx=>h.2 x (by simp [hx])⟩
theorem put_ok {t:TypeId} {kk:KeyK} (hk:agT P t kk) {k x:AV} (ok:okv D k) (ox:okv D x):∀ {es r:List (AV × AV)} {ms:List MapEntry} {clock:Nat} (i:Nat),
    EntOk M D es ms→BornOk ms clock→putF kk k x es=some r→
    (Seek P t kk (bF M k) ms i none∧EntOk M D r (ms++[⟨bF M k,bF M x,clock⟩])∧BornOk (ms++[⟨bF M k,bF M x,clock⟩]) (clock+1))∨
    (∃ j y,Seek P t kk (bF M k) ms i (some (i+j,y))∧(∃ m,ms[j]?=some m∧m.key=bF M k)∧EntOk M D r (ms.modify j fun e=>{ e with key:=bF M k,val:=bF M x })∧
      BornOk (ms.modify j fun e=>{ e with key:=bF M k,val:=bF M x }) clock)
  | [],r,[],clock,i,_,hB,h=>by
    have:[(k,x)]=r:=by have h':some [(k,x)]=some r:=h
                       simpa using h'
    subst this
    exact .inl ⟨.nil hk,⟨⟨rfl,rfl,ok,ox⟩,trivial⟩,by simp [BornOk]⟩
  | e::es,r,m::ms,clock,i,hE,hB,h=>by
    obtain ⟨⟨e1,e2,e3,e4⟩,hE'⟩:=hE
    rcases aAB h with ⟨hq,rfl⟩ | ⟨hq,t',ht',rfl⟩
    · refine .inr ⟨0,m.val,.hit hk hq e1,⟨m,rfl,by rw [e1,Seek.same (M:=M) hk hq]⟩,⟨⟨rfl,rfl,ok,ox⟩,hE'⟩,?_⟩
      obtain ⟨b1,b2⟩:=hB
      exact ⟨List.pairwise_cons.2 ⟨fun y hy=>(List.pairwise_cons.1 b1).1 y hy,(List.pairwise_cons.1 b1).2⟩,fun y hy=>by
        rcases List.mem_cons.1 hy with rfl | hy
        · exact b2 m (by simp)
        · exact b2 y (by simp [hy])⟩
    · rcases put_ok hk ok ox (i+1) hE' hB.tail ht' with ⟨f1,f2,f3⟩ | ⟨j,y,f1,f2,f3,f4⟩
      · refine .inl ⟨.miss hk hq e1 f1,⟨⟨e1,e2,e3,e4⟩,f2⟩,?_⟩
        refine ⟨List.pairwise_cons.2 ⟨fun y hy=>?_,f3.1⟩,fun y hy=>?_⟩
        · rcases List.mem_append.1 hy with hy | hy
          · exact (List.pairwise_cons.1 hB.1).1 y hy
          · simp at hy; subst hy; exact hB.2 m (by simp)
        · rcases List.mem_cons.1 hy with rfl | hy
          · have:=hB.2 y (by simp); omega
          · exact f3.2 y hy
      · refine .inr ⟨j+1,y,.miss hk hq e1 (by rw [show i+(j+1)=i+1+j by omega]; exact f1),by simpa using f2,⟨⟨e1,e2,e3,e4⟩,f3⟩,?_⟩
        refine ⟨List.pairwise_cons.2 ⟨fun y hy=>?_,f4.1⟩,fun y hy=>?_⟩
        · have hb:∀ (l:List MapEntry) (j:Nat) (g:MapEntry→MapEntry),(∀ e,(g e).born=e.born)→∀ y∈l.modify j g,∃ z∈l,z.born=y.born:=by
            intro l
            induction l with
            | nil=>intro j g _ y hy; simp at hy
            | cons a l ih=>
              intro j g hg y hy
              cases j with
              | zero=>
                rcases List.mem_cons.1 hy with rfl | hy
                · exact ⟨a,by simp,(hg a).symm⟩
                · exact ⟨y,by simp [hy],rfl⟩
              | succ j=>
                rcases List.mem_cons.1 hy with rfl | hy
                · exact ⟨y,by simp,rfl⟩
                · obtain ⟨z,hz,he⟩:=ih j g hg y hy
                  exact ⟨z,by simp [hz],he⟩
          obtain ⟨z,hz,he⟩:=hb ms j (fun e=>{ e with key:=bF M k,val:=bF M x }) (fun e=>rfl) y hy
          rw [← he]; exact (List.pairwise_cons.1 hB.1).1 z hz
        · rcases List.mem_cons.1 hy with rfl | hy
          · exact hB.2 y (by simp)
          · exact f4.2 y hy
  | [],_,_::_,_,_,h,_,_=>h.elim
  | _::_,_,[],_,_,h,_,_=>h.elim
theorem axu {h:Array Obj} {r c:Nat} {x:Obj} (hne:c≠r):(h.setIfInBounds r x)[c]?=h[c]?:=Array.getElem?_setIfInBounds_ne (fun e=>hne e.symm)
theorem Rel.setMap (hr:Rel M D H w) {b:Nat} (hb:D b) {es es':List (AV × AV)} (hg:H.get b=some (.mp es)) {ms':Array MapEntry} {clock':Nat} (hE:EntOk M D es' ms'.toList) (hB:BornOk ms'.toList clock') :
    Rel M D (H.set b (.mp es')) { w with heap:=w.heap.setIfInBounds (M b).blk (.map ms' clock') }∧Ext M D H w M D (H.set b (.mp es')) { w with heap:=w.heap.setIfInBounds (M b).blk (.map ms' clock') }:=by
  have hlt:=(hr.blk b hb).lt (by rw [hg]; trivial)
  refine hr.turn hb (by rw [hg]; trivial) (.mp es') ⟨⟨ms',clock',?_,hE,hB⟩⟩ (fun c hc=>axu hc) (by simp) rfl rfl rfl
  show (w.heap.setIfInBounds (M b).blk (.map ms' clock'))[(M b).blk]?=_
  rw [Array.getElem?_setIfInBounds_self,if_pos hlt]
theorem avR {t kt e:TypeId} {kk:KeyK} {m k x:Operand} {X K Y:Opd} (ho:o.op = .mapUpdate t m k x) (hu:P.underlying t=some (.map kt e)) (hk:agT P kt kk)
    (hx:opd nt m=some X) (hkk:opd nt k=some K) (hy:opd nt x=some Y) (ht:TmRel M D nt tm a) (hr:Rel M D H w) (h:opF (.mapset kk X K Y) tm H=some (v,H')):Sound1 P w M D H (execOp a.eval o) v H':=by
  obtain ⟨u,hu',h1⟩:=cB h
  clear h
  obtain ⟨q,hq,h2⟩:=cB h1
  clear h1
  obtain ⟨y,hy',h1⟩:=cB h2
  clear h2
  obtain ⟨e1,k1⟩:=lR hx ht hu'
  obtain ⟨e2,k2⟩:=lR hkk ht hq
  obtain ⟨e3,k3⟩:=lR hy ht hy'
  cases u<;>first | (cases h1; done) | skip
  rename_i b
  obtain ⟨_,h2⟩:=abZ h1
  clear h1
  obtain ⟨es,hes,h1⟩:=cB h2
  clear h2
  obtain ⟨sb,hsb,h2⟩:=cB h1
  clear h1
  obtain ⟨es',hp,h⟩:=cB h2
  clear h2
  rw [Heap.setK_eq] at h
  cases h
  have hg:=U3 hes
  simp only [okv] at k1
  obtain ⟨ms,clock,m1,m2,m3⟩:=(avK hr k1 hg).at_
  rcases put_ok (M:=M) (D:=D) hk k2 k3 0 m2 m3 hp with ⟨f1,f2,f3⟩ | ⟨j,z,f1,⟨m0,f5,f6⟩,f3,f4⟩
  · obtain ⟨r1,r2⟩:=hr.setMap k1 hg (ms':=ms.push ⟨bF M q,bF M y,clock⟩) (clock':=clock+1) (by simpa using f2) (by simpa using f3)
    refine ⟨M,D,_,.skip,?_,.inr ⟨rfl,tV M⟩,r1,r2,yy D⟩
    have hfk:(Instr.findKey kt (bF M q) ms.toList).run P w = .ok none w:=f1.run hk
    simp only [execOp,ho,Instr.mapUpdate,Sem.run_bind,run_underlying hu,Result.andThen_ok,e1,e2,e3,bF,Nu m1,sj (M:=M) hk hsb,hfk,abV m1,Sem.run_pure]
  · obtain ⟨r1,r2⟩:=hr.setMap k1 hg (ms':=ms.modify j fun e=>{ e with key:=bF M q,val:=bF M y }) (clock':=clock) (by simpa using f3) (by simpa using f4)
    refine ⟨M,D,_,.skip,?_,.inr ⟨rfl,tV M⟩,r1,r2,yy D⟩
    have hfk:(Instr.findKey kt (bF M q) ms.toList).run P w = .ok (some (j,z)) w:=by rw [Nat.zero_add] at f1; exact f1.run hk
    have hold:((ms[j]?).map (·.key)).getD (bF M q)=bF M q:=by
      have:ms[j]?=some m0:=by simpa using f5
      simp [this,f6]
    have hks:(Instr.keyThatStays (bF M q) (bF M q)).run P w = .ok (bF M q) w:=by
      simp [Instr.keyThatStays,aua (M:=M) hsb]
    simp only [execOp,ho,Instr.mapUpdate,Sem.run_bind,run_underlying hu,Result.andThen_ok,e1,e2,e3,bF,Nu m1,sj (M:=M) hk hsb,hfk,hold,hks,abV m1,Sem.run_pure]
theorem aBc {kk:KeyK} {k:AV} {e:AV × AV} {es r:List (AV × AV)} (h:delF kk k (e::es)=some r) :
    (oQ kk k e.1=some true∧r=es)∨(oQ kk k e.1=some false∧∃ t,delF kk k es=some t∧r=e::t):=by
  have h':Option.casesOn (motive:=fun _=>Option (List (AV × AV))) (oQ kk k e.1) none (fun b=>Bool.casesOn (motive:=fun _=>Option (List (AV × AV))) b (Option.casesOn (motive:=fun _=>Option (List (AV × AV))) (delF kk k es) none (fun t'=>some (e::t'))) (some es))=some r:=h
  obtain ⟨b,hb,h'⟩:=cB h'
  cases b with
  | true=>exact .inl ⟨hb,by simpa using h'.symm⟩
  | false=>
    obtain ⟨t,ht,h'⟩:=cB h'
    exact .inr ⟨hb,t,ht,by simpa using h'.symm⟩
theorem del_ok {t:TypeId} {kk:KeyK} (hk:agT P t kk) {k:AV}:∀ {es r:List (AV × AV)} {ms:List MapEntry} {clock:Nat} (i:Nat),
    EntOk M D es ms→BornOk ms clock→delF kk k es=some r→
    (Seek P t kk (bF M k) ms i none∧r=es)∨(∃ j y,Seek P t kk (bF M k) ms i (some (i+j,y))∧EntOk M D r (ms.eraseIdx j)∧BornOk (ms.eraseIdx j) clock)
  | [],r,[],clock,i,_,hB,h=>by
    have:[]=r:=by have h':some []=some r:=h
                  simpa using h'
    subst this
    exact .inl ⟨.nil hk,rfl⟩
  | e::es,r,m::ms,clock,i,hE,hB,h=>by
    obtain ⟨⟨e1,e2,e3,e4⟩,hE'⟩:=hE
    rcases aBc h with ⟨hq,rfl⟩ | ⟨hq,t',ht',rfl⟩
    · exact .inr ⟨0,m.val,.hit hk hq e1,hE',hB.tail⟩
    · rcases del_ok hk (i+1) hE' hB.tail ht' with ⟨f1,rfl⟩ | ⟨j,y,f1,f3,f4⟩
      · exact .inl ⟨.miss hk hq e1 f1,rfl⟩
      · refine .inr ⟨j+1,y,.miss hk hq e1 (by rw [show i+(j+1)=i+1+j by omega]; exact f1),⟨⟨e1,e2,e3,e4⟩,f3⟩,?_⟩
        refine ⟨List.pairwise_cons.2 ⟨fun z hz=>(List.pairwise_cons.1 hB.1).1 z (List.mem_of_mem_eraseIdx hz),f4.1⟩,fun z hz=>?_⟩
        rcases List.mem_cons.1 hz with rfl | hz
        · exact hB.2 z (by simp)
        · exact f4.2 z hz
  | [],_,_::_,_,_,h,_,_=>h.elim
  | _::_,_,[],_,_,h,_,_=>h.elim
theorem awn {t kt e:TypeId} {kk:KeyK} {m k:Operand} {X K:Opd} {ats:Array TypeId} {args:Array Operand} {t2:TypeId} (ho:o.op = .call { callee:=.builtin .delete,args,argTypes:=ats })
    (hats:ats.toList = [t,t2]) (hargs:args.toList = [m,k]) (hu:P.underlying t=some (.map kt e)) (hk:agT P kt kk)
    (hx:opd nt m=some X) (hkk:opd nt k=some K) (ht:TmRel M D nt tm a) (hr:Rel M D H w) (h:opF (.mapdel kk X K) tm H=some (v,H')):Sound1 P w M D H (execOp a.eval o) v H':=by
  obtain ⟨u,hu',h1⟩:=cB h
  clear h
  obtain ⟨q,hq,h2⟩:=cB h1
  clear h1
  obtain ⟨sb,hsb,h1⟩:=cB h2
  clear h2
  obtain ⟨e1,k1⟩:=lR hx ht hu'
  obtain ⟨e2,k2⟩:=lR hkk ht hq
  have hats':ats = #[t,t2]:=by rw [← Array.toArray_toList (xs:=ats),hats]
  have hargs':args = #[m,k]:=by rw [← Array.toArray_toList (xs:=args),hargs]
  subst hats'; subst hargs'
  have hrun:(execOp a.eval o).run P w=((Builtin.delete_ #[t,t2] o.type #[a.eval m,a.eval k]).run P w).andThen fun v w'=>.ok (.value v) w':=by
    rw [y0 ho]
    show ((do pure (.value (← Builtin.delete_ #[t,t2] o.type (#[m,k].map a.eval))):Sem Next)).run P w=_
    simp
  rw [e1,e2] at hrun
  cases u<;>first | (cases h1; done) | skip
  · rename_i b
    obtain ⟨_,h2⟩:=abZ h1
    clear h1
    obtain ⟨es,hes,h1⟩:=cB h2
    clear h2
    obtain ⟨es',hp,h⟩:=cB h1
    clear h1
    rw [Heap.setK_eq] at h
    cases h
    have hg:=U3 hes
    simp only [okv] at k1
    obtain ⟨ms,clock,m1,m2,m3⟩:=(avK hr k1 hg).at_
    rcases del_ok (M:=M) (D:=D) hk 0 m2 m3 hp with ⟨f1,rfl⟩ | ⟨j,z,f1,f3,f4⟩
    · obtain ⟨r1,r2⟩:=hr.setMap k1 hg (ms':=ms) (clock':=clock) m2 m3
      refine ⟨M,D,_,.value undef,?_,.inl (by rw [tV]),r1,r2,yy D⟩
      have hfk:(Instr.findKey kt (bF M q) ms.toList).run P w = .ok none w:=f1.run hk
      rw [hrun]
      simp [Builtin.delete_,run_underlying hu,bF,Nu m1,sj (M:=M) hk hsb,hfk,abV m1,undef]
    · have her:(ms.eraseIdxIfInBounds j).toList=ms.toList.eraseIdx j:=by simp
      obtain ⟨r1,r2⟩:=hr.setMap k1 hg (ms':=ms.eraseIdxIfInBounds j) (clock':=clock) (by rw [her]; exact f3) (by rw [her]; exact f4)
      refine ⟨M,D,_,.value undef,?_,.inl (by rw [tV]),r1,r2,yy D⟩
      have hfk:(Instr.findKey kt (bF M q) ms.toList).run P w = .ok (some (j,z)) w:=by rw [Nat.zero_add] at f1; exact f1.run hk
      rw [hrun]
      simp [Builtin.delete_,run_underlying hu,bF,Nu m1,sj (M:=M) hk hsb,hfk,abV m1,undef]
  · cases h1
    refine Sound1.same hr ?_ (yy D)
    rw [hrun]
    simp [Builtin.delete_,run_underlying hu,bF,sj (M:=M) hk hsb,tV,undef]
end
end Go.Ai
