/- Maps. -/
import Derived.Test.YtpoobhhdgjgdgaaGreatAiPure3Mem
import Derived.Test.YtpoobhhdgjgdgaaGreatAiPurePure2
set_option linter.all false
namespace Go.Ai
section
variable {P:Program} {nt:Nat} {M:Mp} {D:Nat→Prop} {tm:Tr AV} {a:Act} {w:World} {H H':Heap} {v:AV} {o:Oper}
def eQ (P:Program) (t:TypeId):dh→Prop
  | .cell .int=>∃ k,P.underlying t=some (.int k)
  | .cell .str=>P.underlying t=some .string
  | .cell .bool=>P.underlying t=some .bool
  | .agg ks=>∃ n e k,P.underlying t=some (.array n e)∧P.underlying e=some (.int k)∧Cd P 8 t=some ks∧ks.length=n∧szT P e=some 1
theorem agG {t:TypeId} {kk:dh} (h:keyT P t=some kk):eQ P t kk:=by
  unfold keyT at h
  split at h
  · rename_i hu; cases h; exact ⟨_,hu⟩
  · rename_i hu; cases h; exact hu
  · rename_i hu; cases h; exact hu
  · rename_i n e hu
    split at h
    · rename_i k he
      obtain ⟨ks,hks,h⟩:=fT.1 h
      split at h
      · rename_i hn
        cases h
        simp only [fV,fN] at hn
        exact ⟨n,e,k,hu,he,hks,hn.1,hn.2⟩
      · cases h
    · cases h
  · cases h
theorem aej:∀ {ks:List CK} {l l':List AV} {r:Bool},mR ks l l'=some r→l.length=ks.length∧l'.length=ks.length
  | [],l,l',r,h=>by obtain ⟨rfl,rfl,_⟩:=si h; exact ⟨rfl,rfl⟩
  | c::ks,l,l',r,h=>by
    obtain ⟨x,y,s,t,r1,r2,rfl,rfl,h1,h2,rfl⟩:=sF h
    obtain ⟨e1,e2⟩:=aej h2
    exact ⟨by simp [e1],by simp [e2]⟩
theorem ado {ks:List CK} {x y:AV} {r:Bool} (h:oh (.agg ks) x y=some r):∃ a b,x = .agg a∧y = .agg b∧mR ks a b=some r:=by
  simp only [oh] at h
  split at h
  · exact ⟨_,_,rfl,rfl,h⟩
  · cases h
theorem mX {t:TypeId} {kk:dh} (hk:eQ P t kk) {y:AV} {r:Bool} (hsb:oh kk y y=some r) (empty:Bool):(Instr.checkKey empty 10000 t (im M y)).run P w = .ok () w:=by
  have key:∀ n,(Instr.checkKey empty (n+2) t (im M y)).run P w = .ok () w:=by
    intro n
    cases kk with
    | agg ks=>
      obtain ⟨m,e,k,hu,he,_,hlen,hsz⟩:=hk
      obtain ⟨a,b,ha,hb,hc⟩:=ado hsb
      rw [ha] at hb
      cases hb
      subst ha
      have hl:=(aej hc).1
      have hagg:HS P e=some false:=by unfold HS; rw [he]
      rw [Instr.checkKey]
      simp only [im,mY,Sem.run_bind,run_underlying hu,Result.andThen_ok]
      simp only [Std.Legacy.Range.forIn_eq_forIn_range',Std.Legacy.Range.size,Nat.sub_zero,Nat.add_one_sub_one,Nat.div_one]
      have each:∀ j∈List.range' 0 m,j<a.length:=fun j hj=>by
        rw [List.mem_range'] at hj
        obtain ⟨i,hi,rfl⟩:=hj
        omega
      generalize List.range' 0 m=is at each
      induction is with
      | nil=>simp
      | cons j is ih=>
        have hj:=each j (by simp)
        have hget:((a.map (im M)).toArray)[j]?=some (im M a[j]):=by simp [hj]
        simp only [List.forIn_cons,Sem.run_bind,nY hsz,Result.andThen_ok,Nat.mul_one,part,agJ hagg,Sem.run_ite,fK,if_false,hget,Sem.run_pure]
        rw [show (Instr.checkKey empty (n+1) e (im M a[j])).run P w = .ok () w by simp [Instr.checkKey,run_underlying he]]
        simp only [Result.andThen_ok]
        exact ih (fun y hy=>each y (by simp [hy]))
    | cell c=>
      cases c with
      | int=>obtain ⟨k,hu⟩:=hk; simp [Instr.checkKey,run_underlying hu]
      | bool=>have hu:P.underlying t=some .bool:=hk; simp [Instr.checkKey,run_underlying hu]
      | str=>have hu:P.underlying t=some .string:=hk; simp [Instr.checkKey,run_underlying hu]
  exact key 9998
theorem Zo {t:TypeId} {c:CK} {d:TypeDesc} (hk:eQ P t (.cell c)) (hd:P.underlying t=some d) {x y:AV} {r:Bool} (h:oh (.cell c) x y=some r):Instr.sameNow d (im M x) (im M y)=some r∧(r=true→im M x=im M y):=by
  cases c with
  | int=>
    obtain ⟨k,hu⟩:=hk
    rw [hu] at hd; cases hd
    obtain ⟨q,m,n,rfl,rfl,rfl⟩:=QE h
    exact ⟨by simp [Instr.sameNow,im],fun e=>by simp [im]; simpa using e⟩
  | bool=>
    have hu:P.underlying t=some .bool:=hk
    rw [hu] at hd; cases hd
    obtain ⟨m,n,rfl,rfl,rfl⟩:=K7 h
    exact ⟨by simp [Instr.sameNow,im],fun e=>by simp [im]; simpa using e⟩
  | str=>
    have hu:P.underlying t=some .string:=hk
    rw [hu] at hd; cases hd
    obtain ⟨m,n,rfl,rfl,rfl⟩:=Qr h
    refine ⟨?_,fun e=>by simp [im]; simpa using e⟩
    simp only [Instr.sameNow,im]
    rw [beq_toListBytes,apw]
theorem YR {c:CK} {x:AV} {r:Bool} (h:ww c x x=some r) (n:Nat):Instr.sameBits n (im M x) (im M x)=true:=by
  cases c with
  | int=>obtain ⟨q,m,n,rfl,_,_⟩:=QE h; simp [Instr.sameBits,im]
  | bool=>obtain ⟨m,n,rfl,_,_⟩:=K7 h; simp [Instr.sameBits,im]
  | str=>obtain ⟨m,n,rfl,_,_⟩:=Qr h; simp [Instr.sameBits,im,beq_toListBytes]
theorem aaj:∀ {ks:List CK} {l:List AV} {r:Bool},mR ks l l=some r→∀ x∈l,∃ c r',ww c x x=some r'
  | [],l,r,h,x,hx=>by obtain ⟨rfl,_,_⟩:=si h; cases hx
  | c::ks,l,r,h,x,hx=>by
    obtain ⟨a,b,s,t,r1,r2,rfl,e,h1,h2,rfl⟩:=sF h
    cases e
    rcases gk.1 hx with rfl | hx
    · exact ⟨c,r1,h1⟩
    · exact aaj h2 x hx
theorem YU {kk:dh} {x:AV} {r:Bool} (h:oh kk x x=some r):Instr.sameBits 10000 (im M x) (im M x)=true:=by
  cases kk with
  | agg ks=>
    obtain ⟨a,b,ha,hb,hc⟩:=ado h
    · rw [ha] at hb
      cases hb
      subst ha
      have hall:=aaj hc
      simp only [im,Instr.sameBits,beq_self_eq_true,Bool.true_and,mY]
      rw [gz]
      intro p hp
      obtain ⟨u,v⟩:=p
      have huv:u=v∧u∈a.map (im M):=by
        have h1:=List.mem_iff_getElem.1 hp
        obtain ⟨i,hi,he⟩:=h1
        simp only [List.getElem_zip,Prod.mk.injEq] at he
        obtain ⟨e1,e2⟩:=he
        refine ⟨by rw [← e1, ← e2],?_⟩
        rw [← e1]; exact gn _
      obtain ⟨rfl,hm⟩:=huv
      obtain ⟨z,hz,rfl⟩:=fJ.1 hm
      obtain ⟨c,r',hc⟩:=hall z hz
      exact YR hc 9999
  | cell c=>exact YR h 10000
theorem ZM:∀ {ks:List CK} {l l':List AV},mR ks l l'=some true→l.map (im M)=l'.map (im M)
  | [],l,l',h=>by obtain ⟨rfl,rfl,_⟩:=si h; rfl
  | c::ks,l,l',h=>by
    obtain ⟨x,y,s,t,r1,r2,rfl,rfl,h1,h2,e⟩:=sF h
    have e':=e.symm
    simp only [fV] at e'
    obtain ⟨rfl,rfl⟩:=e'
    have hxy:im M x=im M y:=by
      cases c with
      | int=>obtain ⟨q,m,n,rfl,rfl,e⟩:=QE h1; simp [im]; simpa using e.symm
      | bool=>obtain ⟨m,n,rfl,rfl,e⟩:=K7 h1; simp [im]; simpa using e.symm
      | str=>obtain ⟨m,n,rfl,rfl,e⟩:=Qr h1; simp [im]; simpa using e.symm
    simp [hxy,ZM h2]
def eP (P:Program) (t:TypeId) (kk:dh) (k:Value) (ms:List MapEntry) (i:Nat) (res:Option (Nat × Value)):Prop:=match kk with
  | .cell _=>∃ d,P.underlying t=some d∧Instr.findNow d k ms i=some res
  | .agg _=>∀ w,(Instr.findAsking t k ms i).run P w = .ok res w
theorem Cy {t:TypeId} {kk:dh} (hk:eQ P t kk):∃ d,P.underlying t=some d:=by
  cases kk with
  | agg _=>obtain ⟨n,e,k,hu,_⟩:=hk; exact ⟨_,hu⟩
  | cell c=>cases c with
    | int=>obtain ⟨k,hu⟩:=hk; exact ⟨_,hu⟩
    | bool=>exact ⟨_,hk⟩
    | str=>exact ⟨_,hk⟩
theorem eP.nil {t:TypeId} {kk:dh} (hk:eQ P t kk) {k:Value} {i:Nat}:eP P t kk k [] i none:=by
  cases kk with
  | cell c=>obtain ⟨d,hd⟩:=Cy hk; exact ⟨d,hd,rfl⟩
  | agg ks=>intro w; simp [Instr.findAsking]
theorem ac2 {t:TypeId} {ks:List CK} (hk:eQ P t (.agg ks)) {x y:AV} {r:Bool} (h:oh (.agg ks) x y=some r) (w:World):(Op.equal t (im M x) (im M y)).run P w = .ok r w∧(r=true→im M x=im M y):=by
  obtain ⟨n,e,k,hu,he,hp,hn,_⟩:=hk
  obtain ⟨a,b,rfl,rfl,h⟩:=ado h
  · have ha:HS P t=some true:=by unfold HS; rw [hu]
    have hrun:=anT (P:=P) (M:=M) (w:=w) 8 t ks true hp ha a b r 10000 h (by omega)
    have hv1:im M (.agg a)=oV M true a:=by simp [im,oV,mY]
    have hv2:im M (.agg b)=oV M true b:=by simp [im,oV,mY]
    rw [hv1,hv2]
    refine ⟨hrun,fun e=>?_⟩
    subst e
    simp [oV,ZM (M:=M) h]
theorem eP.hit {t:TypeId} {kk:dh} (hk:eQ P t kk) {x y:AV} (h:oh kk x y=some true) {m:MapEntry} {ms:List MapEntry} {i:Nat} (hm:m.key=im M y):eP P t kk (im M x) (m::ms) i (some (i,m.val)):=by
  cases kk with
  | cell c=>
    obtain ⟨d,hd⟩:=Cy hk
    exact ⟨d,hd,by simp [Instr.findNow,hm,(Zo (M:=M) hk hd h).1]⟩
  | agg ks=>intro w; simp [Instr.findAsking,hm,(ac2 (M:=M) hk h w).1]
theorem eP.miss {t:TypeId} {kk:dh} (hk:eQ P t kk) {x y:AV} (h:oh kk x y=some false) {m:MapEntry} {ms:List MapEntry} {i:Nat} {res:Option (Nat × Value)} (hm:m.key=im M y) (hs:eP P t kk (im M x) ms (i+1) res) :
    eP P t kk (im M x) (m::ms) i res:=by
  cases kk with
  | cell c=>
    obtain ⟨d,hd,hs⟩:=hs
    exact ⟨d,hd,by simp [Instr.findNow,hm,(Zo (M:=M) hk hd h).1,hs]⟩
  | agg ks=>intro w; simp [Instr.findAsking,hm,(ac2 (M:=M) hk h w).1,hs w]
theorem eP.same {t:TypeId} {kk:dh} (hk:eQ P t kk) {x y:AV} (h:oh kk x y=some true):im M x=im M y:=by
  cases kk with
  | cell c=>
    obtain ⟨d,hd⟩:=Cy hk
    exact (Zo (M:=M) hk hd h).2 rfl
  | agg ks=>exact (ac2 (M:=M) hk h default).2 rfl
theorem eP.run {t:TypeId} {kk:dh} (hk:eQ P t kk) {k:Value} {ms:List MapEntry} {res:Option (Nat × Value)} (hs:eP P t kk k ms 0 res):(Instr.findKey t k ms).run P w = .ok res w:=by
  cases kk with
  | cell c=>
    obtain ⟨d,hd,hs⟩:=hs
    simp [Instr.findKey,run_underlying hd,hs]
  | agg ks=>
    obtain ⟨n,e,q,hu,_⟩:=hk
    cases ms with
    | nil=>
      have h:=hs w
      simp [Instr.findAsking] at h
      simp [Instr.findKey,run_underlying hu,Instr.findNow,h]
    | cons m ms=>simpa [Instr.findKey,run_underlying hu,Instr.findNow,Instr.sameNow] using hs w
theorem ahR {kk:dh} {k:AV} {e:AV × AV} {es:List (AV × AV)} {r:Option AV} (h:Gj kk k (e::es)=some r) :
    (oh kk k e.1=some true∧r=some e.2)∨(oh kk k e.1=some false∧Gj kk k es=some r):=by
  have h':Option.casesOn (motive:=fun _=>Option (Option AV)) (oh kk k e.1) none (fun b=>Bool.casesOn (motive:=fun _=>Option (Option AV)) b (Gj kk k es) (some (some e.2)))=some r:=h
  obtain ⟨b,hb,h'⟩:=iW h'
  cases b with
  | true=>exact .inl ⟨hb,by simpa using h'.symm⟩
  | false=>exact .inr ⟨hb,h'⟩
theorem aqd {t:TypeId} {kk:dh} (hk:eQ P t kk) {k:AV}:∀ {es:List (AV × AV)} {ms:List MapEntry} {r:Option AV} (i:Nat),cZ M D es ms→Gj kk k es=some r→
    (r=none→eP P t kk (im M k) ms i none)∧(∀ x,r=some x→okv D x∧∃ j,eP P t kk (im M k) ms i (some (i+j,im M x))∧j<ms.length)
  | [],[],r,i,_,h=>by
    have:(none:Option AV)=r:=by have h':some none=some r:=h
                                simpa using h'
    subst this
    exact ⟨fun _=>.nil hk,fun x hx=>(by cases hx)⟩
  | e::es,m::ms,r,i,hE,h=>by
    obtain ⟨⟨e1,e2,e3,e4⟩,hE'⟩:=hE
    rcases ahR h with ⟨hq,rfl⟩ | ⟨hq,h'⟩
    · refine ⟨fun h=>(by cases h),fun x hx=>?_⟩
      have hx:e.2=x:=by simpa using hx
      subst hx
      refine ⟨e4,0,?_,by simp⟩
      have:=eP.hit (M:=M) hk hq (ms:=ms) (i:=i) e1
      rwa [e2] at this
    · obtain ⟨g1,g2⟩:=aqd hk (i+1) hE' h'
      refine ⟨fun hr=>.miss hk hq e1 (g1 hr),fun x hx=>?_⟩
      obtain ⟨o1,j,hj,hlt⟩:=g2 x hx
      exact ⟨o1,j+1,.miss hk hq e1 (by rw [show i+(j+1)=i+1+j by omega]; exact hj),by simpa using hlt⟩
  | [],_::_,_,_,h,_=>h.elim
  | _::_,[],_,_,h,_=>h.elim
theorem Vh {t:TypeId} {kk:dh} (hk:eQ P t kk) {k:AV} {es:List (AV × AV)} {ms:List MapEntry} {r:Option AV} (hE:cZ M D es ms) (h:Gj kk k es=some r) :
    (r=none→(Instr.findKey t (im M k) ms).run P w = .ok none w)∧(∀ x,r=some x→okv D x∧∃ j,(Instr.findKey t (im M k) ms).run P w = .ok (some (j,im M x)) w∧j<ms.length):=by
  obtain ⟨g1,g2⟩:=aqd (M:=M) (D:=D) hk 0 hE h
  refine ⟨fun hr=>(g1 hr).run hk,fun x hx=>?_⟩
  obtain ⟨o1,j,hj,hlt⟩:=g2 x hx
  exact ⟨o1,j,by rw [Nat.zero_add] at hj; exact hj.run hk,hlt⟩
theorem aiX (hr:Rel M D H w) {b:Nat} (hb:D b) {es:List (AV × AV)} (hg:H.get b=some (.mp es)):MapOk M D w (M b) es:=by
  have:=hr.blk b hb; rwa [hg] at this
theorem qk {r:Nat} {ms:Array MapEntry} {clock:Nat} (h:w.heap[r]?=some (.map ms clock)):(getObj r).run P w = .ok (.map ms clock) w:=by
  simp [getObj,Sem.run,h]
theorem wX {r:Nat} {ms ms':Array MapEntry} {clock clock':Nat} (h:w.heap[r]?=some (.map ms clock)):(setObj r (.map ms' clock')).run P w = .ok () { w with heap:=w.heap.setIfInBounds r (.map ms' clock') }:=by
  simp [setObj,Sem.run,h]
theorem amb {t kt e:TypeId} {kk:dh} {z:AV} {ok:Bool} {x k:Operand} {X K:Opd} (ho:o.op = .lookup t x k ok) (hu:P.underlying t=some (.map kt e)) (hk:eQ P kt kk) (hz:zn P e=some z)
    (hx:opd nt x=some X) (hkk:opd nt k=some K) (ht:bX M D nt tm a) (hr:Rel M D H w) (h:opF (.lookup kk z ok X K) tm H=some (v,H')):bm P w M D H (execOp a.eval o) v H':=by
  obtain ⟨u,hu',h1⟩:=iW h
  clear h
  obtain ⟨q,hq,h2⟩:=iW h1
  clear h1
  obtain ⟨e1,k1⟩:=mK hx ht hu'
  obtain ⟨e2,k2⟩:=mK hkk ht hq
  obtain ⟨es,hes,h1⟩:=iW h2
  clear h2
  obtain ⟨sb,hsb,h2⟩:=iW h1
  clear h1
  obtain ⟨r,hf,h⟩:=iW h2
  clear h2
  have zo:okv D z:=(xJ (M:=M) (D:=D) hz).2.1
  obtain ⟨ms,hE,hms⟩:∃ ms:Array MapEntry,cZ M D es ms.toList∧((im M u = .map none∧ms = #[])∨∃ r c,im M u = .map (some r)∧(getObj r).run P w = .ok (.map ms c) w):=by
    split at hes
    · rename_i b
      have hg:=Jo hes
      simp only [okv] at k1
      obtain ⟨ms,clock,m1,m2,m3⟩:=(aiX hr k1 hg).at_
      exact ⟨ms,m2,.inr ⟨_,clock,rfl,qk m1⟩⟩
    · cases hes
      exact ⟨#[],trivial,.inl ⟨rfl,rfl⟩⟩
    · cases hes
  obtain ⟨g1,g2⟩:=Vh (P:=P) (w:=w) hk hE hf
  cases r with
  | none=>
    have h':some (if ok then AV.tuple [z,.bool false] else z,H)=some (v,H'):=h
    cases h'
    refine bm.same hr ?_ ?_
    · have g1:=g1 rfl
      rcases hms with ⟨hc,rfl⟩ | ⟨r,c,hc,hg⟩
      · simp only [execOp,ho,Instr.lookup,Sem.run_bind,run_underlying hu,Result.andThen_ok,e1,e2,hc,Sem.run_pure,mX (M:=M) hk hsb,g1,zQ (M:=M) hz]
        cases ok<;>simp [im,pQ]
      · simp only [execOp,ho,Instr.lookup,Sem.run_bind,run_underlying hu,Result.andThen_ok,e1,e2,hc,hg,Sem.run_pure,mX (M:=M) hk hsb,g1,zQ (M:=M) hz]
        cases ok<;>simp [im,pQ]
    · cases ok<;>simp [okv,okL,zo]
  | some x=>
    have h':some (if ok then AV.tuple [x,.bool true] else x,H)=some (v,H'):=h
    cases h'
    obtain ⟨o1,j,hj,_⟩:=g2 x rfl
    refine bm.same hr ?_ ?_
    · rcases hms with ⟨hc,rfl⟩ | ⟨r,c,hc,hg⟩
      · simp only [execOp,ho,Instr.lookup,Sem.run_bind,run_underlying hu,Result.andThen_ok,e1,e2,hc,Sem.run_pure,mX (M:=M) hk hsb,hj]
        cases ok<;>simp [im,pQ]
      · simp only [execOp,ho,Instr.lookup,Sem.run_bind,run_underlying hu,Result.andThen_ok,e1,e2,hc,hg,Sem.run_pure,mX (M:=M) hk hsb,hj]
        cases ok<;>simp [im,pQ]
    · cases ok<;>simp [okv,okL,o1]
theorem amO {t kt e:TypeId} {x:Operand} {X:Opd} {ats:Array TypeId} {args:Array Operand} (ho:o.op = .call { callee:=.builtin .len,args,argTypes:=ats })
    (hats:ats.toList = [t]) (hargs:args.toList = [x]) (hu:P.underlying t=some (.map kt e)) (hx:opd nt x=some X) (ht:bX M D nt tm a) (hr:Rel M D H w)
    (h:opF (.len .mp X) tm H=some (v,H')):bm P w M D H (execOp a.eval o) v H':=by
  obtain ⟨u,hu',h1⟩:=iW h
  clear h
  obtain ⟨e1,k1⟩:=mK hx ht hu'
  have hats':ats = #[t]:=by rw [← Array.toArray_toList (xs:=ats),hats]
  have hargs':args = #[x]:=by rw [← Array.toArray_toList (xs:=args),hargs]
  subst hats'; subst hargs'
  have hrun:(execOp a.eval o).run P w=((Builtin.len_ #[t] o.type #[a.eval x]).run P w).andThen fun v w'=>.ok (.value v) w':=by
    rw [uP ho]
    show ((do pure (.value (← Builtin.len_ #[t] o.type (#[x].map a.eval))):Sem Next)).run P w=_
    simp
  rw [e1] at hrun
  cases u<;>first | (cases h1; done) | skip
  · rename_i b
    obtain ⟨es,hes,h2⟩:=iW h1
    cases h2
    have hg:=Jo hes
    simp only [okv] at k1
    obtain ⟨ms,clock,m1,m2,m3⟩:=(aiX hr k1 hg).at_
    refine bm.same hr ?_ (by simp [okv])
    rw [hrun]
    have hlen:∀ {es:List (AV × AV)} {ms:List MapEntry},cZ M D es ms→es.length=ms.length:=by
      intro es
      induction es with
      | nil=>intro ms h; cases ms with
        | nil=>rfl
        | cons _ _=>exact h.elim
      | cons e es ih=>intro ms h; cases ms with
        | nil=>exact h.elim
        | cons m ms=>simp [ih h.2]
    have:=hlen m2
    simp only [Array.length_toList] at this
    simp [Builtin.len_,im,run_underlying hu,qk m1,goInt,rm,this]
  · cases h1
    refine bm.same hr ?_ (by simp [okv])
    rw [hrun]
    simp [Builtin.len_,im,run_underlying hu,goInt]
theorem adz {kk:dh} {k x:AV} {e:AV × AV} {es r:List (AV × AV)} (h:Tx kk k x (e::es)=some r) :
    (oh kk k e.1=some true∧r=(k,x)::es)∨(oh kk k e.1=some false∧∃ t,Tx kk k x es=some t∧r=e::t):=by
  have h':Option.casesOn (motive:=fun _=>Option (List (AV × AV))) (oh kk k e.1) none (fun b=>Bool.casesOn (motive:=fun _=>Option (List (AV × AV))) b (Option.casesOn (motive:=fun _=>Option (List (AV × AV))) (Tx kk k x es) none (fun t'=>some (e::t'))) (some ((k,x)::es)))=some r:=h
  obtain ⟨b,hb,h'⟩:=iW h'
  cases b with
  | true=>exact .inl ⟨hb,by simpa using h'.symm⟩
  | false=>
    obtain ⟨t,ht,h'⟩:=iW h'
    exact .inr ⟨hb,t,ht,by simpa using h'.symm⟩
theorem dR.tail {m:MapEntry} {ms:List MapEntry} {c:Nat} (h:dR (m::ms) c):dR ms c:=
  ⟨(fH.1 h.1).2,fun x hx=>h.2 x (by simp [hx])⟩
theorem adC {t:TypeId} {kk:dh} (hk:eQ P t kk) {k x:AV} (ok:okv D k) (ox:okv D x):∀ {es r:List (AV × AV)} {ms:List MapEntry} {clock:Nat} (i:Nat),
    cZ M D es ms→dR ms clock→Tx kk k x es=some r→
    (eP P t kk (im M k) ms i none∧cZ M D r (ms++[⟨im M k,im M x,clock⟩])∧dR (ms++[⟨im M k,im M x,clock⟩]) (clock+1))∨
    (∃ j y,eP P t kk (im M k) ms i (some (i+j,y))∧(∃ m,ms[j]?=some m∧m.key=im M k)∧cZ M D r (ms.modify j fun e=>{ e with key:=im M k,val:=im M x })∧
      dR (ms.modify j fun e=>{ e with key:=im M k,val:=im M x }) clock)
  | [],r,[],clock,i,_,hB,h=>by
    have:[(k,x)]=r:=by have h':some [(k,x)]=some r:=h
                       simpa using h'
    subst this
    exact .inl ⟨.nil hk,⟨⟨rfl,rfl,ok,ox⟩,trivial⟩,by simp [dR]⟩
  | e::es,r,m::ms,clock,i,hE,hB,h=>by
    obtain ⟨⟨e1,e2,e3,e4⟩,hE'⟩:=hE
    rcases adz h with ⟨hq,rfl⟩ | ⟨hq,t',ht',rfl⟩
    · refine .inr ⟨0,m.val,.hit hk hq e1,⟨m,rfl,by rw [e1,eP.same (M:=M) hk hq]⟩,⟨⟨rfl,rfl,ok,ox⟩,hE'⟩,?_⟩
      obtain ⟨b1,b2⟩:=hB
      exact ⟨fH.2 ⟨fun y hy=>(fH.1 b1).1 y hy,(fH.1 b1).2⟩,fun y hy=>by
        rcases gk.1 hy with rfl | hy
        · exact b2 m (by simp)
        · exact b2 y (by simp [hy])⟩
    · rcases adC hk ok ox (i+1) hE' hB.tail ht' with ⟨f1,f2,f3⟩ | ⟨j,y,f1,f2,f3,f4⟩
      · refine .inl ⟨.miss hk hq e1 f1,⟨⟨e1,e2,e3,e4⟩,f2⟩,?_⟩
        refine ⟨fH.2 ⟨fun y hy=>?_,f3.1⟩,fun y hy=>?_⟩
        · rcases gw.1 hy with hy | hy
          · exact (fH.1 hB.1).1 y hy
          · simp at hy; subst hy; exact hB.2 m (by simp)
        · rcases gk.1 hy with rfl | hy
          · have:=hB.2 y (by simp); omega
          · exact f3.2 y hy
      · refine .inr ⟨j+1,y,.miss hk hq e1 (by rw [show i+(j+1)=i+1+j by omega]; exact f1),by simpa using f2,⟨⟨e1,e2,e3,e4⟩,f3⟩,?_⟩
        refine ⟨fH.2 ⟨fun y hy=>?_,f4.1⟩,fun y hy=>?_⟩
        · have hb:∀ (l:List MapEntry) (j:Nat) (g:MapEntry→MapEntry),(∀ e,(g e).born=e.born)→∀ y∈l.modify j g,∃ z∈l,z.born=y.born:=by
            intro l
            induction l with
            | nil=>intro j g _ y hy; simp at hy
            | cons a l ih=>
              intro j g hg y hy
              cases j with
              | zero=>
                rcases gk.1 hy with rfl | hy
                · exact ⟨a,by simp,(hg a).symm⟩
                · exact ⟨y,by simp [hy],rfl⟩
              | succ j=>
                rcases gk.1 hy with rfl | hy
                · exact ⟨y,by simp,rfl⟩
                · obtain ⟨z,hz,he⟩:=ih j g hg y hy
                  exact ⟨z,by simp [hz],he⟩
          obtain ⟨z,hz,he⟩:=hb ms j (fun e=>{ e with key:=im M k,val:=im M x }) (fun e=>rfl) y hy
          rw [← he]; exact (fH.1 hB.1).1 z hz
        · rcases gk.1 hy with rfl | hy
          · exact hB.2 y (by simp)
          · exact f4.2 y hy
  | [],_,_::_,_,_,h,_,_=>h.elim
  | _::_,_,[],_,_,h,_,_=>h.elim
theorem KF {h:Array Obj} {r c:Nat} {x:Obj} (hne:c≠r):(h.setIfInBounds r x)[c]?=h[c]?:=Array.getElem?_setIfInBounds_ne (fun e=>hne e.symm)
theorem Rel.setMap (hr:Rel M D H w) {b:Nat} (hb:D b) {es es':List (AV × AV)} (hg:H.get b=some (.mp es)) {ms':Array MapEntry} {clock':Nat} (hE:cZ M D es' ms'.toList) (hB:dR ms'.toList clock') :
    Rel M D (H.set b (.mp es')) { w with heap:=w.heap.setIfInBounds (M b).blk (.map ms' clock') }∧Ext M D H w M D (H.set b (.mp es')) { w with heap:=w.heap.setIfInBounds (M b).blk (.map ms' clock') }:=by
  have hlt:=(hr.blk b hb).lt (by rw [hg]; trivial)
  refine hr.turn hb (by rw [hg]; trivial) (.mp es') ⟨⟨ms',clock',?_,hE,hB⟩⟩ (fun c hc=>KF hc) (by simp) rfl rfl rfl
  show (w.heap.setIfInBounds (M b).blk (.map ms' clock'))[(M b).blk]?=_
  rw [Array.getElem?_setIfInBounds_self,if_pos hlt]
theorem alV {t kt e:TypeId} {kk:dh} {m k x:Operand} {X K Y:Opd} (ho:o.op = .mapUpdate t m k x) (hu:P.underlying t=some (.map kt e)) (hk:eQ P kt kk)
    (hx:opd nt m=some X) (hkk:opd nt k=some K) (hy:opd nt x=some Y) (ht:bX M D nt tm a) (hr:Rel M D H w) (h:opF (.mapset kk X K Y) tm H=some (v,H')):bm P w M D H (execOp a.eval o) v H':=by
  obtain ⟨u,hu',h1⟩:=iW h
  clear h
  obtain ⟨q,hq,h2⟩:=iW h1
  clear h1
  obtain ⟨y,hy',h1⟩:=iW h2
  clear h2
  obtain ⟨e1,k1⟩:=mK hx ht hu'
  obtain ⟨e2,k2⟩:=mK hkk ht hq
  obtain ⟨e3,k3⟩:=mK hy ht hy'
  cases u<;>first | (cases h1; done) | skip
  rename_i b
  obtain ⟨_,h2⟩:=ZE h1
  clear h1
  obtain ⟨es,hes,h1⟩:=iW h2
  clear h2
  obtain ⟨sb,hsb,h2⟩:=iW h1
  clear h1
  obtain ⟨es',hp,h⟩:=iW h2
  clear h2
  rw [Heap.fu] at h
  cases h
  have hg:=Jo hes
  simp only [okv] at k1
  obtain ⟨ms,clock,m1,m2,m3⟩:=(aiX hr k1 hg).at_
  rcases adC (M:=M) (D:=D) hk k2 k3 0 m2 m3 hp with ⟨f1,f2,f3⟩ | ⟨j,z,f1,⟨m0,f5,f6⟩,f3,f4⟩
  · obtain ⟨r1,r2⟩:=hr.setMap k1 hg (ms':=ms.push ⟨im M q,im M y,clock⟩) (clock':=clock+1) (by simpa using f2) (by simpa using f3)
    refine ⟨M,D,_,.skip,?_,.inr ⟨rfl,rh M⟩,r1,r2,ub D⟩
    have hfk:(Instr.findKey kt (im M q) ms.toList).run P w = .ok none w:=f1.run hk
    simp only [execOp,ho,Instr.mapUpdate,Sem.run_bind,run_underlying hu,Result.andThen_ok,e1,e2,e3,im,qk m1,mX (M:=M) hk hsb,hfk,wX m1,Sem.run_pure]
  · obtain ⟨r1,r2⟩:=hr.setMap k1 hg (ms':=ms.modify j fun e=>{ e with key:=im M q,val:=im M y }) (clock':=clock) (by simpa using f3) (by simpa using f4)
    refine ⟨M,D,_,.skip,?_,.inr ⟨rfl,rh M⟩,r1,r2,ub D⟩
    have hfk:(Instr.findKey kt (im M q) ms.toList).run P w = .ok (some (j,z)) w:=by rw [Nat.zero_add] at f1; exact f1.run hk
    have hold:((ms[j]?).map (·.key)).getD (im M q)=im M q:=by
      have:ms[j]?=some m0:=by simpa using f5
      simp [this,f6]
    have hks:(Instr.keyThatStays (im M q) (im M q)).run P w = .ok (im M q) w:=by
      simp [Instr.keyThatStays,YU (M:=M) hsb]
    simp only [execOp,ho,Instr.mapUpdate,Sem.run_bind,run_underlying hu,Result.andThen_ok,e1,e2,e3,im,qk m1,mX (M:=M) hk hsb,hfk,hold,hks,wX m1,Sem.run_pure]
theorem aqX {kk:dh} {k:AV} {e:AV × AV} {es r:List (AV × AV)} (h:delF kk k (e::es)=some r) :
    (oh kk k e.1=some true∧r=es)∨(oh kk k e.1=some false∧∃ t,delF kk k es=some t∧r=e::t):=by
  have h':Option.casesOn (motive:=fun _=>Option (List (AV × AV))) (oh kk k e.1) none (fun b=>Bool.casesOn (motive:=fun _=>Option (List (AV × AV))) b (Option.casesOn (motive:=fun _=>Option (List (AV × AV))) (delF kk k es) none (fun t'=>some (e::t'))) (some es))=some r:=h
  obtain ⟨b,hb,h'⟩:=iW h'
  cases b with
  | true=>exact .inl ⟨hb,by simpa using h'.symm⟩
  | false=>
    obtain ⟨t,ht,h'⟩:=iW h'
    exact .inr ⟨hb,t,ht,by simpa using h'.symm⟩
theorem del_ok {t:TypeId} {kk:dh} (hk:eQ P t kk) {k:AV}:∀ {es r:List (AV × AV)} {ms:List MapEntry} {clock:Nat} (i:Nat),
    cZ M D es ms→dR ms clock→delF kk k es=some r→
    (eP P t kk (im M k) ms i none∧r=es)∨(∃ j y,eP P t kk (im M k) ms i (some (i+j,y))∧cZ M D r (ms.eraseIdx j)∧dR (ms.eraseIdx j) clock)
  | [],r,[],clock,i,_,hB,h=>by
    have:[]=r:=by have h':some []=some r:=h
                  simpa using h'
    subst this
    exact .inl ⟨.nil hk,rfl⟩
  | e::es,r,m::ms,clock,i,hE,hB,h=>by
    obtain ⟨⟨e1,e2,e3,e4⟩,hE'⟩:=hE
    rcases aqX h with ⟨hq,rfl⟩ | ⟨hq,t',ht',rfl⟩
    · exact .inr ⟨0,m.val,.hit hk hq e1,hE',hB.tail⟩
    · rcases del_ok hk (i+1) hE' hB.tail ht' with ⟨f1,rfl⟩ | ⟨j,y,f1,f3,f4⟩
      · exact .inl ⟨.miss hk hq e1 f1,rfl⟩
      · refine .inr ⟨j+1,y,.miss hk hq e1 (by rw [show i+(j+1)=i+1+j by omega]; exact f1),⟨⟨e1,e2,e3,e4⟩,f3⟩,?_⟩
        refine ⟨fH.2 ⟨fun z hz=>(fH.1 hB.1).1 z (List.mem_of_mem_eraseIdx hz),f4.1⟩,fun z hz=>?_⟩
        rcases gk.1 hz with rfl | hz
        · exact hB.2 z (by simp)
        · exact f4.2 z hz
  | [],_,_::_,_,_,h,_,_=>h.elim
  | _::_,_,[],_,_,h,_,_=>h.elim
theorem als {t kt e:TypeId} {kk:dh} {m k:Operand} {X K:Opd} {ats:Array TypeId} {args:Array Operand} {t2:TypeId} (ho:o.op = .call { callee:=.builtin .delete,args,argTypes:=ats })
    (hats:ats.toList = [t,t2]) (hargs:args.toList = [m,k]) (hu:P.underlying t=some (.map kt e)) (hk:eQ P kt kk)
    (hx:opd nt m=some X) (hkk:opd nt k=some K) (ht:bX M D nt tm a) (hr:Rel M D H w) (h:opF (.mapdel kk X K) tm H=some (v,H')):bm P w M D H (execOp a.eval o) v H':=by
  obtain ⟨u,hu',h1⟩:=iW h
  clear h
  obtain ⟨q,hq,h2⟩:=iW h1
  clear h1
  obtain ⟨sb,hsb,h1⟩:=iW h2
  clear h2
  obtain ⟨e1,k1⟩:=mK hx ht hu'
  obtain ⟨e2,k2⟩:=mK hkk ht hq
  have hats':ats = #[t,t2]:=by rw [← Array.toArray_toList (xs:=ats),hats]
  have hargs':args = #[m,k]:=by rw [← Array.toArray_toList (xs:=args),hargs]
  subst hats'; subst hargs'
  have hrun:(execOp a.eval o).run P w=((Builtin.delete_ #[t,t2] o.type #[a.eval m,a.eval k]).run P w).andThen fun v w'=>.ok (.value v) w':=by
    rw [uP ho]
    show ((do pure (.value (← Builtin.delete_ #[t,t2] o.type (#[m,k].map a.eval))):Sem Next)).run P w=_
    simp
  rw [e1,e2] at hrun
  cases u<;>first | (cases h1; done) | skip
  · rename_i b
    obtain ⟨_,h2⟩:=ZE h1
    clear h1
    obtain ⟨es,hes,h1⟩:=iW h2
    clear h2
    obtain ⟨es',hp,h⟩:=iW h1
    clear h1
    rw [Heap.fu] at h
    cases h
    have hg:=Jo hes
    simp only [okv] at k1
    obtain ⟨ms,clock,m1,m2,m3⟩:=(aiX hr k1 hg).at_
    rcases del_ok (M:=M) (D:=D) hk 0 m2 m3 hp with ⟨f1,rfl⟩ | ⟨j,z,f1,f3,f4⟩
    · obtain ⟨r1,r2⟩:=hr.setMap k1 hg (ms':=ms) (clock':=clock) m2 m3
      refine ⟨M,D,_,.value undef,?_,.inl (by rw [rh]),r1,r2,ub D⟩
      have hfk:(Instr.findKey kt (im M q) ms.toList).run P w = .ok none w:=f1.run hk
      rw [hrun]
      simp [Builtin.delete_,run_underlying hu,im,qk m1,mX (M:=M) hk hsb,hfk,wX m1,undef]
    · have her:(ms.eraseIdxIfInBounds j).toList=ms.toList.eraseIdx j:=by simp
      obtain ⟨r1,r2⟩:=hr.setMap k1 hg (ms':=ms.eraseIdxIfInBounds j) (clock':=clock) (by rw [her]; exact f3) (by rw [her]; exact f4)
      refine ⟨M,D,_,.value undef,?_,.inl (by rw [rh]),r1,r2,ub D⟩
      have hfk:(Instr.findKey kt (im M q) ms.toList).run P w = .ok (some (j,z)) w:=by rw [Nat.zero_add] at f1; exact f1.run hk
      rw [hrun]
      simp [Builtin.delete_,run_underlying hu,im,qk m1,mX (M:=M) hk hsb,hfk,wX m1,undef]
  · cases h1
    refine bm.same hr ?_ (ub D)
    rw [hrun]
    simp [Builtin.delete_,run_underlying hu,im,mX (M:=M) hk hsb,rh,undef]
end
end Go.Ai
