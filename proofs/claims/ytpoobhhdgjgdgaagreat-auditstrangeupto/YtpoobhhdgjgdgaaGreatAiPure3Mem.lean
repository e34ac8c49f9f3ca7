/- The last operations that leave memory alone. -/
import Derived.Test.YtpoobhhdgjgdgaaGreatAiPurePure2
set_option linter.all false
namespace Go.Ai
section
variable {P:Program} {nt:Nat} {M:Mp} {D:Nat→Prop} {tm:Tr AV} {a:Act} {w:World} {H H':Heap} {v:AV} {o:Oper}
theorem akL (ps:List (Nat × Nat)):∀ {l:List (Nat × Operand)} {L:List (Nat × Nat × Opd)},aiZ nt ps l=some L→
    l.length=L.length∧∀ (i:Nat) (p:Nat × Operand) (q:Nat × Nat × Opd),l[i]?=some p→L[i]?=some q→ps[p.1]?=some (q.1,q.2.1)∧opd nt p.2=some q.2.2
  | [],L,h=>by cases h; simp
  | (j,x)::l,L,h=>by
    simp only [aiZ,fT,fF] at h
    obtain ⟨p,hp,A,hA,L',hL,rfl⟩:=h
    obtain ⟨h1,h2⟩:=akL ps hL
    refine ⟨by simp [h1],fun i p' q' e1 e2=>?_⟩
    cases i with
    | zero=>simp at e1 e2; subst e1; subst e2; exact ⟨hp,hA⟩
    | succ i=>exact h2 i p' q' (by simpa using e1) (by simpa using e2)
theorem acj (s:Nat):∀ {l:List (Nat × Operand)} {L:List (Nat × Nat × Opd)},Zf nt s l=some L→
    l.length=L.length∧∀ (i:Nat) (p:Nat × Operand) (q:Nat × Nat × Opd),l[i]?=some p→L[i]?=some q→some (p.1*s,s)=some (q.1,q.2.1)∧opd nt p.2=some q.2.2
  | [],L,h=>by cases h; simp
  | (j,x)::l,L,h=>by
    simp only [Zf,fT,fF] at h
    obtain ⟨A,hA,L',hL,rfl⟩:=h
    obtain ⟨h1,h2⟩:=acj s hL
    refine ⟨by simp [h1],fun i p' q' e1 e2=>?_⟩
    cases i with
    | zero=>simp at e1 e2; subst e1; subst e2; exact ⟨rfl,hA⟩
    | succ i=>exact h2 i p' q' (by simpa using e1) (by simpa using e2)
theorem aix:∀ {fs:List Field} {ps:List (Nat × Nat)},abo P fs=some ps→(fs.mapM fun f=>(do pure (f.offset, ← sizeOf f.type):Sem (Nat × Nat))).run P w = .ok ps w
  | [],ps,h=>by cases h; simp
  | f::fs,ps,h=>by
    simp only [abo,fT,fF] at h
    obtain ⟨s,hs,qs,hq,rfl⟩:=h
    simp only [List.mapM_cons,Sem.run_bind,nY hs,Result.andThen_ok,Sem.run_pure,aix hq]
theorem Zz {t:TypeId} {parts:Array (Nat × Operand)} {fs:Array Field} {z:List AV} {ps:List (Nat × Nat)} {L:List (Nat × Nat × Opd)} (ho:o.op = .build t parts)
    (hz:zn P t=some (.agg z)) (hu:P.underlying t=some (.struct fs)) (hp:abo P fs.toList=some ps) (hl:aiZ nt ps parts.toList=some L)
    (ht:bX M D nt tm a) (hr:Rel M D H w) (h:opF (.build z L) tm H=some (v,H')):bm P w M D H (execOp a.eval o) v H':=by
  obtain ⟨r,hr',h⟩:=iW h
  cases h
  obtain ⟨h1,h2⟩:=akL ps hl
  obtain ⟨zc,zo,ze⟩:=xJ (M:=M) (D:=D) hz
  obtain ⟨f1,f2⟩:=aiK (M:=M) (D:=D) (fun i=>ps[i]?) parts.toList L z r h1 h2 ht zc hr'
  refine bm.same hr ?_ (by simp only [okv]; exact ⟨(nL D r).2 fun u hu=>(f2 u hu).1,fun u hu=>(f2 u hu).2⟩)
  have hm:(fs.mapM fun f=>(do pure (f.offset, ← sizeOf f.type):Sem (Nat × Nat))).run P w = .ok ps.toArray w:=by
    rw [Array.mapM_eq_mapM_toList]
    simp only [Sem.run_map,aix hp,Result.andThen_ok]
  have ze':(im M (.agg z)).cells=(z.map (im M)).toArray:=ze
  have hpl:(fun (i:Nat)=>ps.toArray[i]?)=fun (i:Nat)=>ps[i]?:=by funext i; simp
  simp only [execOp,ho,Instr.build,Sem.run_bind,zQ (M:=M) hz,Result.andThen_ok,run_underlying hu,hm,ze']
  have f1':Instr.fill (fun (i:Nat)=>ps.toArray[i]?) (z.map (im M)).toArray (parts.map fun p=>(p.1,a.eval p.2)).toList=some (r.map (im M)).toArray:=by rw [hpl,Array.toList_map]; exact f1
  rw [f1']
  simp [im,mY]
theorem abg {t e:TypeId} {n s:Nat} {parts:Array (Nat × Operand)} {z:List AV} {L:List (Nat × Nat × Opd)} (ho:o.op = .build t parts)
    (hz:zn P t=some (.agg z)) (hu:P.underlying t=some (.array n e)) (hs:szT P e=some s) (hl:Zf nt s parts.toList=some L)
    (ht:bX M D nt tm a) (hr:Rel M D H w) (h:opF (.build z L) tm H=some (v,H')):bm P w M D H (execOp a.eval o) v H':=by
  obtain ⟨r,hr',h⟩:=iW h
  cases h
  obtain ⟨h1,h2⟩:=acj s hl
  obtain ⟨zc,zo,ze⟩:=xJ (M:=M) (D:=D) hz
  obtain ⟨f1,f2⟩:=aiK (M:=M) (D:=D) (fun i=>some (i*s,s)) parts.toList L z r h1 h2 ht zc hr'
  refine bm.same hr ?_ (by simp only [okv]; exact ⟨(nL D r).2 fun u hu=>(f2 u hu).1,fun u hu=>(f2 u hu).2⟩)
  have ze':(im M (.agg z)).cells=(z.map (im M)).toArray:=ze
  simp only [execOp,ho,Instr.build,Sem.run_bind,zQ (M:=M) hz,Result.andThen_ok,run_underlying hu,nY hs,ze']
  have f1':Instr.fill (fun i=>some (i*s,s)) (z.map (im M)).toArray (parts.map fun p=>(p.1,a.eval p.2)).toList=some (r.map (im M)).toArray:=by rw [Array.toList_map]; exact f1
  rw [f1']
  simp [im,mY]
theorem ace {t:TypeId} {s:Nat × Bool} (h:Wl P t=some s):szT P t=some s.1∧HS P t=some s.2∧(s.2=false→s.1=1):=by
  simp only [Wl,fT] at h
  obtain ⟨n,hn,g,hg,h⟩:=h
  split at h
  · rename_i hb
    cases h
    refine ⟨hn,hg,fun e=>?_⟩
    have e:g=false:=e
    subst e
    simpa using hb
  · cases h
theorem apb {t e:TypeId} {nn:Nat} {s:Nat × Bool} {x i:Operand} {X I:Opd} (ho:o.op = .index t x i) (hu:P.underlying t=some (.array nn e)) (hs:Wl P e=some s)
    (hx:opd nt x=some X) (hi:opd nt i=some I) (ht:bX M D nt tm a) (hr:Rel M D H w)
    (h:opF (.idxA s.1 nn s.2 X I) tm H=some (v,H')):bm P w M D H (execOp a.eval o) v H':=by
  obtain ⟨s1,s2,s3⟩:=ace hs
  obtain ⟨u,hu',h1⟩:=iW h
  clear h
  obtain ⟨z,hz',h⟩:=iW h1
  clear h1
  obtain ⟨e1,k⟩:=mK hx ht hu'
  obtain ⟨e2,k2⟩:=mK hi ht hz'
  split at h
  · rename_i cs kk n
    obtain ⟨h0,h⟩:=yv h
    obtain ⟨hb,h⟩:=uy h
    rw [blt_eq] at hb
    have hb:n.toNat<nn:=by simpa using hb
    obtain ⟨l,hl,h⟩:=iW h
    obtain ⟨r,hr',h⟩:=iW h
    cases h
    obtain ⟨p1,p2⟩:=Uc (M:=M) hr'
    obtain ⟨q1,q2,q3⟩:=anN hl
    simp only [okv] at k
    refine bm.same hr ?_ (p2 D fun u hu=>?_)
    · rw [nP] at hl
      split at hl
      · rename_i hlen
        have hl':(cs.drop (n.toNat*s.1)).take s.1=l:=by simpa using hl
        have hp:=T2 (M:=M) (w:=w) s2 s1 s3 cs (n.toNat*s.1) (by simp at hlen; omega)
        rw [hl'] at hp
        simp only [execOp,ho,e1,e2,im,Instr.index,asIntOf,Sem.run_bind,run_underlying hu,Result.andThen_ok,Sem.run_pure,Sem.run_ite,mY]
        rw [if_pos ⟨h0,by omega⟩]
        simp only [nY s1,Result.andThen_ok,hp,p1]
      · cases hl
    · obtain ⟨j,hj⟩:=List.getElem?_of_mem hu
      have hm:=fS (q3 j u hj)
      exact ⟨(nL D cs).1 k.1 u hm,k.2 u hm⟩
  · cases h
theorem Qb (s:List UInt8):(⟨s.toArray⟩:ByteArray).size=s.length:=by show s.toArray.size=_; simp
theorem ao6 {t:TypeId} {x i:Operand} {X I:Opd} (ho:o.op = .index t x i) (hu:P.underlying t=some .string)
    (hx:opd nt x=some X) (hi:opd nt i=some I) (ht:bX M D nt tm a) (hr:Rel M D H w)
    (h:opF (.idxS X I) tm H=some (v,H')):bm P w M D H (execOp a.eval o) v H':=by
  obtain ⟨u,hu',h1⟩:=iW h
  clear h
  obtain ⟨z,hz',h⟩:=iW h1
  clear h1
  obtain ⟨e1,k⟩:=mK hx ht hu'
  obtain ⟨e2,k2⟩:=mK hi ht hz'
  split at h
  · rename_i s kk n
    obtain ⟨h0,h⟩:=yv h
    obtain ⟨c,hc,h⟩:=iW h
    cases h
    rw [nth_eq] at hc
    refine bm.same hr ?_ (by simp [okv])
    have hg:(⟨s.toArray⟩:ByteArray)[n.toNat]?=some c:=by
      obtain ⟨hlt,hge⟩:=fZ.1 hc
      have hlt':n.toNat<(⟨s.toArray⟩:ByteArray).size:=by rw [Qb]; exact hlt
      rw [getElem?_pos (⟨s.toArray⟩:ByteArray) n.toNat hlt']
      show some (s.toArray[n.toNat])=some c
      simp [hge]
    simp [execOp,ho,e1,e2,im,Instr.index,asIntOf,run_underlying hu,h0,hg]
  · cases h
theorem uP {ρ:Operand→Value} {o:Oper} {b:Builtin} {ats:Array TypeId} {args:Array Operand} (ho:o.op = .call { callee:=.builtin b,args,argTypes:=ats }) :
    execOp ρ o=builtin b ats o.type (args.map fun | .const _=>true | _=>false) (args.map ρ):=by
  obtain ⟨dst,op,type,pos,after,guard⟩:=o
  subst ho
  rfl
theorem JP {t:TypeId} {d:TypeDesc} {k:LenK} {x:Operand} {X:Opd} {ats:Array TypeId} {args:Array Operand} (ho:o.op = .call { callee:=.builtin .len,args,argTypes:=ats })
    (hats:ats.toList = [t]) (hargs:args.toList = [x]) (hu:P.underlying t=some d) (hk:(d = .string∧k = .str)∨(∃ n e,d = .array n e∧k = .arr n)∨(∃ e,d = .slice e∧k = .sl))
    (hx:opd nt x=some X) (ht:bX M D nt tm a) (hr:Rel M D H w)
    (h:opF (.len k X) tm H=some (v,H')):bm P w M D H (execOp a.eval o) v H':=by
  obtain ⟨u,hu',h1⟩:=iW h
  clear h
  obtain ⟨e1,k1⟩:=mK hx ht hu'
  have hats':ats = #[t]:=by rw [← Array.toArray_toList (xs:=ats),hats]
  have hargs':args = #[x]:=by rw [← Array.toArray_toList (xs:=args),hargs]
  subst hats'; subst hargs'
  have hrun:(execOp a.eval o).run P w=((Builtin.len_ #[t] o.type #[a.eval x]).run P w).andThen fun v w'=>.ok (.value v) w':=by
    rw [uP ho]
    show ((do pure (.value (← Builtin.len_ #[t] o.type (#[x].map a.eval))):Sem Next)).run P w=_
    simp
  rw [e1] at hrun
  rcases hk with ⟨rfl,rfl⟩ | ⟨n,e,rfl,rfl⟩ | ⟨e,rfl,rfl⟩
  · cases u<;>first | (cases h1; done) | skip
    rename_i s
    cases h1
    refine bm.same hr ?_ (by simp [okv])
    rw [hrun]
    simp [Builtin.len_,im,run_underlying hu,goInt,rm,Qb]
  · cases u<;>(cases h1; refine bm.same hr ?_ (by simp [okv]); rw [hrun]; simp [Builtin.len_,run_underlying hu,goInt,im])
  · cases u<;>first | (cases h1; done) | skip
    all_goals (cases h1; refine bm.same hr ?_ (by simp [okv]); rw [hrun]; simp [Builtin.len_,run_underlying hu,goInt,im])
end
end Go.Ai
/- Slices of slices, of texts, of arrays; the least and the greatest. -/
namespace Go.Ai
section
variable {P:Program} {nt:Nat} {M:Mp} {D:Nat→Prop} {tm:Tr AV} {a:Act} {w:World} {H H':Heap} {v:AV} {o:Oper}
theorem aiP {d m n:Nat} (h:bnd tm none d m=some n):n=d:=by
  have h':some d=some n:=h
  simpa using h'.symm
theorem aah {X:Opd} {d m n:Nat} {x:Operand} (hx:opd nt x=some X) (ht:bX M D nt tm a) (h:bnd tm (some X) d m=some n) :
    n≤m∧∀ y code,m≤y→(Instr.sliceBound (a.eval x) y code).run P w = .ok n w:=by
  have h':Option.casesOn (motive:=fun _=>Option Nat) (ev tm X) none (fun v=>match v with
    | .int _ i=>LG i none fun n=>Bool.casesOn (motive:=fun _=>Option Nat) (Nat.ble n m) none (some n)
    | _=>none)=some n:=h
  obtain ⟨u,hu,h1⟩:=iW h'
  obtain ⟨e,e2⟩:=mK hx ht hu
  split at h1
  · rename_i k i
    obtain ⟨h0,h2⟩:=yv h1
    obtain ⟨hb,h3⟩:=uy h2
    have hb:=fR hb
    have hn:i.toNat=n:=by simpa using h3
    subst hn
    refine ⟨hb,fun y code hy=>?_⟩
    simp only [Instr.sliceBound,e,im,asIntOf,Sem.run_bind,Sem.run_pure,Result.andThen_ok,Sem.run_ite]
    rw [if_pos ⟨h0,by omega⟩]
  · cases h1
theorem P7 {isSlice:Bool} {len cap A m h l:Nat} {lo hi mx:Option Operand} {LO HI MX:Option Opd} (hA:A≤cap) (hlen:len≤A)
    (el:abe nt lo=some LO) (eh:abe nt hi=some HI) (em:abe nt mx=some MX) (ht:bX M D nt tm a)
    (hm:bnd tm MX A A=some m) (hh:bnd tm HI len m=some h) (hl:bnd tm LO 0 h=some l) (hmh:∀ X,MX=some X→HI≠none) :
    (Instr.sliceBounds isSlice len cap (lo.map a.eval) (hi.map a.eval) (mx.map a.eval)).run P w = .ok (l,h,if MX=none then cap else m) w∧l≤h∧h≤m∧m≤A∧(MX=none→m=A):=by
  have low:∀ (c:Nat) (code:BoundsCode),(match (lo.map a.eval:Option Value) with
      | some v=>(do let l ← Instr.sliceBound v h code; pure (l,h,c):Sem (Nat × Nat × Nat))
      | none=>(do let l ← pure 0; pure (l,h,c):Sem (Nat × Nat × Nat))).run P w = .ok (l,h,c) w∧l≤h:=by
    intro c code
    cases lo with
    | none=>cases el; have:=aiP hl; subst this; exact ⟨rfl,Nat.zero_le _⟩
    | some x=>
      simp only [abe,fF] at el
      obtain ⟨X,hX,rfl⟩:=el
      obtain ⟨g1,g2⟩:=aah (P:=P) (w:=w) hX ht hl
      exact ⟨by simp only [Option.map_some,Sem.run_bind,g2 h code (fY _),Result.andThen_ok,Sem.run_pure],g1⟩
  cases mx with
  | none=>
    cases em
    have hm':=aiP hm
    subst hm'
    cases hi with
    | none=>
      cases eh
      have hh':=aiP hh
      subst hh'
      obtain ⟨l1,l2⟩:=low cap .sliceB
      refine ⟨?_,l2,hlen,fY _,fun _=>rfl⟩
      simp only [Instr.sliceBounds,Option.map_none,Sem.run_bind,Sem.run_pure,Result.andThen_ok,Option.isSome_none,fK,if_false,if_true]
      exact l1
    | some y=>
      simp only [abe,fF] at eh
      obtain ⟨Y,hY,rfl⟩:=eh
      obtain ⟨g1,g2⟩:=aah (P:=P) (w:=w) hY ht hh
      obtain ⟨l1,l2⟩:=low cap .sliceB
      refine ⟨?_,l2,g1,fY _,fun _=>rfl⟩
      simp only [Instr.sliceBounds,Option.map_none,Option.map_some,Sem.run_bind,Sem.run_pure,Result.andThen_ok,g2 cap _ hA,Option.isSome_none,fK,if_false,if_true]
      exact l1
  | some z=>
    simp only [abe,fF] at em
    obtain ⟨Z,hZ,rfl⟩:=em
    obtain ⟨m1,m2⟩:=aah (P:=P) (w:=w) hZ ht hm
    cases hi with
    | none=>cases eh; exact (hmh Z rfl rfl).elim
    | some y=>
      simp only [abe,fF] at eh
      obtain ⟨Y,hY,rfl⟩:=eh
      obtain ⟨g1,g2⟩:=aah (P:=P) (w:=w) hY ht hh
      obtain ⟨l1,l2⟩:=low m .slice3C
      refine ⟨?_,l2,g1,m1,fun e=>by cases e⟩
      simp only [Instr.sliceBounds,Option.map_some,Sem.run_bind,Result.andThen_ok,m2 cap _ hA,g2 m _ (fY _),Option.isSome_some,if_true,reduceCtorEq,if_false]
      exact l1
theorem wZ {x x':Option Addr} {n n' c c':Nat} (h1:x=x') (h2:n=n') (h3:c=c'):(Result.ok (Next.value (.slice x n c)) w) = .ok (.value (.slice x' n' c')) w:=by
  rw [h1,h2,h3]
theorem aao {L:Loc} {i j:Nat} (h:i=j):(some (L.at i):Option Addr)=some (L.at j):=by rw [h]
def SlT (P:Program) (t:TypeId):SlK→Prop
  | .sl s=>∃ e,P.underlying t=some (.slice e)∧szT P e=some s
  | .str=>P.underlying t=some .string
  | .arr n s=>∃ e,P.underlying t=some (.array n e)∧szT P e=some s
theorem ahF {t:TypeId} {k:SlK} {x:Operand} {X:Opd} {lo hi mx:Option Operand} {LO HI MX:Option Opd} (ho:o.op = .slice t x lo hi mx) (hk:SlT P t k)
    (hx:opd nt x=some X) (el:abe nt lo=some LO) (eh:abe nt hi=some HI) (em:abe nt mx=some MX) (ht:bX M D nt tm a) (hr:Rel M D H w)
    (h:opF (.sl k X LO HI MX) tm H=some (v,H')):bm P w M D H (execOp a.eval o) v H':=by
  obtain ⟨u,hu,h1⟩:=iW h
  clear h
  obtain ⟨r,hr',h⟩:=iW h1
  clear h1
  cases h
  obtain ⟨e,k1⟩:=mK hx ht hu
  unfold slF at hr'
  split at hr'
  ·
    rename_i s
    have hut:P.underlying t=some .string:=hk
    split at hr'
    · cases hr'
    · obtain ⟨h,hh,hr'⟩:=iW hr'
      obtain ⟨l,hl,hr'⟩:=iW hr'
      cases hr'
      have hmx:mx=none:=by
        cases mx with
        | none=>rfl
        | some z=>simp [abe] at em
      subst hmx
      obtain ⟨g1,g2,g3,_,_⟩:=P7 (P:=P) (M:=M) (D:=D) (w:=w) (isSlice:=false) (len:=s.length) (cap:=s.length) (A:=s.length) (MX:=none) (mx:=none) (fY _) (fY _) el eh rfl ht rfl hh hl (fun X hX=>by cases hX)
      refine bm.same hr ?_ (by simp [okv])
      simp only [execOp,ho,e,im,Instr.sliceAt,Instr.slice,Sem.run_bind,run_underlying hut,Result.andThen_ok,Qb,Option.map_none,Option.isSome_none,fK,if_false] at g1 ⊢
      rw [g1]
      simp only [Result.andThen_ok,Sem.run_pure]
      congr 3
      rw [skp_eq]
      apply ByteArray.ext
      simp [ByteArray.data_extract]
  ·
    rename_i sz b off len ext opn
    obtain ⟨el',hut,hs⟩:=hk
    obtain ⟨m,hm,r1⟩:=iW hr'
    clear hr'
    obtain ⟨h,hh,r2⟩:=iW r1
    clear r1
    obtain ⟨l,hl,hr'⟩:=iW r2
    clear r2
    simp only [okv] at k1
    have run:∀ (hmh:∀ X,MX=some X→HI≠none),(execOp a.eval o).run P w = .ok (.value (.slice (if (if MX=none then len+ext+(if opn=true then (M b).slack else 0) else m)=l then some ((M b).at off) else some ((M b).at (off+l*sz))) (h-l)
        ((if MX=none then len+ext+(if opn=true then (M b).slack else 0) else m)-l))) w∧l≤h∧h≤m∧m≤len+ext∧(MX=none→m=len+ext):=by
      intro hmh
      obtain ⟨g1,g2⟩:=P7 (P:=P) (M:=M) (D:=D) (w:=w) (isSlice:=true) (len:=len) (cap:=len+ext+(if opn=true then (M b).slack else 0)) (A:=len+ext) (by omega) (by omega) el eh em ht hm hh hl hmh
      refine ⟨?_,g2⟩
      simp only [execOp,ho,e,im,Instr.sliceAt,Instr.slice,Sem.run_bind,run_underlying hut,Result.andThen_ok,g1,nY hs,Sem.run_pure,Option.map_some,Loc.at_add]
    split at hr'
    · cases hr'
    · obtain ⟨g1,g2,g3,g4,_⟩:=run (fun X hX e=>by cases e)
      cases hr'
      refine bm.same hr ?_ (by simpa [okv] using k1)
      rw [g1]
      simp only [reduceCtorEq,if_false,im,fK]
      by_cases hml:m=l
      · rw [if_pos hml,if_pos hml]; exact wZ rfl rfl (by omega)
      · rw [if_neg hml,if_neg hml]; exact wZ (aao (by omega)) rfl (by omega)
    · obtain ⟨g1,g2,g3,g4,g5⟩:=run (fun X hX e=>by cases hX)
      have g5:=g5 rfl
      subst g5
      simp only [if_true] at g1
      split at hr'
      · rename_i hopn
        subst hopn
        simp only [if_true] at g1
        split at hr'
        · rename_i hml
          cases hr'
          refine bm.same hr ?_ (by simpa [okv] using k1)
          rw [g1]
          simp only [im]
          have hhl:h=l:=by omega
          subst hhl
          by_cases hz:(M b).slack=0
          · rw [if_pos (by omega),if_pos hz]; exact wZ rfl (by omega) (by omega)
          · rw [if_neg (by omega),if_neg hz]; exact wZ (aao (by omega)) (by omega) (by omega)
        · rename_i hml
          cases hr'
          refine bm.same hr ?_ (by simpa [okv] using k1)
          rw [g1,if_neg (by omega)]
          simp only [im,if_true]
          exact wZ (aao (by omega)) rfl (by omega)
      · rename_i hopn
        have hopn:opn=false:=by simpa using hopn
        subst hopn
        cases hr'
        refine bm.same hr ?_ (by simpa [okv] using k1)
        rw [g1]
        simp only [fK,if_false,im,Nat.add_zero]
        by_cases hml:len+ext=l
        · rw [if_pos hml,if_pos hml]; exact wZ rfl rfl (by omega)
        · rw [if_neg hml,if_neg hml]; exact wZ (aao (by omega)) rfl (by omega)
  ·
    rename_i sz
    obtain ⟨el',hut,hs⟩:=hk
    obtain ⟨m,hm,r1⟩:=iW hr'
    clear hr'
    obtain ⟨h,hh,r2⟩:=iW r1
    clear r1
    obtain ⟨l,hl,hr'⟩:=iW r2
    clear r2
    split at hr'
    · cases hr'
    · rename_i hne
      cases hr'
      obtain ⟨g1,g2,g3,g4,_⟩:=P7 (P:=P) (M:=M) (D:=D) (w:=w) (isSlice:=true) (len:=0) (cap:=0) (A:=0) (fY _) (fY _) el eh em ht hm hh hl (fun X hX e=>hne X hX e)
      refine bm.same hr ?_ (by simp [okv])
      have:m=0:=by omega
      subst this
      have:h=0:=by omega
      subst this
      have:l=0:=by omega
      subst this
      simp only [execOp,ho,e,im,Instr.sliceAt,Instr.slice,Sem.run_bind,run_underlying hut,Result.andThen_ok,g1,nY hs,Sem.run_pure]
      simp
  ·
    rename_i n sz b off
    obtain ⟨el',hut,hs⟩:=hk
    obtain ⟨m,hm,r1⟩:=iW hr'
    clear hr'
    obtain ⟨h,hh,r2⟩:=iW r1
    clear r1
    obtain ⟨l,hl,hr'⟩:=iW r2
    clear r2
    simp only [okv] at k1
    split at hr'
    · cases hr'
    · rename_i hne
      cases hr'
      obtain ⟨g1,g2,g3,g4,g5⟩:=P7 (P:=P) (M:=M) (D:=D) (w:=w) (isSlice:=false) (len:=n) (cap:=n) (A:=n) (fY _) (fY _) el eh em ht hm hh hl (fun X hX e=>hne X hX e)
      refine bm.same hr ?_ (by simpa [okv] using k1)
      have hmn:(if MX=none then n else m)=m:=by
        by_cases hq:MX=none
        · rw [if_pos hq,g5 hq]
        · rw [if_neg hq]
      rw [hmn] at g1
      simp only [execOp,ho,e,im,Instr.sliceAt,Instr.sureAddr,Sem.run_bind,run_underlying hut,Result.andThen_ok,g1,nY hs,Sem.run_pure,Loc.at_add,fK,if_false]
      by_cases hml:m=l
      · rw [if_pos hml,if_pos hml]; exact wZ rfl rfl (by omega)
      · rw [if_neg hml,if_neg hml]; exact wZ (aao (by omega)) rfl (by omega)
  · cases hr'
theorem alH {mx:Bool} {vs:List AV} {v y r:AV} (h:KZ mx v (y::vs)=some r):∃ k a k' b,v = .int k a∧y = .int k' b∧
    KZ mx (.int k (if mx then (if ltF a b then b else a) else (if ltF b a then b else a))) vs=some r:=by
  cases v<;>first | (cases h; done) | skip
  cases y<;>first | (cases h; done) | exact ⟨_,_,_,_,rfl,rfl,h⟩
theorem agZ (mx:Bool):∀ (vs:List AV) (v r:AV),KZ mx v vs=some r→
    ((vs.map (im M)).foldlM (if mx then Builtin.max2 else Builtin.min2) (im M v)).run P w = .ok (im M r) w∧(okv D v→okv D r)
  | [],v,r,h=>by
    have h':some v=some r:=h
    cases h'
    exact ⟨by simp,fun h=>h⟩
  | y::vs,v,r,h=>by
    obtain ⟨k,p,k',q,rfl,rfl,h'⟩:=alH h
    obtain ⟨g1,g2⟩:=agZ mx vs _ r h'
    refine ⟨?_,fun _=>g2 (by simp [okv])⟩
    rw [List.map_cons,List.foldlM_cons]
    rw [kg,kg] at g1
    cases mx with
    | true=>
      simp only [if_true,im,Builtin.max2,Sem.run_bind,Sem.run_pure,Result.andThen_ok] at g1 ⊢
      rw [← g1]
      by_cases hlt:p<q<;>simp [hlt]
    | false=>
      simp only [fK,if_false,im,Builtin.min2,Sem.run_bind,Sem.run_pure,Result.andThen_ok] at g1 ⊢
      rw [← g1]
      by_cases hlt:q<p<;>simp [hlt]
theorem aaX {mx:Bool} {args:Array Operand} {ats:Array TypeId} {L:List Opd} (ho:o.op = .call { callee:=.builtin (if mx then .max else .min),args,argTypes:=ats }) (hl:afH nt args.toList=some L)
    (ht:bX M D nt tm a) (hr:Rel M D H w) (h:opF (.minmax mx L) tm H=some (v,H')):bm P w M D H (execOp a.eval o) v H':=by
  obtain ⟨vs,hvs,h1⟩:=iW h
  clear h
  obtain ⟨e,k⟩:=agQ hl ht hvs
  split at h1
  · rename_i v0 vs0
    obtain ⟨r,hr',h2⟩:=iW h1
    cases h2
    obtain ⟨g1,g2⟩:=agZ (P:=P) (M:=M) (D:=D) (w:=w) mx vs0 v0 v hr'
    simp only [okL] at k
    refine bm.same hr ?_ (g2 k.1)
    rw [uP ho]
    have hargs:(args.map a.eval).toList=im M v0::vs0.map (im M):=by rw [Array.toList_map,e,mY]; rfl
    cases mx with
    | true=>
      show ((do pure (.value (← Builtin.max_ ats o.type (args.map a.eval))):Sem Next)).run P w=_
      simp only [Builtin.max_,hargs,Sem.run_bind]
      have g1':(List.foldlM Builtin.max2 (im M v0) (vs0.map (im M))).run P w = .ok (im M v) w:=by simpa using g1
      rw [g1']; rfl
    | false=>
      show ((do pure (.value (← Builtin.min_ ats o.type (args.map a.eval))):Sem Next)).run P w=_
      simp only [Builtin.min_,hargs,Sem.run_bind]
      have g1':(List.foldlM Builtin.min2 (im M v0) (vs0.map (im M))).run P w = .ok (im M v) w:=by simpa using g1
      rw [g1']; rfl
  · cases h1
end
end Go.Ai
/- Operations that make, read or write cells. -/
namespace Go.Ai
section
variable {P:Program} {nt:Nat} {M:Mp} {D:Nat→Prop} {tm:Tr AV} {a:Act} {w:World} {H H':Heap} {v:AV} {o:Oper}
theorem Rel.newCells (hr:Rel M D H w) {l:List AV} {g:Nat} (hl:∀ u∈l,okv D u∧u.fD=true) {c:Array Value} {e:TypeId} {slack:Nat}
    (hc:∀ (i:Nat) (u:AV),l[i]?=some u→c[i]?=some (im M u)) (hs:l.length+slack*g≤c.size) (hsl:g≠0→l.length+slack*g≤9223372036854775807*g) :
    Rel (M.put H.nx ⟨w.heap.size,0,slack,none⟩) (fun b=>D b∨b=H.nx) (H.add (.cells l true g)) (w.alloc (.cells c e))∧
    Ext M D H w (M.put H.nx ⟨w.heap.size,0,slack,none⟩) (fun b=>D b∨b=H.nx) (H.add (.cells l true g)) (w.alloc (.cells c e)):=by
  refine hr.alloc _ _ ⟨w.heap.size,0,slack,none⟩ rfl ?_
  have hag:∀ b,D b→M.put H.nx ⟨w.heap.size,0,slack,none⟩ b=M b:=fun b hb=>Mp.put_other _ _ (Nat.ne_of_lt (hr.dom b hb))
  refine ⟨fun i u hu=>?_,fun _ i hi=>?_,by simp,fun _=>⟨c,e,Ue _ _⟩,hsl,rfl⟩
  · obtain ⟨h1,h2⟩:=hl u (fS hu)
    refine ⟨?_,h2,lh (fun b hb=>.inl hb) _ h1⟩
    simp only [Nat.zero_add,World.cell?_alloc_new]
    rw [hc i u hu,o0 hag _ h1]
  · have:i<c.size:=by
      have h:i<l.length+slack*g:=hi
      omega
    exact ⟨by simp [this],by simp⟩
theorem bm.newCells (hr:Rel M D H w) {l:List AV} {g:Nat} (hl:∀ u∈l,okv D u∧u.fD=true) {c:Array Value} {e:TypeId} {slack:Nat}
    (hc:∀ (i:Nat) (u:AV),l[i]?=some u→c[i]?=some (im M u)) (hs:l.length+slack*g≤c.size) (hsl:g≠0→l.length+slack*g≤9223372036854775807*g) {s:Sem Next} {v:AV}
    (hrun:s.run P w = .ok (.value (im (M.put H.nx ⟨w.heap.size,0,slack,none⟩) v)) (w.alloc (.cells c e))) (hv:okv (fun b=>D b∨b=H.nx) v) :
    bm P w M D H s v (H.add (.cells l true g)):=by
  obtain ⟨h1,h2⟩:=hr.newCells (e:=e) hl hc hs hsl
  exact ⟨_,_,_,_,hrun,.inl rfl,h1,h2,hv⟩
theorem A8 (e:TypeId) (c:Array Value):(newRow e c).run P w = .ok ⟨w.heap.size,0,none⟩ (w.alloc (.cells c e)):=by
  simp [newRow]
theorem ana {t:TypeId} {z:AV} (ho:o.op = .alloc t) (hz:zn P t=some z) (hr:Rel M D H w)
    (h:opF (.alloc z.cells) tm H=some (v,H')):bm P w M D H (execOp a.eval o) v H':=by
  have h':H.newK (.cells z.cells true 0) (fun b H'=>some (AV.ptr b 0,H'))=some (v,H'):=h
  rw [Heap.fx] at h'
  cases h'
  obtain ⟨z1,z2,z3⟩:=xJ (M:=M) (D:=D) hz
  refine bm.newCells hr (e:=t) (c:=(z.cells.map (im M)).toArray) (slack:=0) z1 (fun i u hu=>by simp [hu]) (by simp) (fun h=>absurd rfl h) ?_ (by simp [okv])
  simp only [execOp,ho,Instr.alloc,Sem.run_bind,zQ (M:=M) hz,Result.andThen_ok,newVar,z3,A8,Sem.run_pure,im,Mp.fB,Loc.at_mk]
theorem aq4 {t:TypeId} {x:Operand} {X:Opd} (ho:o.op = .box t x) (hx:opd nt x=some X) (ht:bX M D nt tm a) (hr:Rel M D H w)
    (h:opF (.box X) tm H=some (v,H')):bm P w M D H (execOp a.eval o) v H':=by
  obtain ⟨u,hu,h1⟩:=iW h
  clear h
  obtain ⟨hc,h2⟩:=uy h1
  rw [Heap.fx] at h2
  cases h2
  obtain ⟨e,k⟩:=mK hx ht hu
  obtain ⟨c1,c2⟩:=Zr (M:=M) (fun l e=>by rw [e] at hc; cases hc) k
  refine bm.newCells hr (e:=t) (c:=(u.cells.map (im M)).toArray) (slack:=0) c2 (fun i u hu=>by simp [hu]) (by simp) (fun h=>absurd rfl h) ?_ (by simp [okv])
  simp only [execOp,ho,Instr.box,e,Sem.run_bind,newVar,c1,A8,Result.andThen_ok,Sem.run_pure,im,Mp.fB,Loc.at_mk]
theorem repsC_eq (z:List AV) (n:Nat):ant z n=LW z n:=by
  induction n with
  | zero=>rfl
  | succ n ih=>rw [Xe,ant,ih]
theorem ahg {z:List AV} {n:Nat} {u:AV} (h:u∈LW z n):u∈z:=by
  induction n with
  | zero=>have h':u∈([]:List AV):=h
          cases h'
  | succ n ih=>
    rw [Xe] at h
    rcases gw.1 h with h | h
    · exact h
    · exact ih h
theorem Gl (z:List AV) (n:Nat):(LW z n).length=n*z.length:=by
  induction n with
  | zero=>show ([]:List AV).length=_; simp
  | succ n ih=>rw [Xe,gt,ih,Nat.succ_mul]; omega
theorem reps_get (z:List AV) (n i:Nat) (h:i<n*z.length):(LW z n)[i]?=z[i%z.length]?:=by
  induction n generalizing i with
  | zero=>omega
  | succ n ih=>
    rw [Xe,List.getElem?_append]
    rw [Nat.succ_mul] at h
    split
    · rename_i hlt; rw [Nat.mod_eq_of_lt hlt]
    · rename_i hge
      rw [ih (i-z.length) (by omega)]
      congr 1
      rw [← Nat.mod_eq_sub_mod (by omega)]
theorem ZJ (z:List AV) (n:Nat) (hz:0<z.length):((Array.range (n*z.length)).map fun i=>(z.map (im M)).toArray[i%(z.map (im M)).toArray.size]!)=((LW z n).map (im M)).toArray:=by
  apply Array.ext
  · simp [Gl]
  · intro i h1 h2
    simp only [Array.size_map,Array.size_range] at h1
    have hlt:i%z.length<z.length:=Nat.mod_lt _ hz
    have hg:=reps_get z n i h1
    have hlen:i<(LW z n).length:=by rw [Gl]; exact h1
    rw [fU hlen,fU hlt] at hg
    have hg:(LW z n)[i]=z[i%z.length]:=by simpa using hg
    simp only [Array.getElem_map,Array.getElem_range,List.getElem_toArray,List.getElem_map,hg,List.size_toArray,gu]
    rw [getElem!_pos _ _ (by simpa using hlt)]
    simp
theorem ach {t e:TypeId} {len:Nat} {parts:Array (Nat × Operand)} {z:AV} {s:Nat} {L:List (Nat × Nat × Opd)} (ho:o.op = .buildSlice t len parts)
    (hu:P.underlying t=some (.slice e)) (hs:szT P e=some s) (hz:zn P e=some z) (hzs:z.cells.length=s) (hlen:len*s≤16777216) (hl:Zf nt s parts.toList=some L)
    (ht:bX M D nt tm a) (hr:Rel M D H w) (h:opF (.buildSlice len (ant z.cells len) L) tm H=some (v,H')):bm P w M D H (execOp a.eval o) v H':=by
  obtain ⟨r,hr',h1⟩:=iW h
  clear h
  rw [Heap.fx] at h1
  cases h1
  rw [repsC_eq] at hr'
  obtain ⟨q1,q2⟩:=acj s hl
  obtain ⟨z1,z2,z3⟩:=xJ (M:=M) (D:=D) hz
  obtain ⟨f1,f2⟩:=aiK (M:=M) (D:=D) (fun i=>some (i*s,s)) parts.toList L _ r q1 q2 ht (fun u hu=>z1 u (ahg hu)) hr'
  refine bm.newCells hr (e:=e) (c:=(r.map (im M)).toArray) (slack:=0) f2 (fun i u hu=>by simp [hu]) (by simp) (fun h=>absurd rfl h) ?_ (by simp [okv])
  have f1':Instr.fill (fun i=>some (i*s,s)) ((LW z.cells len).map (im M)).toArray (parts.map fun p=>(p.1,a.eval p.2)).toList=some (r.map (im M)).toArray:=by rw [Array.toList_map]; exact f1
  simp only [execOp,ho,Instr.buildSlice,Sem.run_bind,run_underlying hu,Result.andThen_ok,nY hs,Sem.run_ite]
  rw [if_neg (by omega)]
  by_cases h0:len*s=0
  · rw [if_pos h0]
    have hrn:LW z.cells len = []:=by
      have:=Gl z.cells len
      rw [hzs,h0] at this
      exact List.length_eq_zero_iff.1 this
    rw [hrn] at f1'
    simp only [Sem.run_pure,Result.andThen_ok,h0]
    have:((Array.range 0).map fun i=>(#[]:Array Value)[i%(#[]:Array Value).size]!)=(([]:List AV).map (im M)).toArray:=by simp [Array.range_zero']
    rw [this,f1']
    simp only [Sem.run_bind,A8,Result.andThen_ok,Sem.run_pure,im,Mp.fB,Loc.at_mk]
    simp
  · rw [if_neg h0]
    simp only [zQ (M:=M) hz,Result.andThen_ok,Sem.run_pure,z3]
    have hpos:0<z.cells.length:=by rw [hzs]; exact Nat.pos_of_ne_zero (fun e=>h0 (by rw [e]; simp))
    have hm:=ZJ (M:=M) z.cells len hpos
    rw [hzs] at hm
    rw [hm,f1']
    simp only [Sem.run_bind,A8,Result.andThen_ok,Sem.run_pure,im,Mp.fB,Loc.at_mk]
    simp
theorem mk_sound {t e:TypeId} {x y:Operand} {X Y:Opd} {i:TypeInfo} {z:AV} (ho:o.op = .makeSlice t x y) (hu:P.underlying t=some (.slice e)) (hi:P.info? e=some i) (hz:zn P e=some z)
    (hzs:z.cells.length=i.size) (hs0:0<i.size) (hb:i.bytes≤65536) (hx:opd nt x=some X) (hy:opd nt y=some Y) (ht:bX M D nt tm a) (hr:Rel M D H w)
    (h:opF (.mk z.cells X Y) tm H=some (v,H')):bm P w M D H (execOp a.eval o) v H':=by
  obtain ⟨u,hu',h1⟩:=iW h
  clear h
  obtain ⟨q,hq',h⟩:=iW h1
  clear h1
  obtain ⟨e1,k1⟩:=mK hx ht hu'
  obtain ⟨e2,k2⟩:=mK hy ht hq'
  split at h
  · rename_i kk l kk' c
    obtain ⟨hl0,h1⟩:=yv h
    clear h
    obtain ⟨hc0,h⟩:=yv h1
    clear h1
    split at h
    · rename_i hbb
      simp only [fV] at hbb
      have hlc:=fR hbb.1
      have hcm:=fR hbb.2
      unfold Zj at hcm
      rw [Heap.fx] at h
      cases h
      obtain ⟨z1,z2,z3⟩:=xJ (M:=M) (D:=D) hz
      obtain ⟨l,rfl⟩:=gi hl0
      obtain ⟨c,rfl⟩:=gi hc0
      simp only [gd] at hlc hcm
      refine bm.newCells hr (e:=e) (c:=((LW z.cells c).map (im M)).toArray) (slack:=0) (fun u hu=>z1 u (ahg hu)) (fun i u hu=>by simp only [gd] at hu; simp [hu]) (by simp) (fun h=>absurd rfl h) ?_ (by simp [okv])
      have hwl:IntKind.i64.wrap (l:Int)=l:=by simp only [IntKind.wrap,IntKind.signed,IntKind.bits]; simp; omega
      have hwc:IntKind.i64.wrap (c:Int)=c:=by simp only [IntKind.wrap,IntKind.signed,IntKind.bits]; simp; omega
      have hprod:(i.bytes:Int)*(c:Int)≤2^48:=by
        have:i.bytes*c≤65536*1048576:=Nat.mul_le_mul hb hcm
        have h2:((i.bytes*c:Nat):Int)≤((65536*1048576:Nat):Int):=by exact_mod_cast this
        have h3:((i.bytes*c:Nat):Int)=(i.bytes:Int)*(c:Int):=by simp
        omega
      simp only [execOp,ho,Instr.makeSlice,Sem.run_bind,run_underlying hu,Result.andThen_ok,e1,e2,im,asInt,asIntOf,Sem.run_pure,UW hi,hwl,hwc]
      have hnot:(decide ((c:Int)<0)||decide ((i.bytes:Int)*(c:Int)>2^48)||decide ((l:Int)<0)||decide ((l:Int)>(c:Int)))=false:=by
        simp; omega
      simp only [hnot,fK,if_false,Sem.run_bind,run_askRoom,Result.andThen_ok,gd,sizeOf,UW hi,Sem.run_pure]
      rw [← hzs]
      have hpos:0<z.cells.length:=by omega
      have hm:=ZJ (M:=M) z.cells c hpos
      rw [Sem.run_ite]
      by_cases h0:c*z.cells.length=0
      · have hrn:LW z.cells c = []:=List.length_eq_zero_iff.1 (by rw [Gl,h0])
        rw [if_pos h0,h0,hrn]
        simp only [Sem.run_bind,Sem.run_pure,Result.andThen_ok]
        have:((Array.range 0).map fun i=>(#[]:Array Value)[i%(#[]:Array Value).size]!)=(([]:List AV).map (im M)).toArray:=by simp [Array.range_zero']
        rw [this]
        simp only [A8,Result.andThen_ok,Mp.fB,Loc.at_mk]
        exact wZ (by simp) rfl (by simp; omega)
      · rw [if_neg h0]
        simp only [Sem.run_bind,zQ (M:=M) hz,Result.andThen_ok,Sem.run_pure,z3]
        rw [hm]
        simp only [A8,Result.andThen_ok,Mp.fB,Loc.at_mk]
        exact wZ (by simp) rfl (by simp; omega)
    · cases h
  · cases h
theorem xM (hr:Rel M D H w) {b:Nat} (hb:D b) {l:List AV} {rw_:Bool} {g:Nat} (hg:H.get b=some (.cells l rw_ g)):en M D w (M b) l rw_ g:=by
  have:=hr.blk b hb; rwa [hg] at this
theorem aaV {L:Loc} {l r:List AV} {rw_:Bool} {g off n:Nat} (h:en M D w L l rw_ g) (hs:sub l off n=some r) :
    r.length=n∧(∀ u∈r,okv D u∧u.fD=true)∧∀ j v,(r.map (im M))[j]?=some v→w.cell? (Addr.add ⟨L.blk,L.base+off,none⟩ j)=some v:=by
  obtain ⟨q1,q2,q3⟩:=anN hs
  refine ⟨q1,fun u hu=>?_,fun j v hv=>?_⟩
  · obtain ⟨j,hj⟩:=List.getElem?_of_mem hu
    obtain ⟨_,b,c⟩:=h.at_ _ _ (q3 j u hj)
    exact ⟨c,b⟩
  · simp only [gy,fF] at hv
    obtain ⟨u,hu,rfl⟩:=hv
    obtain ⟨a,_,_⟩:=h.at_ _ _ (q3 j u hu)
    rw [aaz,Nat.add_assoc]
    exact a
theorem ao2 {t:TypeId} {s:Nat × Bool} {x:Operand} {X:Opd} (ho:o.op = .load t x) (hs:Wl P t=some s) (hx:opd nt x=some X) (ht:bX M D nt tm a) (hr:Rel M D H w)
    (h:opF (.load s.1 s.2 X) tm H=some (v,H')):bm P w M D H (execOp a.eval o) v H':=by
  obtain ⟨s1,s2,s3⟩:=ace hs
  obtain ⟨u,hu,h1⟩:=iW h
  clear h
  obtain ⟨e,k⟩:=mK hx ht hu
  split at h1
  · rename_i b off
    obtain ⟨l,hl,h2⟩:=iW h1
    clear h1
    obtain ⟨cs,hcs,h1⟩:=iW h2
    clear h2
    obtain ⟨r,hr',h⟩:=iW h1
    clear h1
    cases h
    simp only [okv] at k
    obtain ⟨rw_,g,hg⟩:=CS hl
    obtain ⟨q1,q2,q3⟩:=aaV (xM hr k hg) hcs
    obtain ⟨p1,p2⟩:=Uc (M:=M) hr'
    refine bm.same hr ?_ (p2 D q2)
    have hlen:(cs.map (im M)).length=s.1:=by simp [q1]
    have hload:=run_loadCells_list (P:=P) w ⟨(M b).blk,(M b).base+off,none⟩ (cs.map (im M)) q3
    rw [hlen] at hload
    simp only [execOp,ho,e,im,(xM hr k hg).at_at,Instr.loadAt,Instr.sureAddr,loadVar,Sem.run_bind,Sem.run_pure,Result.andThen_ok,agJ s2,Sem.run_ite,p1,oV]
    cases hb:s.2 with
    | true=>simp only [if_true,nY s1,Result.andThen_ok,hload]
    | false=>
      have h1:=s3 hb
      rw [h1] at q1
      match cs,q1 with
      | [c],_=>
        have:=q3 0 (im M c) (by simp)
        rw [Addr.add_zero'] at this
        simp [this]
  · cases h1
theorem aoo {t:TypeId} {n:Nat} {x y:Operand} {X Y:Opd} (ho:o.op = .store t x y) (hs:szT P t=some n) (hx:opd nt x=some X) (hy:opd nt y=some Y) (ht:bX M D nt tm a) (hr:Rel M D H w)
    (h:opF (.store n X Y) tm H=some (v,H')):bm P w M D H (execOp a.eval o) v H':=by
  obtain ⟨u,hu,h1⟩:=iW h
  clear h
  obtain ⟨e,k⟩:=mK hx ht hu
  split at h1
  · rename_i b off
    obtain ⟨z,hz,h2⟩:=iW h1
    clear h1
    obtain ⟨e2,k2⟩:=mK hy ht hz
    obtain ⟨l,g,hg,_,h1⟩:=Ny h2
    clear h2
    split at h1
    · rename_i hb
      simp only [fV,fN,rm] at hb
      obtain ⟨⟨hb1,hb2⟩,hb3⟩:=hb
      have hb3:=fR hb3
      rw [vC,Heap.fu] at h1
      cases h1
      simp only [okv] at k
      obtain ⟨c1,c2⟩:=Zr (M:=M) (fun l e=>by rw [e] at hb1; cases hb1) k2
      have hrow:=xM hr k hg
      have hbd:off+z.cells.length≤l.length:=by omega
      obtain ⟨r1,r2⟩:=hr.write k hg z.cells off hbd c2
      refine ⟨M,D,_,.skip,?_,.inr ⟨rfl,rh M⟩,r1,r2,ub D⟩
      have hst:=run_storeCells_cells (P:=P) (M b).blk ((M b).base+off) (z.cells.map (im M)) 0 w
        (fun j hj=>by
          have:=(hrow.own rfl (off+j) (by simp at hj; omega)).1
          rwa [show (M b).base+off+0+j=(M b).base+(off+j) by omega])
        (fun j hj=>by
          have:=(hrow.own rfl (off+j) (by simp at hj; omega)).2
          rwa [show (M b).base+off+0+j=(M b).base+(off+j) by omega])
        (fun u hu=>by
          obtain ⟨c,hc,rfl⟩:=fJ.1 hu
          exact abp (c2 c hc).2)
      simp only [execOp,ho,e,e2,Instr.storeAt,im,hrow.at_at,Instr.sureAddr,storeVar,Sem.run_bind,Sem.run_pure,Result.andThen_ok,nY hs,c1,Sem.run_ite]
      rw [if_neg (by simp [hb2])]
      simp only [hst,Result.andThen_ok,Nat.add_zero]
    · cases h1
  · cases h1
theorem adW {t:TypeId} {r:Option Operand} {k e:TypeId} (ho:o.op = .makeMap t r) (hu:P.underlying t=some (.map k e)) (hrr:r=none∨∃ q n,r=some (.const (.int q n))) (hr:Rel M D H w)
    (h:opF .mkmap tm H=some (v,H')):bm P w M D H (execOp a.eval o) v H':=by
  have h':H.newK (.mp []) (fun b H'=>some (AV.map b,H'))=some (v,H'):=h
  rw [Heap.fx] at h'
  cases h'
  have hx:eG (M.put H.nx ⟨w.heap.size,0,0,none⟩) (fun b=>D b∨b=H.nx) (w.alloc (.map #[] 0)) ⟨w.heap.size,0,0,none⟩ (some (.mp [])):=by
    exact ⟨⟨#[],0,Ue _ _,trivial,by simp [dR]⟩⟩
  obtain ⟨h1,h2⟩:=hr.alloc (.map #[] 0) (.mp []) ⟨w.heap.size,0,0,none⟩ rfl hx
  refine ⟨_,_,_,_,?_,.inl rfl,h1,h2,by simp [okv]⟩
  rcases hrr with rfl | ⟨q,n,rfl⟩
  · simp [execOp,ho,Instr.makeMap,im,Mp.fB,Loc.at_mk]
  · simp [execOp,ho,Instr.makeMap,im,Mp.fB,Act.eval,run_underlying hu,asInt,asIntOf]
end
end Go.Ai
