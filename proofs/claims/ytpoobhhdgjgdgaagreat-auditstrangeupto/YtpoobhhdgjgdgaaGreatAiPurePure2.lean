/- Operations that leave memory alone. -/
import Derived.Test.YtpoobhhdgjgdgaaGreatAiCompOps
import Derived.ChangeKeysEq
set_option linter.all false
namespace Go.Ai
section
variable {P:Program} {nt:Nat} {M:Mp} {D:Nat→Prop} {tm:Tr AV} {a:Act} {w:World} {H H':Heap} {v:AV} {o:Oper}
theorem aky {x:Operand} {X:Opd} (ho:o.op = .move x∨o.op = .assign x) (hx:opd nt x=some X) (ht:bX M D nt tm a) (hr:Rel M D H w)
    (h:opF (.mov X) tm H=some (v,H')):bm P w M D H (execOp a.eval o) v H':=by
  obtain ⟨u,hu,h⟩:=iW h
  cases h
  obtain ⟨e,k⟩:=mK hx ht hu
  refine bm.same hr ?_ k
  rcases ho with ho | ho<;>simp [execOp,ho,e]
theorem apd {c x y:Operand} {C X Y:Opd} (ho:o.op = .pick c x y) (hc:opd nt c=some C) (hx:opd nt x=some X) (hy:opd nt y=some Y) (ht:bX M D nt tm a) (hr:Rel M D H w)
    (h:opF (.pick C X Y) tm H=some (v,H')):bm P w M D H (execOp a.eval o) v H':=by
  obtain ⟨u,hu,h⟩:=iW h
  obtain ⟨e,k⟩:=mK hc ht hu
  split at h
  · obtain ⟨z,hz,h⟩:=iW h
    cases h
    obtain ⟨e',k'⟩:=mK hx ht hz
    exact bm.same hr (by simp [execOp,ho,e,e',im,asBool]) k'
  · obtain ⟨z,hz,h⟩:=iW h
    cases h
    obtain ⟨e',k'⟩:=mK hy ht hz
    exact bm.same hr (by simp [execOp,ho,e,e',im,asBool]) k'
  · cases h
theorem aq1 {t:TypeId} {x:Operand} {X:Opd} (ho:o.op = .unOp .not t x) (hx:opd nt x=some X) (ht:bX M D nt tm a) (hr:Rel M D H w)
    (h:opF (.not X) tm H=some (v,H')):bm P w M D H (execOp a.eval o) v H':=by
  obtain ⟨u,hu,h⟩:=iW h
  obtain ⟨e,k⟩:=mK hx ht hu
  split at h
  · cases h; exact bm.same hr (by simp [execOp,ho,e,im,Op.unary]) (by simp [okv])
  · cases h; exact bm.same hr (by simp [execOp,ho,e,im,Op.unary]) (by simp [okv])
  · cases h
theorem apH {s d:TypeId} {ds:TypeDesc} {k:IntKind} {x:Operand} {X:Opd} (ho:o.op = .convert s d x) (hs:P.underlying s=some ds) (hd:P.underlying d=some (.int k))
    (hx:opd nt x=some X) (ht:bX M D nt tm a) (hr:Rel M D H w)
    (h:opF (.conv k X) tm H=some (v,H')):bm P w M D H (execOp a.eval o) v H':=by
  obtain ⟨u,hu,h⟩:=iW h
  obtain ⟨e,_⟩:=mK hx ht hu
  split at h
  · rename_i k' n
    rw [uA] at h
    cases h
    refine bm.same hr ?_ (by simp [okv])
    simp [execOp,ho,e,im,convert,run_underlying hs,run_underlying hd,Conv.intToInt]
  · cases h
theorem amM {x:Operand} {X:Opd} (ho:o.op = .nilCheck x) (hx:opd nt x=some X) (ht:bX M D nt tm a) (hr:Rel M D H w)
    (h:opF (.nilchk X) tm H=some (v,H')):bm P w M D H (execOp a.eval o) v H':=by
  obtain ⟨u,hu,h⟩:=iW h
  obtain ⟨e,k⟩:=mK hx ht hu
  split at h
  · cases h; exact bm.same hr (by simp [execOp,ho,e,im]) k
  · cases h; exact bm.same hr (by simp [execOp,ho,e,im]) k
  · cases h
theorem aaz (b o n:Nat):Addr.add ⟨b,o,none⟩ n=⟨b,o+n,none⟩:=Addr.add_lit b o n
theorem fa_sound {t:TypeId} {x:Operand} {X:Opd} {i s:Nat} {fs:Array Field} {f:Field} (ho:o.op = .fieldAddr t x i) (hu:P.underlying t=some (.struct fs)) (hf:fs[i]?=some f)
    (hs:szT P f.type=some s) (hs0:0<s) (hx:opd nt x=some X) (ht:bX M D nt tm a) (hr:Rel M D H w)
    (h:opF (.fa f.offset X) tm H=some (v,H')):bm P w M D H (execOp a.eval o) v H':=by
  obtain ⟨u,hu',h⟩:=iW h
  obtain ⟨e,k⟩:=mK hx ht hu'
  split at h
  · rename_i b off
    cases h
    refine bm.same hr ?_ (by simpa [okv] using k)
    simp only [execOp,ho,e,im,Instr.fieldAt,Sem.run_bind,run_underlying hu,Result.andThen_ok,hf,Instr.sureAddr,fieldPlace,nY hs,Sem.run_pure,Sem.run_ite]
    rw [if_neg (by omega)]
    simp [Loc.at_add]
  · cases h
theorem aqx {t e:TypeId} {x i:Operand} {X I:Opd} {s:Nat} (ho:o.op = .indexAddr t x i) (hu:P.underlying t=some (.slice e)) (hs:szT P e=some s)
    (hx:opd nt x=some X) (hi:opd nt i=some I) (ht:bX M D nt tm a) (hr:Rel M D H w)
    (h:opF (.iaS s X I) tm H=some (v,H')):bm P w M D H (execOp a.eval o) v H':=by
  obtain ⟨u,hu',h1⟩:=iW h
  clear h
  obtain ⟨z,hz',h⟩:=iW h1
  clear h1
  obtain ⟨e1,k⟩:=mK hx ht hu'
  obtain ⟨e2,k2⟩:=mK hi ht hz'
  split at h
  · rename_i b off len ext opn kk n
    obtain ⟨h0,h⟩:=yv h
    obtain ⟨hb,h⟩:=uy h
    rw [blt_eq] at hb
    have hb:n.toNat<len:=by simpa using hb
    cases h
    refine bm.same hr ?_ (by simpa [okv] using k)
    simp only [execOp,ho,e1,e2,im,Instr.indexAt,asIntOf,Sem.run_bind,run_underlying hu,Result.andThen_ok,Sem.run_pure,nY hs,Sem.run_ite]
    rw [if_pos ⟨h0,by omega⟩]
    simp [Loc.at_add]
  · cases h
theorem aqJ {t e:TypeId} {nn:Nat} {x i:Operand} {X I:Opd} {s:Nat} (ho:o.op = .indexAddr t x i) (hu:P.underlying t=some (.array nn e)) (hs:szT P e=some s)
    (hx:opd nt x=some X) (hi:opd nt i=some I) (ht:bX M D nt tm a) (hr:Rel M D H w)
    (h:opF (.iaA s nn X I) tm H=some (v,H')):bm P w M D H (execOp a.eval o) v H':=by
  obtain ⟨u,hu',h1⟩:=iW h
  clear h
  obtain ⟨z,hz',h⟩:=iW h1
  clear h1
  obtain ⟨e1,k⟩:=mK hx ht hu'
  obtain ⟨e2,k2⟩:=mK hi ht hz'
  split at h
  · rename_i b off kk n
    obtain ⟨h0,h⟩:=yv h
    obtain ⟨hb,h⟩:=uy h
    rw [blt_eq] at hb
    have hb:n.toNat<nn:=by simpa using hb
    cases h
    refine bm.same hr ?_ (by simpa [okv] using k)
    simp only [execOp,ho,e1,e2,im,Instr.indexAt,Instr.sureAddr,asIntOf,Sem.run_bind,run_underlying hu,Result.andThen_ok,Sem.run_pure,nY hs,Sem.run_ite]
    rw [if_pos ⟨h0,by omega⟩]
    simp [Loc.at_add]
  · cases h
theorem aq2 {x:Operand} {X:Opd} {i:Nat} (ho:o.op = .extract x i) (hx:opd nt x=some X) (ht:bX M D nt tm a) (hr:Rel M D H w)
    (h:opF (.ext i X) tm H=some (v,H')):bm P w M D H (execOp a.eval o) v H':=by
  obtain ⟨u,hu,h⟩:=iW h
  obtain ⟨e,k⟩:=mK hx ht hu
  split at h
  · rename_i vs
    obtain ⟨r,hr',h⟩:=iW h
    cases h
    rw [nth_eq] at hr'
    simp only [okv] at k
    refine bm.same hr ?_ ((nL D vs).1 k _ (fS hr'))
    simp [execOp,ho,e,im,Instr.extract,mY,hr']
  · cases h
theorem alP {f:Nat} {first cap:Array Operand} {A C:List Opd} (ho:o.op = .makeFunc (.func f) first cap) (ha:afH nt first.toList=some A) (hc:afH nt cap.toList=some C)
    (ht:bX M D nt tm a) (hr:Rel M D H w) (h:opF (.mkfunc f A C) tm H=some (v,H')):bm P w M D H (execOp a.eval o) v H':=by
  obtain ⟨as,has,h⟩:=iW h
  obtain ⟨cs,hcs,h⟩:=iW h
  cases h
  obtain ⟨e1,k1⟩:=agQ ha ht has
  obtain ⟨e2,k2⟩:=agQ hc ht hcs
  refine bm.same hr ?_ (by simp [okv,k1,k2])
  have f1:first.map a.eval=(pQ M as).toArray:=by rw [← e1, ← Array.toList_map,Array.toArray_toList]
  have f2:cap.map a.eval=(pQ M cs).toArray:=by rw [← e2, ← Array.toList_map,Array.toArray_toList]
  simp [execOp,ho,Instr.makeFunc,im,f1,f2]
theorem int_run {k:IntKind} {op:BinOp} {x y:Int} {t:TypeId} (hop:op≠.shl∧op≠.shr) (h:OU op k x y none some=some v) :
    (binOp op t (.int k x) (.int k y)).run P w = .ok (im M v) w∧okv D v:=by
  have hz:∀ c:AV,Bool.casesOn (motive:=fun _=>Option AV) (isZ y) (some c) none=some v→y≠0∧c=v:=fun c hc=>by
    obtain ⟨h1,h2⟩:=ZE hc
    rw [al5] at h1
    exact ⟨by simpa using h1,by simpa using h2⟩
  cases op with
  | shl=>exact (hop.1 rfl).elim
  | shr=>exact (hop.2 rfl).elim
  | add=>rw [OU] at h; simp only [uA,agL] at h; cases h; simp [binOp,Op.intArith,im,okv]
  | sub=>rw [OU] at h; simp only [uA,agD] at h; cases h; simp [binOp,Op.intArith,im,okv]
  | mul=>rw [OU] at h; simp only [uA,agE] at h; cases h; simp [binOp,Op.intArith,im,okv]
  | quo=>
    rw [OU] at h; simp only [uA,aqo] at h
    obtain ⟨h0,rfl⟩:=hz _ h
    simp [binOp,Op.intDiv,h0,im,okv]
  | rem=>
    rw [OU] at h; simp only [apQ] at h
    obtain ⟨h0,rfl⟩:=hz _ h
    simp [binOp,Op.intDiv,h0,im,okv]
  | and=>cases h; simp [binOp,Op.intBits,im,okv]
  | or=>cases h; simp [binOp,Op.intBits,im,okv]
  | xor=>cases h; simp [binOp,Op.intBits,im,okv]
  | andNot=>cases h; simp [binOp,Op.intBits,im,okv]
  | eql=>rw [OU] at h; simp only [JQ] at h; cases h; simp [binOp,Op.intCmp,im,okv]
  | neq=>
    rw [OU] at h; simp only [JQ] at h
    cases hb:(x==y) with
    | true=>rw [hb] at h; cases h; have:x=y:=by simpa using hb
            simp [binOp,Op.intCmp,im,okv,this]
    | false=>rw [hb] at h; cases h; have:x≠y:=by simpa using hb
             simp [binOp,Op.intCmp,im,okv,this]
  | lss=>rw [OU] at h; simp only [kg] at h; cases h; simp [binOp,Op.intCmp,im,okv]
  | leq=>
    rw [OU] at h; simp only [kg] at h
    cases hb:decide (y<x) with
    | true=>rw [hb] at h; cases h; have:=of_decide_eq_true hb; simp [binOp,Op.intCmp,im,okv,this]
    | false=>rw [hb] at h; cases h; have:=of_decide_eq_false hb; simp [binOp,Op.intCmp,im,okv]; omega
  | gtr=>rw [OU] at h; simp only [kg] at h; cases h; simp [binOp,Op.intCmp,im,okv]
  | geq=>
    rw [OU] at h; simp only [kg] at h
    cases hb:decide (x<y) with
    | true=>rw [hb] at h; cases h; have:=of_decide_eq_true hb; simp [binOp,Op.intCmp,im,okv,this]
    | false=>rw [hb] at h; cases h; have:=of_decide_eq_false hb; simp [binOp,Op.intCmp,im,okv]; omega
theorem bin_run {op:BinOp} {x y:AV} {t:TypeId} (h:binF op x y=some v) :
    (binOp op t (im M x) (im M y)).run P w = .ok (im M v) w∧okv D v:=by
  unfold binF at h
  split at h
  · rename_i k n k' m
    split at h
    · obtain ⟨h0,h⟩:=yv h
      rw [uA] at h; cases h
      simp [im,binOp,Op.shift,okv,shlF]
      omega
    · obtain ⟨h0,h⟩:=yv h
      cases h
      simp [im,binOp,Op.shift,okv,alQ]
      omega
    · rename_i op' h1 h2
      split at h
      · rename_i hk; subst hk
        exact int_run ⟨fun e=>h1 e,fun e=>h2 e⟩ h
      · cases h
  · rename_i s u
    unfold strOp at h
    split at h
    · obtain ⟨hb,h⟩:=uy h
      have hb:=fR hb
      rw [rm,rm] at hb
      have hb:s.length+u.length≤1099511627776:=hb
      cases h
      simp only [im,binOp,Op.stringOp,okv,and_true]
      rw [if_neg (by simp [ByteArray.size]; omega),th]
      simp only [Sem.run_pure,id]
      congr 2
    · cases h
      simp [im,binOp,Op.stringOp,okv,PT]
    · cases h
      simp [im,binOp,Op.stringOp,okv,PT]
    · cases h
  · cases h
theorem akU {op:BinOp} {t u:TypeId} {x y:Operand} {X Y:Opd} (ho:o.op = .binOp op t x y u) (hx:opd nt x=some X) (hy:opd nt y=some Y)
    (ht:bX M D nt tm a) (hr:Rel M D H w) (h:opF (.bin op X Y) tm H=some (v,H')):bm P w M D H (execOp a.eval o) v H':=by
  obtain ⟨u,hu,h⟩:=iW h
  obtain ⟨z,hz,h⟩:=iW h
  obtain ⟨r,hr',h⟩:=iW h
  cases h
  obtain ⟨e1,k1⟩:=mK hx ht hu
  obtain ⟨e2,k2⟩:=mK hy ht hz
  obtain ⟨h1,h2⟩:=bin_run (P:=P) (w:=w) (M:=M) (D:=D) (t:=t) hr'
  refine bm.same hr ?_ h2
  have hg:eqGuard op t x y (im M u) (im M z)=pure ():=by
    unfold binF at hr'
    split at hr'
    · simp only [im]; cases op<;>rfl
    · simp only [im]; cases op<;>rfl
    · cases hr'
  simp [execOp,ho,e1,e2,hg,h1]
end
end Go.Ai
/- '==' and '!=' of what may be nil, of bools, of structs and arrays of plain cells. -/
namespace Go.Ai
section
variable {P:Program} {nt:Nat} {M:Mp} {D:Nat→Prop} {tm:Tr AV} {a:Act} {w:World} {H H':Heap} {v:AV} {o:Oper}
def oV (M:Mp) (g:Bool) (l:List AV):Value:=if g then .agg (l.map (im M)).toArray else im M (l.headD .undef)
theorem Uc {g:Bool} {l:List AV} {v:AV} (h:HE g l=some v):im M v=oV M g l∧(∀ D:Nat→Prop,(∀ u∈l,okv D u∧u.fD=true)→okv D v):=by
  unfold HE at h
  split at h
  · cases h
    refine ⟨by simp [im,oV,mY],fun D hl=>?_⟩
    simp only [okv]
    exact ⟨(nL D _).2 fun u hu=>(hl u hu).1,fun u hu=>(hl u hu).2⟩
  · cases h
    exact ⟨by simp [oV],fun D hl=>(hl _ (by simp)).1⟩
  · cases h
theorem T2 {t:TypeId} {g:Bool} {n:Nat} (hg:HS P t=some g) (hn:szT P t=some n) (h1:g=false→n=1) (L:List AV) (off:Nat) (hoff:off+n≤L.length∨n=0) :
    (part t (L.map (im M)).toArray off).run P w = .ok (oV M g ((L.drop off).take n)) w:=by
  simp only [part,Sem.run_bind,agJ hg,Result.andThen_ok,Sem.run_ite]
  cases g with
  | true=>
    simp only [if_true,nY hn,Result.andThen_ok,Sem.run_pure,oV]
    congr 2
    apply Array.ext'
    simp
  | false=>
    have:=h1 rfl
    subst this
    simp only [fK,if_false,oV]
    have hlt:off<L.length:=by omega
    have e1:(L.map (im M)).toArray[off]?=some (im M L[off]):=by simp [hlt]
    rw [e1,gc hlt]
    rfl
theorem si {l l':List AV} {r:Bool} (h:mR [] l l'=some r):l = []∧l' = []∧r=true:=by
  cases l with
  | nil=>cases l' with
    | nil=>have:some true=some r:=h
           exact ⟨rfl,rfl,by simpa using this.symm⟩
    | cons _ _=>cases h
  | cons _ _=>cases h
theorem sF {c:CK} {ks:List CK} {l l':List AV} {r:Bool} (h:mR (c::ks) l l'=some r) :
    ∃ x y s t r1 r2,l=x::s∧l'=y::t∧ww c x y=some r1∧mR ks s t=some r2∧r=(r1&&r2):=by
  cases l with
  | nil=>cases h
  | cons x s=>cases l' with
    | nil=>cases h
    | cons y t=>
      have h':Option.casesOn (motive:=fun _=>Option Bool) (ww c x y) none (fun r=>Bool.casesOn (motive:=fun _=>Option Bool) r (Option.casesOn (motive:=fun _=>Option Bool) (mR ks s t) none (fun _=>some false)) (mR ks s t))=some r:=h
      obtain ⟨r1,h1,h'⟩:=iW h'
      cases r1 with
      | false=>
        obtain ⟨r2,h2,h'⟩:=iW h'
        cases h'
        exact ⟨x,y,s,t,false,r2,rfl,rfl,h1,h2,by simp⟩
      | true=>exact ⟨x,y,s,t,true,r,rfl,rfl,h1,h',by simp⟩
theorem IW:∀ {ks:List CK} {l l':List AV} {r:Bool},mR ks l l'=some r→l.length=ks.length∧l'.length=ks.length
  | [],_,_,_,h=>by obtain ⟨rfl,rfl,_⟩:=si h; simp
  | _::_,_,_,_,h=>by
    obtain ⟨_,_,_,_,_,_,rfl,rfl,_,h2,_⟩:=sF h
    obtain ⟨a,b⟩:=IW h2
    simp [a,b]
theorem IC:∀ {ks ks':List CK} {l l':List AV} {r:Bool},mR (ks++ks') l l'=some r→
    ∃ r1 r2,mR ks (l.take ks.length) (l'.take ks.length)=some r1∧mR ks' (l.drop ks.length) (l'.drop ks.length)=some r2∧r=(r1&&r2)
  | [],ks',l,l',r,h=>⟨true,r,rfl,by simpa using h,by simp⟩
  | c::ks,ks',l,l',r,h=>by
    obtain ⟨x,y,s,t,r1,r2,rfl,rfl,h1,h2,rfl⟩:=sF h
    obtain ⟨s1,s2,k1,k2,rfl⟩:=IC h2
    refine ⟨r1&&s1,s2,?_,by simpa using k2,by simp [Bool.and_assoc]⟩
    show Option.casesOn (motive:=fun _=>Option Bool) (ww c x y) none (fun r=>Bool.casesOn (motive:=fun _=>Option Bool) r (Option.casesOn (motive:=fun _=>Option Bool) (mR ks (s.take ks.length) (t.take ks.length)) none (fun _=>some false)) (mR ks (s.take ks.length) (t.take ks.length)))=_
    rw [h1,k1]
    cases r1<;>simp
theorem QE {x y:AV} {r:Bool} (h:ww .int x y=some r):∃ k a b,x = .int k a∧y = .int k b∧r=(a==b):=by
  unfold ww at h
  split at h
  · split at h
    · rename_i hk; subst hk
      rw [JQ] at h
      exact ⟨_,_,_,rfl,rfl,by simpa using h.symm⟩
    · cases h
  · rename_i e; cases e
  · rename_i e; cases e
  · cases h
theorem K7 {x y:AV} {r:Bool} (h:ww .bool x y=some r):∃ a b,x = .bool a∧y = .bool b∧r=(a==b):=by
  unfold ww at h
  split at h
  · rename_i e; cases e
  · exact ⟨_,_,rfl,rfl,by simpa using h.symm⟩
  · rename_i e; cases e
  · cases h
theorem Qr {x y:AV} {r:Bool} (h:ww .str x y=some r):∃ a b,x = .str a∧y = .str b∧r=(a==b):=by
  unfold ww at h
  split at h
  · rename_i e; cases e
  · rename_i e; cases e
  · rw [PT] at h
    exact ⟨_,_,rfl,rfl,by simpa using h.symm⟩
  · cases h
theorem ad9:∀ (d:Nat) (t:TypeId) (ks:List CK),Cd P d t=some ks→∃ g,HS P t=some g∧szT P t=some ks.length∧(g=false→ks.length=1)
  | 0,_,_,h=>by simp [Cd] at h
  | d+1,t,ks,h=>by
    unfold Cd at h
    split at h
    · rename_i hu
      split at h
      · rename_i h1; cases h; exact ⟨false,by simp [HS,hu],by simpa using h1,fun _=>rfl⟩
      · cases h
    · rename_i hu
      split at h
      · rename_i h1; cases h; exact ⟨false,by simp [HS,hu],by simpa using h1,fun _=>rfl⟩
      · cases h
    · rename_i hu
      split at h
      · rename_i h1; cases h; exact ⟨false,by simp [HS,hu],by simpa using h1,fun _=>rfl⟩
      · cases h
    · rename_i fs hu
      split at h
      · cases h
      · obtain ⟨ks',_,h⟩:=fT.1 h
        split at h
        · rename_i h1; cases h
          exact ⟨true,by simp [HS,hu],by simpa using h1,fun e=>by cases e⟩
        · cases h
    · rename_i n e hu
      obtain ⟨ks',_,h⟩:=fT.1 h
      split at h
      · rename_i h1
        simp only [fV,fN] at h1
        cases h
        exact ⟨true,by simp [HS,hu],by rw [h1.2]; simp,fun e=>by cases e⟩
      · cases h
    · cases h
theorem apr {L:List AV} {n:Nat} (h:L.length=n) (h1:n=1):∃ x,L = [x]:=by
  subst h1
  match L,h with
  | [x],_=>exact ⟨x,rfl⟩
theorem anT:∀ (d:Nat) (t:TypeId) (ks:List CK) (g:Bool),Cd P d t=some ks→HS P t=some g→
    ∀ (l l':List AV) (r:Bool) (k:Nat),mR ks l l'=some r→d≤k→(Op.equalIn k t (oV M g l) (oV M g l')).run P w = .ok r w:=by
  intro d
  induction d with
  | zero=>intro t ks g h; simp [Cd] at h
  | succ d ih=>
    intro t ks g h hg l l' r k he hk
    obtain ⟨k,rfl⟩:∃ m,k=m+1:=⟨k-1,by omega⟩
    have fields:∀ (fs:List Field) (off:Nat) (ks:List CK),abf P (Cd P d) fs off=some ks→∀ (L L':List AV) (r:Bool),mR ks (L.drop off) (L'.drop off)=some r→
        (Op.eqFields k (L.map (im M)).toArray (L'.map (im M)).toArray fs).run P w = .ok r w:=by
      intro fs
      induction fs with
      | nil=>
        intro off ks h L L' r he
        simp only [abf,Option.some.injEq] at h
        subst h
        obtain ⟨_,_,rfl⟩:=si he
        simp [Op.eqFields]
      | cons f fs ihf=>
        intro off ks h L L' r he
        simp only [abf] at h
        split at h
        · rename_i hf
          simp only [fV,bne_iff_ne,fN] at hf
          obtain ⟨ks1,h1,h⟩:=fT.1 h
          split at h
          · rename_i hs
            have hs:szT P f.type=some ks1.length:=by simpa using hs
            obtain ⟨ks2,h2,rfl⟩:=fF.1 h
            obtain ⟨r1,r2,e1,e2,rfl⟩:=IC he
            obtain ⟨g',hg',hn',hone⟩:=ad9 d f.type ks1 h1
            obtain ⟨q1,q2⟩:=IW he
            simp only [gt,List.length_drop] at q1 q2
            have p1:=T2 (M:=M) (w:=w) hg' hn' hone L off (by omega)
            have p2:=T2 (M:=M) (w:=w) hg' hn' hone L' off (by omega)
            have p3:=ih f.type ks1 g' h1 hg' _ _ r1 k e1 (by omega)
            simp only [Op.eqFields,ne_eq,hf.1,not_false_eq_true,if_true,Sem.run_bind,hf.2,p1,p2,p3,Result.andThen_ok]
            rw [List.drop_drop,List.drop_drop] at e2
            have p4:=ihf _ _ h2 L L' r2 e2
            cases r1
            · simp
            · simpa using p4
          · cases h
        · cases h
    have items:∀ (e:TypeId) (ks:List CK),Cd P d e=some ks→szT P e=some ks.length→∀ (n i:Nat) (L L':List AV) (r:Bool),
        mR (List.replicate n ks).flatten (L.drop (i*ks.length)) (L'.drop (i*ks.length))=some r→
        (Op.eqItems k e ks.length (L.map (im M)).toArray (L'.map (im M)).toArray (List.range' i n)).run P w = .ok r w:=by
      intro e ks h1 hs n
      induction n with
      | zero=>
        intro i L L' r he
        simp only [List.replicate_zero,List.flatten_nil] at he
        obtain ⟨_,_,rfl⟩:=si he
        simp [Op.eqItems]
      | succ n ihn=>
        intro i L L' r he
        simp only [List.replicate_succ,List.flatten_cons] at he
        obtain ⟨r1,r2,e1,e2,rfl⟩:=IC he
        obtain ⟨g',hg',hn',hone⟩:=ad9 d e ks h1
        obtain ⟨q1,q2⟩:=IW he
        simp only [gt,List.length_drop] at q1 q2
        have p1:=T2 (M:=M) (w:=w) hg' hn' hone L (i*ks.length) (by omega)
        have p2:=T2 (M:=M) (w:=w) hg' hn' hone L' (i*ks.length) (by omega)
        have p3:=ih e ks g' h1 hg' _ _ r1 k e1 (by omega)
        simp only [List.range'_succ,Op.eqItems,Sem.run_bind,p1,p2,p3,Result.andThen_ok]
        rw [List.drop_drop,List.drop_drop,show i*ks.length+ks.length=(i+1)*ks.length by rw [Nat.succ_mul]] at e2
        have p4:=ihn (i+1) L L' r2 e2
        cases r1
        · simp
        · simpa using p4
    unfold Cd at h
    split at h
    · rename_i q hu
      have hgf:g=false:=by simpa [HS,hu] using hg.symm
      subst hgf
      split at h
      · cases h
        obtain ⟨x,y,s,t',r1,r2,rfl,rfl,hc,h2,rfl⟩:=sF he
        obtain ⟨rfl,rfl,rfl⟩:=si h2
        obtain ⟨kk,p,s,rfl,rfl,rfl⟩:=QE hc
        simp [oV,im,Op.equalIn,run_underlying hu]
      · cases h
    · rename_i hu
      have hgf:g=false:=by simpa [HS,hu] using hg.symm
      subst hgf
      split at h
      · cases h
        obtain ⟨x,y,s,t',r1,r2,rfl,rfl,hc,h2,rfl⟩:=sF he
        obtain ⟨rfl,rfl,rfl⟩:=si h2
        obtain ⟨p,s,rfl,rfl,rfl⟩:=Qr hc
        simp [oV,im,Op.equalIn,run_underlying hu,beq_toListBytes]
      · cases h
    · rename_i hu
      have hgf:g=false:=by simpa [HS,hu] using hg.symm
      subst hgf
      split at h
      · cases h
        obtain ⟨x,y,s,t',r1,r2,rfl,rfl,hc,h2,rfl⟩:=sF he
        obtain ⟨rfl,rfl,rfl⟩:=si h2
        obtain ⟨p,s,rfl,rfl,rfl⟩:=K7 hc
        simp [oV,im,Op.equalIn,run_underlying hu]
      · cases h
    · rename_i fs hu
      have hgf:g=true:=by simpa [HS,hu] using hg.symm
      subst hgf
      split at h
      · cases h
      · rename_i hst
        obtain ⟨ks',h1,h⟩:=fT.1 h
        split at h
        · cases h
          have hff:P.fieldsOf t=fs:=by simp [Program.fieldsOf,hu]
          have hu':P.underlying t=some (.struct (P.fieldsOf t)):=by rw [hff]; exact hu
          simp only [oV,if_true]
          rw [run_equalIn_struct w k t _ _ hu' (by simpa using hst),hff]
          exact fields fs.toList 0 _ h1 l l' r (by simpa using he)
        · cases h
    · rename_i n e hu
      have hgf:g=true:=by simpa [HS,hu] using hg.symm
      subst hgf
      obtain ⟨ks',h1,h⟩:=fT.1 h
      split at h
      · rename_i hs
        simp only [fV,fN] at hs
        cases h
        obtain ⟨i,hi,hi2⟩:=fF.1 hs.1
        have hcells:P.cellsOf e=ks'.length:=by simp [Program.cellsOf,hi,hi2]
        simp only [oV,if_true]
        rw [run_equalIn_array w k _ _ hu hi,hcells,List.range_eq_range']
        exact items e ks' h1 hs.1 n 0 l l' r (by simpa using he)
      · cases h
    · cases h
end
end Go.Ai
/- More operations that leave memory alone: comparisons, structs and arrays built and taken apart, slices of slices. -/
namespace Go.Ai
section
variable {P:Program} {nt:Nat} {M:Mp} {D:Nat→Prop} {tm:Tr AV} {a:Act} {w:World} {H H':Heap} {v:AV} {o:Oper}
def NilT (P:Program) (t:TypeId):NilK→Prop
  | .ptr=>∃ e,P.underlying t=some (.pointer e)
  | .sl=>∃ e,P.underlying t=some (.slice e)
  | .mp=>∃ k e,P.underlying t=some (.map k e)
  | .fn=>∃ p r b,P.underlying t=some (.func p r b)
def nilV (M:Mp) (k:NilK) (b:Bool) (v:AV):Prop:=
  match k with
  | .ptr=>∃ x,im M v = .pointer x∧x.isNone=b
  | .sl=>∃ x n c,im M v = .slice x n c∧x.isNone=b
  | .mp=>∃ x,im M v = .map x∧x.isNone=b
  | .fn=>(im M v = .nilFunc∧b=true)∨(∃ f x c,im M v = .func f x c∧b=false)
theorem xm {k:NilK} {v:AV} {b:Bool} (h:isNil k v=some b):nilV M k b v:=by
  cases k<;>cases v<;>first | (cases h; done) | (cases h; simp [nilV,im])
theorem nil_run1 {t:TypeId} {k:NilK} {x y:AV} {b:Bool} (d:Nat) (ht:NilT P t k) (hx:nilV M k true x) (hy:nilV M k b y):(Op.equalIn (d+1) t (im M x) (im M y)).run P w = .ok b w:=by
  cases k with
  | ptr=>
    obtain ⟨e,hu⟩:=ht
    obtain ⟨p,e1,hp⟩:=hx
    obtain ⟨q,e2,rfl⟩:=hy
    rw [e1,e2]
    cases p<;>simp at hp
    simp [Op.equalIn,run_underlying hu]
  | sl=>
    obtain ⟨e,hu⟩:=ht
    obtain ⟨p,n,c,e1,hp⟩:=hx
    obtain ⟨q,n',c',e2,rfl⟩:=hy
    rw [e1,e2]
    cases p<;>simp at hp
    simp [Op.equalIn,run_underlying hu]
  | mp=>
    obtain ⟨k,e,hu⟩:=ht
    obtain ⟨p,e1,hp⟩:=hx
    obtain ⟨q,e2,rfl⟩:=hy
    rw [e1,e2]
    cases p<;>simp at hp
    simp [Op.equalIn,run_underlying hu]
  | fn=>
    obtain ⟨p,r,c,hu⟩:=ht
    rcases hx with ⟨e1,_⟩ | ⟨_,_,_,_,hb⟩
    · rcases hy with ⟨e2,rfl⟩ | ⟨_,_,_,e2,rfl⟩<;>rw [e1,e2]<;>simp [Op.equalIn,run_underlying hu]
    · cases hb
theorem nil_run2 {t:TypeId} {k:NilK} {x y:AV} (d:Nat) (ht:NilT P t k) (hx:nilV M k false x) (hy:nilV M k true y):(Op.equalIn (d+1) t (im M x) (im M y)).run P w = .ok false w:=by
  cases k with
  | ptr=>
    obtain ⟨e,hu⟩:=ht
    obtain ⟨p,e1,hp⟩:=hx
    obtain ⟨q,e2,hq⟩:=hy
    rw [e1,e2]
    cases p<;>simp at hp
    cases q<;>simp at hq
    simp [Op.equalIn,run_underlying hu]
  | sl=>
    obtain ⟨e,hu⟩:=ht
    obtain ⟨p,n,c,e1,hp⟩:=hx
    obtain ⟨q,n',c',e2,hq⟩:=hy
    rw [e1,e2]
    cases p<;>simp at hp
    cases q<;>simp at hq
    simp [Op.equalIn,run_underlying hu]
  | mp=>
    obtain ⟨k,e,hu⟩:=ht
    obtain ⟨p,e1,hp⟩:=hx
    obtain ⟨q,e2,hq⟩:=hy
    rw [e1,e2]
    cases p<;>simp at hp
    cases q<;>simp at hq
    simp [Op.equalIn,run_underlying hu]
  | fn=>
    obtain ⟨p,r,c,hu⟩:=ht
    rcases hx with ⟨_,hb⟩ | ⟨_,_,_,e1,_⟩
    · cases hb
    · rcases hy with ⟨e2,_⟩ | ⟨_,_,_,_,hb⟩
      · rw [e1,e2]; simp [Op.equalIn,run_underlying hu]
      · cases hb
theorem nil_run {t:TypeId} {k:NilK} {x y:AV} {r:Bool} (ht:NilT P t k) (h:eqK (.nil k) x y=some r):(Op.equal t (im M x) (im M y)).run P w = .ok r w:=by
  simp only [eqK] at h
  split at h
  · rename_i b hx hy
    cases h
    exact nil_run1 9999 ht (xm hx) (xm hy)
  · rename_i hx hy
    cases h
    exact nil_run2 9999 ht (xm hx) (xm hy)
  · cases h
theorem apu {t:TypeId} {k:NilK} {b c:Bool} {x y:AV} (hx:nilV M k b x) (hy:nilV M k c y) :
    binOp .eql t (im M x) (im M y)=(do pure (.bool (← Op.equal t (im M x) (im M y))))∧binOp .neq t (im M x) (im M y)=(do pure (.bool (!(← Op.equal t (im M x) (im M y)))))∧
    ∀ op p q,eqGuard op t p q (im M x) (im M y)=pure ():=by
  cases k with
  | ptr=>
    obtain ⟨p,e1,_⟩:=hx
    obtain ⟨q,e2,_⟩:=hy
    rw [e1,e2]
    exact ⟨rfl,rfl,fun op p q=>by cases op<;>rfl⟩
  | sl=>
    obtain ⟨p,n,c,e1,_⟩:=hx
    obtain ⟨q,n',c',e2,_⟩:=hy
    rw [e1,e2]
    exact ⟨rfl,rfl,fun op p q=>by cases op<;>rfl⟩
  | mp=>
    obtain ⟨p,e1,_⟩:=hx
    obtain ⟨q,e2,_⟩:=hy
    rw [e1,e2]
    exact ⟨rfl,rfl,fun op p q=>by cases op<;>rfl⟩
  | fn=>
    rcases hx with ⟨e1,_⟩ | ⟨_,_,_,e1,_⟩<;>rcases hy with ⟨e2,_⟩ | ⟨_,_,_,e2,_⟩<;>rw [e1,e2]<;>
      exact ⟨rfl,rfl,fun op p q=>by cases op<;>rfl⟩
def EqT (P:Program) (t:TypeId):EqK→Prop
  | .nil k=>NilT P t k
  | .bool=>P.underlying t=some .bool
  | .plain ks=>Cd P 8 t=some ks∧P.eqGuardType P.depth t=false∧HS P t=some true
theorem sf {t u:TypeId} {k:EqK} {neg:Bool} {x y:Operand} {X Y:Opd} (ho:o.op = .binOp (if neg then .neq else .eql) t x y u) (hk:EqT P t k) (hx:opd nt x=some X) (hy:opd nt y=some Y)
    (ht:bX M D nt tm a) (hr:Rel M D H w) (h:opF (.eq k neg X Y) tm H=some (v,H')):bm P w M D H (execOp a.eval o) v H':=by
  obtain ⟨u,hu,h1⟩:=iW h
  clear h
  obtain ⟨z,hz,h2⟩:=iW h1
  clear h1
  obtain ⟨r,hr',h⟩:=iW h2
  clear h2
  cases h
  obtain ⟨e1,k1⟩:=mK hx ht hu
  obtain ⟨e2,k2⟩:=mK hy ht hz
  refine bm.same hr ?_ (by simp [okv])
  cases k with
  | nil k=>
    have hrun:=nil_run (M:=M) (w:=w) hk hr'
    obtain ⟨b,c,hb,hc⟩:∃ b c,nilV M k b u∧nilV M k c z:=by
      simp only [eqK] at hr'
      split at hr'
      · rename_i b hx hy; exact ⟨_,_,xm hx,xm hy⟩
      · rename_i hx hy; exact ⟨_,_,xm hx,xm hy⟩
      · cases hr'
    obtain ⟨g1,g2,g3⟩:=apu (t:=t) hb hc
    cases neg<;>simp [execOp,ho,e1,e2,g1,g2,g3,hrun,im]
  | bool=>
    simp only [eqK] at hr'
    split at hr'
    · rename_i p q
      cases hr'
      have hrun:=run_equal_bool (P:=P) w t p q hk
      have g:∀ op p' q',eqGuard op t p' q' (.bool p) (.bool q)=pure ():=fun op _ _=>by cases op<;>rfl
      have g1:binOp .eql t (.bool p) (.bool q)=(do pure (.bool (← Op.equal t (.bool p) (.bool q)))):=rfl
      have g2:binOp .neq t (.bool p) (.bool q)=(do pure (.bool (!(← Op.equal t (.bool p) (.bool q))))):=rfl
      cases neg<;>simp [execOp,ho,e1,e2,im,g,g1,g2,hrun]
    · cases hr'
  | plain ks=>
    obtain ⟨hp,hg,ha⟩:=hk
    simp only [eqK] at hr'
    split at hr'
    · rename_i p q
      have hrun:=anT (P:=P) (M:=M) (w:=w) 8 t ks true hp ha p q r 10000 hr' (by omega)
      have hv1:im M (.agg p)=oV M true p:=by simp [im,oV,mY]
      have hv2:im M (.agg q)=oV M true q:=by simp [im,oV,mY]
      rw [hv1] at e1; rw [hv2] at e2
      have hrun':(Op.equal t (oV M true p) (oV M true q)).run P w = .ok r w:=hrun
      have g:∀ op p' q',(eqGuard op t p' q' (oV M true p) (oV M true q)).run P w = .ok () w:=fun op p' q'=>by
        simp only [oV,if_true]; exact run_eqGuard_agg w op t p' q' _ _ hg
      have g1:binOp .eql t (oV M true p) (oV M true q)=(do pure (.bool (← Op.equal t (oV M true p) (oV M true q)))):=rfl
      have g2:binOp .neq t (oV M true p) (oV M true q)=(do pure (.bool (!(← Op.equal t (oV M true p) (oV M true q))))):=rfl
      cases neg<;>simp [execOp,ho,e1,e2,g,g1,g2,hrun',im]
    · cases hr'
theorem aq8 {z r:List AV} (h:KT tm [] z=some r):r=z:=by
  have h':some z=some r:=h
  simpa using h'.symm
theorem aoU {p:Nat × Nat × Opd} {parts:List (Nat × Nat × Opd)} {z r:List AV} (h:KT tm (p::parts) z=some r) :
    ∃ v,ev tm p.2.2=some v∧v.cells.length=p.2.1∧p.1+p.2.1≤z.length∧(∀ l,v≠.tuple l)∧KT tm parts (Bb v.cells z p.1)=some r:=by
  have h':Option.casesOn (motive:=fun _=>Option (List AV)) (ev tm p.2.2) none (fun v=>
      match sZ v.cells==p.2.1&&Nat.ble (p.1+p.2.1) (sZ z)&&!(v matches .tuple _) with
      | true=>Ui v.cells z p.1 (KT tm parts)
      | false=>none)=some r:=h
  obtain ⟨v,hv,h1⟩:=iW h'
  split at h1
  · rename_i hb
    simp only [fV,fN,rm] at hb
    obtain ⟨⟨hb1,hb2⟩,hb3⟩:=hb
    rw [vC] at h1
    exact ⟨v,hv,hb1,fR hb2,(fun l e=>by rw [e] at hb3; cases hb3),h1⟩
  · cases h1
theorem Zr {v:AV} (h:∀ l,v≠.tuple l) (hv:okv D v):(im M v).cells=(v.cells.map (im M)).toArray∧∀ u∈v.cells,okv D u∧u.fD=true:=by
  cases v with
  | tuple l=>exact (h l rfl).elim
  | agg l=>
    simp only [okv] at hv
    exact ⟨by simp [im,Value.cells,AV.cells,mY],fun u hu=>⟨(nL D l).1 hv.1 u hu,hv.2 u hu⟩⟩
  | bool _=>exact ⟨by simp [im,Value.cells,AV.cells],fun u hu=>by simp [AV.cells] at hu; subst hu; exact ⟨hv,rfl⟩⟩
  | int _ _=>exact ⟨by simp [im,Value.cells,AV.cells],fun u hu=>by simp [AV.cells] at hu; subst hu; exact ⟨hv,rfl⟩⟩
  | str _=>exact ⟨by simp [im,Value.cells,AV.cells],fun u hu=>by simp [AV.cells] at hu; subst hu; exact ⟨hv,rfl⟩⟩
  | ptr _ _=>exact ⟨by simp [im,Value.cells,AV.cells],fun u hu=>by simp [AV.cells] at hu; subst hu; exact ⟨hv,rfl⟩⟩
  | nilptr=>exact ⟨by simp [im,Value.cells,AV.cells],fun u hu=>by simp [AV.cells] at hu; subst hu; exact ⟨hv,rfl⟩⟩
  | slice _ _ _ _ _=>exact ⟨by simp [im,Value.cells,AV.cells],fun u hu=>by simp [AV.cells] at hu; subst hu; exact ⟨hv,rfl⟩⟩
  | send _ _ _=>exact ⟨by simp [im,Value.cells,AV.cells],fun u hu=>by simp [AV.cells] at hu; subst hu; exact ⟨hv,rfl⟩⟩
  | nilslice=>exact ⟨by simp [im,Value.cells,AV.cells],fun u hu=>by simp [AV.cells] at hu; subst hu; exact ⟨hv,rfl⟩⟩
  | map _=>exact ⟨by simp [im,Value.cells,AV.cells],fun u hu=>by simp [AV.cells] at hu; subst hu; exact ⟨hv,rfl⟩⟩
  | nilmap=>exact ⟨by simp [im,Value.cells,AV.cells],fun u hu=>by simp [AV.cells] at hu; subst hu; exact ⟨hv,rfl⟩⟩
  | func _ _ _=>exact ⟨by simp [im,Value.cells,AV.cells],fun u hu=>by simp [AV.cells] at hu; subst hu; exact ⟨hv,rfl⟩⟩
  | nilfunc=>exact ⟨by simp [im,Value.cells,AV.cells],fun u hu=>by simp [AV.cells] at hu; subst hu; exact ⟨hv,rfl⟩⟩
  | iface _ _=>exact ⟨by simp [im,Value.cells,AV.cells],fun u hu=>by simp [AV.cells] at hu; subst hu; exact ⟨hv,rfl⟩⟩
  | niliface=>exact ⟨by simp [im,Value.cells,AV.cells],fun u hu=>by simp [AV.cells] at hu; subst hu; exact ⟨hv,rfl⟩⟩
theorem anX {α β:Type} (f:α→β):∀ (xs l:List α) (off:Nat),(Bb xs l off).map f=Bb (xs.map f) (l.map f) off
  | [],_,_=>rfl
  | x::xs,l,off=>by simp [Bb,anX f xs]
theorem over_mem {α:Type} {xs l:List α} {off:Nat} {v:α} (h:v∈Bb xs l off):v∈xs∨v∈l:=by
  induction xs generalizing l off with
  | nil=>exact .inr h
  | cons x xs ih=>
    rcases ih h with h | h
    · exact .inl (by simp [h])
    · rcases List.mem_or_eq_of_mem_set h with h | h
      · exact .inr h
      · exact .inl (by simp [h])
theorem aha:∀ (xs:List Value) (k:Nat) (l:List Value) (off:Nat),
    (xs.zipIdx k).foldl (fun (cs:Array Value) (c:Value × Nat)=>cs.setIfInBounds (off+c.2) c.1) l.toArray=(Bb xs l (off+k)).toArray
  | [],_,_,_=>rfl
  | x::xs,k,l,off=>by
    simp only [List.zipIdx_cons,List.foldl_cons,Bb]
    have:=aha xs (k+1) (l.set (off+k) x) off
    rw [show off+(k+1)=off+k+1 by omega] at this
    rw [← this]
    congr 1
    simp
theorem aiK (place:Nat→Option (Nat × Nat)) (parts:List (Nat × Operand)):∀ (L:List (Nat × Nat × Opd)) (z r:List AV),
    parts.length=L.length→(∀ (i:Nat) (p:Nat × Operand) (q:Nat × Nat × Opd),parts[i]?=some p→L[i]?=some q→place p.1=some (q.1,q.2.1)∧opd nt p.2=some q.2.2)→
    bX M D nt tm a→(∀ u∈z,okv D u∧u.fD=true)→KT tm L z=some r→
    Instr.fill place (z.map (im M)).toArray (parts.map fun p=>(p.1,a.eval p.2))=some (r.map (im M)).toArray∧∀ u∈r,okv D u∧u.fD=true:=by
  induction parts with
  | nil=>
    intro L z r hl _ _ hz h
    cases L with
    | nil=>rw [aq8 h]; exact ⟨rfl,hz⟩
    | cons _ _=>cases hl
  | cons p parts ih=>
    intro L z r hl hp ht hz h
    cases L with
    | nil=>cases hl
    | cons q L=>
      obtain ⟨v,hv,h1,h2,h3,h4⟩:=aoU h
      obtain ⟨hpl,hop⟩:=hp 0 p q rfl rfl
      obtain ⟨e,k⟩:=mK hop ht hv
      obtain ⟨c1,c2⟩:=Zr (M:=M) h3 k
      have hz':∀ u∈Bb v.cells z q.1,okv D u∧u.fD=true:=fun u hu=>by
        rcases over_mem hu with hu | hu
        · exact c2 u hu
        · exact hz u hu
      obtain ⟨g1,g2⟩:=ih L _ r (by simpa using hl) (fun i p' q' h1 h2=>hp (i+1) p' q' (by simpa using h1) (by simpa using h2)) ht hz' h4
      refine ⟨?_,g2⟩
      simp only [List.map_cons,Instr.fill,hpl,e,c1]
      rw [if_neg (by simp; omega)]
      have hf:=aha (v.cells.map (im M)) 0 (z.map (im M)) q.1
      rw [Nat.add_zero, ← anX] at hf
      rw [← g1]
      congr 1
      rw [← hf]
      rw [← Array.foldl_toList,Array.toList_zipIdx]
end
end Go.Ai
