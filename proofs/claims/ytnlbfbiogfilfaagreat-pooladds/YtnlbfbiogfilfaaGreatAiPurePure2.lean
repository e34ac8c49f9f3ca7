/- Operations that leave memory alone. -/
import Derived.Test.YtnlbfbiogfilfaaGreatAiCompOps
import Derived.ChangeKeysEq
set_option linter.all false
namespace Go.Ai
section
variable {P:Program} {nt:Nat} {M:Mp} {D:Nat→Prop} {tm:Tr AV} {a:Act} {w:World} {H H':Heap} {v:AV} {o:Oper}
theorem avg {x:Operand} {X:Opd} (ho:o.op = .move x∨o.op = .assign x) (hx:opd nt x=some X) (ht:TmRel M D nt tm a) (hr:Rel M D H w)
    (h:opF (.mov X) tm H=some (v,H')):Sound1 P w M D H (execOp a.eval o) v H':=by
  obtain ⟨u,hu,h⟩:=cB h
  cases h
  obtain ⟨e,k⟩:=lR hx ht hu
  refine Sound1.same hr ?_ k
  rcases ho with ho | ho<;>simp [execOp,ho,e]
theorem azA {c x y:Operand} {C X Y:Opd} (ho:o.op = .pick c x y) (hc:opd nt c=some C) (hx:opd nt x=some X) (hy:opd nt y=some Y) (ht:TmRel M D nt tm a) (hr:Rel M D H w)
    (h:opF (.pick C X Y) tm H=some (v,H')):Sound1 P w M D H (execOp a.eval o) v H':=by
  obtain ⟨u,hu,h⟩:=cB h
  obtain ⟨e,k⟩:=lR hc ht hu
  split at h
  · obtain ⟨z,hz,h⟩:=cB h
    cases h
    obtain ⟨e',k'⟩:=lR hx ht hz
    exact Sound1.same hr (by simp [execOp,ho,e,e',bF,asBool]) k'
  · obtain ⟨z,hz,h⟩:=cB h
    cases h
    obtain ⟨e',k'⟩:=lR hy ht hz
    exact Sound1.same hr (by simp [execOp,ho,e,e',bF,asBool]) k'
  · cases h
theorem aAz {t:TypeId} {x:Operand} {X:Opd} (ho:o.op = .unOp .not t x) (hx:opd nt x=some X) (ht:TmRel M D nt tm a) (hr:Rel M D H w)
    (h:opF (.not X) tm H=some (v,H')):Sound1 P w M D H (execOp a.eval o) v H':=by
  obtain ⟨u,hu,h⟩:=cB h
  obtain ⟨e,k⟩:=lR hx ht hu
  split at h
  · cases h; exact Sound1.same hr (by simp [execOp,ho,e,bF,Op.unary]) (by simp [okv])
  · cases h; exact Sound1.same hr (by simp [execOp,ho,e,bF,Op.unary]) (by simp [okv])
  · cases h
theorem ayS {s d:TypeId} {ds:TypeDesc} {k:IntKind} {x:Operand} {X:Opd} (ho:o.op = .convert s d x) (hs:P.underlying s=some ds) (hd:P.underlying d=some (.int k))
    (hx:opd nt x=some X) (ht:TmRel M D nt tm a) (hr:Rel M D H w)
    (h:opF (.conv k X) tm H=some (v,H')):Sound1 P w M D H (execOp a.eval o) v H':=by
  obtain ⟨u,hu,h⟩:=cB h
  obtain ⟨e,_⟩:=lR hx ht hu
  split at h
  · rename_i k' n
    rw [oP] at h
    cases h
    refine Sound1.same hr ?_ (by simp [okv])
    simp [execOp,ho,e,bF,convert,run_underlying hs,run_underlying hd,Conv.intToInt]
  · cases h
theorem axa {x:Operand} {X:Opd} (ho:o.op = .nilCheck x) (hx:opd nt x=some X) (ht:TmRel M D nt tm a) (hr:Rel M D H w)
    (h:opF (.nilchk X) tm H=some (v,H')):Sound1 P w M D H (execOp a.eval o) v H':=by
  obtain ⟨u,hu,h⟩:=cB h
  obtain ⟨e,k⟩:=lR hx ht hu
  split at h
  · cases h; exact Sound1.same hr (by simp [execOp,ho,e,bF]) k
  · cases h; exact Sound1.same hr (by simp [execOp,ho,e,bF]) k
  · cases h
theorem Qf (b o n:Nat):Addr.add ⟨b,o,none⟩ n=⟨b,o+n,none⟩:=Addr.add_lit b o n
theorem fa_sound {t:TypeId} {x:Operand} {X:Opd} {i s:Nat} {fs:Array Field} {f:Field} (ho:o.op = .fieldAddr t x i) (hu:P.underlying t=some (.struct fs)) (hf:fs[i]?=some f)
    (hs:szT P f.type=some s) (hs0:0<s) (hx:opd nt x=some X) (ht:TmRel M D nt tm a) (hr:Rel M D H w)
    (h:opF (.fa f.offset X) tm H=some (v,H')):Sound1 P w M D H (execOp a.eval o) v H':=by
  obtain ⟨u,hu',h⟩:=cB h
  obtain ⟨e,k⟩:=lR hx ht hu'
  split at h
  · rename_i b off
    cases h
    refine Sound1.same hr ?_ (by simpa [okv] using k)
    simp only [execOp,ho,e,bF,Instr.fieldAt,Sem.run_bind,run_underlying hu,Result.andThen_ok,hf,Instr.sureAddr,fieldPlace,oK hs,Sem.run_pure,Sem.run_ite]
    rw [if_neg (by omega)]
    simp [Loc.at_add]
  · cases h
theorem aBe {t e:TypeId} {x i:Operand} {X I:Opd} {s:Nat} (ho:o.op = .indexAddr t x i) (hu:P.underlying t=some (.slice e)) (hs:szT P e=some s)
    (hx:opd nt x=some X) (hi:opd nt i=some I) (ht:TmRel M D nt tm a) (hr:Rel M D H w)
    (h:opF (.iaS s X I) tm H=some (v,H')):Sound1 P w M D H (execOp a.eval o) v H':=by
  obtain ⟨u,hu',h1⟩:=cB h
  clear h
  obtain ⟨z,hz',h⟩:=cB h1
  clear h1
  obtain ⟨e1,k⟩:=lR hx ht hu'
  obtain ⟨e2,k2⟩:=lR hi ht hz'
  split at h
  · rename_i b off len ext opn kk n
    obtain ⟨h0,h⟩:=Ec h
    obtain ⟨hb,h⟩:=ni h
    rw [blt_eq] at hb
    have hb:n.toNat<len:=by simpa using hb
    cases h
    refine Sound1.same hr ?_ (by simpa [okv] using k)
    simp only [execOp,ho,e1,e2,bF,Instr.indexAt,asIntOf,Sem.run_bind,run_underlying hu,Result.andThen_ok,Sem.run_pure,oK hs,Sem.run_ite]
    rw [if_pos ⟨h0,by omega⟩]
    simp [Loc.at_add]
  · cases h
theorem aA5 {t e:TypeId} {nn:Nat} {x i:Operand} {X I:Opd} {s:Nat} (ho:o.op = .indexAddr t x i) (hu:P.underlying t=some (.array nn e)) (hs:szT P e=some s)
    (hx:opd nt x=some X) (hi:opd nt i=some I) (ht:TmRel M D nt tm a) (hr:Rel M D H w)
    (h:opF (.iaA s nn X I) tm H=some (v,H')):Sound1 P w M D H (execOp a.eval o) v H':=by
  obtain ⟨u,hu',h1⟩:=cB h
  clear h
  obtain ⟨z,hz',h⟩:=cB h1
  clear h1
  obtain ⟨e1,k⟩:=lR hx ht hu'
  obtain ⟨e2,k2⟩:=lR hi ht hz'
  split at h
  · rename_i b off kk n
    obtain ⟨h0,h⟩:=Ec h
    obtain ⟨hb,h⟩:=ni h
    rw [blt_eq] at hb
    have hb:n.toNat<nn:=by simpa using hb
    cases h
    refine Sound1.same hr ?_ (by simpa [okv] using k)
    simp only [execOp,ho,e1,e2,bF,Instr.indexAt,Instr.sureAddr,asIntOf,Sem.run_bind,run_underlying hu,Result.andThen_ok,Sem.run_pure,oK hs,Sem.run_ite]
    rw [if_pos ⟨h0,by omega⟩]
    simp [Loc.at_add]
  · cases h
theorem aBd {x:Operand} {X:Opd} {i:Nat} (ho:o.op = .extract x i) (hx:opd nt x=some X) (ht:TmRel M D nt tm a) (hr:Rel M D H w)
    (h:opF (.ext i X) tm H=some (v,H')):Sound1 P w M D H (execOp a.eval o) v H':=by
  obtain ⟨u,hu,h⟩:=cB h
  obtain ⟨e,k⟩:=lR hx ht hu
  split at h
  · rename_i vs
    obtain ⟨r,hr',h⟩:=cB h
    cases h
    rw [azB] at hr'
    simp only [okv] at k
    refine Sound1.same hr ?_ ((py D vs).1 k _ (List.mem_of_getElem? hr'))
    simp [execOp,ho,e,bF,Instr.extract,lX,hr']
  · cases h
theorem avW {f:Nat} {first cap:Array Operand} {A C:List Opd} (ho:o.op = .makeFunc (.func f) first cap) (ha:aqn nt first.toList=some A) (hc:aqn nt cap.toList=some C)
    (ht:TmRel M D nt tm a) (hr:Rel M D H w) (h:opF (.mkfunc f A C) tm H=some (v,H')):Sound1 P w M D H (execOp a.eval o) v H':=by
  obtain ⟨as,has,h⟩:=cB h
  obtain ⟨cs,hcs,h⟩:=cB h
  cases h
  obtain ⟨e1,k1⟩:=atn ha ht has
  obtain ⟨e2,k2⟩:=atn hc ht hcs
  refine Sound1.same hr ?_ (by simp [okv,k1,k2])
  have f1:first.map a.eval=(wj M as).toArray:=by rw [← e1, ← Array.toList_map,Array.toArray_toList]
  have f2:cap.map a.eval=(wj M cs).toArray:=by rw [← e2, ← Array.toList_map,Array.toArray_toList]
  simp [execOp,ho,Instr.makeFunc,bF,f1,f2]
theorem int_run {k:IntKind} {op:BinOp} {x y:Int} {t:TypeId} (hop:op≠.shl∧op≠.shr) (h:Zv op k x y none some=some v) :
    (binOp op t (.int k x) (.int k y)).run P w = .ok (bF M v) w∧okv D v:=by
  have hz:∀ c:AV,Bool.casesOn (motive:=fun _=>Option AV) (isZ y) (some c) none=some v→y≠0∧c=v:=fun c hc=>by
    obtain ⟨h1,h2⟩:=abZ hc
    rw [awN] at h1
    exact ⟨by simpa using h1,by simpa using h2⟩
  cases op with
  | shl=>exact (hop.1 rfl).elim
  | shr=>exact (hop.2 rfl).elim
  | add=>rw [Zv] at h; simp only [oP,amC] at h; cases h; simp [binOp,Op.intArith,bF,okv]
  | sub=>rw [Zv] at h; simp only [oP,amx] at h; cases h; simp [binOp,Op.intArith,bF,okv]
  | mul=>rw [Zv] at h; simp only [oP,ams] at h; cases h; simp [binOp,Op.intArith,bF,okv]
  | quo=>
    rw [Zv] at h; simp only [oP,aAk] at h
    obtain ⟨h0,rfl⟩:=hz _ h
    simp [binOp,Op.intDiv,h0,bF,okv]
  | rem=>
    rw [Zv] at h; simp only [az5] at h
    obtain ⟨h0,rfl⟩:=hz _ h
    simp [binOp,Op.intDiv,h0,bF,okv]
  | and=>cases h; simp [binOp,Op.intBits,bF,okv]
  | or=>cases h; simp [binOp,Op.intBits,bF,okv]
  | xor=>cases h; simp [binOp,Op.intBits,bF,okv]
  | andNot=>cases h; simp [binOp,Op.intBits,bF,okv]
  | eql=>rw [Zv] at h; simp only [zj] at h; cases h; simp [binOp,Op.intCmp,bF,okv]
  | neq=>
    rw [Zv] at h; simp only [zj] at h
    cases hb:(x==y) with
    | true=>rw [hb] at h; cases h; have:x=y:=by simpa using hb
            simp [binOp,Op.intCmp,bF,okv,this]
    | false=>rw [hb] at h; cases h; have:x≠y:=by simpa using hb
             simp [binOp,Op.intCmp,bF,okv,this]
  | lss=>rw [Zv] at h; simp only [y4] at h; cases h; simp [binOp,Op.intCmp,bF,okv]
  | leq=>
    rw [Zv] at h; simp only [y4] at h
    cases hb:decide (y<x) with
    | true=>rw [hb] at h; cases h; have:=of_decide_eq_true hb; simp [binOp,Op.intCmp,bF,okv,this]
    | false=>rw [hb] at h; cases h; have:=of_decide_eq_false hb; simp [binOp,Op.intCmp,bF,okv]; omega
  | gtr=>rw [Zv] at h; simp only [y4] at h; cases h; simp [binOp,Op.intCmp,bF,okv]
  | geq=>
    rw [Zv] at h; simp only [y4] at h
    cases hb:decide (x<y) with
    | true=>rw [hb] at h; cases h; have:=of_decide_eq_true hb; simp [binOp,Op.intCmp,bF,okv,this]
    | false=>rw [hb] at h; cases h; have:=of_decide_eq_false hb; simp [binOp,Op.intCmp,bF,okv]; omega
theorem bin_run {op:BinOp} {x y:AV} {t:TypeId} (h:binF op x y=some v) :
    (binOp op t (bF M x) (bF M y)).run P w = .ok (bF M v) w∧okv D v:=by
  unfold binF at h
  split at h
  · rename_i k n k' m
    split at h
    · obtain ⟨h0,h⟩:=Ec h
      rw [oP] at h; cases h
      simp [bF,binOp,Op.shift,okv,aly]
      omega
    · obtain ⟨h0,h⟩:=Ec h
      cases h
      simp [bF,binOp,Op.shift,okv,shrF_eq]
      omega
    · rename_i op' h1 h2
      split at h
      · rename_i hk; subst hk
        exact int_run ⟨fun e=>h1 e,fun e=>h2 e⟩ h
      · cases h
  · rename_i s u
    unfold strOp at h
    split at h
    · obtain ⟨hb,h⟩:=ni h
      have hb:=Nat.le_of_ble_eq_true hb
      rw [jC,jC] at hb
      have hb:s.length+u.length≤1099511627776:=hb
      cases h
      simp only [bF,binOp,Op.stringOp,okv,and_true]
      rw [if_neg (by simp [ByteArray.size]; omega),jz]
      simp only [Sem.run_pure,id]
      congr 2
    · cases h
      simp [bF,binOp,Op.stringOp,okv,abG]
    · cases h
      simp [bF,binOp,Op.stringOp,okv,abG]
    · cases h
  · cases h
theorem avl {op:BinOp} {t u:TypeId} {x y:Operand} {X Y:Opd} (ho:o.op = .binOp op t x y u) (hx:opd nt x=some X) (hy:opd nt y=some Y)
    (ht:TmRel M D nt tm a) (hr:Rel M D H w) (h:opF (.bin op X Y) tm H=some (v,H')):Sound1 P w M D H (execOp a.eval o) v H':=by
  obtain ⟨u,hu,h⟩:=cB h
  obtain ⟨z,hz,h⟩:=cB h
  obtain ⟨r,hr',h⟩:=cB h
  cases h
  obtain ⟨e1,k1⟩:=lR hx ht hu
  obtain ⟨e2,k2⟩:=lR hy ht hz
  obtain ⟨h1,h2⟩:=bin_run (P:=P) (w:=w) (M:=M) (D:=D) (t:=t) hr'
  refine Sound1.same hr ?_ h2
  have hg:eqGuard op t x y (bF M u) (bF M z)=pure ():=by
    unfold binF at hr'
    split at hr'
    · simp only [bF]; cases op<;>rfl
    · simp only [bF]; cases op<;>rfl
    · cases hr'
  simp [execOp,ho,e1,e2,hg,h1]
end
end Go.Ai
/- '==' and '!=' of what may be nil, of bools, of structs and arrays of plain cells. -/
namespace Go.Ai
section
variable {P:Program} {nt:Nat} {M:Mp} {D:Nat→Prop} {tm:Tr AV} {a:Act} {w:World} {H H':Heap} {v:AV} {o:Oper}
def pI (M:Mp) (g:Bool) (l:List AV):Value:=if g then .agg (l.map (bF M)).toArray else bF M (l.headD .undef)
theorem agX {g:Bool} {l:List AV} {v:AV} (h:Td g l=some v):bF M v=pI M g l∧(∀ D:Nat→Prop,(∀ u∈l,okv D u∧u.isCell=true)→okv D v):=by
  unfold Td at h
  split at h
  · cases h
    refine ⟨by simp [bF,pI,lX],fun D hl=>?_⟩
    simp only [okv]
    exact ⟨(py D _).2 fun u hu=>(hl u hu).1,fun u hu=>(hl u hu).2⟩
  · cases h
    exact ⟨by simp [pI],fun D hl=>(hl _ (by simp)).1⟩
  · cases h
theorem ahq {t:TypeId} {g:Bool} {n:Nat} (hg:Tq P t=some g) (hn:szT P t=some n) (h1:g=false→n=1) (L:List AV) (off:Nat) (hoff:off+n≤L.length∨n=0) :
    (part t (L.map (bF M)).toArray off).run P w = .ok (pI M g ((L.drop off).take n)) w:=by
  simp only [part,Sem.run_bind,arv hg,Result.andThen_ok,Sem.run_ite]
  cases g with
  | true=>
    simp only [if_true,oK hn,Result.andThen_ok,Sem.run_pure,pI]
    congr 2
    apply Array.ext'
    simp
  | false=>
    have:=h1 rfl
    subst this
    simp only [Bool.false_eq_true,if_false,pI]
    have hlt:off<L.length:=by omega
    have e1:(L.map (bF M)).toArray[off]?=some (bF M L[off]):=by simp [hlt]
    rw [e1,List.drop_eq_getElem_cons hlt]
    rfl
theorem vY {l l':List AV} {r:Bool} (h:q8 [] l l'=some r):l = []∧l' = []∧r=true:=by
  cases l with
  | nil=>cases l' with
    | nil=>have:some true=some r:=h
           exact ⟨rfl,rfl,by simpa using this.symm⟩
    | cons _ _=>cases h
  | cons _ _=>cases h
theorem wg {c:CK} {ks:List CK} {l l':List AV} {r:Bool} (h:q8 (c::ks) l l'=some r) :
    ∃ x y s t r1 r2,l=x::s∧l'=y::t∧Ng c x y=some r1∧q8 ks s t=some r2∧r=(r1&&r2):=by
  cases l with
  | nil=>cases h
  | cons x s=>cases l' with
    | nil=>cases h
    | cons y t=>
      have h':Option.casesOn (motive:=fun _=>Option Bool) (Ng c x y) none (fun r=>Bool.casesOn (motive:=fun _=>Option Bool) r (Option.casesOn (motive:=fun _=>Option Bool) (q8 ks s t) none (fun _=>some false)) (q8 ks s t))=some r:=h
      obtain ⟨r1,h1,h'⟩:=cB h'
      cases r1 with
      | false=>
        obtain ⟨r2,h2,h'⟩:=cB h'
        cases h'
        exact ⟨x,y,s,t,false,r2,rfl,rfl,h1,h2,by simp⟩
      | true=>exact ⟨x,y,s,t,true,r,rfl,rfl,h1,h',by simp⟩
theorem Uj:∀ {ks:List CK} {l l':List AV} {r:Bool},q8 ks l l'=some r→l.length=ks.length∧l'.length=ks.length
  | [],_,_,_,h=>by obtain ⟨rfl,rfl,_⟩:=vY h; simp
  | _::_,_,_,_,h=>by
    obtain ⟨_,_,_,_,_,_,rfl,rfl,_,h2,_⟩:=wg h
    obtain ⟨a,b⟩:=Uj h2
    simp [a,b]
theorem Uz:∀ {ks ks':List CK} {l l':List AV} {r:Bool},q8 (ks++ks') l l'=some r→
    ∃ r1 r2,q8 ks (l.take ks.length) (l'.take ks.length)=some r1∧q8 ks' (l.drop ks.length) (l'.drop ks.length)=some r2∧r=(r1&&r2)
  | [],ks',l,l',r,h=>⟨true,r,rfl,by simpa using h,by simp⟩
  | c::ks,ks',l,l',r,h=>by
    obtain ⟨x,y,s,t,r1,r2,rfl,rfl,h1,h2,rfl⟩:=wg h
    obtain ⟨s1,s2,k1,k2,rfl⟩:=Uz h2
    refine ⟨r1&&s1,s2,?_,by simpa using k2,by simp [Bool.and_assoc]⟩
    show Option.casesOn (motive:=fun _=>Option Bool) (Ng c x y) none (fun r=>Bool.casesOn (motive:=fun _=>Option Bool) r (Option.casesOn (motive:=fun _=>Option Bool) (q8 ks (s.take ks.length) (t.take ks.length)) none (fun _=>some false)) (q8 ks (s.take ks.length) (t.take ks.length)))=_
    rw [h1,k1]
    cases r1<;>simp
theorem ab3 {x y:AV} {r:Bool} (h:Ng .int x y=some r):∃ k a b,x = .int k a∧y = .int k b∧r=(a==b):=by
  unfold Ng at h
  split at h
  · split at h
    · rename_i hk; subst hk
      rw [zj] at h
      exact ⟨_,_,_,rfl,rfl,by simpa using h.symm⟩
    · cases h
  · rename_i e; cases e
  · rename_i e; cases e
  · cases h
theorem WG {x y:AV} {r:Bool} (h:Ng .bool x y=some r):∃ a b,x = .bool a∧y = .bool b∧r=(a==b):=by
  unfold Ng at h
  split at h
  · rename_i e; cases e
  · exact ⟨_,_,rfl,rfl,by simpa using h.symm⟩
  · rename_i e; cases e
  · cases h
theorem abu {x y:AV} {r:Bool} (h:Ng .str x y=some r):∃ a b,x = .str a∧y = .str b∧r=(a==b):=by
  unfold Ng at h
  split at h
  · rename_i e; cases e
  · rename_i e; cases e
  · rw [abG] at h
    exact ⟨_,_,rfl,rfl,by simpa using h.symm⟩
  · cases h
theorem ap9:∀ (d:Nat) (t:TypeId) (ks:List CK),JS P d t=some ks→∃ g,Tq P t=some g∧szT P t=some ks.length∧(g=false→ks.length=1)
  | 0,_,_,h=>by simp [JS] at h
  | d+1,t,ks,h=>by
    unfold JS at h
    split at h
    · rename_i hu
      split at h
      · rename_i h1; cases h; exact ⟨false,by simp [Tq,hu],by simpa using h1,fun _=>rfl⟩
      · cases h
    · rename_i hu
      split at h
      · rename_i h1; cases h; exact ⟨false,by simp [Tq,hu],by simpa using h1,fun _=>rfl⟩
      · cases h
    · rename_i hu
      split at h
      · rename_i h1; cases h; exact ⟨false,by simp [Tq,hu],by simpa using h1,fun _=>rfl⟩
      · cases h
    · rename_i fs hu
      split at h
      · cases h
      · obtain ⟨ks',_,h⟩:=Option.bind_eq_some_iff.1 h
        split at h
        · rename_i h1; cases h
          exact ⟨true,by simp [Tq,hu],by simpa using h1,fun e=>by cases e⟩
        · cases h
    · rename_i n e hu
      obtain ⟨ks',_,h⟩:=Option.bind_eq_some_iff.1 h
      split at h
      · rename_i h1
        simp only [Bool.and_eq_true,beq_iff_eq] at h1
        cases h
        exact ⟨true,by simp [Tq,hu],by rw [h1.2]; simp,fun e=>by cases e⟩
      · cases h
    · cases h
theorem axm:∀ (d:Nat) (t:TypeId) (ks:List CK) (g:Bool),JS P d t=some ks→Tq P t=some g→
    ∀ (l l':List AV) (r:Bool) (k:Nat),q8 ks l l'=some r→d≤k→(Op.equalIn k t (pI M g l) (pI M g l')).run P w = .ok r w:=by
  intro d
  induction d with
  | zero=>intro t ks g h; simp [JS] at h
  | succ d ih=>
    intro t ks g h hg l l' r k he hk
    obtain ⟨k,rfl⟩:∃ m,k=m+1:=⟨k-1,by omega⟩
    have fields:∀ (fs:List Field) (off:Nat) (ks:List CK),amd P (JS P d) fs off=some ks→∀ (L L':List AV) (r:Bool),q8 ks (L.drop off) (L'.drop off)=some r→
        (Op.eqFields k (L.map (bF M)).toArray (L'.map (bF M)).toArray fs).run P w = .ok r w:=by
      intro fs
      induction fs with
      | nil=>
        intro off ks h L L' r he
        simp only [amd,Option.some.injEq] at h
        subst h
        obtain ⟨_,_,rfl⟩:=vY he
        simp [Op.eqFields]
      | cons f fs ihf=>
        intro off ks h L L' r he
        simp only [amd] at h
        split at h
        · rename_i hf
          simp only [Bool.and_eq_true,bne_iff_ne,beq_iff_eq] at hf
          obtain ⟨ks1,h1,h⟩:=Option.bind_eq_some_iff.1 h
          split at h
          · rename_i hs
            have hs:szT P f.type=some ks1.length:=by simpa using hs
            obtain ⟨ks2,h2,rfl⟩:=Option.map_eq_some_iff.1 h
            obtain ⟨r1,r2,e1,e2,rfl⟩:=Uz he
            obtain ⟨g',hg',hn',hone⟩:=ap9 d f.type ks1 h1
            obtain ⟨q1,q2⟩:=Uj he
            simp only [List.length_append,List.length_drop] at q1 q2
            have p1:=ahq (M:=M) (w:=w) hg' hn' hone L off (by omega)
            have p2:=ahq (M:=M) (w:=w) hg' hn' hone L' off (by omega)
            have p3:=ih f.type ks1 g' h1 hg' _ _ r1 k e1 (by omega)
            simp only [Op.eqFields,ne_eq,hf.1,not_false_eq_true,if_true,Sem.run_bind,hf.2,p1,p2,p3,Result.andThen_ok]
            rw [List.drop_drop,List.drop_drop] at e2
            have p4:=ihf _ _ h2 L L' r2 e2
            cases r1
            · simp
            · simpa using p4
          · cases h
        · cases h
    have items:∀ (e:TypeId) (ks:List CK),JS P d e=some ks→szT P e=some ks.length→∀ (n i:Nat) (L L':List AV) (r:Bool),
        q8 (List.replicate n ks).flatten (L.drop (i*ks.length)) (L'.drop (i*ks.length))=some r→
        (Op.eqItems k e ks.length (L.map (bF M)).toArray (L'.map (bF M)).toArray (List.range' i n)).run P w = .ok r w:=by
      intro e ks h1 hs n
      induction n with
      | zero=>
        intro i L L' r he
        simp only [List.replicate_zero,List.flatten_nil] at he
        obtain ⟨_,_,rfl⟩:=vY he
        simp [Op.eqItems]
      | succ n ihn=>
        intro i L L' r he
        simp only [List.replicate_succ,List.flatten_cons] at he
        obtain ⟨r1,r2,e1,e2,rfl⟩:=Uz he
        obtain ⟨g',hg',hn',hone⟩:=ap9 d e ks h1
        obtain ⟨q1,q2⟩:=Uj he
        simp only [List.length_append,List.length_drop] at q1 q2
        have p1:=ahq (M:=M) (w:=w) hg' hn' hone L (i*ks.length) (by omega)
        have p2:=ahq (M:=M) (w:=w) hg' hn' hone L' (i*ks.length) (by omega)
        have p3:=ih e ks g' h1 hg' _ _ r1 k e1 (by omega)
        simp only [List.range'_succ,Op.eqItems,Sem.run_bind,p1,p2,p3,Result.andThen_ok]
        rw [List.drop_drop,List.drop_drop,show i*ks.length+ks.length=(i+1)*ks.length by rw [Nat.succ_mul]] at e2
        have p4:=ihn (i+1) L L' r2 e2
        cases r1
        · simp
        · simpa using p4
    unfold JS at h
    split at h
    · rename_i q hu
      have hgf:g=false:=by simpa [Tq,hu] using hg.symm
      subst hgf
      split at h
      · cases h
        obtain ⟨x,y,s,t',r1,r2,rfl,rfl,hc,h2,rfl⟩:=wg he
        obtain ⟨rfl,rfl,rfl⟩:=vY h2
        obtain ⟨kk,p,s,rfl,rfl,rfl⟩:=ab3 hc
        simp [pI,bF,Op.equalIn,run_underlying hu]
      · cases h
    · rename_i hu
      have hgf:g=false:=by simpa [Tq,hu] using hg.symm
      subst hgf
      split at h
      · cases h
        obtain ⟨x,y,s,t',r1,r2,rfl,rfl,hc,h2,rfl⟩:=wg he
        obtain ⟨rfl,rfl,rfl⟩:=vY h2
        obtain ⟨p,s,rfl,rfl,rfl⟩:=abu hc
        simp [pI,bF,Op.equalIn,run_underlying hu,beq_toListBytes]
      · cases h
    · rename_i hu
      have hgf:g=false:=by simpa [Tq,hu] using hg.symm
      subst hgf
      split at h
      · cases h
        obtain ⟨x,y,s,t',r1,r2,rfl,rfl,hc,h2,rfl⟩:=wg he
        obtain ⟨rfl,rfl,rfl⟩:=vY h2
        obtain ⟨p,s,rfl,rfl,rfl⟩:=WG hc
        simp [pI,bF,Op.equalIn,run_underlying hu]
      · cases h
    · rename_i fs hu
      have hgf:g=true:=by simpa [Tq,hu] using hg.symm
      subst hgf
      split at h
      · cases h
      · rename_i hst
        obtain ⟨ks',h1,h⟩:=Option.bind_eq_some_iff.1 h
        split at h
        · cases h
          have hff:P.fieldsOf t=fs:=by simp [Program.fieldsOf,hu]
          have hu':P.underlying t=some (.struct (P.fieldsOf t)):=by rw [hff]; exact hu
          simp only [pI,if_true]
          rw [run_equalIn_struct w k t _ _ hu' (by simpa using hst),hff]
          exact fields fs.toList 0 _ h1 l l' r (by simpa using he)
        · cases h
    · rename_i n e hu
      have hgf:g=true:=by simpa [Tq,hu] using hg.symm
      subst hgf
      obtain ⟨ks',h1,h⟩:=Option.bind_eq_some_iff.1 h
      split at h
      · rename_i hs
        simp only [Bool.and_eq_true,beq_iff_eq] at hs
        cases h
        obtain ⟨i,hi,hi2⟩:=Option.map_eq_some_iff.1 hs.1
        have hcells:P.cellsOf e=ks'.length:=by simp [Program.cellsOf,hi,hi2]
        simp only [pI,if_true]
        rw [run_equalIn_array w k _ _ hu hi,hcells,List.range_eq_range']
        exact items e ks' h1 hs.1 n 0 l l' r (by simpa using he)
      · cases h
    · cases h
end
end Go.Ai
/- More operations that leave memory alone: comparisons, structs and arrays built and taken apart, slices of slices. -/
namespace Go.Ai
section
variable {P:Program} {nt:Nat} {M:Mp} {D:Nat→Prop} {tm:Tr AV} {a:Act} {w:World} {H H':Heap} {v:AV} {o:Oper}
def NilT (P:Program) (t:TypeId):NilK→Prop
  | .ptr=>∃ e,P.underlying t=some (.pointer e)
  | .sl=>∃ e,P.underlying t=some (.slice e)
  | .mp=>∃ k e,P.underlying t=some (.map k e)
  | .fn=>∃ p r b,P.underlying t=some (.func p r b)
def nilV (M:Mp) (k:NilK) (b:Bool) (v:AV):Prop:=
  match k with
  | .ptr=>∃ x,bF M v = .pointer x∧x.isNone=b
  | .sl=>∃ x n c,bF M v = .slice x n c∧x.isNone=b
  | .mp=>∃ x,bF M v = .map x∧x.isNone=b
  | .fn=>(bF M v = .nilFunc∧b=true)∨(∃ f x c,bF M v = .func f x c∧b=false)
theorem DP {k:NilK} {v:AV} {b:Bool} (h:isNil k v=some b):nilV M k b v:=by
  cases k<;>cases v<;>first | (cases h; done) | (cases h; simp [nilV,bF])
theorem nil_run1 {t:TypeId} {k:NilK} {x y:AV} {b:Bool} (d:Nat) (ht:NilT P t k) (hx:nilV M k true x) (hy:nilV M k b y):(Op.equalIn (d+1) t (bF M x) (bF M y)).run P w = .ok b w:=by
  cases k with
  | ptr=>
    obtain ⟨e,hu⟩:=ht
    obtain ⟨p,e1,hp⟩:=hx
    obtain ⟨q,e2,rfl⟩:=hy
    rw [e1,e2]
    cases p<;>simp at hp
    simp [Op.equalIn,run_underlying hu]
  | sl=>
    obtain ⟨e,hu⟩:=ht
    obtain ⟨p,n,c,e1,hp⟩:=hx
    obtain ⟨q,n',c',e2,rfl⟩:=hy
    rw [e1,e2]
    cases p<;>simp at hp
    simp [Op.equalIn,run_underlying hu]
  | mp=>
    obtain ⟨k,e,hu⟩:=ht
    obtain ⟨p,e1,hp⟩:=hx
    obtain ⟨q,e2,rfl⟩:=hy
    rw [e1,e2]
    cases p<;>simp at hp
    simp [Op.equalIn,run_underlying hu]
  | fn=>
    obtain ⟨p,r,c,hu⟩:=ht
    rcases hx with ⟨e1,_⟩ | ⟨_,_,_,_,hb⟩
    · rcases hy with ⟨e2,rfl⟩ | ⟨_,_,_,e2,rfl⟩<;>rw [e1,e2]<;>simp [Op.equalIn,run_underlying hu]
    · cases hb
theorem nil_run2 {t:TypeId} {k:NilK} {x y:AV} (d:Nat) (ht:NilT P t k) (hx:nilV M k false x) (hy:nilV M k true y):(Op.equalIn (d+1) t (bF M x) (bF M y)).run P w = .ok false w:=by
  cases k with
  | ptr=>
    obtain ⟨e,hu⟩:=ht
    obtain ⟨p,e1,hp⟩:=hx
    obtain ⟨q,e2,hq⟩:=hy
    rw [e1,e2]
    cases p<;>simp at hp
    cases q<;>simp at hq
    simp [Op.equalIn,run_underlying hu]
  | sl=>
    obtain ⟨e,hu⟩:=ht
    obtain ⟨p,n,c,e1,hp⟩:=hx
    obtain ⟨q,n',c',e2,hq⟩:=hy
    rw [e1,e2]
    cases p<;>simp at hp
    cases q<;>simp at hq
    simp [Op.equalIn,run_underlying hu]
  | mp=>
    obtain ⟨k,e,hu⟩:=ht
    obtain ⟨p,e1,hp⟩:=hx
    obtain ⟨q,e2,hq⟩:=hy
    rw [e1,e2]
    cases p<;>simp at hp
    cases q<;>simp at hq
    simp [Op.equalIn,run_underlying hu]
  | fn=>
    obtain ⟨p,r,c,hu⟩:=ht
    rcases hx with ⟨_,hb⟩ | ⟨_,_,_,e1,_⟩
    · cases hb
    · rcases hy with ⟨e2,_⟩ | ⟨_,_,_,_,hb⟩
      · rw [e1,e2]; simp [Op.equalIn,run_underlying hu]
      · cases hb
theorem nil_run {t:TypeId} {k:NilK} {x y:AV} {r:Bool} (ht:NilT P t k) (h:eqK (.nil k) x y=some r):(Op.equal t (bF M x) (bF M y)).run P w = .ok r w:=by
  simp only [eqK] at h
  split at h
  · rename_i b hx hy
    cases h
    exact nil_run1 9999 ht (DP hx) (DP hy)
  · rename_i hx hy
    cases h
    exact nil_run2 9999 ht (DP hx) (DP hy)
  · cases h
theorem azy {t:TypeId} {k:NilK} {b c:Bool} {x y:AV} (hx:nilV M k b x) (hy:nilV M k c y) :
    binOp .eql t (bF M x) (bF M y)=(do pure (.bool (← Op.equal t (bF M x) (bF M y))))∧binOp .neq t (bF M x) (bF M y)=(do pure (.bool (!(← Op.equal t (bF M x) (bF M y)))))∧
    ∀ op p q,eqGuard op t p q (bF M x) (bF M y)=pure ():=by
  cases k with
  | ptr=>
    obtain ⟨p,e1,_⟩:=hx
    obtain ⟨q,e2,_⟩:=hy
    rw [e1,e2]
    exact ⟨rfl,rfl,fun op p q=>by cases op<;>rfl⟩
  | sl=>
    obtain ⟨p,n,c,e1,_⟩:=hx
    obtain ⟨q,n',c',e2,_⟩:=hy
    rw [e1,e2]
    exact ⟨rfl,rfl,fun op p q=>by cases op<;>rfl⟩
  | mp=>
    obtain ⟨p,e1,_⟩:=hx
    obtain ⟨q,e2,_⟩:=hy
    rw [e1,e2]
    exact ⟨rfl,rfl,fun op p q=>by cases op<;>rfl⟩
  | fn=>
    rcases hx with ⟨e1,_⟩ | ⟨_,_,_,e1,_⟩<;>rcases hy with ⟨e2,_⟩ | ⟨_,_,_,e2,_⟩<;>rw [e1,e2]<;>
      exact ⟨rfl,rfl,fun op p q=>by cases op<;>rfl⟩
def EqT (P:Program) (t:TypeId):EqK→Prop
  | .nil k=>NilT P t k
  | .bool=>P.underlying t=some .bool
  | .plain ks=>JS P 8 t=some ks∧P.eqGuardType P.depth t=false∧Tq P t=some true
theorem wo {t u:TypeId} {k:EqK} {neg:Bool} {x y:Operand} {X Y:Opd} (ho:o.op = .binOp (if neg then .neq else .eql) t x y u) (hk:EqT P t k) (hx:opd nt x=some X) (hy:opd nt y=some Y)
    (ht:TmRel M D nt tm a) (hr:Rel M D H w) (h:opF (.eq k neg X Y) tm H=some (v,H')):Sound1 P w M D H (execOp a.eval o) v H':=by
  obtain ⟨u,hu,h1⟩:=cB h
  clear h
  obtain ⟨z,hz,h2⟩:=cB h1
  clear h1
  obtain ⟨r,hr',h⟩:=cB h2
  clear h2
  cases h
  obtain ⟨e1,k1⟩:=lR hx ht hu
  obtain ⟨e2,k2⟩:=lR hy ht hz
  refine Sound1.same hr ?_ (by simp [okv])
  cases k with
  | nil k=>
    have hrun:=nil_run (M:=M) (w:=w) hk hr'
    obtain ⟨b,c,hb,hc⟩:∃ b c,nilV M k b u∧nilV M k c z:=by
      simp only [eqK] at hr'
      split at hr'
      · rename_i b hx hy; exact ⟨_,_,DP hx,DP hy⟩
      · rename_i hx hy; exact ⟨_,_,DP hx,DP hy⟩
      · cases hr'
    obtain ⟨g1,g2,g3⟩:=azy (t:=t) hb hc
    cases neg<;>simp [execOp,ho,e1,e2,g1,g2,g3,hrun,bF]
  | bool=>
    simp only [eqK] at hr'
    split at hr'
    · rename_i p q
      cases hr'
      have hrun:=run_equal_bool (P:=P) w t p q hk
      have g:∀ op p' q',eqGuard op t p' q' (.bool p) (.bool q)=pure ():=fun op _ _=>by cases op<;>rfl
      have g1:binOp .eql t (.bool p) (.bool q)=(do pure (.bool (← Op.equal t (.bool p) (.bool q)))):=rfl
      have g2:binOp .neq t (.bool p) (.bool q)=(do pure (.bool (!(← Op.equal t (.bool p) (.bool q))))):=rfl
      cases neg<;>simp [execOp,ho,e1,e2,bF,g,g1,g2,hrun]
    · cases hr'
  | plain ks=>
    obtain ⟨hp,hg,ha⟩:=hk
    simp only [eqK] at hr'
    split at hr'
    · rename_i p q
      have hrun:=axm (P:=P) (M:=M) (w:=w) 8 t ks true hp ha p q r 10000 hr' (by omega)
      have hv1:bF M (.agg p)=pI M true p:=by simp [bF,pI,lX]
      have hv2:bF M (.agg q)=pI M true q:=by simp [bF,pI,lX]
      rw [hv1] at e1; rw [hv2] at e2
      have hrun':(Op.equal t (pI M true p) (pI M true q)).run P w = .ok r w:=hrun
      have g:∀ op p' q',(eqGuard op t p' q' (pI M true p) (pI M true q)).run P w = .ok () w:=fun op p' q'=>by
        simp only [pI,if_true]; exact run_eqGuard_agg w op t p' q' _ _ hg
      have g1:binOp .eql t (pI M true p) (pI M true q)=(do pure (.bool (← Op.equal t (pI M true p) (pI M true q)))):=rfl
      have g2:binOp .neq t (pI M true p) (pI M true q)=(do pure (.bool (!(← Op.equal t (pI M true p) (pI M true q))))):=rfl
      cases neg<;>simp [execOp,ho,e1,e2,g,g1,g2,hrun',bF]
    · cases hr'
theorem aAZ {z r:List AV} (h:Sm tm [] z=some r):r=z:=by
  have h':some z=some r:=h
  simpa using h'.symm
theorem ay7 {p:Nat × Nat × Opd} {parts:List (Nat × Nat × Opd)} {z r:List AV} (h:Sm tm (p::parts) z=some r) :
    ∃ v,ev tm p.2.2=some v∧v.cells.length=p.2.1∧p.1+p.2.1≤z.length∧(∀ l,v≠.tuple l)∧Sm tm parts (zP v.cells z p.1)=some r:=by
  have h':Option.casesOn (motive:=fun _=>Option (List AV)) (ev tm p.2.2) none (fun v=>
      match mv v.cells==p.2.1&&Nat.ble (p.1+p.2.1) (mv z)&&!(v matches .tuple _) with
      | true=>ah4 v.cells z p.1 (Sm tm parts)
      | false=>none)=some r:=h
  obtain ⟨v,hv,h1⟩:=cB h'
  split at h1
  · rename_i hb
    simp only [Bool.and_eq_true,beq_iff_eq,jC] at hb
    obtain ⟨⟨hb1,hb2⟩,hb3⟩:=hb
    rw [qQ] at h1
    exact ⟨v,hv,hb1,Nat.le_of_ble_eq_true hb2,(fun l e=>by rw [e] at hb3; cases hb3),h1⟩
  · cases h1
theorem alV {v:AV} (h:∀ l,v≠.tuple l) (hv:okv D v):(bF M v).cells=(v.cells.map (bF M)).toArray∧∀ u∈v.cells,okv D u∧u.isCell=true:=by
  cases v with
  | tuple l=>exact (h l rfl).elim
  | agg l=>
    simp only [okv] at hv
    exact ⟨by simp [bF,Value.cells,AV.cells,lX],fun u hu=>⟨(py D l).1 hv.1 u hu,hv.2 u hu⟩⟩
  | bool _=>exact ⟨by simp [bF,Value.cells,AV.cells],fun u hu=>by simp [AV.cells] at hu; subst hu; exact ⟨hv,rfl⟩⟩
  | int _ _=>exact ⟨by simp [bF,Value.cells,AV.cells],fun u hu=>by simp [AV.cells] at hu; subst hu; exact ⟨hv,rfl⟩⟩
  | str _=>exact ⟨by simp [bF,Value.cells,AV.cells],fun u hu=>by simp [AV.cells] at hu; subst hu; exact ⟨hv,rfl⟩⟩
  | ptr _ _=>exact ⟨by simp [bF,Value.cells,AV.cells],fun u hu=>by simp [AV.cells] at hu; subst hu; exact ⟨hv,rfl⟩⟩
  | nilptr=>exact ⟨by simp [bF,Value.cells,AV.cells],fun u hu=>by simp [AV.cells] at hu; subst hu; exact ⟨hv,rfl⟩⟩
  | slice _ _ _ _ _=>exact ⟨by simp [bF,Value.cells,AV.cells],fun u hu=>by simp [AV.cells] at hu; subst hu; exact ⟨hv,rfl⟩⟩
  | send _ _ _=>exact ⟨by simp [bF,Value.cells,AV.cells],fun u hu=>by simp [AV.cells] at hu; subst hu; exact ⟨hv,rfl⟩⟩
  | nilslice=>exact ⟨by simp [bF,Value.cells,AV.cells],fun u hu=>by simp [AV.cells] at hu; subst hu; exact ⟨hv,rfl⟩⟩
  | map _=>exact ⟨by simp [bF,Value.cells,AV.cells],fun u hu=>by simp [AV.cells] at hu; subst hu; exact ⟨hv,rfl⟩⟩
  | nilmap=>exact ⟨by simp [bF,Value.cells,AV.cells],fun u hu=>by simp [AV.cells] at hu; subst hu; exact ⟨hv,rfl⟩⟩
  | func _ _ _=>exact ⟨by simp [bF,Value.cells,AV.cells],fun u hu=>by simp [AV.cells] at hu; subst hu; exact ⟨hv,rfl⟩⟩
  | nilfunc=>exact ⟨by simp [bF,Value.cells,AV.cells],fun u hu=>by simp [AV.cells] at hu; subst hu; exact ⟨hv,rfl⟩⟩
  | iface _ _=>exact ⟨by simp [bF,Value.cells,AV.cells],fun u hu=>by simp [AV.cells] at hu; subst hu; exact ⟨hv,rfl⟩⟩
  | niliface=>exact ⟨by simp [bF,Value.cells,AV.cells],fun u hu=>by simp [AV.cells] at hu; subst hu; exact ⟨hv,rfl⟩⟩
theorem ayv {α β:Type} (f:α→β):∀ (xs l:List α) (off:Nat),(zP xs l off).map f=zP (xs.map f) (l.map f) off
  | [],_,_=>rfl
  | x::xs,l,off=>by simp [zP,ayv f xs]
theorem over_mem {α:Type} {xs l:List α} {off:Nat} {v:α} (h:v∈zP xs l off):v∈xs∨v∈l:=by
  induction xs generalizing l off with
  | nil=>exact .inr h
  | cons x xs ih=>
    rcases ih h with h | h
    · exact .inl (by simp [h])
    · rcases List.mem_or_eq_of_mem_set h with h | h
      · exact .inr h
      · exact .inl (by simp [h])
theorem arW:∀ (xs:List Value) (k:Nat) (l:List Value) (off:Nat),
    (xs.zipIdx k).foldl (fun (cs:Array Value) (c:Value × Nat)=>cs.setIfInBounds (off+c.2) c.1) l.toArray=(zP xs l (off+k)).toArray
  | [],_,_,_=>rfl
  | x::xs,k,l,off=>by
    simp only [List.zipIdx_cons,List.foldl_cons,zP]
    have:=arW xs (k+1) (l.set (off+k) x) off
    rw [show off+(k+1)=off+k+1 by omega] at this
    rw [← this]
    congr 1
    simp
theorem atZ (place:Nat→Option (Nat × Nat)) (parts:List (Nat × Operand)):∀ (L:List (Nat × Nat × Opd)) (z r:List AV),
    parts.length=L.length→(∀ (i:Nat) (p:Nat × Operand) (q:Nat × Nat × Opd),parts[i]?=some p→L[i]?=some q→place p.1=some (q.1,q.2.1)∧opd nt p.2=some q.2.2)→
    TmRel M D nt tm a→(∀ u∈z,okv D u∧u.isCell=true)→Sm tm L z=some r→
    Instr.fill place (z.map (bF M)).toArray (parts.map fun p=>(p.1,a.eval p.2))=some (r.map (bF M)).toArray∧∀ u∈r,okv D u∧u.isCell=true:=by
  induction parts with
  | nil=>
    intro L z r hl _ _ hz h
    cases L with
    | nil=>rw [aAZ h]; exact ⟨rfl,hz⟩
    | cons _ _=>cases hl
  | cons p parts ih=>
    intro L z r hl hp ht hz h
    cases L with
    | nil=>cases hl
    | cons q L=>
      obtain ⟨v,hv,h1,h2,h3,h4⟩:=ay7 h
      obtain ⟨hpl,hop⟩:=hp 0 p q rfl rfl
      obtain ⟨e,k⟩:=lR hop ht hv
      obtain ⟨c1,c2⟩:=alV (M:=M) h3 k
      have hz':∀ u∈zP v.cells z q.1,okv D u∧u.isCell=true:=fun u hu=>by
        rcases over_mem hu with hu | hu
        · exact c2 u hu
        · exact hz u hu
      obtain ⟨g1,g2⟩:=ih L _ r (by simpa using hl) (fun i p' q' h1 h2=>hp (i+1) p' q' (by simpa using h1) (by simpa using h2)) ht hz' h4
      refine ⟨?_,g2⟩
      simp only [List.map_cons,Instr.fill,hpl,e,c1]
      rw [if_neg (by simp; omega)]
      have hf:=arW (v.cells.map (bF M)) 0 (z.map (bF M)) q.1
      rw [Nat.add_zero, ← ayv] at hf
      rw [← g1]
      congr 1
      rw [← hf]
      rw [← Array.foldl_toList,Array.toList_zipIdx]
end
end Go.Ai
