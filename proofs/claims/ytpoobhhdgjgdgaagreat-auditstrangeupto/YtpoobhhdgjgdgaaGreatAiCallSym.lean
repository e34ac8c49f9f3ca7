/- Whole functions: code, results, calls. The main theorem of the interpreter. -/
import Derived.Test.YtpoobhhdgjgdgaaGreatAiMaskCode
set_option linter.all false
namespace Go.Ai
def LoopWp (P:Program) (c:Code) (Q:Exit→Act→World→Prop) (a:Act) (w:World):Prop:=
  ∀ (b:Frame) (k:List Item) (cs:List Frame),∃ e a' w',Q e a' w'∧Arrives P (lone (b.at a (.code c::.inLoop c::k)) cs w) b k cs e a' w'
section
variable {P:Program} {Q:Exit→Act→World→Prop} {a:Act} {w:World}
theorem LoopWp.wp {c:Code} (h:LoopWp P c Q a w):(Code.loop c).wp P Q a w:=fun b k cs=>
  let ⟨e,a',w',hq,harr⟩:=h b k cs
  ⟨e,a',w',hq,.of_steps (.one step_loop) harr⟩
theorem LoopWp.round {c:Code} (h:c.wp P (Exit.then (LoopWp P c Q) Q) a w):LoopWp P c Q a w:=by
  intro b k cs
  obtain ⟨e,a₁,w₁,hq,harr⟩:=h b (.inLoop c::k) cs
  cases e with
  | normal=>
    obtain ⟨e₂,a₂,w₂,hq₂,harr₂⟩:=hq b k cs
    exact ⟨e₂,a₂,w₂,hq₂,.of_steps (Steps.trans harr (.one step_inLoop)) harr₂⟩
  | exit id=>exact ⟨_,a₁,w₁,hq,.pass (x:=.inLoop c) rfl (fun _ _=>.inl (by simp)) harr⟩
  | goto l=>exact ⟨_,a₁,w₁,hq,.pass (x:=.inLoop c) rfl (fun _ _=>.inl (by simp)) harr⟩
  | ret=>exact ⟨_,a₁,w₁,hq,.pass (x:=.inLoop c) rfl (fun _ _=>.inl (by simp)) harr⟩
  | panic ch=>exact ⟨_,a₁,w₁,hq,.pass (x:=.inLoop c) rfl (fun _ _=>.inl (by simp)) harr⟩
  | outgrown=>exact ⟨_,a₁,w₁,hq,.pass (x:=.inLoop c) rfl (fun _ _=>.inl (by simp)) harr⟩
end
section
variable {P:Program} {tbl:Tr AFn} {nt:Nat} {M₀:Mp} {D₀:Nat→Prop} {H₀:Heap} {w₀:World}
def acZ (P:Program) (f:FuncId) (g:List AV→Heap→aa):Prop:=∀ vs H v H',g vs H = .ret v H'→∀ M D w,HpOk H→Rel M D H w→okL D vs→
  Calls P f (vs.map (im M)).toArray w (aaN M D H w v H')
structure TblOk (P:Program) (tbl:Tr AFn):Prop where
  mixed:P.follows .mixedOrders=true
  mono:dX tbl
  enters:∀ f x,tbl.get (key f)=some x→Enters P f
  code:∀ f ps body res,tbl.get (key f)=some (.code ps body res)→∃ fn m,P.funcs[f]?=some fn∧abA P fn m=some (.code ps body res)
  prim:∀ f g,tbl.get (key f)=some (.prim g)→acZ P f g
def CodeOk (P:Program) (ih:AC→St→Out):Prop:=∀ nt m c ac,Zk P nt m c=some ac→∀ s e s',ih ac s = .fin e s'→∀ M₀ D₀ H₀ w₀ a w,Good M₀ D₀ H₀ w₀ nt s a w→c.wp P (Post M₀ D₀ H₀ w₀ nt e s') a w
def LoopOk (P:Program) (ih:AC→St→Out):Prop:=∀ nt m c ac,Zk P nt m c=some ac→∀ s e s',ih (.loop ac) s = .fin e s'→∀ M₀ D₀ H₀ w₀ a w,Good M₀ D₀ H₀ w₀ nt s a w→LoopWp P c (Post M₀ D₀ H₀ w₀ nt e s') a w
theorem ajf:∀ (vs:List AV) (n m:Nat) (tm tm':Tr AV),Ka ((List.range' m n).map key) vs tm none some=some tm'→
    vs.length=n∧∀ t,tm'.get (key t)=if m≤t∧t<m+n then vs[t-m]? else tm.get (key t)
  | vs,0,m,tm,tm',h=>by
    cases vs with
    | nil=>
      have h':some tm=some tm':=h
      cases h'
      exact ⟨rfl,fun t=>by rw [if_neg (by omega)]⟩
    | cons v vs=>cases h
  | vs,n+1,m,tm,tm',h=>by
    rw [List.range'_succ,List.map_cons] at h
    cases vs with
    | nil=>cases h
    | cons v vs=>
      have h':Tr.setK (key m) v tm (fun tm'=>Ka ((List.range' (m+1) n).map key) vs tm' none some)=some tm':=h
      rw [Tr.fu] at h'
      obtain ⟨h1,h2⟩:=ajf vs n (m+1) _ _ h'
      refine ⟨by simp [h1],fun t=>?_⟩
      rw [h2 t]
      by_cases e:t=m
      · subst e
        rw [if_neg (by omega),if_pos (by omega),Tr.ft]; simp
      · rw [Tr.fq (fun k=>e (CC k).symm)]
        by_cases hc:m+1≤t∧t<m+1+n
        · rw [if_pos hc,if_pos (by omega)]
          have:t-m=(t-(m+1))+1:=by omega
          rw [this]; simp
        · rw [if_neg hc,if_neg (by omega)]
theorem anp {M:Mp} {D:Nat→Prop} {H:Heap} {w:World} {t:TypeId} {s:Nat × Bool} {b off:Nat} {l cs:List AV} {r:AV} (hs:Wl P t=some s) (hr:Rel M D H w) (k:D b)
    (hl:sm H b=some l) (hcs:sub l off s.1=some cs) (hp:HE s.2 cs=some r):(loadVar t ((M b).at off)).run P w = .ok (im M r) w∧okv D r:=by
  obtain ⟨s1,s2,s3⟩:=ace hs
  obtain ⟨rw_,g,hg⟩:=CS hl
  obtain ⟨q1,q2,q3⟩:=aaV (xM hr k hg) hcs
  obtain ⟨p1,p2⟩:=Uc (M:=M) hp
  refine ⟨?_,p2 D q2⟩
  have hlen:(cs.map (im M)).length=s.1:=by simp [q1]
  have hload:=run_loadCells_list (P:=P) w ⟨(M b).blk,(M b).base+off,none⟩ (cs.map (im M)) q3
  rw [hlen] at hload
  simp only [(xM hr k hg).at_at,loadVar,Sem.run_bind,Sem.run_pure,Result.andThen_ok,agJ s2,Sem.run_ite,p1,oV]
  cases hb:s.2 with
  | true=>simp only [if_true,nY s1,Result.andThen_ok,hload]
  | false=>
    have h1:=s3 hb
    rw [h1] at q1
    match cs,q1 with
    | [c],_=>
      have:=q3 0 (im M c) (by simp)
      rw [Addr.add_zero'] at this
      simp [this]
theorem resF_nil {s:St} {vs:List AV} (h:Zi s []=some vs):vs = []:=by
  have:some []=some vs:=h
  simpa using this.symm
noncomputable def resV (s:St) (r:Rv):Option AV:=Rv.casesOn r (fun p=>s.tm.get p) (fun p n agg=>Option.casesOn (s.tm.get p) none fun v=>match v with
        | .ptr b off=>Option.casesOn (sm s.hp b) none fun l=>Option.casesOn (sub l off n) none fun cs=>HE agg cs
        | _=>none)
theorem aqZ {s:St} {r:Rv} {rs:List Rv} {vs:List AV} (h:Zi s (r::rs)=some vs):∃ v us,resV s r=some v∧Zi s rs=some us∧vs=v::us:=by
  have h':(Option.casesOn (resV s r) none fun v=>Option.casesOn (Zi s rs) none fun us=>some (v::us):Option (List AV))=some vs:=h
  obtain ⟨v,hv,h1⟩:=iW h'
  obtain ⟨us,hus,h2⟩:=iW h1
  cases h2
  exact ⟨v,us,hv,hus,rfl⟩
def E4 (tmps:Array Value) (r:ResultVar):Sem Value:=match r with
  | .tmp t=>pure (tmps.getD t undef)
  | .cell a t=>do loadVar t (← asAddr (tmps.getD a undef))
theorem apx {M:Mp} {D:Nat→Prop} {s:St} {a:Act} {w:World} {r:ResultVar} {R:Rv} {v:AV} (hc:amL P nt r=some R) (ht:bX M D nt s.tm a) (hr:Rel M D s.hp w) (h:resV s R=some v) :
    (E4 a.tmps r).run P w = .ok (im M v) w∧okv D v:=by
  cases r with
  | tmp t=>
    simp only [amL] at hc
    split at hc
    · rename_i hlt
      cases hc
      have h':s.tm.get (key t)=some v:=by rw [← Li]; exact h
      obtain ⟨h1,h2⟩:=ht.at_ t v hlt h'
      exact ⟨by simp only [E4,Sem.run_pure,h1],h2⟩
    · cases hc
  | cell t ty=>
    simp only [amL,fT] at hc
    obtain ⟨z,hz,hc⟩:=hc
    split at hc
    · rename_i hlt
      cases hc
      simp only [resV] at h
      obtain ⟨u,hu,h1⟩:=iW h
      clear h
      rw [Li] at hu
      obtain ⟨e1,e2⟩:=ht.at_ t u hlt hu
      split at h1
      · obtain ⟨l,hl,h2⟩:=iW h1
        obtain ⟨cs,hcs,h3⟩:=iW h2
        simp only [okv] at e2
        obtain ⟨k1,k2⟩:=anp hz hr e2 hl hcs h3
        refine ⟨?_,k2⟩
        simp only [E4,e1,im,asAddr,pure_bind,k1]
      · cases h1
    · cases hc
theorem ain {M:Mp} {D:Nat→Prop} {s:St} {a:Act} {w:World} (ht:bX M D nt s.tm a) (hr:Rel M D s.hp w):∀ {rs:List ResultVar} {R:List Rv} {vs:List AV},abP P nt rs=some R→Zi s R=some vs→
    (rs.mapM (E4 a.tmps)).run P w = .ok (vs.map (im M)) w∧okL D vs
  | [],R,vs,hc,h=>by cases hc; rw [resF_nil h]; simp [okL]
  | r::rs,R,vs,hc,h=>by
    simp only [abP,fT,fF] at hc
    obtain ⟨R₁,h1,Rs,h2,rfl⟩:=hc
    obtain ⟨v,us,h3,h4,rfl⟩:=aqZ h
    obtain ⟨k1,k2⟩:=apx h1 ht hr h3
    obtain ⟨k3,k4⟩:=ain ht hr h2 h4
    refine ⟨?_,by simp [okL,k2,k4]⟩
    simp only [List.mapM_cons,Sem.run_bind,k1,Result.andThen_ok,k3,Sem.run_pure,List.map_cons]
theorem ajH {M:Mp} {D:Nat→Prop} {s:St} {a:Act} {w:World} {fn:Func} {R:List Rv} {vs:List AV} (hc:abP P nt fn.results.toList=some R) (ht:bX M D nt s.tm a) (hr:Rel M D s.hp w) (h:Zi s R=some vs) :
    (results fn a.tmps).run P w = .ok (im M (one vs)) w∧okv D (one vs):=by
  obtain ⟨h1,h2⟩:=ain ht hr hc h
  have e:results fn a.tmps=(do
      let vs ← fn.results.mapM (E4 a.tmps)
      pure (if h:vs.size=1 then vs[0] else .tuple vs)):=by
    unfold results E4
    rfl
  rw [e,Array.mapM_eq_mapM_toList]
  have ho:okv D (one vs):=by
    unfold one
    split
    · simpa [okL] using h2
    · exact h2
  refine ⟨?_,ho⟩
  simp only [Sem.run_bind,Sem.run_map,h1,Result.andThen_ok,Sem.run_pure]
  match vs with
  | []=>simp [one,im,pQ]
  | [v]=>simp [one]
  | u::v::l=>simp [one,im,pQ,mY]
theorem anB {ih:AC→St→Out} (T:TblOk P tbl) (hih:CodeOk P ih):eN P (rr tbl ih):=by
  intro fv args H v H' h
  obtain ⟨f,first,cap,hfv,h1⟩:=acg h
  clear h
  refine ⟨f,first,cap,hfv,fun M D w hp hr hok=>?_⟩
  rcases h1 with ⟨g,hg,hh⟩ | ⟨ps,body,res,tm,e,s,vs,hf,hb,hx,he,hres,rfl,rfl⟩
  · exact ⟨T.enters f _ hg,T.prim f g hg _ _ _ _ hh M D w hp hr hok⟩
  · refine ⟨T.enters f _ hf,?_⟩
    obtain ⟨fn,_,hfn,hc⟩:=T.code f ps body res hf
    unfold abA at hc
    simp only [fT] at hc
    obtain ⟨c,hbody,ac,hac,rs,hrs,hc⟩:=hc
    split at hc
    · rename_i hle
      cases hc
      have hps:(List.range (fn.params.size+fn.nfree)).map keyC=(List.range' 0 (fn.params.size+fn.nfree)).map key:=by
        rw [List.range_eq_range']; exact List.map_congr_left fun x _=>Li x
      rw [hps] at hb
      obtain ⟨hl,hget⟩:=ajf _ _ _ _ _ hb
      refine calls_of_wp hfn hbody ?_
      have hgood:Good M D H w fn.ntmps ⟨tm,H⟩ { tmps:=((first++(args++cap)).map (im M)).toArray++Array.replicate (fn.ntmps-((first++(args++cap)).map (im M)).toArray.size) undef,defers:=[] } w:=by
        refine ⟨M,D,.refl,hr,⟨by simp; omega,fun t u ht hu=>?_⟩,rfl,hp⟩
        rw [hget t] at hu
        split at hu
        · rename_i hlt
          simp only [Nat.sub_zero] at hu
          refine ⟨?_,(nL D _).1 hok u (fS hu)⟩
          have h1:(((first++(args++cap)).map (im M)).toArray++Array.replicate (fn.ntmps-((first++(args++cap)).map (im M)).toArray.size) undef)[t]?=some (im M u):=by
            rw [Array.getElem?_append_left (by rw [List.size_toArray,gu]; omega),List.getElem?_toArray,gy,hu]; rfl
          rw [Array.getD_eq_getD_getElem?,h1]; rfl
        · rw [Tr.fC] at hu; cases hu
      refine wp_mono (hih _ _ c _ hac _ _ _ hx M D H w _ _ hgood) fun x a' w' hpost=>?_
      obtain ⟨rfl,M',D',hx',hr',ht',hd',hp'⟩:=hpost
      obtain ⟨k1,k2⟩:=ajH hrs ht' hr' hres
      have fin:a'.defers = []∧∃ v,(results fn a'.tmps).run P w' = .ok v w'∧aaN M D H w (one vs) s.hp (.returned v) w':=⟨hd',_,k1,M',D',rfl,hr',hx',k2⟩
      rcases he with rfl | rfl
      · exact fin
      · exact fin
    · cases hc
theorem exec_ok (T:TblOk P tbl):∀ n,CodeOk P (tP tbl n)∧LoopOk P (tP tbl n):=by
  intro n
  induction n with
  | zero=>exact ⟨fun nt m c ac _ s e s' h=>(by cases h),fun nt m c ac _ s e s' h=>(by cases h)⟩
  | succ n ih=>
    obtain ⟨ihc,ihl⟩:=ih
    have hk:=anB T ihc
    have hm:cH (rr tbl (tP tbl n)):=Qy T.mono (akJ T.mono n)
    have loop:LoopOk P (tP tbl (n+1)):=by
      intro nt m c ac hc s e s' h M₀ D₀ H₀ w₀ a w hg
      refine LoopWp.round ?_
      rcases LS (cf:=rr tbl (tP tbl n)) h with ⟨s₁,h1,h2⟩ | ⟨h1,hne⟩
      · refine wp_mono (ihc nt m c ac hc _ _ _ h1 M₀ D₀ H₀ w₀ a w hg) fun x a' w' hp=>?_
        obtain ⟨rfl,hg'⟩:=hp
        exact ihl nt m c ac hc _ _ _ h2 M₀ D₀ H₀ w₀ a' w' hg'
      · refine wp_mono (ihc nt m c ac hc _ _ _ h1 M₀ D₀ H₀ w₀ a w hg) fun x a' w' hp=>?_
        obtain ⟨rfl,hg'⟩:=hp
        cases e with
        | nrm=>exact (hne rfl).elim
        | exi id=>exact ⟨rfl,hg'⟩
        | ret=>exact ⟨rfl,hg'⟩
    refine ⟨?_,loop⟩
    intro nt m c
    induction c with
    | skip=>
      intro ac hc s e s' h M₀ D₀ H₀ w₀ a w hg
      cases hc
      have h':Out.fin .nrm s = .fin e s':=h
      cases h'
      exact wp_skip ⟨rfl,hg⟩
    | region id ops draw=>
      intro ac hc s e s' h M₀ D₀ H₀ w₀ a w hg
      exact ard T.mixed hk hm hc h hg
    | seq x y=>
      intro ac hc s e s' h M₀ D₀ H₀ w₀ a w hg
      simp only [Zk,fT,Option.some.injEq] at hc
      obtain ⟨ax,hx,ay,hy,rfl⟩:=hc
      refine wp_seq ?_
      rcases QC (cf:=rr tbl (tP tbl n)) h with ⟨s₁,h1,h2⟩ | ⟨h1,hne⟩
      · refine wp_mono (ihc nt m x ax hx _ _ _ h1 M₀ D₀ H₀ w₀ a w hg) fun z a' w' hp=>?_
        obtain ⟨rfl,hg'⟩:=hp
        exact ihc nt m y ay hy _ _ _ h2 M₀ D₀ H₀ w₀ a' w' hg'
      · refine wp_mono (ihc nt m x ax hx _ _ _ h1 M₀ D₀ H₀ w₀ a w hg) fun z a' w' hp=>?_
        obtain ⟨rfl,hg'⟩:=hp
        cases e with
        | nrm=>exact (hne rfl).elim
        | exi id=>exact ⟨rfl,hg'⟩
        | ret=>exact ⟨rfl,hg'⟩
    | cond b x y=>
      intro ac hc s e s' h M₀ D₀ H₀ w₀ a w hg
      simp only [Zk,fT,Option.some.injEq] at hc
      obtain ⟨B,hB,ax,hx,ay,hy,rfl⟩:=hc
      obtain ⟨t,ht,h1⟩:=LF (cf:=rr tbl (tP tbl n)) h
      have hg':=hg
      obtain ⟨M,D,_,_,htm,_,_⟩:=hg'
      obtain ⟨e1,_⟩:=mK hB htm ht
      refine wp_cond e1 ?_
      cases t with
      | true=>exact ihc nt m x ax hx _ _ _ h1 M₀ D₀ H₀ w₀ a w hg
      | false=>exact ihc nt m y ay hy _ _ _ h1 M₀ D₀ H₀ w₀ a w hg
    | block id x=>
      intro ac hc s e s' h M₀ D₀ H₀ w₀ a w hg
      simp only [Zk,fF] at hc
      obtain ⟨ax,hx,rfl⟩:=hc
      obtain ⟨e₁,h1,h2⟩:=Uu (cf:=rr tbl (tP tbl n)) h
      refine wp_block (wp_mono (ihc nt m x ax hx _ _ _ h1 M₀ D₀ H₀ w₀ a w hg) fun z a' w' hp=>?_)
      obtain ⟨rfl,hg'⟩:=hp
      cases e₁ with
      | nrm=>simp only at h2; subst h2; exact ⟨rfl,hg'⟩
      | ret=>simp only at h2; subst h2; exact ⟨rfl,hg'⟩
      | exi i=>
        simp only at h2
        show if i=id then _ else _
        by_cases hi:i=id
        · rw [if_pos hi] at h2 ⊢; subst h2; exact ⟨rfl,hg'⟩
        · rw [if_neg hi] at h2 ⊢; subst h2; exact ⟨rfl,hg'⟩
    | loop x=>
      intro ac hc s e s' h M₀ D₀ H₀ w₀ a w hg
      simp only [Zk,fF] at hc
      obtain ⟨ax,hx,rfl⟩:=hc
      exact (loop nt m x ax hx s e s' h M₀ D₀ H₀ w₀ a w hg).wp
    | rangeFunc f ps as bd=>intro ac hc; cases hc
    | exit id=>
      intro ac hc s e s' h M₀ D₀ H₀ w₀ a w hg
      cases hc
      have h':Out.fin (.exi id) s = .fin e s':=h
      cases h'
      exact wp_exit ⟨rfl,hg⟩
    | scope x ihx=>
      intro ac hc s e s' h M₀ D₀ H₀ w₀ a w hg
      simp only [Zk] at hc
      refine wp_scope_straight (wp_mono (ihx ac hc s e s' h M₀ D₀ H₀ w₀ a w hg) fun z a' w' hp=>?_)
      obtain ⟨rfl,hg'⟩:=hp
      cases e<;>exact ⟨rfl,hg'⟩
    | label l=>
      intro ac hc s e s' h M₀ D₀ H₀ w₀ a w hg
      cases hc
      have h':Out.fin .nrm s = .fin e s':=h
      cases h'
      exact wp_label ⟨rfl,hg⟩
    | goto l=>intro ac hc; cases hc
    | ret=>
      intro ac hc s e s' h M₀ D₀ H₀ w₀ a w hg
      cases hc
      have h':Out.fin .ret s = .fin e s':=h
      cases h'
      exact wp_ret ⟨rfl,hg⟩
    | refuse why=>intro ac hc; cases hc
theorem apV (T:TblOk P tbl) (n:Nat):eN P (call tbl n):=anB T (exec_ok T n).1
end
end Go.Ai
/- The interpreter without fuel, and rules to show what a run does. -/
namespace Go.Ai
section
variable {tbl:Tr AFn}
def CfLe (cf cf':cj):Prop:=∀ fv args H v H',cf fv args H = .ret v H'→cf' fv args H = .ret v H'
def IhLe (ih ih':AC→St→Out):Prop:=∀ c s e s',ih c s = .fin e s'→ih' c s = .fin e s'
theorem W4 {cf cf':cj} (h:CfLe cf cf') {x:Ins} {tm:Tr AV} {H:Heap} {r:AV × Heap} (hr:nQ cf x tm H=some r):nQ cf' x tm H=some r:=by
  cases x with
  | op g d o=>exact hr
  | call g d q f args=>
    simp only [nQ] at hr ⊢
    split at hr
    · cases hr
    · exact hr
    · split at hr
      · split at hr
        · cases hr
        · rename_i he; rw [h _ _ _ _ _ he]; exact hr
      · cases hr
theorem amm {cf cf':cj} (h:CfLe cf cf'):∀ {l:List Ins} {s:St} {e:Ex} {s':St},OH cf l s = .fin e s'→OH cf' l s = .fin e s'
  | [],_,_,_,hr=>hr
  | x::l,s,e,s',hr=>by
    obtain ⟨s₁,h1,h2⟩:=NS hr
    have h3:afs cf' x s=some s₁:=by
      obtain ⟨tm,H⟩:=s
      rw [WX] at h1 ⊢
      cases hv:nQ cf x tm H with
      | none=>rw [hv] at h1; cases h1
      | some r=>rw [W4 h hv]; rw [hv] at h1; exact h1
    show (Option.casesOn (afs cf' x s) .err (OH cf' l):Out)=_
    rw [h3]
    exact amm h h2
theorem aaL {cf cf':cj} (h:CfLe cf cf') {x:Ins} {tm:Tr AV} {H:Heap} {v:AV} (hr:Kl cf x tm H v=true):Kl cf' x tm H v=true:=by
  unfold Kl at hr ⊢
  cases hv:nQ cf x tm H with
  | none=>rw [hv] at hr; cases hr
  | some r=>rw [hv] at hr; rw [W4 h hv]; exact hr
theorem abc {α:Type} {f g:α→Bool} (h:∀ x,f x=true→g x=true):∀ {l:List α},Xk f l=true→Xk g l=true
  | [],_=>rfl
  | y::l,hr=>by
    have h0:(Bool.casesOn (f y) false (Xk f l):Bool)=true:=hr
    show (Bool.casesOn (g y) false (Xk g l):Bool)=true
    cases hy:f y with
    | false=>rw [hy] at h0; cases h0
    | true=>rw [hy] at h0; rw [h y hy]; exact abc h h0
theorem agW {cf cf':cj} (h:CfLe cf cf'):∀ {us:List UI} {j:Nat} {sn:List (Nat × Heap)} {sv:List (Nat × Sv)} {s:St} {e:Ex} {s':St},Ky cf us j sn sv s = .fin e s'→Ky cf' us j sn sv s = .fin e s'
  | [],_,_,_,_,_,_,hr=>hr
  | u::us,j,sn,sv,s,e,s',hr=>by
    simp only [Ky] at hr ⊢
    cases hv:nQ cf u.x s.tm s.hp with
    | none=>rw [hv] at hr; cases hr
    | some r=>
      rw [hv] at hr; rw [W4 h hv]
      dsimp only at hr ⊢
      split at hr
      · cases hr
      · rename_i hok
        rw [fV] at hok
        have h1:backF cf' u.x s.tm r.1 sn u.back=true:=abc (fun k hk=>by
          cases hf:Gg k sn with
          | none=>rw [hf] at hk; cases hk
          | some K=>rw [hf] at hk; exact aaL h hk) hok.1
        have h2:ah3 cf' r.2 sv u.again=true:=abc (fun i hi=>by
          cases hf:Gg i sv with
          | none=>rw [hf] at hi; cases hi
          | some y=>
            rw [hf] at hi
            dsimp only at hi ⊢
            cases hd:Kl cf y.x y.tm r.2 y.v with
            | false=>rw [hd] at hi; cases hi
            | true=>rw [hd] at hi; rw [aaL h hd]; exact hi) hok.2
        rw [h1,h2]
        exact agW h hr
theorem akY:∀ (ps:List P) (vs:List AV) (tm tm':Tr AV) (e:aa) (k:Tr AV→aa),Ka ps vs tm none some=some tm'→Ka ps vs tm e k=k tm'
  | [],[],tm,tm',e,k,h=>by have h':some tm=some tm':=h; cases h'; rfl
  | [],_::_,tm,tm',e,k,h=>by cases h
  | p::ps,[],tm,tm',e,k,h=>by cases h
  | p::ps,v::vs,tm,tm',e,k,h=>by
    have h':Tr.setK p v tm (fun tm'=>Ka ps vs tm' none some)=some tm':=h
    show Tr.setK p v tm (fun tm'=>Ka ps vs tm' e k)=k tm'
    rw [Tr.fu] at h' ⊢
    exact akY ps vs _ _ e k h'
theorem Zp {ih:AC→St→Out} {f:Nat} {first cap args:List AV} {H:Heap} {ps:List P} {body:AC} {res:List Rv} {tm:Tr AV} {e:Ex} {s:St} {vs:List AV}
    (hf:tbl.get (key f)=some (.code ps body res)) (hb:Ka ps (first++(args++cap)) .leaf none some=some tm) (hi:ih body ⟨tm,H⟩ = .fin e s) (he:e = .nrm∨e = .ret) (hr:Zi s res=some vs) :
    rr tbl ih (.func f first cap) args H = .ret (one vs) s.hp:=by
  simp only [rr,hf,th,id]
  rw [akY _ _ _ _ _ _ hb,hi]
  rcases he with rfl | rfl<;>(dsimp only; rw [hr])
theorem aon {ih ih':AC→St→Out} (h:IhLe ih ih'):CfLe (rr tbl ih) (rr tbl ih'):=by
  intro fv args H v H' hc
  obtain ⟨f,first,cap,rfl,hor⟩:=acg hc
  rcases hor with ⟨g,hg,hh⟩ | ⟨ps,body,res,tm,e,s,vs,hf,hb,hx,he,hres,rfl,rfl⟩
  · simp only [rr,hg,th,id]; exact hh
  · exact Zp hf hb (h _ _ _ _ hx) he hres
theorem step_le {cf cf':cj} {ih ih':AC→St→Out} (hc:CfLe cf cf') (h:IhLe ih ih'):IhLe (step cf ih) (step cf' ih'):=by
  intro c s e s' hr
  cases c with
  | skip=>exact hr
  | reg l=>exact amm hc hr
  | regU l=>exact agW hc hr
  | seq a b=>
    rcases QC hr with ⟨s₁,h1,h2⟩ | ⟨h1,hne⟩
    · simp only [step]; rw [h _ _ _ _ h1]; exact h _ _ _ _ h2
    · simp only [step]; rw [h _ _ _ _ h1]; cases e<;>first | exact (hne rfl).elim | rfl
  | cond c a b=>
    obtain ⟨t,h1,h2⟩:=LF hr
    simp only [step]; rw [h1]
    cases t<;>exact h _ _ _ _ h2
  | block id a=>
    simp only [step] at hr ⊢
    cases ha:ih a s with
    | err=>rw [ha] at hr; cases hr
    | fin e₁ s₁=>rw [ha] at hr; rw [h _ _ _ _ ha]; exact hr
  | loop a=>
    rcases LS hr with ⟨s₁,h1,h2⟩ | ⟨h1,hne⟩
    · simp only [step]; rw [h _ _ _ _ h1]; exact h _ _ _ _ h2
    · simp only [step]; rw [h _ _ _ _ h1]; cases e<;>first | exact (hne rfl).elim | rfl
  | exit id=>exact hr
  | ret=>exact hr
theorem Qi:∀ n,IhLe (tP tbl n) (tP tbl (n+1))
  | 0=>fun c s e s' h=>by cases h
  | n+1=>step_le (aon (Qi n)) (Qi n)
theorem abz {n m:Nat} (h:n≤m):IhLe (tP tbl n) (tP tbl m):=by
  induction m with
  | zero=>have:n=0:=by omega
          subst this; exact fun _ _ _ _ h=>h
  | succ m ih=>
    by_cases e:n=m+1
    · subst e; exact fun _ _ _ _ h=>h
    · exact fun c s x s' hx=>Qi m _ _ _ _ (ih (by omega) c s x s' hx)
theorem P1 {n m:Nat} (h:n≤m):CfLe (call tbl n) (call tbl m):=aon (abz h)
def Wp (tbl:Tr AFn) (c:AC) (s:St) (Q:Ex→St→Prop):Prop:=∃ n e s',tP tbl n c s = .fin e s'∧Q e s'
def WpR (tbl:Tr AFn) (l:List Ins) (s:St) (K:St→Prop):Prop:=∃ n s',OH (call tbl n) l s = .fin .nrm s'∧K s'
theorem Wp.mono {c:AC} {s:St} {Q Q':Ex→St→Prop} (h:Wp tbl c s Q) (k:∀ e s,Q e s→Q' e s):Wp tbl c s Q':=
  let ⟨n,e,s',h1,h2⟩:=h; ⟨n,e,s',h1,k _ _ h2⟩
theorem Wp.skip {s:St} {Q:Ex→St→Prop} (h:Q .nrm s):Wp tbl .skip s Q:=⟨1,.nrm,s,rfl,h⟩
theorem Wp.exit {id:Nat} {s:St} {Q:Ex→St→Prop} (h:Q (.exi id) s):Wp tbl (.exit id) s Q:=⟨1,.exi id,s,rfl,h⟩
theorem Wp.ret {s:St} {Q:Ex→St→Prop} (h:Q .ret s):Wp tbl .ret s Q:=⟨1,.ret,s,rfl,h⟩
theorem Wp.reg {l:List Ins} {s:St} {Q:Ex→St→Prop} (h:WpR tbl l s (Q .nrm)):Wp tbl (.reg l) s Q:=by
  obtain ⟨n,s',h1,h2⟩:=h
  exact ⟨n+1,.nrm,s',h1,h2⟩
theorem Wp.regU {l:List UI} {s:St} {Q:Ex→St→Prop} {n:Nat} {s':St} (h:Ky (call tbl n) l 0 [] [] s = .fin .nrm s') (hQ:Q .nrm s'):Wp tbl (.regU l) s Q:=⟨n+1,.nrm,s',h,hQ⟩
def Ex.thn (Q:Ex→St→Prop) (K:St→Prop):Ex→St→Prop
  | .nrm,s=>K s
  | e,s=>Q e s
theorem Wp.seq {a b:AC} {s:St} {Q:Ex→St→Prop} (h:Wp tbl a s (Ex.thn Q fun s=>Wp tbl b s Q)):Wp tbl (.seq a b) s Q:=by
  obtain ⟨n,e,s₁,h1,h2⟩:=h
  cases e with
  | nrm=>
    obtain ⟨m,e,s₂,h3,h4⟩:=h2
    refine ⟨max n m+1,e,s₂,?_,h4⟩
    show step (rr tbl (tP tbl (max n m))) (tP tbl (max n m)) (.seq a b) s=_
    simp only [step]
    rw [abz (Nat.le_max_left n m) _ _ _ _ h1]
    exact abz (Nat.le_max_right n m) _ _ _ _ h3
  | exi id=>exact ⟨n+1,.exi id,s₁,by show step (rr tbl (tP tbl n)) (tP tbl n) (.seq a b) s=_; simp only [step]; rw [h1],h2⟩
  | ret=>exact ⟨n+1,.ret,s₁,by show step (rr tbl (tP tbl n)) (tP tbl n) (.seq a b) s=_; simp only [step]; rw [h1],h2⟩
theorem Wp.cond {c:Opd} {a b:AC} {s:St} {Q:Ex→St→Prop} {t:Bool} (hc:ev s.tm c=some (.bool t)) (h:Wp tbl (if t then a else b) s Q):Wp tbl (.cond c a b) s Q:=by
  obtain ⟨n,e,s₁,h1,h2⟩:=h
  refine ⟨n+1,e,s₁,?_,h2⟩
  show step (rr tbl (tP tbl n)) (tP tbl n) (.cond c a b) s=_
  simp only [step]
  rw [hc]
  cases t<;>exact h1
def Ex.blk (id:Nat) (Q:Ex→St→Prop):Ex→St→Prop
  | .exi i,s=>if i=id then Q .nrm s else Q (.exi i) s
  | e,s=>Q e s
theorem Wp.block {id:Nat} {a:AC} {s:St} {Q:Ex→St→Prop} (h:Wp tbl a s (Ex.blk id Q)):Wp tbl (.block id a) s Q:=by
  obtain ⟨n,e,s₁,h1,h2⟩:=h
  cases e with
  | nrm=>exact ⟨n+1,.nrm,s₁,by show step (rr tbl (tP tbl n)) (tP tbl n) (.block id a) s=_; simp only [step]; rw [h1],h2⟩
  | ret=>exact ⟨n+1,.ret,s₁,by show step (rr tbl (tP tbl n)) (tP tbl n) (.block id a) s=_; simp only [step]; rw [h1],h2⟩
  | exi i=>
    by_cases hi:i=id
    · subst hi
      refine ⟨n+1,.nrm,s₁,?_,by simpa [Ex.blk] using h2⟩
      show step (rr tbl (tP tbl n)) (tP tbl n) (.block i a) s=_
      simp only [step]; rw [h1]
      dsimp only
      rw [show Nat.beq i i=true from Nat.beq_refl i]
    · refine ⟨n+1,.exi i,s₁,?_,by simpa [Ex.blk,hi] using h2⟩
      show step (rr tbl (tP tbl n)) (tP tbl n) (.block id a) s=_
      simp only [step]; rw [h1]
      dsimp only
      have:Nat.beq i id=false:=by cases hb:Nat.beq i id with
        | false=>rfl
        | true=>exact (hi (gb hb)).elim
      rw [this]
theorem Wp.round {a:AC} {s:St} {Q:Ex→St→Prop} (h:Wp tbl a s (Ex.thn Q fun s=>Wp tbl (.loop a) s Q)):Wp tbl (.loop a) s Q:=by
  obtain ⟨n,e,s₁,h1,h2⟩:=h
  cases e with
  | nrm=>
    obtain ⟨m,e,s₂,h3,h4⟩:=h2
    refine ⟨max n m+1,e,s₂,?_,h4⟩
    show step (rr tbl (tP tbl (max n m))) (tP tbl (max n m)) (.loop a) s=_
    simp only [step]
    rw [abz (Nat.le_max_left n m) _ _ _ _ h1]
    exact abz (Nat.le_max_right n m) _ _ _ _ h3
  | exi id=>exact ⟨n+1,.exi id,s₁,by show step (rr tbl (tP tbl n)) (tP tbl n) (.loop a) s=_; simp only [step]; rw [h1],h2⟩
  | ret=>exact ⟨n+1,.ret,s₁,by show step (rr tbl (tP tbl n)) (tP tbl n) (.loop a) s=_; simp only [step]; rw [h1],h2⟩
theorem WpR.nil {s:St} {K:St→Prop} (h:K s):WpR tbl [] s K:=⟨0,s,rfl,h⟩
theorem WpR.cons {x:Ins} {l:List Ins} {tm:Tr AV} {H:Heap} {K:St→Prop} {n:Nat} {v:AV} {H':Heap} (hv:nQ (call tbl n) x tm H=some (v,H')) (h:WpR tbl l ⟨tm.putO x.dst v,H'⟩ K):WpR tbl (x::l) ⟨tm,H⟩ K:=by
  obtain ⟨m,s',h1,h2⟩:=h
  refine ⟨max n m,s',?_,h2⟩
  show (Option.casesOn (afs (call tbl (max n m)) x ⟨tm,H⟩) .err (OH (call tbl (max n m)) l):Out)=_
  rw [WX,W4 (P1 (Nat.le_max_left n m)) hv]
  exact amm (P1 (Nat.le_max_right n m)) h1
end
end Go.Ai
