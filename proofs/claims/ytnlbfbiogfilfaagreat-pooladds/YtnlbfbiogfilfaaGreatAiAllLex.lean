/- Every operation that the compiler takes is the model's. -/
import Derived.Test.YtnlbfbiogfilfaaGreatAiApp
import Derived.Test.YtnlbfbiogfilfaaGreatAiMonoRun
import Derived.Orders
set_option linter.all false
namespace Go.Ai
section
variable {P:Program} {nt:Nat} {M:Mp} {D:Nat→Prop} {tm:Tr AV} {a:Act} {w:World} {H H':Heap} {v:AV} {o:Oper}
theorem auZ {op:BinOp} {t u:TypeId} {x y:Operand} {X Y:Opd} {ao:AOp} (ho:o.op = .binOp op t x y u) (hx:opd nt x=some X) (hy:opd nt y=some Y) (hc:awj P op t X Y=some ao)
    (ht:TmRel M D nt tm a) (hr:Rel M D H w) (h:opF ao tm H=some (v,H')):Sound1 P w M D H (execOp a.eval o) v H':=by
  unfold awj at hc
  split at hc
  · cases hc; exact avl ho hx hy ht hr h
  · cases hc; exact avl ho hx hy ht hr h
  · rename_i hu
    split at hc
    · cases hc; exact wo (neg:=false) (k:=.bool) (by simpa using ho) hu hx hy ht hr h
    · cases hc; exact wo (neg:=true) (k:=.bool) (by simpa using ho) hu hx hy ht hr h
    · cases hc
  · rename_i hu
    split at hc
    · cases hc; exact wo (neg:=false) (k:=.nil .ptr) (by simpa using ho) ⟨_,hu⟩ hx hy ht hr h
    · cases hc; exact wo (neg:=true) (k:=.nil .ptr) (by simpa using ho) ⟨_,hu⟩ hx hy ht hr h
    · cases hc
  · rename_i hu
    split at hc
    · cases hc; exact wo (neg:=false) (k:=.nil .sl) (by simpa using ho) ⟨_,hu⟩ hx hy ht hr h
    · cases hc; exact wo (neg:=true) (k:=.nil .sl) (by simpa using ho) ⟨_,hu⟩ hx hy ht hr h
    · cases hc
  · rename_i hu
    split at hc
    · cases hc; exact wo (neg:=false) (k:=.nil .mp) (by simpa using ho) ⟨_,_,hu⟩ hx hy ht hr h
    · cases hc; exact wo (neg:=true) (k:=.nil .mp) (by simpa using ho) ⟨_,_,hu⟩ hx hy ht hr h
    · cases hc
  · rename_i hu
    split at hc
    · cases hc; exact wo (neg:=false) (k:=.nil .fn) (by simpa using ho) ⟨_,_,_,hu⟩ hx hy ht hr h
    · cases hc; exact wo (neg:=true) (k:=.nil .fn) (by simpa using ho) ⟨_,_,_,hu⟩ hx hy ht hr h
    · cases hc
  · rename_i hu
    split at hc
    · cases hc
    · rename_i hg
      obtain ⟨ks,hks,hc⟩:=Option.bind_eq_some_iff.1 hc
      have hE:EqT P t (.plain ks):=⟨hks,by simpa using hg,by simp [Tq,hu]⟩
      split at hc
      · cases hc; exact wo (neg:=false) (by simpa using ho) hE hx hy ht hr h
      · cases hc; exact wo (neg:=true) (by simpa using ho) hE hx hy ht hr h
      · cases hc
  · rename_i hu
    split at hc
    · cases hc
    · rename_i hg
      obtain ⟨ks,hks,hc⟩:=Option.bind_eq_some_iff.1 hc
      have hE:EqT P t (.plain ks):=⟨hks,by simpa using hg,by simp [Tq,hu]⟩
      split at hc
      · cases hc; exact wo (neg:=false) (by simpa using ho) hE hx hy ht hr h
      · cases hc; exact wo (neg:=true) (by simpa using ho) hE hx hy ht hr h
      · cases hc
  · cases hc
theorem Lp {t e:TypeId} (h:Oo P t=some e):P.underlying t=some (.slice e):=by
  unfold Oo at h
  split at h
  · rename_i hu; cases h; exact hu
  · cases h
theorem amN {b:Builtin} {ats:Array TypeId} {args:Array Operand} {ao:AOp} (ho:o.op = .call { callee:=.builtin b,args,argTypes:=ats }) (hc:afX P nt b ats.toList args.toList=some ao)
    (ht:TmRel M D nt tm a) (hr:Rel M D H w) (h:opF ao tm H=some (v,H')):Sound1 P w M D H (execOp a.eval o) v H':=by
  unfold afX at hc
  split at hc
  · rename_i t x e1 e2
    obtain ⟨X,hX,hc⟩:=Option.bind_eq_some_iff.1 hc
    split at hc
    · rename_i hu; cases hc; exact T6 ho e1 e2 hu (.inl ⟨rfl,rfl⟩) hX ht hr h
    · rename_i hu; cases hc; exact T6 ho e1 e2 hu (.inr (.inl ⟨_,_,rfl,rfl⟩)) hX ht hr h
    · rename_i hu; cases hc; exact T6 ho e1 e2 hu (.inr (.inr ⟨_,rfl,rfl⟩)) hX ht hr h
    · rename_i hu; cases hc; exact awf ho e1 e2 hu hX ht hr h
    · cases hc
  · rename_i t u x y e1 e2
    simp only [Option.bind_eq_some_iff] at hc
    obtain ⟨e,he,i,hi,z,hz,X,hX,Y,hY,hc⟩:=hc
    split at hc
    · rename_i hb
      simp only [Bool.and_eq_true,decide_eq_true_eq,beq_iff_eq] at hb
      cases hc
      exact awg ho e1 e2 (Lp he) hi hz hb.1.2 hb.1.1.2 hb.2 hX hY ht hr h
    · cases hc
  · rename_i t u x y e1 e2
    simp only [Option.bind_eq_some_iff] at hc
    obtain ⟨e,he,s,hs,X,hX,Y,hY,hc⟩:=hc
    split at hc
    · cases hc
      exact ayM ho e1 e2 (Lp he) hs hX hY ht hr h
    · cases hc
  · rename_i t x e1 e2
    simp only [Option.bind_eq_some_iff] at hc
    obtain ⟨e,he,z,hz,X,hX,hc⟩:=hc
    split at hc
    · rename_i hp
      cases hc
      exact aym ho e1 e2 (Lp he) hz hp hX ht hr h
    · cases hc
  · rename_i t t2 x y e1 e2
    simp only [Option.bind_eq_some_iff] at hc
    obtain ⟨X,hX,Y,hY,hc⟩:=hc
    split at hc
    · rename_i hu
      obtain ⟨kk,hk,hc⟩:=Option.bind_eq_some_iff.1 hc
      cases hc
      exact awn ho e1 e2 hu (awG hk) hX hY ht hr h
    · cases hc
  · obtain ⟨L,hL,hc⟩:=Option.bind_eq_some_iff.1 hc
    cases hc
    exact ano (mx:=true) (by simpa using ho) hL ht hr h
  · obtain ⟨L,hL,hc⟩:=Option.bind_eq_some_iff.1 hc
    cases hc
    exact ano (mx:=false) (by simpa using ho) hL ht hr h
  · cases hc
theorem op_sound {op:Op} {ao:AOp} (ho:o.op=op) (hc:aze P nt op=some ao) (ht:TmRel M D nt tm a) (hr:Rel M D H w) (h:opF ao tm H=some (v,H')):Sound1 P w M D H (execOp a.eval o) v H':=by
  unfold aze at hc
  split at hc
  · obtain ⟨X,hX,rfl⟩:=Option.map_eq_some_iff.1 hc
    exact avg (.inl ho) hX ht hr h
  · obtain ⟨X,hX,rfl⟩:=Option.map_eq_some_iff.1 hc
    exact avg (.inr ho) hX ht hr h
  · simp only [Option.bind_eq_some_iff,Option.some.injEq] at hc
    obtain ⟨C,hC,X,hX,Y,hY,rfl⟩:=hc
    exact azA ho hC hX hY ht hr h
  · simp only [Option.bind_eq_some_iff,Option.some.injEq] at hc
    obtain ⟨z,hz,rfl⟩:=hc
    exact ayn ho hz hr h
  · simp only [Option.bind_eq_some_iff,Option.some.injEq] at hc
    obtain ⟨X,hX,rfl⟩:=hc
    exact aBm ho hX ht hr h
  · obtain ⟨z,hz,hc⟩:=Option.bind_eq_some_iff.1 hc
    split at hc
    · rename_i hu
      simp only [Option.bind_eq_some_iff,Option.some.injEq] at hc
      obtain ⟨ps,hps,l,hl,rfl⟩:=hc
      exact alE ho hz hu hps hl ht hr h
    · rename_i hu
      simp only [Option.bind_eq_some_iff,Option.some.injEq] at hc
      obtain ⟨s,hs,l,hl,rfl⟩:=hc
      exact anp ho hz hu hs hl ht hr h
    · cases hc
  · simp only [Option.bind_eq_some_iff] at hc
    obtain ⟨e,he,s,hs,z,hz,hc⟩:=hc
    split at hc
    · rename_i hb
      simp only [Bool.and_eq_true,decide_eq_true_eq,beq_iff_eq] at hb
      simp only [Option.bind_eq_some_iff,Option.some.injEq] at hc
      obtain ⟨l,hl,rfl⟩:=hc
      exact apb ho (Lp he) hs hz hb.1 hb.2 hl ht hr h
    · cases hc
  · simp only [Option.bind_eq_some_iff,Option.some.injEq] at hc
    obtain ⟨s,hs,X,hX,rfl⟩:=hc
    exact ayK ho hs hX ht hr h
  · simp only [Option.bind_eq_some_iff,Option.some.injEq] at hc
    obtain ⟨n,hn,X,hX,Y,hY,rfl⟩:=hc
    exact ax8 ho hn hX hY ht hr h
  · simp only [Option.bind_eq_some_iff,Option.some.injEq] at hc
    obtain ⟨X,hX,rfl⟩:=hc
    exact axa ho hX ht hr h
  · simp only [Option.bind_eq_some_iff] at hc
    obtain ⟨X,hX,Y,hY,hc⟩:=hc
    exact auZ ho hX hY hc ht hr h
  · simp only [Option.bind_eq_some_iff,Option.some.injEq] at hc
    obtain ⟨X,hX,rfl⟩:=hc
    exact aAz ho hX ht hr h
  · split at hc
    · rename_i hs hd
      simp only [Option.bind_eq_some_iff,Option.some.injEq] at hc
      obtain ⟨X,hX,rfl⟩:=hc
      exact ayS ho hs hd hX ht hr h
    · cases hc
  · simp only [Option.bind_eq_some_iff,Option.some.injEq] at hc
    obtain ⟨A,hA,C,hC,rfl⟩:=hc
    exact avW ho hA hC ht hr h
  · split at hc
    · rename_i hu; cases hc; exact aqa ho hu (.inl rfl) hr h
    · rename_i hu; cases hc; exact aqa ho hu (.inr ⟨_,_,rfl⟩) hr h
    · cases hc
  · simp only [Option.bind_eq_some_iff] at hc
    obtain ⟨e,he,i,hi,z,hz,X,hX,Y,hY,hc⟩:=hc
    split at hc
    · rename_i hb
      simp only [Bool.and_eq_true,decide_eq_true_eq,beq_iff_eq] at hb
      cases hc
      exact mk_sound ho (Lp he) hi hz hb.1.1 hb.1.2 hb.2 hX hY ht hr h
    · cases hc
  · simp only [Option.bind_eq_some_iff] at hc
    obtain ⟨X,hX,L,hL,U,hU,W,hW,hc⟩:=hc
    split at hc
    · rename_i hu
      simp only [Option.bind_eq_some_iff,Option.some.injEq] at hc
      obtain ⟨s,hs,rfl⟩:=hc
      exact ar9 (k:=.arr _ s) ho ⟨_,hu,hs⟩ hX hL hU hW ht hr h
    · rename_i hu
      simp only [Option.bind_eq_some_iff,Option.some.injEq] at hc
      obtain ⟨s,hs,rfl⟩:=hc
      exact ar9 (k:=.sl s) ho ⟨_,hu,hs⟩ hX hL hU hW ht hr h
    · rename_i hu
      cases hc
      exact ar9 (k:=.str) ho hu hX hL hU hW ht hr h
    · cases hc
  · obtain ⟨X,hX,hc⟩:=Option.bind_eq_some_iff.1 hc
    split at hc
    · rename_i hu
      simp only [Option.bind_eq_some_iff] at hc
      obtain ⟨f,hf,s,hs,hc⟩:=hc
      split at hc
      · rename_i h0; cases hc; exact fa_sound ho hu hf hs h0 hX ht hr h
      · cases hc
    · cases hc
  · simp only [Option.bind_eq_some_iff] at hc
    obtain ⟨X,hX,I,hI,hc⟩:=hc
    split at hc
    · rename_i hu
      simp only [Option.bind_eq_some_iff,Option.some.injEq] at hc
      obtain ⟨s,hs,rfl⟩:=hc
      exact aA5 ho hu hs hX hI ht hr h
    · rename_i hu
      simp only [Option.bind_eq_some_iff,Option.some.injEq] at hc
      obtain ⟨s,hs,rfl⟩:=hc
      exact aBe ho hu hs hX hI ht hr h
    · cases hc
  · simp only [Option.bind_eq_some_iff] at hc
    obtain ⟨X,hX,I,hI,hc⟩:=hc
    split at hc
    · rename_i hu
      simp only [Option.bind_eq_some_iff,Option.some.injEq] at hc
      obtain ⟨s,hs,rfl⟩:=hc
      exact azP ho hu hs hX hI ht hr h
    · rename_i hu
      cases hc
      exact ay0 ho hu hX hI ht hr h
    · cases hc
  · simp only [Option.bind_eq_some_iff,Option.some.injEq] at hc
    obtain ⟨X,hX,rfl⟩:=hc
    exact aBd ho hX ht hr h
  · simp only [Option.bind_eq_some_iff] at hc
    obtain ⟨X,hX,K,hK,hc⟩:=hc
    split at hc
    · rename_i hu
      simp only [Option.bind_eq_some_iff,Option.some.injEq] at hc
      obtain ⟨kk,hk,z,hz,rfl⟩:=hc
      exact awr ho hu (awG hk) hz hX hK ht hr h
    · cases hc
  · simp only [Option.bind_eq_some_iff] at hc
    obtain ⟨X,hX,K,hK,Y,hY,hc⟩:=hc
    split at hc
    · rename_i hu
      obtain ⟨kk,hk,hc⟩:=Option.bind_eq_some_iff.1 hc
      cases hc
      exact avR ho hu (awG hk) hX hK hY ht hr h
    · cases hc
  · exact amN ho hc ht hr h
  · cases hc
end
end Go.Ai
/- An instruction of the interpreter is an operation of the model, its guard and its place with it; a region in its written order. -/
namespace Go.Ai
structure HpOk (H:Heap):Prop where
  ro:H.ro≤H.nx
  wf:∀ b,roB (H.get b)→b<H.nx
theorem HpOk.mono {H H':Heap} (h:HpOk H) (m:Mono H H'):HpOk H':=
  ⟨by rw [m.ro]; exact Nat.le_trans h.ro m.nx,fun b hb=>Nat.lt_of_lt_of_le (h.wf b (m.rd b hb)) m.nx⟩
theorem Rel.heap {M:Mp} {D:Nat→Prop} {H H':Heap} {w:World} (h:Rel M D H w) (hn:H'.nx=H.nx) (hg:∀ b,H'.get b=H.get b):Rel M D H' w:=
  ⟨fun b hb=>by rw [hn]; exact h.dom b hb,fun b hb=>by rw [hg]; exact h.blk b hb,fun b c hb hc e hw hl=>h.inj b c hb hc e (by rw [← hg]; exact hw) (by rw [← hg]; exact hl)⟩
theorem Ext.heaps {M:Mp} {D:Nat→Prop} {H:Heap} {w:World} {M':Mp} {D':Nat→Prop} {H':Heap} {w':World} {K K':Heap}
    (h:Ext M D H w M' D' H' w') (hn:K.nx=H.nx) (hg:∀ b,K.get b=H.get b) (hn':K'.nx=H'.nx) (hg':∀ b,K'.get b=H'.get b):Ext M D K w M' D' K' w':={
  keep:=h.keep
  agree:=h.agree
  old b hb hl:=h.old b hb (by rw [← hn]; exact hl)
  nx:=by rw [hn,hn']; exact h.nx
  wrm b hb hw:=by rw [hg]; exact h.wrm b hb (by rw [← hg']; exact hw)
  newb b hb hn hw:=by
    rcases h.newb b hb hn (by rw [← hg']; exact hw) with h1 | ⟨c,h1,h2,h3⟩
    · exact .inl h1
    · exact .inr ⟨c,h1,by rw [hg]; exact h2,h3⟩
  frame c hc hb:=h.frame c hc fun b hD hw=>hb b hD (by rw [hg]; exact hw)
  unm b hb hD:=by rw [hg,hg']; exact h.unm b (by rw [← hn]; exact hb) hD
  size:=h.size
  os:=h.os
  tape:=h.tape
  output:=h.output }
def U7 (M:Mp) (D:Nat→Prop) (H:Heap) (w:World) (v:AV) (H':Heap) (e:Ending) (w':World):Prop:=
  ∃ M' D',e = .returned (bF M' v)∧Rel M' D' H' w'∧Ext M D H w M' D' H' w'∧okv D' v
def Enters (P:Program) (f:FuncId):Prop:=∃ fn,P.funcs[f]?=some fn∧(fn.name == "runtime.NumGoroutine")=false∧fn.body.isNone=false
def Xj (P:Program) (cf:jp):Prop:=∀ fv args H v H',cf fv args H = .ret v H'→∃ f first cap,fv = .func f first cap∧
  ∀ M D w,HpOk H→Rel M D H w→okL D (first++(args++cap))→
    Enters P f∧Calls P f ((first++(args++cap)).map (bF M)).toArray w (U7 M D H w v H')
section
variable {P:Program} {nt:Nat} {M:Mp} {D:Nat→Prop} {tm:Tr AV} {a:Act} {w:World} {H H':Heap} {v:AV} {o:Oper} {ops:Array Oper}
theorem aAr {v:AV} {b:Bool} (h:bF M v = .bool b):v = .bool b:=by
  cases v<;>simp [bF] at h
  rw [h]
theorem an3 {g:Gd} {t:Bool} (hg:azn nt ops o.guard=some g) (ht:TmRel M D nt tm a) (hw:yZ tm g=some t):Region.wanted o (yielded ops a.tmps)=t:=by
  unfold azn at hg
  unfold Region.wanted
  cases ho:o.guard with
  | none=>rw [ho] at hg; cases hg; cases hw; rfl
  | some jw=>
    obtain ⟨j,want⟩:=jw
    rw [ho] at hg
    dsimp only at hg ⊢
    cases hd:(ops[j]?).bind (·.dst) with
    | none=>rw [hd] at hg; cases hg
    | some d=>
      rw [hd] at hg
      dsimp only at hg
      split at hg
      · rename_i hlt
        cases hg
        simp only [yZ] at hw
        cases hv:tm.get (keyC d) with
        | none=>rw [hv] at hw; cases hw
        | some u=>
          rw [hv] at hw
          rw [WA] at hv
          obtain ⟨h1,_⟩:=ht.at_ d u hlt hv
          have hlt':d<a.tmps.size:=Nat.lt_of_lt_of_le hlt ht.size
          have h2:a.tmps[d]?=some (bF M u):=by
            rw [← h1]; simp [hlt']
          have hy:yielded ops a.tmps j=match bF M u with | .bool b=>some b | _=>none:=by
            unfold yielded
            rw [hd]
            simp only [Option.bind_some,h2]
            cases u<;>rfl
          rw [hy]
          dsimp only at hw
          split at hw
          · cases hw; simp only [bF]; rename_i b; cases b<;>cases want<;>rfl
          · rename_i hnb
            cases hw
            cases hu:bF M u<;>try rfl
            rename_i b
            exact (hnb b (aAr hu)).elim
      · cases hg
theorem evs_map {xs:List Operand} {X:List Opd} {vs:List AV} (hx:aqn nt xs=some X) (ht:TmRel M D nt tm a) (hv:evs tm X=some vs):xs.map a.eval=vs.map (bF M)∧okL D vs:=by
  obtain ⟨h1,h2⟩:=atn hx ht hv
  exact ⟨by rw [h1,lX],h2⟩
theorem amD {f:FuncId} {args:Array Value} (h:Enters P f):(callFunc f args).run P w = .ok (.enter f args) w:=by
  obtain ⟨fn,hf,hn,hb⟩:=h
  have hn':fn.name ≠ "runtime.NumGoroutine" := by simpa using hn
  have hb':fn.body≠none:=fun e=>by rw [e] at hb; cases hb
  simp [callFunc,hf,hn',hb']
theorem T3 {cf:jp} {x:Ins} {q:Bool} {i:Nat} {Q:Exit→Act→World→Prop} {K:Act→World→Prop} (hk:Xj P cf) (hp:HpOk H)
    (hc:Di P nt ops q o=some x) (ho:ops[i]?=some o) (ht:TmRel M D nt tm a) (hr:Rel M D H w) (h:lT cf x tm H=some (v,H'))
    (hK:∀ M' D' w',Rel M' D' H' w'→Ext M D H w M' D' H' w'→okv D' v→K (a.put o.dst (bF M' v)) w'):wpOp P ops Q i K a w:=by
  unfold Di at hc
  simp only [Option.bind_eq_some_iff] at hc
  obtain ⟨g,hg,d,hd,hc⟩:=hc
  have skip:∀ {t:Bool},yZ tm g=some t→t=false→v = .undef→H'=H→wpOp P ops Q i K a w:=by
    intro t hw e ev eh
    subst e ev eh
    unfold wpOp
    rw [ho]
    have:=an3 hg ht hw
    simp only [this,Bool.false_eq_true,if_false]
    exact hK M D w hr .refl (by simp [AV.undef,okv,okL])
  split at hc
  · rename_i f args _ hop
    simp only [Option.bind_eq_some_iff,Option.some.injEq] at hc
    obtain ⟨F,hF,A,hA,rfl⟩:=hc
    simp only [lT] at h
    cases hw:yZ tm g with
    | none=>rw [hw] at h; cases h
    | some t=>
      rw [hw] at h
      cases t with
      | false=>cases h; exact skip hw rfl rfl rfl
      | true=>
        dsimp only at h
        split at h
        · rename_i fv vs hfv hvs
          split at h
          · cases h
          · rename_i v₁ H₁ he
            cases h
            obtain ⟨f₁,first,cap,rfl,hcall⟩:=hk _ _ _ _ _ he
            obtain ⟨e1,o1⟩:=lR hF ht hfv
            obtain ⟨e2,o2⟩:=evs_map hA ht hvs
            have hok:okL D (first++(vs++cap)):=by
              simp only [okv] at o1
              rw [py] at o2 ⊢
              have o3:=(py D first).1 o1.1
              have o4:=(py D cap).1 o1.2
              intro u hu
              simp only [List.mem_append] at hu
              rcases hu with hu | hu | hu
              · exact o3 u hu
              · exact o2 u hu
              · exact o4 u hu
            obtain ⟨hent,hcalls⟩:=hcall M D w ⟨by cases q<;>simp [Heap.shut,hp.ro],hp.wf⟩ (hr.heap (H':=H.shut q) rfl fun _=>rfl) hok
            unfold wpOp
            rw [ho]
            simp only [an3 hg ht hw,if_true]
            refine .inl ?_
            unfold Oper.wp
            have hrun:(execOp a.eval o).run P w = .ok (.enter f₁ ((first++(vs++cap)).map (bF M)).toArray) w:=by
              have ha:args.map a.eval=(vs.map (bF M)).toArray:=by
                apply Array.ext'; rw [Array.toList_map]; exact e2
              simp only [execOp,hop,resolve,e1,bF,Deferred.ofValue,pure_bind,lX,ha,invoke]
              have:=amD (P:=P) (w:=w) (f:=f₁) (args:=(List.map (bF M) first).toArray++(List.map (bF M) vs).toArray++(List.map (bF M) cap).toArray) hent
              rw [this]
              simp
            rw [hrun]
            refine Calls.mono hcalls fun e w' ⟨M',D',he,hr',hx',hv'⟩=>?_
            subst he
            exact hK M' D' w' (hr'.heap rfl fun _=>rfl) (hx'.heaps rfl (fun _=>rfl) rfl fun _=>rfl) hv'
        · cases h
  · rename_i hne
    simp only [Option.bind_eq_some_iff,Option.some.injEq] at hc
    obtain ⟨ao,hao,rfl⟩:=hc
    simp only [lT] at h
    cases hw:yZ tm g with
    | none=>rw [hw] at h; cases h
    | some t=>
      rw [hw] at h
      cases t with
      | false=>cases h; exact skip hw rfl rfl rfl
      | true=>
        dsimp only at h
        obtain ⟨M',D',w',r,hrun,hy,hr',hx',hv'⟩:=op_sound rfl hao ht hr h
        unfold wpOp
        rw [ho]
        simp only [an3 hg ht hw,if_true]
        refine .inl ?_
        unfold Oper.wp
        rw [hrun]
        rcases hy with rfl | ⟨rfl,e⟩
        · exact hK M' D' w' hr' hx' hv'
        · show K (a.put o.dst undef) w'
          rw [← e]; exact hK M' D' w' hr' hx' hv'
end
end Go.Ai
/- A step that knew only part of a heap, told of the whole. -/
namespace Go.Ai
theorem Rel.sub {M:Mp} {D D₁:Nat→Prop} {H:Heap} {w:World} (h:Rel M D H w) (hd:∀ b,D₁ b→D b)
    (hc:∀ b,D₁ b→BlkOk M D₁ w (M b) (H.get b)):Rel M D₁ H w:=
  ⟨fun b hb=>h.dom b (hd b hb),hc,fun b c hb hc=>h.inj b c (hd b hb) (hd c hc)⟩
theorem Rel.later {M:Mp} {D:Nat→Prop} {H H':Heap} {w:World} (h:Rel M D H w) (hn:H.nx≤H'.nx) (hg:∀ b,b<H.nx→H'.get b=H.get b):Rel M D H' w:=
  ⟨fun b hb=>Nat.lt_of_lt_of_le (h.dom b hb) hn,fun b hb=>by rw [hg b (h.dom b hb)]; exact h.blk b hb,
   fun b c hb hc e hw hl=>h.inj b c hb hc e (by rw [← hg b (h.dom b hb)]; exact hw) (by rw [← hg c (h.dom c hc)]; exact hl)⟩
theorem Ext.later {M:Mp} {D:Nat→Prop} {H:Heap} {w:World} {M':Mp} {D':Nat→Prop} {H' H'':Heap} {w':World} (hk:Ext M D H w M' D' H' w')
    (hd:∀ b,D' b→b<H'.nx) (hn:H'.nx≤H''.nx) (hg:∀ b,b<H'.nx→H''.get b=H'.get b):Ext M D H w M' D' H'' w':={
  keep:=hk.keep
  agree:=hk.agree
  old:=hk.old
  nx:=Nat.le_trans hk.nx hn
  wrm b hb hw:=hk.wrm b hb (by rw [← hg b (hd b (hk.keep b hb))]; exact hw)
  newb b hb hn hw:=hk.newb b hb hn (by rw [← hg b (hd b hb)]; exact hw)
  frame:=hk.frame
  unm b hb hn:=by rw [hg b (Nat.lt_of_lt_of_le hb hk.nx)]; exact hk.unm b hb hn
  size:=hk.size
  os:=hk.os
  tape:=hk.tape
  output:=hk.output }
open Classical in
noncomputable def Mp.join (M M':Mp) (D':Nat→Prop):Mp:=fun b=>if D' b then M' b else M b
section
variable {M M' M₀:Mp} {D D₁ D' D₀:Nat→Prop} {H Ha Hb H₀:Heap} {w w' w₀:World}
theorem Mp.join_in {b:Nat} (h:D' b):Mp.join M M' D' b=M' b:=by unfold Mp.join; rw [if_pos h]
theorem Mp.join_out {b:Nat} (h:¬ D' b):Mp.join M M' D' b=M b:=by unfold Mp.join; rw [if_neg h]
structure Part (M M':Mp) (D D₁ D':Nat→Prop) (H Ha Hb:Heap) (w w':World):Prop where
  hr:Rel M D H w
  hx:Ext M D₁ Ha w M' D' Hb w'
  hr':Rel M' D' Hb w'
  sub:∀ b,D₁ b→D b
  g1:∀ b,D₁ b→H.get b=Ha.get b
  g2:∀ b,D' b→H.get b=Hb.get b
  back:∀ b,D b→D' b→D₁ b
  nx:∀ b,D' b→b<H.nx
  rd:∀ b,D' b→¬ D₁ b→¬ roB (Hb.get b)
theorem Part.agree (p:Part M M' D D₁ D' H Ha Hb w w') {b:Nat} (hb:D b):Mp.join M M' D' b=M b:=by
  by_cases h:D' b
  · rw [Mp.join_in h]; exact p.hx.agree b (p.back b hb h)
  · exact Mp.join_out h
theorem Part.apart (p:Part M M' D D₁ D' H Ha Hb w w') {b c:Nat} (hb:D' b) (hn:¬ D₁ b) (hc:D c) (hc':¬ D' c) (hl:live (Hb.get b)) (hlc:live (H.get c)):(M' b).blk≠(M c).blk:=by
  have hw:wr (Hb.get b):=Classical.byContradiction fun h=>p.rd b hb hn ⟨hl,h⟩
  rcases p.hx.newb b hb hn hw with h | ⟨d,hd,hdw,he⟩
  · have:=(p.hr.blk c hc).lt hlc
    omega
  · rw [he]
    refine p.hr.inj d c (p.sub d hd) hc ?_ (by rw [p.g1 d hd]; exact hdw) hlc
    intro e; subst e; exact hc' (p.hx.keep d hd)
theorem Part.rel (p:Part M M' D D₁ D' H Ha Hb w w'):Rel (Mp.join M M' D') (fun b=>D b∨D' b) H w':={
  dom b hb:=hb.elim (p.hr.dom b) (p.nx b)
  blk b hb:=by
    by_cases h:D' b
    · rw [p.g2 b h,Mp.join_in h]
      exact (p.hr'.blk b h).keep (fun b h=>.inr h) (fun b h=>Mp.join_in h) (fun _=>rfl) (Nat.le_refl _)
    · have hD:D b:=hb.resolve_right h
      rw [Mp.join_out h]
      refine (p.hr.blk b hD).keep (fun b h=>.inl h) (fun b h=>p.agree h) (fun hl=>?_) p.hx.size
      refine p.hx.frame _ ((p.hr.blk b hD).lt hl) fun c hc hw=>p.hr.inj c b (p.sub c hc) hD ?_ (by rw [p.g1 c hc]; exact hw) hl
      intro e; subst e; exact h (p.hx.keep c hc)
  inj b c hb hc e hw hl:=by
    by_cases h:D' b
    · rw [Mp.join_in h]
      by_cases h':D' c
      · rw [Mp.join_in h']
        exact p.hr'.inj b c h h' e (by rw [← p.g2 b h]; exact hw) (by rw [← p.g2 c h']; exact hl)
      · have hD:D c:=hc.resolve_right h'
        rw [Mp.join_out h']
        by_cases h1:D₁ b
        · rw [p.hx.agree b h1]; exact p.hr.inj b c (p.sub b h1) hD e hw hl
        · exact p.apart h h1 hD h' (by rw [← p.g2 b h]; exact zg hw) hl
    · have hDb:D b:=hb.resolve_right h
      rw [Mp.join_out h]
      by_cases h':D' c
      · rw [Mp.join_in h']
        by_cases h1:D₁ c
        · rw [p.hx.agree c h1]; exact p.hr.inj b c hDb (p.sub c h1) e hw hl
        · exact fun e'=>p.apart h' h1 hDb h (by rw [← p.g2 c h']; exact hl) (zg hw) e'.symm
      · rw [Mp.join_out h']
        exact p.hr.inj b c hDb (hc.resolve_right h') e hw hl }
theorem Part.ext (p:Part M M' D D₁ D' H Ha Hb w w') (k:Ext M₀ D₀ H₀ w₀ M D H w) (hn:H₀.nx≤Ha.nx):Ext M₀ D₀ H₀ w₀ (Mp.join M M' D') (fun b=>D b∨D' b) H w':={
  keep b hb:=.inl (k.keep b hb)
  agree b hb:=(p.agree (k.keep b hb)).trans (k.agree b hb)
  old b hb hl:=hb.elim (fun h=>k.old b h hl) fun h=>k.old b (p.sub b (p.hx.old b h (Nat.lt_of_lt_of_le hl hn))) hl
  nx:=k.nx
  wrm:=k.wrm
  newb b hb hn' hw:=by
    by_cases hD:D b
    · rw [p.agree hD]; exact k.newb b hD hn' hw
    · have h:D' b:=hb.resolve_left hD
      have h1:¬ D₁ b:=fun h1=>hD (p.sub b h1)
      rw [Mp.join_in h]
      rcases p.hx.newb b h h1 (by rw [← p.g2 b h]; exact hw) with hs | ⟨d,hd,hdw,he⟩
      · exact .inl (Nat.le_trans k.size hs)
      · rw [he]
        have hdD:=p.sub d hd
        have hdw':wr (H.get d):=by rw [p.g1 d hd]; exact hdw
        by_cases h0:D₀ d
        · exact .inr ⟨d,h0,k.wrm d h0 hdw',by rw [k.agree d h0]⟩
        · exact k.newb d hdD h0 hdw'
  frame c hc hb:=by
    rw [p.hx.frame c (Nat.lt_of_lt_of_le hc k.size) ?_,k.frame c hc hb]
    intro d hd hdw he
    have hdD:=p.sub d hd
    have hdw':wr (H.get d):=by rw [p.g1 d hd]; exact hdw
    by_cases h0:D₀ d
    · exact hb d h0 (k.wrm d h0 hdw') (by rw [← k.agree d h0]; exact he)
    · rcases k.newb d hdD h0 hdw' with hs | ⟨c',hc',hcw,he'⟩
      · omega
      · exact hb c' hc' hcw (by rw [← he']; exact he)
  unm:=k.unm
  size:=Nat.le_trans k.size p.hx.size
  os:=p.hx.os.trans k.os
  tape:=p.hx.tape.trans k.tape
  output:=p.hx.output.trans k.output }
structure Fresh (M M':Mp) (D D₁ D':Nat→Prop) (H Hd Hb:Heap) (w w':World) (n:Nat):Prop where
  hr:Rel M D H w
  hx:Ext M D₁ Hd w M' D' Hb w'
  hr':Rel M' D' Hb w'
  dead:∀ b,¬ wr (Hd.get b)
  sub:∀ b,D₁ b→D b
  new:∀ b,D' b→D₁ b∨b=n
  out:¬ D n
  lt:n<H.nx
  at_:H.get n=Hb.get n
  rd:¬ roB (Hb.get n)
variable {Hd:Heap} {n:Nat}
theorem Fresh.agree (p:Fresh M M' D D₁ D' H Hd Hb w w' n) {b:Nat} (hb:D b):Mp.join M M' D' b=M b:=by
  by_cases h:D' b
  · rw [Mp.join_in h]
    rcases p.new b h with h1 | rfl
    · exact p.hx.agree b h1
    · exact (p.out hb).elim
  · exact Mp.join_out h
theorem Fresh.same (p:Fresh M M' D D₁ D' H Hd Hb w w' n) {c:Nat} (hc:c<w.heap.size):w'.heap[c]?=w.heap[c]?:=p.hx.frame c hc fun b _ hw=>(p.dead b hw).elim
theorem Fresh.is (p:Fresh M M' D D₁ D' H Hd Hb w w' n) {b:Nat} (hb:D b∨D' b) (hn:¬ D b):b=n∧D' n:=by
  have h:=hb.resolve_left hn
  rcases p.new b h with h1 | rfl
  · exact (hn (p.sub b h1)).elim
  · exact ⟨rfl,h⟩
theorem Fresh.high (p:Fresh M M' D D₁ D' H Hd Hb w w' n) (h:D' n) (hl:live (Hb.get n)):w.heap.size≤(M' n).blk:=by
  have hw:wr (Hb.get n):=Classical.byContradiction fun hw=>p.rd ⟨hl,hw⟩
  rcases p.hx.newb n h (fun h1=>p.out (p.sub n h1)) hw with h1 | ⟨d,_,hd,_⟩
  · exact h1
  · exact (p.dead d hd).elim
theorem Fresh.rel (p:Fresh M M' D D₁ D' H Hd Hb w w' n):Rel (Mp.join M M' D') (fun b=>D b∨D' b) H w':={
  dom b hb:=by
    by_cases h:D b
    · exact p.hr.dom b h
    · rw [(p.is hb h).1]; exact p.lt
  blk b hb:=by
    by_cases h:D b
    · rw [p.agree h]
      exact (p.hr.blk b h).keep (fun b h=>.inl h) (fun b h=>p.agree h) (fun hl=>p.same ((p.hr.blk b h).lt hl)) p.hx.size
    · obtain ⟨rfl,h'⟩:=p.is hb h
      rw [p.at_,Mp.join_in h']
      exact (p.hr'.blk b h').keep (fun b h=>.inr h) (fun b h=>Mp.join_in h) (fun _=>rfl) (Nat.le_refl _)
  inj b c hb hc e hw hl:=by
    by_cases h:D b
    · rw [p.agree h]
      by_cases h':D c
      · rw [p.agree h']; exact p.hr.inj b c h h' e hw hl
      · obtain ⟨rfl,h2⟩:=p.is hc h'
        rw [Mp.join_in h2]
        have h3:=p.high h2 (by rw [← p.at_]; exact hl)
        have h4:=(p.hr.blk b h).lt (zg hw)
        omega
    · obtain ⟨rfl,h2⟩:=p.is hb h
      rw [Mp.join_in h2]
      by_cases h':D c
      · rw [p.agree h']
        have h3:=p.high h2 (by rw [← p.at_]; exact zg hw)
        have h4:=(p.hr.blk c h').lt hl
        omega
      · obtain ⟨rfl,_⟩:=p.is hc h'
        exact (e rfl).elim }
theorem Fresh.ext (p:Fresh M M' D D₁ D' H Hd Hb w w' n) (k:Ext M₀ D₀ H₀ w₀ M D H w) (hn:H₀.nx≤n):Ext M₀ D₀ H₀ w₀ (Mp.join M M' D') (fun b=>D b∨D' b) H w':={
  keep b hb:=.inl (k.keep b hb)
  agree b hb:=(p.agree (k.keep b hb)).trans (k.agree b hb)
  old b hb hl:=by
    by_cases h:D b
    · exact k.old b h hl
    · obtain ⟨rfl,_⟩:=p.is hb h
      omega
  nx:=k.nx
  wrm:=k.wrm
  newb b hb hn' hw:=by
    by_cases h:D b
    · rw [p.agree h]; exact k.newb b h hn' hw
    · obtain ⟨rfl,h2⟩:=p.is hb h
      rw [Mp.join_in h2]
      exact .inl (Nat.le_trans k.size (p.high h2 (by rw [← p.at_]; exact zg hw)))
  frame c hc hb:=by rw [p.same (Nat.lt_of_lt_of_le hc k.size)]; exact k.frame c hc hb
  unm:=k.unm
  size:=Nat.le_trans k.size p.hx.size
  os:=p.hx.os.trans k.os
  tape:=p.hx.tape.trans k.tape
  output:=p.hx.output.trans k.output }
end
end Go.Ai
/- A region that draws its order: what the interpreter's run in the written order says of each operation, whatever order is drawn. -/
namespace Go.Ai
def OkB (D:Nat→Prop):Option Blk→Prop
  | some (.cells l _ _)=>∀ v∈l,okv D v
  | some (.mp es)=>∀ e∈es,okv D e.1∧okv D e.2
  | _=>True
theorem EntOk.okB {M:Mp} {D:Nat→Prop}:∀ {es:List (AV × AV)} {ms:List MapEntry},EntOk M D es ms→∀ e∈es,okv D e.1∧okv D e.2
  | [],[],_=>by simp
  | e::es,m::ms,h=>by
    intro x hx
    rcases List.mem_cons.1 hx with rfl | hx
    · exact ⟨h.1.2.2.1,h.1.2.2.2⟩
    · exact EntOk.okB h.2 x hx
  | [],_::_,h=>h.elim
  | _::_,[],h=>h.elim
theorem EntOk.cut {M:Mp} {D D₁:Nat→Prop}:∀ {es:List (AV × AV)} {ms:List MapEntry},EntOk M D es ms→(∀ e∈es,okv D₁ e.1∧okv D₁ e.2)→EntOk M D₁ es ms
  | [],[],_,_=>trivial
  | e::es,m::ms,h,k=>⟨⟨h.1.1,h.1.2.1,(k e (by simp)).1,(k e (by simp)).2⟩,EntOk.cut h.2 fun x hx=>k x (by simp [hx])⟩
  | [],_::_,h,_=>h.elim
  | _::_,[],h,_=>h.elim
theorem BlkOk.okB {M:Mp} {D:Nat→Prop} {w:World} {L:Loc} {x:Option Blk} (h:BlkOk M D w L x):OkB D x:=by
  cases x with
  | none=>trivial
  | some x=>
    cases x with
    | dead=>trivial
    | mp es=>obtain ⟨⟨ms,clock,_,h2,_⟩⟩:=h; exact h2.okB
    | cells l rw g=>
      intro v hv
      obtain ⟨i,hi⟩:=List.mem_iff_getElem?.1 hv
      exact (RowOk.at_ h i v hi).2.2
theorem BlkOk.cut {M:Mp} {D D₁:Nat→Prop} {w:World} {L:Loc} {x:Option Blk} (h:BlkOk M D w L x) (k:OkB D₁ x):BlkOk M D₁ w L x:=by
  cases x with
  | none=>trivial
  | some x=>
    cases x with
    | dead=>trivial
    | mp es=>obtain ⟨⟨ms,clock,h1,h2,h3⟩⟩:=h; exact ⟨⟨ms,clock,h1,h2.cut k,h3⟩⟩
    | cells l rw g=>
      refine ⟨fun i v hv=>?_,RowOk.own h,RowOk.lt h,RowOk.fz h,RowOk.sl h,RowOk.plain h⟩
      obtain ⟨a,b,_⟩:=RowOk.at_ h i v hv
      exact ⟨a,b,k v (List.mem_of_getElem? hv)⟩
theorem OkB.mono {D D₁:Nat→Prop} {x:Option Blk} (h:OkB D x) (hd:∀ b,D b→D₁ b):OkB D₁ x:=by
  cases x with
  | none=>trivial
  | some x=>
    cases x with
    | dead=>trivial
    | mp es=>exact fun e he=>⟨gQ hd _ (h e he).1,gQ hd _ (h e he).2⟩
    | cells l rw g=>exact fun v hv=>gQ hd _ (h v hv)
noncomputable def adN:List P→Tr AV→Tr AV
  | [],_=>.leaf
  | p::ps,tm=>match tm.get p with
    | some v=>(adN ps tm).set p v
    | none=>adN ps tm
theorem abT {tm:Tr AV} {p:P} {v:AV}:∀ {ps:List P},(adN ps tm).get p=some v→p∈ps∧tm.get p=some v
  | [],h=>by rw [adN,Tr.get_leaf] at h; cases h
  | q::ps,h=>by
    rw [adN] at h
    split at h
    · rename_i u hu
      by_cases e:q=p
      · subst e; rw [Tr.get_set_same] at h; cases h; exact ⟨by simp,hu⟩
      · rw [Tr.get_set_other e] at h; obtain ⟨h1,h2⟩:=abT h; exact ⟨by simp [h1],h2⟩
    · obtain ⟨h1,h2⟩:=abT h; exact ⟨by simp [h1],h2⟩
theorem aom {tm:Tr AV} {p:P}:∀ {ps:List P},p∈ps→(adN ps tm).get p=tm.get p
  | q::ps,h=>by
    rw [adN]
    by_cases e:q=p
    · subst e
      split
      · rename_i u hu; rw [Tr.get_set_same,hu]
      · rename_i hn
        cases hg:(adN ps tm).get q with
        | none=>rw [hn]
        | some v=>rw [(abT hg).2]
    · have hp:p∈ps:=by rcases List.mem_cons.1 h with h | h; exact (e h.symm).elim; exact h
      split
      · rw [Tr.get_set_other e]; exact aom hp
      · exact aom hp
structure Lex (cf:jp) (l:List Ins) (T:Nat→Tr AV) (H:Nat→Heap) (V:Nat→AV):Prop where
  val:∀ j x,l[j]?=some x→lT cf x (T j) (H j)=some (V j,H (j+1))
  tm:∀ j x,l[j]?=some x→T (j+1)=(T j).putO x.dst (V j)
theorem afG {cf:jp}:∀ {l:List Ins} {s s':St} {e:Ex},aa9 cf l s = .fin e s'→∃ T H V,Lex cf l T H V∧T 0=s.tm∧H 0=s.hp∧T l.length=s'.tm∧H l.length=s'.hp
  | [],s,s',e,h=>by
    rw [am0] at h; cases h
    exact ⟨fun _=>s.tm,fun _=>s.hp,fun _=>.undef,⟨fun j x h=>by simp at h,fun j x h=>by simp at h⟩,rfl,rfl,rfl,rfl⟩
  | x::l,s,s',e,h=>by
    obtain ⟨s₁,h1,h2⟩:=aaq h
    obtain ⟨tm,hp⟩:=s
    rw [aiH] at h1
    cases hv:lT cf x tm hp with
    | none=>rw [hv] at h1; cases h1
    | some r=>
      rw [hv] at h1; cases h1
      obtain ⟨T,H,V,hl,t0,h0,tn,hn⟩:=afG h2
      refine ⟨fun j=>match j with | 0=>tm | j+1=>T j,fun j=>match j with | 0=>hp | j+1=>H j,fun j=>match j with | 0=>r.1 | j+1=>V j,⟨fun j y hy=>?_,fun j y hy=>?_⟩,rfl,rfl,tn,hn⟩
      · cases j with
        | zero=>simp at hy; subst hy; show lT cf x tm hp=some (r.1,H 0); rw [hv,h0]
        | succ j=>simp at hy; exact hl.val j y hy
      · cases j with
        | zero=>simp at hy; subst hy; show T 0=_; rw [t0]
        | succ j=>simp at hy; exact hl.tm j y hy
section
variable {cf:jp} {l:List Ins} {T:Nat→Tr AV} {H:Nat→Heap} {V:Nat→AV}
theorem Lex.mono (h:Lex cf l T H V) (hm:pR cf) (h0:HpOk (H 0)):∀ j,j≤l.length→HpOk (H j)
  | 0,_=>h0
  | j+1,hj=>by
    have ih:=Lex.mono h hm h0 j (by omega)
    have hx:l[j]?=some l[j]:=List.getElem?_eq_getElem (by omega)
    exact ih.mono (OI hm ih.ro (h.val j _ hx))
theorem Lex.nx (h:Lex cf l T H V) (hm:pR cf) (h0:HpOk (H 0)) {i:Nat}:∀ {j},i≤j→j≤l.length→(H i).nx≤(H j).nx
  | 0,hi,_=>by have:i=0:=by omega
               subst this; exact Nat.le_refl _
  | j+1,hi,hj=>by
    by_cases e:i=j+1
    · subst e; exact Nat.le_refl _
    · have ih:=Lex.nx h hm h0 (i:=i) (j:=j) (by omega) (by omega)
      have hx:l[j]?=some l[j]:=List.getElem?_eq_getElem (by omega)
      exact Nat.le_trans ih (OI hm (h.mono hm h0 j (by omega)).ro (h.val j _ hx)).nx
theorem Lex.calm (h:Lex cf l T H V) (hm:pR cf) {i:Nat}:∀ {j},i≤j→j≤l.length→(∀ m x,i≤m→m<j→l[m]?=some x→lG x≠.eff)→∀ b,b<(H i).nx→(H i).nx≤(H j).nx∧(H j).get b=(H i).get b
  | 0,hi,_,_,b,_=>by have:i=0:=by omega
                     subst this; exact ⟨Nat.le_refl _,rfl⟩
  | j+1,hi,hj,he,b,hb=>by
    by_cases e:i=j+1
    · subst e; exact ⟨Nat.le_refl _,rfl⟩
    · obtain ⟨ih1,ih2⟩:=Lex.calm h hm (i:=i) (j:=j) (by omega) (by omega) (fun m x h1 h2=>he m x h1 (by omega)) b hb
      have hx:l[j]?=some l[j]:=List.getElem?_eq_getElem (by omega)
      obtain ⟨k1,k2⟩:=azg hm (he j _ (by omega) (by omega) hx) (h.val j _ hx)
      exact ⟨Nat.le_trans ih1 k1,by rw [k2 b (by omega),ih2]⟩
theorem Lex.pure (h:Lex cf l T H V) {j:Nat} {x:Ins} (hx:l[j]?=some x) (hp:lG x = .pure):H (j+1)=H j∧∀ K,lT cf x (T j) K=some (V j,K):=by
  obtain ⟨f,hf⟩:=aA4 (cf:=cf) (tm:=T j) hp
  have hv:=h.val j x hx
  rw [hf] at hv
  cases f with
  | none=>cases hv
  | some r=>simp at hv; obtain ⟨h1,h2⟩:=hv; subst h1; exact ⟨h2.symm,fun K=>by rw [hf]; rfl⟩
end
end Go.Ai
