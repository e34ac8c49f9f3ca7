/- An instruction of the interpreter is an operation of the model, its guard and its place with it; a region in its written order. -/
import Derived.Test.YtpoobhhdgjgdgaaGreatAiMonoRun
import Derived.Test.YtpoobhhdgjgdgaaGreatAiAppAll
import Derived.Orders
set_option linter.all false
namespace Go.Ai
structure HpOk (H:Heap):Prop where
  ro:H.ro≤H.nx
  wf:∀ b,roB (H.get b)→b<H.nx
theorem HpOk.mono {H H':Heap} (h:HpOk H) (m:eo H H'):HpOk H':=
  ⟨by rw [m.ro]; exact ga h.ro m.nx,fun b hb=>fW (h.wf b (m.rd b hb)) m.nx⟩
theorem Rel.heap {M:Mp} {D:Nat→Prop} {H H':Heap} {w:World} (h:Rel M D H w) (hn:H'.nx=H.nx) (hg:∀ b,H'.get b=H.get b):Rel M D H' w:=
  ⟨fun b hb=>by rw [hn]; exact h.dom b hb,fun b hb=>by rw [hg]; exact h.blk b hb,fun b c hb hc e hw hl=>h.inj b c hb hc e (by rw [← hg]; exact hw) (by rw [← hg]; exact hl)⟩
theorem Ext.heaps {M:Mp} {D:Nat→Prop} {H:Heap} {w:World} {M':Mp} {D':Nat→Prop} {H':Heap} {w':World} {K K':Heap}
    (h:Ext M D H w M' D' H' w') (hn:K.nx=H.nx) (hg:∀ b,K.get b=H.get b) (hn':K'.nx=H'.nx) (hg':∀ b,K'.get b=H'.get b):Ext M D K w M' D' K' w':={
  keep:=h.keep
  agree:=h.agree
  old b hb hl:=h.old b hb (by rw [← hn]; exact hl)
  nx:=by rw [hn,hn']; exact h.nx
  wrm b hb hw:=by rw [hg]; exact h.wrm b hb (by rw [← hg']; exact hw)
  newb b hb hn hw:=by
    rcases h.newb b hb hn (by rw [← hg']; exact hw) with h1 | ⟨c,h1,h2,h3⟩
    · exact .inl h1
    · exact .inr ⟨c,h1,by rw [hg]; exact h2,h3⟩
  frame c hc hb:=h.frame c hc fun b hD hw=>hb b hD (by rw [hg]; exact hw)
  unm b hb hD:=by rw [hg,hg']; exact h.unm b (by rw [← hn]; exact hb) hD
  size:=h.size
  os:=h.os
  tape:=h.tape
  output:=h.output }
def aaN (M:Mp) (D:Nat→Prop) (H:Heap) (w:World) (v:AV) (H':Heap) (e:Ending) (w':World):Prop:=
  ∃ M' D',e = .returned (im M' v)∧Rel M' D' H' w'∧Ext M D H w M' D' H' w'∧okv D' v
def Enters (P:Program) (f:FuncId):Prop:=∃ fn,P.funcs[f]?=some fn∧(fn.name == "runtime.NumGoroutine")=false∧fn.body.isNone=false
def eN (P:Program) (cf:cj):Prop:=∀ fv args H v H',cf fv args H = .ret v H'→∃ f first cap,fv = .func f first cap∧
  ∀ M D w,HpOk H→Rel M D H w→okL D (first++(args++cap))→
    Enters P f∧Calls P f ((first++(args++cap)).map (im M)).toArray w (aaN M D H w v H')
section
variable {P:Program} {nt:Nat} {M:Mp} {D:Nat→Prop} {tm:Tr AV} {a:Act} {w:World} {H H':Heap} {v:AV} {o:Oper} {ops:Array Oper}
theorem ara {v:AV} {b:Bool} (h:im M v = .bool b):v = .bool b:=by
  cases v<;>simp [im] at h
  rw [h]
theorem ac4 {g:Gd} {t:Bool} (hg:aoT nt ops o.guard=some g) (ht:bX M D nt tm a) (hw:Ca tm g=some t):Region.wanted o (yielded ops a.tmps)=t:=by
  unfold aoT at hg
  unfold Region.wanted
  cases ho:o.guard with
  | none=>rw [ho] at hg; cases hg; cases hw; rfl
  | some jw=>
    obtain ⟨j,want⟩:=jw
    rw [ho] at hg
    dsimp only at hg ⊢
    cases hd:(ops[j]?).bind (·.dst) with
    | none=>rw [hd] at hg; cases hg
    | some d=>
      rw [hd] at hg
      dsimp only at hg
      split at hg
      · rename_i hlt
        cases hg
        simp only [Ca] at hw
        cases hv:tm.get (keyC d) with
        | none=>rw [hv] at hw; cases hw
        | some u=>
          rw [hv] at hw
          rw [Li] at hv
          obtain ⟨h1,_⟩:=ht.at_ d u hlt hv
          have hlt':d<a.tmps.size:=fW hlt ht.size
          have h2:a.tmps[d]?=some (im M u):=by
            rw [← h1]; simp [hlt']
          have hy:yielded ops a.tmps j=match im M u with | .bool b=>some b | _=>none:=by
            unfold yielded
            rw [hd]
            simp only [Option.bind_some,h2]
            cases u<;>rfl
          rw [hy]
          dsimp only at hw
          split at hw
          · cases hw; simp only [im]; rename_i b; cases b<;>cases want<;>rfl
          · rename_i hnb
            cases hw
            cases hu:im M u<;>try rfl
            rename_i b
            exact (hnb b (ara hu)).elim
      · cases hg
theorem evs_map {xs:List Operand} {X:List Opd} {vs:List AV} (hx:afH nt xs=some X) (ht:bX M D nt tm a) (hv:evs tm X=some vs):xs.map a.eval=vs.map (im M)∧okL D vs:=by
  obtain ⟨h1,h2⟩:=agQ hx ht hv
  exact ⟨by rw [h1,mY],h2⟩
theorem amu {f:FuncId} {args:Array Value} (h:Enters P f):(callFunc f args).run P w = .ok (.enter f args) w:=by
  obtain ⟨fn,hf,hn,hb⟩:=h
  have hn':fn.name ≠ "runtime.NumGoroutine" := by simpa using hn
  have hb':fn.body≠none:=fun e=>by rw [e] at hb; cases hb
  simp [callFunc,hf,hn',hb']
theorem Iu {cf:cj} {x:Ins} {q:Bool} {i:Nat} {Q:Exit→Act→World→Prop} {K:Act→World→Prop} (hk:eN P cf) (hp:HpOk H)
    (hc:xl P nt ops q o=some x) (ho:ops[i]?=some o) (ht:bX M D nt tm a) (hr:Rel M D H w) (h:nQ cf x tm H=some (v,H'))
    (hK:∀ M' D' w',Rel M' D' H' w'→Ext M D H w M' D' H' w'→okv D' v→K (a.put o.dst (im M' v)) w'):wpOp P ops Q i K a w:=by
  unfold xl at hc
  simp only [fT] at hc
  obtain ⟨g,hg,d,hd,hc⟩:=hc
  have skip:∀ {t:Bool},Ca tm g=some t→t=false→v = .undef→H'=H→wpOp P ops Q i K a w:=by
    intro t hw e ev eh
    subst e ev eh
    unfold wpOp
    rw [ho]
    have:=ac4 hg ht hw
    simp only [this,fK,if_false]
    exact hK M D w hr .refl (by simp [AV.undef,okv,okL])
  split at hc
  · rename_i f args _ hop
    simp only [fT,Option.some.injEq] at hc
    obtain ⟨F,hF,A,hA,rfl⟩:=hc
    simp only [nQ] at h
    cases hw:Ca tm g with
    | none=>rw [hw] at h; cases h
    | some t=>
      rw [hw] at h
      cases t with
      | false=>cases h; exact skip hw rfl rfl rfl
      | true=>
        dsimp only at h
        split at h
        · rename_i fv vs hfv hvs
          split at h
          · cases h
          · rename_i v₁ H₁ he
            cases h
            obtain ⟨f₁,first,cap,rfl,hcall⟩:=hk _ _ _ _ _ he
            obtain ⟨e1,o1⟩:=mK hF ht hfv
            obtain ⟨e2,o2⟩:=evs_map hA ht hvs
            have hok:okL D (first++(vs++cap)):=by
              simp only [okv] at o1
              rw [nL] at o2 ⊢
              have o3:=(nL D first).1 o1.1
              have o4:=(nL D cap).1 o1.2
              intro u hu
              simp only [gw] at hu
              rcases hu with hu | hu | hu
              · exact o3 u hu
              · exact o2 u hu
              · exact o4 u hu
            obtain ⟨hent,hcalls⟩:=hcall M D w ⟨by cases q<;>simp [Heap.shut,hp.ro],hp.wf⟩ (hr.heap (H':=H.shut q) rfl fun _=>rfl) hok
            unfold wpOp
            rw [ho]
            simp only [ac4 hg ht hw,if_true]
            refine .inl ?_
            unfold Oper.wp
            have hrun:(execOp a.eval o).run P w = .ok (.enter f₁ ((first++(vs++cap)).map (im M)).toArray) w:=by
              have ha:args.map a.eval=(vs.map (im M)).toArray:=by
                apply Array.ext'; rw [Array.toList_map]; exact e2
              simp only [execOp,hop,resolve,e1,im,Deferred.ofValue,pure_bind,mY,ha,invoke]
              have:=amu (P:=P) (w:=w) (f:=f₁) (args:=(List.map (im M) first).toArray++(List.map (im M) vs).toArray++(List.map (im M) cap).toArray) hent
              rw [this]
              simp
            rw [hrun]
            refine Calls.mono hcalls fun e w' ⟨M',D',he,hr',hx',hv'⟩=>?_
            subst he
            exact hK M' D' w' (hr'.heap rfl fun _=>rfl) (hx'.heaps rfl (fun _=>rfl) rfl fun _=>rfl) hv'
        · cases h
  · rename_i hne
    simp only [fT,Option.some.injEq] at hc
    obtain ⟨ao,hao,rfl⟩:=hc
    simp only [nQ] at h
    cases hw:Ca tm g with
    | none=>rw [hw] at h; cases h
    | some t=>
      rw [hw] at h
      cases t with
      | false=>cases h; exact skip hw rfl rfl rfl
      | true=>
        dsimp only at h
        obtain ⟨M',D',w',r,hrun,hy,hr',hx',hv'⟩:=op_sound rfl hao ht hr h
        unfold wpOp
        rw [ho]
        simp only [ac4 hg ht hw,if_true]
        refine .inl ?_
        unfold Oper.wp
        rw [hrun]
        rcases hy with rfl | ⟨rfl,e⟩
        · exact hK M' D' w' hr' hx' hv'
        · show K (a.put o.dst undef) w'
          rw [← e]; exact hK M' D' w' hr' hx' hv'
end
end Go.Ai
/- A step that knew only part of a heap, told of the whole. -/
namespace Go.Ai
theorem Rel.later {M:Mp} {D:Nat→Prop} {H H':Heap} {w:World} (h:Rel M D H w) (hn:H.nx≤H'.nx) (hg:∀ b,b<H.nx→H'.get b=H.get b):Rel M D H' w:=
  ⟨fun b hb=>fW (h.dom b hb) hn,fun b hb=>by rw [hg b (h.dom b hb)]; exact h.blk b hb,
   fun b c hb hc e hw hl=>h.inj b c hb hc e (by rw [← hg b (h.dom b hb)]; exact hw) (by rw [← hg c (h.dom c hc)]; exact hl)⟩
theorem Ext.later {M:Mp} {D:Nat→Prop} {H:Heap} {w:World} {M':Mp} {D':Nat→Prop} {H' H'':Heap} {w':World} (hk:Ext M D H w M' D' H' w')
    (hd:∀ b,D' b→b<H'.nx) (hn:H'.nx≤H''.nx) (hg:∀ b,b<H'.nx→H''.get b=H'.get b):Ext M D H w M' D' H'' w':={
  keep:=hk.keep
  agree:=hk.agree
  old:=hk.old
  nx:=ga hk.nx hn
  wrm b hb hw:=hk.wrm b hb (by rw [← hg b (hd b (hk.keep b hb))]; exact hw)
  newb b hb hn hw:=hk.newb b hb hn (by rw [← hg b (hd b hb)]; exact hw)
  frame:=hk.frame
  unm b hb hn:=by rw [hg b (fW hb hk.nx)]; exact hk.unm b hb hn
  size:=hk.size
  os:=hk.os
  tape:=hk.tape
  output:=hk.output }
open Classical in
noncomputable def Mp.join (M M':Mp) (D':Nat→Prop):Mp:=fun b=>if D' b then M' b else M b
section
variable {M M' M₀:Mp} {D D₁ D' D₀:Nat→Prop} {H Ha Hb H₀:Heap} {w w' w₀:World}
theorem Mp.fE {b:Nat} (h:D' b):Mp.join M M' D' b=M' b:=by unfold Mp.join; rw [if_pos h]
theorem Mp.join_out {b:Nat} (h:¬ D' b):Mp.join M M' D' b=M b:=by unfold Mp.join; rw [if_neg h]
structure Part (M M':Mp) (D D₁ D':Nat→Prop) (H Ha Hb:Heap) (w w':World):Prop where
  hr:Rel M D H w
  hx:Ext M D₁ Ha w M' D' Hb w'
  hr':Rel M' D' Hb w'
  sub:∀ b,D₁ b→D b
  g1:∀ b,D₁ b→H.get b=Ha.get b
  g2:∀ b,D' b→H.get b=Hb.get b
  back:∀ b,D b→D' b→D₁ b
  nx:∀ b,D' b→b<H.nx
  rd:∀ b,D' b→¬ D₁ b→¬ roB (Hb.get b)
theorem Part.agree (p:Part M M' D D₁ D' H Ha Hb w w') {b:Nat} (hb:D b):Mp.join M M' D' b=M b:=by
  by_cases h:D' b
  · rw [Mp.fE h]; exact p.hx.agree b (p.back b hb h)
  · exact Mp.join_out h
theorem Part.apart (p:Part M M' D D₁ D' H Ha Hb w w') {b c:Nat} (hb:D' b) (hn:¬ D₁ b) (hc:D c) (hc':¬ D' c) (hl:live (Hb.get b)) (hlc:live (H.get c)):(M' b).blk≠(M c).blk:=by
  have hw:wr (Hb.get b):=Classical.byContradiction fun h=>p.rd b hb hn ⟨hl,h⟩
  rcases p.hx.newb b hb hn hw with h | ⟨d,hd,hdw,he⟩
  · have:=(p.hr.blk c hc).lt hlc
    omega
  · rw [he]
    refine p.hr.inj d c (p.sub d hd) hc ?_ (by rw [p.g1 d hd]; exact hdw) hlc
    intro e; subst e; exact hc' (p.hx.keep d hd)
theorem Part.rel (p:Part M M' D D₁ D' H Ha Hb w w'):Rel (Mp.join M M' D') (fun b=>D b∨D' b) H w':={
  dom b hb:=hb.elim (p.hr.dom b) (p.nx b)
  blk b hb:=by
    by_cases h:D' b
    · rw [p.g2 b h,Mp.fE h]
      exact (p.hr'.blk b h).keep (fun b h=>.inr h) (fun b h=>Mp.fE h) (fun _=>rfl) (fY _)
    · have hD:D b:=hb.resolve_right h
      rw [Mp.join_out h]
      refine (p.hr.blk b hD).keep (fun b h=>.inl h) (fun b h=>p.agree h) (fun hl=>?_) p.hx.size
      refine p.hx.frame _ ((p.hr.blk b hD).lt hl) fun c hc hw=>p.hr.inj c b (p.sub c hc) hD ?_ (by rw [p.g1 c hc]; exact hw) hl
      intro e; subst e; exact h (p.hx.keep c hc)
  inj b c hb hc e hw hl:=by
    by_cases h:D' b
    · rw [Mp.fE h]
      by_cases h':D' c
      · rw [Mp.fE h']
        exact p.hr'.inj b c h h' e (by rw [← p.g2 b h]; exact hw) (by rw [← p.g2 c h']; exact hl)
      · have hD:D c:=hc.resolve_right h'
        rw [Mp.join_out h']
        by_cases h1:D₁ b
        · rw [p.hx.agree b h1]; exact p.hr.inj b c (p.sub b h1) hD e hw hl
        · exact p.apart h h1 hD h' (by rw [← p.g2 b h]; exact xa hw) hl
    · have hDb:D b:=hb.resolve_right h
      rw [Mp.join_out h]
      by_cases h':D' c
      · rw [Mp.fE h']
        by_cases h1:D₁ c
        · rw [p.hx.agree c h1]; exact p.hr.inj b c hDb (p.sub c h1) e hw hl
        · exact fun e'=>p.apart h' h1 hDb h (by rw [← p.g2 c h']; exact hl) (xa hw) e'.symm
      · rw [Mp.join_out h']
        exact p.hr.inj b c hDb (hc.resolve_right h') e hw hl }
theorem Part.ext (p:Part M M' D D₁ D' H Ha Hb w w') (k:Ext M₀ D₀ H₀ w₀ M D H w) (hn:H₀.nx≤Ha.nx):Ext M₀ D₀ H₀ w₀ (Mp.join M M' D') (fun b=>D b∨D' b) H w':={
  keep b hb:=.inl (k.keep b hb)
  agree b hb:=(p.agree (k.keep b hb)).trans (k.agree b hb)
  old b hb hl:=hb.elim (fun h=>k.old b h hl) fun h=>k.old b (p.sub b (p.hx.old b h (fW hl hn))) hl
  nx:=k.nx
  wrm:=k.wrm
  newb b hb hn' hw:=by
    by_cases hD:D b
    · rw [p.agree hD]; exact k.newb b hD hn' hw
    · have h:D' b:=hb.resolve_left hD
      have h1:¬ D₁ b:=fun h1=>hD (p.sub b h1)
      rw [Mp.fE h]
      rcases p.hx.newb b h h1 (by rw [← p.g2 b h]; exact hw) with hs | ⟨d,hd,hdw,he⟩
      · exact .inl (ga k.size hs)
      · rw [he]
        have hdD:=p.sub d hd
        have hdw':wr (H.get d):=by rw [p.g1 d hd]; exact hdw
        by_cases h0:D₀ d
        · exact .inr ⟨d,h0,k.wrm d h0 hdw',by rw [k.agree d h0]⟩
        · exact k.newb d hdD h0 hdw'
  frame c hc hb:=by
    rw [p.hx.frame c (fW hc k.size) ?_,k.frame c hc hb]
    intro d hd hdw he
    have hdD:=p.sub d hd
    have hdw':wr (H.get d):=by rw [p.g1 d hd]; exact hdw
    by_cases h0:D₀ d
    · exact hb d h0 (k.wrm d h0 hdw') (by rw [← k.agree d h0]; exact he)
    · rcases k.newb d hdD h0 hdw' with hs | ⟨c',hc',hcw,he'⟩
      · omega
      · exact hb c' hc' hcw (by rw [← he']; exact he)
  unm:=k.unm
  size:=ga k.size p.hx.size
  os:=p.hx.os.trans k.os
  tape:=p.hx.tape.trans k.tape
  output:=p.hx.output.trans k.output }
structure eR (M M':Mp) (D D₁ D':Nat→Prop) (H Hd Hb:Heap) (w w':World) (n:Nat):Prop where
  hr:Rel M D H w
  hx:Ext M D₁ Hd w M' D' Hb w'
  hr':Rel M' D' Hb w'
  dead:∀ b,¬ wr (Hd.get b)
  sub:∀ b,D₁ b→D b
  new:∀ b,D' b→D₁ b∨b=n
  out:¬ D n
  lt:n<H.nx
  at_:H.get n=Hb.get n
  rd:¬ roB (Hb.get n)
variable {Hd:Heap} {n:Nat}
theorem eR.agree (p:eR M M' D D₁ D' H Hd Hb w w' n) {b:Nat} (hb:D b):Mp.join M M' D' b=M b:=by
  by_cases h:D' b
  · rw [Mp.fE h]
    rcases p.new b h with h1 | rfl
    · exact p.hx.agree b h1
    · exact (p.out hb).elim
  · exact Mp.join_out h
theorem eR.same (p:eR M M' D D₁ D' H Hd Hb w w' n) {c:Nat} (hc:c<w.heap.size):w'.heap[c]?=w.heap[c]?:=p.hx.frame c hc fun b _ hw=>(p.dead b hw).elim
theorem eR.is (p:eR M M' D D₁ D' H Hd Hb w w' n) {b:Nat} (hb:D b∨D' b) (hn:¬ D b):b=n∧D' n:=by
  have h:=hb.resolve_left hn
  rcases p.new b h with h1 | rfl
  · exact (hn (p.sub b h1)).elim
  · exact ⟨rfl,h⟩
theorem eR.high (p:eR M M' D D₁ D' H Hd Hb w w' n) (h:D' n) (hl:live (Hb.get n)):w.heap.size≤(M' n).blk:=by
  have hw:wr (Hb.get n):=Classical.byContradiction fun hw=>p.rd ⟨hl,hw⟩
  rcases p.hx.newb n h (fun h1=>p.out (p.sub n h1)) hw with h1 | ⟨d,_,hd,_⟩
  · exact h1
  · exact (p.dead d hd).elim
theorem eR.rel (p:eR M M' D D₁ D' H Hd Hb w w' n):Rel (Mp.join M M' D') (fun b=>D b∨D' b) H w':={
  dom b hb:=by
    by_cases h:D b
    · exact p.hr.dom b h
    · rw [(p.is hb h).1]; exact p.lt
  blk b hb:=by
    by_cases h:D b
    · rw [p.agree h]
      exact (p.hr.blk b h).keep (fun b h=>.inl h) (fun b h=>p.agree h) (fun hl=>p.same ((p.hr.blk b h).lt hl)) p.hx.size
    · obtain ⟨rfl,h'⟩:=p.is hb h
      rw [p.at_,Mp.fE h']
      exact (p.hr'.blk b h').keep (fun b h=>.inr h) (fun b h=>Mp.fE h) (fun _=>rfl) (fY _)
  inj b c hb hc e hw hl:=by
    by_cases h:D b
    · rw [p.agree h]
      by_cases h':D c
      · rw [p.agree h']; exact p.hr.inj b c h h' e hw hl
      · obtain ⟨rfl,h2⟩:=p.is hc h'
        rw [Mp.fE h2]
        have h3:=p.high h2 (by rw [← p.at_]; exact hl)
        have h4:=(p.hr.blk b h).lt (xa hw)
        omega
    · obtain ⟨rfl,h2⟩:=p.is hb h
      rw [Mp.fE h2]
      by_cases h':D c
      · rw [p.agree h']
        have h3:=p.high h2 (by rw [← p.at_]; exact xa hw)
        have h4:=(p.hr.blk c h').lt hl
        omega
      · obtain ⟨rfl,_⟩:=p.is hc h'
        exact (e rfl).elim }
theorem eR.ext (p:eR M M' D D₁ D' H Hd Hb w w' n) (k:Ext M₀ D₀ H₀ w₀ M D H w) (hn:H₀.nx≤n):Ext M₀ D₀ H₀ w₀ (Mp.join M M' D') (fun b=>D b∨D' b) H w':={
  keep b hb:=.inl (k.keep b hb)
  agree b hb:=(p.agree (k.keep b hb)).trans (k.agree b hb)
  old b hb hl:=by
    by_cases h:D b
    · exact k.old b h hl
    · obtain ⟨rfl,_⟩:=p.is hb h
      omega
  nx:=k.nx
  wrm:=k.wrm
  newb b hb hn' hw:=by
    by_cases h:D b
    · rw [p.agree h]; exact k.newb b h hn' hw
    · obtain ⟨rfl,h2⟩:=p.is hb h
      rw [Mp.fE h2]
      exact .inl (ga k.size (p.high h2 (by rw [← p.at_]; exact xa hw)))
  frame c hc hb:=by rw [p.same (fW hc k.size)]; exact k.frame c hc hb
  unm:=k.unm
  size:=ga k.size p.hx.size
  os:=p.hx.os.trans k.os
  tape:=p.hx.tape.trans k.tape
  output:=p.hx.output.trans k.output }
end
end Go.Ai
/- A region that draws its order: what the interpreter's run in the written order says of each operation, whatever order is drawn. -/
namespace Go.Ai
def OkB (D:Nat→Prop):Option Blk→Prop
  | some (.cells l _ _)=>∀ v∈l,okv D v
  | some (.mp es)=>∀ e∈es,okv D e.1∧okv D e.2
  | _=>True
theorem cZ.okB {M:Mp} {D:Nat→Prop}:∀ {es:List (AV × AV)} {ms:List MapEntry},cZ M D es ms→∀ e∈es,okv D e.1∧okv D e.2
  | [],[],_=>by simp
  | e::es,m::ms,h=>by
    intro x hx
    rcases gk.1 hx with rfl | hx
    · exact ⟨h.1.2.2.1,h.1.2.2.2⟩
    · exact cZ.okB h.2 x hx
  | [],_::_,h=>h.elim
  | _::_,[],h=>h.elim
theorem cZ.cut {M:Mp} {D D₁:Nat→Prop}:∀ {es:List (AV × AV)} {ms:List MapEntry},cZ M D es ms→(∀ e∈es,okv D₁ e.1∧okv D₁ e.2)→cZ M D₁ es ms
  | [],[],_,_=>trivial
  | e::es,m::ms,h,k=>⟨⟨h.1.1,h.1.2.1,(k e (by simp)).1,(k e (by simp)).2⟩,cZ.cut h.2 fun x hx=>k x (by simp [hx])⟩
  | [],_::_,h,_=>h.elim
  | _::_,[],h,_=>h.elim
theorem eG.okB {M:Mp} {D:Nat→Prop} {w:World} {L:Loc} {x:Option Blk} (h:eG M D w L x):OkB D x:=by
  cases x with
  | none=>trivial
  | some x=>
    cases x with
    | dead=>trivial
    | mp es=>obtain ⟨⟨ms,clock,_,h2,_⟩⟩:=h; exact h2.okB
    | cells l rw g=>
      intro v hv
      obtain ⟨i,hi⟩:=List.mem_iff_getElem?.1 hv
      exact (en.at_ h i v hi).2.2
theorem eG.cut {M:Mp} {D D₁:Nat→Prop} {w:World} {L:Loc} {x:Option Blk} (h:eG M D w L x) (k:OkB D₁ x):eG M D₁ w L x:=by
  cases x with
  | none=>trivial
  | some x=>
    cases x with
    | dead=>trivial
    | mp es=>obtain ⟨⟨ms,clock,h1,h2,h3⟩⟩:=h; exact ⟨⟨ms,clock,h1,h2.cut k,h3⟩⟩
    | cells l rw g=>
      refine ⟨fun i v hv=>?_,en.own h,en.lt h,en.fz h,en.sl h,en.plain h⟩
      obtain ⟨a,b,_⟩:=en.at_ h i v hv
      exact ⟨a,b,k v (fS hv)⟩
theorem OkB.mono {D D₁:Nat→Prop} {x:Option Blk} (h:OkB D x) (hd:∀ b,D b→D₁ b):OkB D₁ x:=by
  cases x with
  | none=>trivial
  | some x=>
    cases x with
    | dead=>trivial
    | mp es=>exact fun e he=>⟨lh hd _ (h e he).1,lh hd _ (h e he).2⟩
    | cells l rw g=>exact fun v hv=>lh hd _ (h v hv)
noncomputable def RH:List P→Tr AV→Tr AV
  | [],_=>.leaf
  | p::ps,tm=>match tm.get p with
    | some v=>(RH ps tm).set p v
    | none=>RH ps tm
theorem Qj {tm:Tr AV} {p:P} {v:AV}:∀ {ps:List P},(RH ps tm).get p=some v→p∈ps∧tm.get p=some v
  | [],h=>by rw [RH,Tr.fC] at h; cases h
  | q::ps,h=>by
    rw [RH] at h
    split at h
    · rename_i u hu
      by_cases e:q=p
      · subst e; rw [Tr.ft] at h; cases h; exact ⟨by simp,hu⟩
      · rw [Tr.fq e] at h; obtain ⟨h1,h2⟩:=Qj h; exact ⟨by simp [h1],h2⟩
    · obtain ⟨h1,h2⟩:=Qj h; exact ⟨by simp [h1],h2⟩
theorem aco {tm:Tr AV} {p:P}:∀ {ps:List P},p∈ps→(RH ps tm).get p=tm.get p
  | q::ps,h=>by
    rw [RH]
    by_cases e:q=p
    · subst e
      split
      · rename_i u hu; rw [Tr.ft,hu]
      · rename_i hn
        cases hg:(RH ps tm).get q with
        | none=>rw [hn]
        | some v=>rw [(Qj hg).2]
    · have hp:p∈ps:=by rcases gk.1 h with h | h; exact (e h.symm).elim; exact h
      split
      · rw [Tr.fq e]; exact aco hp
      · exact aco hp
structure Lex (cf:cj) (l:List Ins) (T:Nat→Tr AV) (H:Nat→Heap) (V:Nat→AV):Prop where
  val:∀ j x,l[j]?=some x→nQ cf x (T j) (H j)=some (V j,H (j+1))
  tm:∀ j x,l[j]?=some x→T (j+1)=(T j).putO x.dst (V j)
theorem WN {cf:cj}:∀ {l:List Ins} {s s':St} {e:Ex},OH cf l s = .fin e s'→∃ T H V,Lex cf l T H V∧T 0=s.tm∧H 0=s.hp∧T l.length=s'.tm∧H l.length=s'.hp
  | [],s,s',e,h=>by
    rw [aaC] at h; cases h
    exact ⟨fun _=>s.tm,fun _=>s.hp,fun _=>.undef,⟨fun j x h=>by simp at h,fun j x h=>by simp at h⟩,rfl,rfl,rfl,rfl⟩
  | x::l,s,s',e,h=>by
    obtain ⟨s₁,h1,h2⟩:=NS h
    obtain ⟨tm,hp⟩:=s
    rw [WX] at h1
    cases hv:nQ cf x tm hp with
    | none=>rw [hv] at h1; cases h1
    | some r=>
      rw [hv] at h1; cases h1
      obtain ⟨T,H,V,hl,t0,h0,tn,hn⟩:=WN h2
      refine ⟨fun j=>match j with | 0=>tm | j+1=>T j,fun j=>match j with | 0=>hp | j+1=>H j,fun j=>match j with | 0=>r.1 | j+1=>V j,⟨fun j y hy=>?_,fun j y hy=>?_⟩,rfl,rfl,tn,hn⟩
      · cases j with
        | zero=>simp at hy; subst hy; show nQ cf x tm hp=some (r.1,H 0); rw [hv,h0]
        | succ j=>simp at hy; exact hl.val j y hy
      · cases j with
        | zero=>simp at hy; subst hy; show T 0=_; rw [t0]
        | succ j=>simp at hy; exact hl.tm j y hy
section
variable {cf:cj} {l:List Ins} {T:Nat→Tr AV} {H:Nat→Heap} {V:Nat→AV}
theorem Lex.mono (h:Lex cf l T H V) (hm:cH cf) (h0:HpOk (H 0)):∀ j,j≤l.length→HpOk (H j)
  | 0,_=>h0
  | j+1,hj=>by
    have ih:=Lex.mono h hm h0 j (by omega)
    have hx:l[j]?=some l[j]:=fU (by omega)
    exact ih.mono (Is hm ih.ro (h.val j _ hx))
theorem Lex.nx (h:Lex cf l T H V) (hm:cH cf) (h0:HpOk (H 0)) {i:Nat}:∀ {j},i≤j→j≤l.length→(H i).nx≤(H j).nx
  | 0,hi,_=>by have:i=0:=by omega
               subst this; exact fY _
  | j+1,hi,hj=>by
    by_cases e:i=j+1
    · subst e; exact fY _
    · have ih:=Lex.nx h hm h0 (i:=i) (j:=j) (by omega) (by omega)
      have hx:l[j]?=some l[j]:=fU (by omega)
      exact ga ih (Is hm (h.mono hm h0 j (by omega)).ro (h.val j _ hx)).nx
theorem Lex.calm (h:Lex cf l T H V) (hm:cH cf) {i:Nat}:∀ {j},i≤j→j≤l.length→(∀ m x,i≤m→m<j→l[m]?=some x→mw x≠.eff)→∀ b,b<(H i).nx→(H i).nx≤(H j).nx∧(H j).get b=(H i).get b
  | 0,hi,_,_,b,_=>by have:i=0:=by omega
                     subst this; exact ⟨fY _,rfl⟩
  | j+1,hi,hj,he,b,hb=>by
    by_cases e:i=j+1
    · subst e; exact ⟨fY _,rfl⟩
    · obtain ⟨ih1,ih2⟩:=Lex.calm h hm (i:=i) (j:=j) (by omega) (by omega) (fun m x h1 h2=>he m x h1 (by omega)) b hb
      have hx:l[j]?=some l[j]:=fU (by omega)
      obtain ⟨k1,k2⟩:=apv hm (he j _ (by omega) (by omega) hx) (h.val j _ hx)
      exact ⟨ga ih1 k1,by rw [k2 b (by omega),ih2]⟩
theorem Lex.pure (h:Lex cf l T H V) {j:Nat} {x:Ins} (hx:l[j]?=some x) (hp:mw x = .pure):H (j+1)=H j∧∀ K,nQ cf x (T j) K=some (V j,K):=by
  obtain ⟨f,hf⟩:=aqN (cf:=cf) (tm:=T j) hp
  have hv:=h.val j x hx
  rw [hf] at hv
  cases f with
  | none=>cases hv
  | some r=>simp at hv; obtain ⟨h1,h2⟩:=hv; subst h1; exact ⟨h2.symm,fun K=>by rw [hf]; rfl⟩
end
end Go.Ai
/- The order among the operations of a region, and what temporaries hold when some of them have run. -/
namespace Go.Ai
theorem P.eqb_iff:∀ {p q:P},P.eqb p q=true↔p=q
  | .h,.h=>by simp [P.eqb]
  | .o p,.o q=>by simp [P.eqb,P.eqb_iff (p:=p) (q:=q)]
  | .i p,.i q=>by simp [P.eqb,P.eqb_iff (p:=p) (q:=q)]
  | .h,.o _=>by simp [P.eqb]
  | .h,.i _=>by simp [P.eqb]
  | .o _,.h=>by simp [P.eqb]
  | .o _,.i _=>by simp [P.eqb]
  | .i _,.h=>by simp [P.eqb]
  | .i _,.o _=>by simp [P.eqb]
theorem P.mem_iff {p:P}:∀ {l:List P},P.mem p l=true↔p∈l
  | []=>by simp [P.mem]
  | q::l=>by simp [P.mem,P.eqb_iff,P.mem_iff (l:=l)]
theorem touch_dr {x y:Ins} {p:P} (hx:x.dst=some p) (hy:p∈y.reads):SY x y=true:=by
  unfold SY; rw [hx]; simp [P.mem_iff.2 hy]
theorem touch_dd {x y:Ins} {p:P} (hx:x.dst=some p) (hy:y.dst=some p):SY x y=true:=by
  unfold SY; rw [hx,hy]; simp [P.eqb_iff.2 rfl]
theorem touch_rd {x y:Ins} {p:P} (hx:p∈x.reads) (hy:y.dst=some p):SY x y=true:=by
  unfold SY; rw [hy]; simp [P.mem_iff.2 hx]
def Bef (ops:Array Oper) (i j:Nat):Prop:=i∈(Ea ops.toList).getD j []
theorem adV (l:List Oper) (o:Oper):Ea (l++[o])=Ea l++[o.after.toList.flatMap fun e=>if Region.binds .any e then e.on::(Ea l).getD e.on [] else []]:=by
  simp [Ea]
theorem ajV (l:List Oper):(Ea l).length=l.length:=by
  rw [← List.reverse_reverse l]
  induction l.reverse with
  | nil=>rfl
  | cons o l ih=>rw [List.reverse_cons,adV]; simp [ih]
theorem aex (l:List Oper):∀ j o,l[j]?=some o→∀ i,i∈(Ea l).getD j []→∃ e∈o.after,Region.binds .any e=true∧(i=e.on∨i∈(Ea l).getD e.on []):=by
  rw [← List.reverse_reverse l]
  induction l.reverse with
  | nil=>intro j o h; simp at h
  | cons p r ih=>
    intro j o hj i hi
    rw [List.reverse_cons] at hj hi ⊢
    rw [adV] at hi ⊢
    have hl:=ajV r.reverse
    have grow:∀ (m x:Nat) (y:List Nat),x∈(Ea r.reverse).getD m []→x∈(Ea r.reverse++[y]).getD m []:=by
      intro m x y hx
      simp only [gh] at hx ⊢
      by_cases hm:m<(Ea r.reverse).length
      · rw [List.getElem?_append_left hm]; exact hx
      · rw [gf (by omega)] at hx; simp at hx
    by_cases hlt:j<r.reverse.length
    · rw [List.getElem?_append_left hlt] at hj
      simp only [gh] at hi
      rw [List.getElem?_append_left (by omega)] at hi
      obtain ⟨e,he,hb,hor⟩:=ih j o hj i (by simpa [gh] using hi)
      exact ⟨e,he,hb,hor.imp id (grow _ _ _)⟩
    · have hje:j=r.reverse.length:=by
        rcases fQ j (r.reverse++[p]).length with h | h
        · simp at h hlt ⊢; omega
        · rw [gf h] at hj; cases hj
      subst hje
      rw [List.getElem?_append_right (fY _)] at hj
      simp at hj; subst hj
      simp only [gh] at hi
      rw [List.getElem?_append_right (by omega)] at hi
      simp only [hl,Nat.sub_self,List.getElem?_cons_zero,Option.getD_some,List.mem_flatMap] at hi
      obtain ⟨e,he,hie⟩:=hi
      split at hie
      · rename_i hb
        refine ⟨e,by simpa using he,hb,?_⟩
        rcases gk.1 hie with h | h
        · exact .inl h
        · exact .inr (grow _ _ _ h)
      · cases hie
def Late (p q:Ins):Prop:=Jr p=true∧mw q = .eff
structure Draws (ops:Array Oper) (l:List Ins) (π:Nat→Nat) (R:Nat→Nat→Prop):Prop where
  len:l.length=ops.size
  ord:∀ i j p q,i<j→l[i]?=some p→l[j]?=some q→Bef ops (π i) (π j)∨(SY p q=false∧(U7 (mw p) (mw q)=false∨R i j∨Late p q))
  back:∀ j o,ops[j]?=some o→∀ e∈o.after,Region.binds .any e=true→e.on<j
  inj:∀ i j,i<l.length→j<l.length→π i=π j→i=j
  sur:∀ r,r<ops.size→∃ i,i<l.length∧π i=r
  rng:∀ i,i<l.length→π i<ops.size
def On (S:Array Bool) (j:Nat):Prop:=S.getD j false=true
structure eJ (ops:Array Oper) (S:Array Bool):Prop where
  size:S.size=ops.size
  down:∀ j o,ops[j]?=some o→On S j→∀ e∈o.after,Region.binds .any e=true→On S e.on
section
variable {ops:Array Oper} {l:List Ins} {π:Nat→Nat} {R:Nat→Nat→Prop} {S:Array Bool}
theorem On.lt (h:eJ ops S) {j:Nat} (hj:On S j):j<ops.size:=by
  rcases fQ j S.size with h' | h'
  · rw [← h.size]; exact h'
  · unfold On at hj; simp [Array.getElem?_eq_none h'] at hj
theorem eJ.bef (h:eJ ops S) (d:Draws ops l π R):∀ {j i:Nat},On S j→Bef ops i j→On S i:=by
  intro j
  induction j using Nat.strongRecOn with
  | _ j ih=>
    intro i hj hb
    have hlt:=hj.lt h
    have hjo:ops[j]?=some ops[j]:=Array.getElem?_eq_getElem hlt
    obtain ⟨e,he,hbd,hor⟩:=aex ops.toList j ops[j] (by simp [hlt]) i hb
    have hon:=h.down j _ hjo hj e he hbd
    rcases hor with rfl | hor
    · exact hon
    · exact ih e.on (d.back j _ hjo e he hbd) hon hor
theorem eJ.ready (h:eJ ops S) (d:Draws ops l π R) {j i:Nat} (hj:j∈Region.ready .any ops S) (hb:Bef ops i j):On S i:=by
  obtain ⟨_,o,ho,hall⟩:=mem_ready.1 hj
  obtain ⟨e,he,hbd,hor⟩:=aex ops.toList j o (by simpa using ho) i hb
  have hon:=hall e he hbd
  rcases hor with rfl | hor
  · exact hon
  · exact h.bef d hon hor
theorem EP {j:Nat} (hj:j∈Region.ready .any ops S):¬ On S j∧∃ o,ops[j]?=some o:=by
  obtain ⟨h1,o,ho,_⟩:=mem_ready.1 hj
  refine ⟨fun h=>?_,o,ho⟩
  unfold On at h
  rcases fQ j S.size with h' | h'
  · simp [h'] at h h1; rw [h] at h1; cases h1
  · simp [Array.getElem?_eq_none h'] at h
theorem On.set {i j:Nat} (h:On S j):On (S.setIfInBounds i true) j:=getD_set_true h
theorem On.of_set {i j:Nat} (h:On (S.setIfInBounds i true) j):j=i∨On S j:=by
  by_cases e:i=j
  · exact .inl e.symm
  · unfold On at h; rw [getD_set_ne false e] at h; exact .inr h
theorem On.at_set {i:Nat} (h:i<S.size):On (S.setIfInBounds i true) i:=by unfold On; simp [h]
theorem eJ.set (h:eJ ops S) {i:Nat} (hi:i∈Region.ready .any ops S):eJ ops (S.setIfInBounds i true):=by
  obtain ⟨_,o,ho,hall⟩:=mem_ready.1 hi
  refine ⟨by simp [h.size],fun j p hj hon e he hb=>?_⟩
  rcases hon.of_set with rfl | hon
  · rw [ho] at hj; cases hj; exact On.set (hall e he hb)
  · exact On.set (h.down j p hj hon e he hb)
theorem eJ.done (h:eJ ops S) (d:Draws ops l π R) (hr:Region.ready .any ops S = []):∀ j,j<ops.size→On S j:=by
  intro j
  induction j using Nat.strongRecOn with
  | _ j ih=>
    intro hj
    refine Classical.byContradiction fun hn=>?_
    have hjo:ops[j]?=some ops[j]:=Array.getElem?_eq_getElem hj
    have hm:j∈Region.ready .any ops S:=by
      refine mem_ready.2 ⟨?_,ops[j],hjo,fun e he hb=>?_⟩
      · have:S.getD j false=false:=by cases hs:S.getD j false with
          | false=>rfl
          | true=>exact (hn hs).elim
        have hs:j<S.size:=by rw [h.size]; exact hj
        simp [hs] at this ⊢; exact this
      · have:=d.back j _ hjo e he hb
        exact ih e.on this (by omega)
    rw [hr] at hm; cases hm
end
open Classical in
noncomputable def val (l:List Ins) (π:Nat→Nat) (V:Nat→AV) (t₀:Tr AV) (S:Array Bool):Nat→P→Option AV
  | 0,p=>t₀.get p
  | k+1,p=>match l[k]? with
    | some x=>if On S (π k)∧x.dst=some p then some (V k) else val l π V t₀ S k p
    | none=>val l π V t₀ S k p
section
variable {cf:cj} {l:List Ins} {π:Nat→Nat} {T:Nat→Tr AV} {H:Nat→Heap} {V:Nat→AV} {S:Array Bool} {p:P}
theorem Yg (tm:Tr AV) {d:Option P} (v:AV) (h:d=some p):(tm.putO d v).get p=some v:=by
  subst h; exact Tr.ft _ _ _
theorem TR (tm:Tr AV) {d:Option P} (v:AV) (h:d≠some p):(tm.putO d v).get p=tm.get p:=by
  cases d with
  | none=>rfl
  | some q=>exact Tr.fq (fun e=>h (by rw [e])) _ _
theorem aoi {k:Nat} {x:Ins} (hx:l[k]?=some x) (ho:On S (π k)) (hd:x.dst=some p):val l π V (T 0) S (k+1) p=some (V k):=by
  simp [val,hx,ho,hd]
theorem anO {k:Nat} (h:∀ x,l[k]?=some x→¬ (On S (π k)∧x.dst=some p)):val l π V (T 0) S (k+1) p=val l π V (T 0) S k p:=by
  cases hx:l[k]? with
  | none=>simp [val,hx]
  | some x=>simp only [val,hx]; rw [if_neg (h x hx)]
theorem amI (h:Lex cf l T H V):∀ {k:Nat},k≤l.length→(∀ j x,j<k→l[j]?=some x→x.dst=some p→On S (π j))→val l π V (T 0) S k p=(T k).get p
  | 0,_,_=>rfl
  | k+1,hk,ha=>by
    have hx:l[k]?=some l[k]:=fU (by omega)
    rw [h.tm k _ hx]
    by_cases e:(l[k]).dst=some p
    · rw [aoi hx (ha k _ (by omega) hx e) e,Yg _ _ e]
    · rw [TR _ _ e,anO,amI h (by omega) (fun j x hj=>ha j x (by omega))]
      intro x hx'
      rw [hx] at hx'; cases hx'
      exact fun c=>e c.2
theorem abC {i:Nat}:∀ {k:Nat},i≤k→(∀ j x,i≤j→j<k→l[j]?=some x→x.dst=some p→¬ On S (π j))→val l π V (T 0) S k p=val l π V (T 0) S i p
  | 0,hk,_=>by have:i=0:=by omega
               subst this; rfl
  | k+1,hk,ha=>by
    by_cases e:i=k+1
    · subst e; rfl
    · rw [anO,abC (i:=i) (k:=k) (by omega) (fun j x h1 h2=>ha j x h1 (by omega))]
      intro x hx c
      exact ha k x (by omega) (by omega) hx c.2 c.1
theorem agO {r:Nat} (hn:∀ k x,π k=r→l[k]?=some x→x.dst≠some p):∀ (k:Nat),val l π V (T 0) (S.setIfInBounds r true) k p=val l π V (T 0) S k p
  | 0=>rfl
  | k+1=>by
    cases hx:l[k]? with
    | none=>simp only [val,hx]; exact agO hn k
    | some x=>
      simp only [val,hx]
      by_cases e:π k=r
      · rw [if_neg (fun c=>hn k x e hx c.2),if_neg (fun c=>hn k x e hx c.2)]; exact agO hn k
      · by_cases c:On S (π k)∧x.dst=some p
        · rw [if_pos c,if_pos ⟨c.1.set,c.2⟩]
        · rw [if_neg c,if_neg]
          · exact agO hn k
          · intro c'; rcases c'.1.of_set with h | h
            · exact e h
            · exact c ⟨h,c'.2⟩
theorem apU (h:Lex cf l T H V) {v:AV}:∀ {k:Nat},k≤l.length→(T k).get p=some v→(T 0).get p=some v∨∃ j x,j<k∧l[j]?=some x∧x.dst=some p∧v=V j
  | 0,_,hv=>.inl hv
  | k+1,hk,hv=>by
    have hx:l[k]?=some l[k]:=fU (by omega)
    rw [h.tm k _ hx] at hv
    by_cases e:(l[k]).dst=some p
    · rw [Yg _ _ e] at hv; cases hv
      exact .inr ⟨k,_,by omega,hx,e,rfl⟩
    · rw [TR _ _ e] at hv
      rcases apU h (by omega) hv with h1 | ⟨j,x,h1,h2⟩
      · exact .inl h1
      · exact .inr ⟨j,x,by omega,h2⟩
end
end Go.Ai
