/- An instruction of the interpreter is an operation of the model, its guard and its place with it; a region in its written order. -/
import Derived.Test.YtphpkpemamccnacGreatAiRun
import Derived.Test.YtphpkpemamccnacGreatAiAll
import Derived.Orders
namespace Go.Ai

structure HpOk (H : Heap) : Prop where
  ro : H.ro ≤ H.nx
  wf : ∀ b, roB (H.get b) → b < H.nx

theorem HpOk.mono {H H' : Heap} (h : HpOk H) (m : Mono H H') : HpOk H' :=
  ⟨by rw [m.ro]; exact Nat.le_trans h.ro m.nx, fun b hb => Nat.lt_of_lt_of_le (h.wf b (m.rd b hb)) m.nx⟩

theorem Rel.heap {M : Mp} {D : Nat → Prop} {H H' : Heap} {w : World} (h : Rel M D H w) (hn : H'.nx = H.nx) (hg : ∀ b, H'.get b = H.get b) : Rel M D H' w :=
  ⟨fun b hb => by rw [hn]; exact h.dom b hb, fun b hb => by rw [hg]; exact h.blk b hb, fun b c hb hc e hw hl => h.inj b c hb hc e (by rw [← hg]; exact hw) (by rw [← hg]; exact hl)⟩

theorem Ext.heaps {M : Mp} {D : Nat → Prop} {H : Heap} {w : World} {M' : Mp} {D' : Nat → Prop} {H' : Heap} {w' : World} {K K' : Heap}
    (h : Ext M D H w M' D' H' w') (hn : K.nx = H.nx) (hg : ∀ b, K.get b = H.get b) (hn' : K'.nx = H'.nx) (hg' : ∀ b, K'.get b = H'.get b) : Ext M D K w M' D' K' w' := {
  keep := h.keep
  agree := h.agree
  old b hb hl := h.old b hb (by rw [← hn]; exact hl)
  nx := by rw [hn, hn']; exact h.nx
  wrm b hb hw := by rw [hg]; exact h.wrm b hb (by rw [← hg']; exact hw)
  newb b hb hn hw := by
    rcases h.newb b hb hn (by rw [← hg']; exact hw) with h1 | ⟨c, h1, h2, h3⟩
    · exact .inl h1
    · exact .inr ⟨c, h1, by rw [hg]; exact h2, h3⟩
  frame c hc hb := h.frame c hc fun b hD hw => hb b hD (by rw [hg]; exact hw)
  unm b hb hD := by rw [hg, hg']; exact h.unm b (by rw [← hn]; exact hb) hD
  size := h.size
  os := h.os
  tape := h.tape
  output := h.output }

/-- what a call leaves -/
def CallPost (M : Mp) (D : Nat → Prop) (H : Heap) (w : World) (v : AV) (H' : Heap) (e : Ending) (w' : World) : Prop :=
  ∃ M' D', e = .returned (conc M' v) ∧ Rel M' D' H' w' ∧ Ext M D H w M' D' H' w' ∧ okv D' v

/-- a function that a call may enter -/
def Enters (P : Program) (f : FuncId) : Prop := ∃ fn, P.funcs[f]? = some fn ∧ (fn.name == "runtime.NumGoroutine") = false ∧ fn.body.isNone = false

/-- calls of the interpreter are the model's -/
def CallsOk (P : Program) (cf : ACalls) : Prop := ∀ fv args H v H', cf fv args H = .ret v H' → ∃ f first cap, fv = .func f first cap ∧
  ∀ M D w, HpOk H → Rel M D H w → okL D (first ++ (args ++ cap)) →
    Enters P f ∧ Calls P f ((first ++ (args ++ cap)).map (conc M)).toArray w (CallPost M D H w v H')

section
variable {P : Program} {nt : Nat} {M : Mp} {D : Nat → Prop} {tm : Tr AV} {a : Act} {w : World} {H H' : Heap} {v : AV} {o : Oper} {ops : Array Oper}

theorem conc_bool {v : AV} {b : Bool} (h : conc M v = .bool b) : v = .bool b := by
  cases v <;> simp [conc] at h
  rw [h]

theorem wanted_ok {g : Gd} {t : Bool} (hg : compGd nt ops o.guard = some g) (ht : TmRel M D nt tm a) (hw : wantF tm g = some t) : Region.wanted o (yielded ops a.tmps) = t := by
  unfold compGd at hg
  unfold Region.wanted
  cases ho : o.guard with
  | none => rw [ho] at hg; cases hg; cases hw; rfl
  | some jw =>
    obtain ⟨j, want⟩ := jw
    rw [ho] at hg
    dsimp only at hg ⊢
    cases hd : (ops[j]?).bind (·.dst) with
    | none => rw [hd] at hg; cases hg
    | some d =>
      rw [hd] at hg
      dsimp only at hg
      split at hg
      · rename_i hlt
        cases hg
        simp only [wantF] at hw
        cases hv : tm.get (keyC d) with
        | none => rw [hv] at hw; cases hw
        | some u =>
          rw [hv] at hw
          rw [keyC_eq] at hv
          obtain ⟨h1, _⟩ := ht.at_ d u hlt hv
          have hlt' : d < a.tmps.size := Nat.lt_of_lt_of_le hlt ht.size
          have h2 : a.tmps[d]? = some (conc M u) := by
            rw [← h1]; simp [hlt']
          have hy : yielded ops a.tmps j = match conc M u with | .bool b => some b | _ => none := by
            unfold yielded
            rw [hd]
            simp only [Option.bind_some, h2]
            cases u <;> rfl
          rw [hy]
          dsimp only at hw
          split at hw
          · cases hw; simp only [conc]; rename_i b; cases b <;> cases want <;> rfl
          · rename_i hnb
            cases hw
            cases hu : conc M u <;> try rfl
            rename_i b
            exact (hnb b (conc_bool hu)).elim
      · cases hg

theorem evs_map {xs : List Operand} {X : List Opd} {vs : List AV} (hx : opds nt xs = some X) (ht : TmRel M D nt tm a) (hv : evs tm X = some vs) : xs.map a.eval = vs.map (conc M) ∧ okL D vs := by
  obtain ⟨h1, h2⟩ := evs_ok hx ht hv
  exact ⟨by rw [h1, concL_map], h2⟩

theorem run_callFunc {f : FuncId} {args : Array Value} (h : Enters P f) : (callFunc f args).run P w = .ok (.enter f args) w := by
  obtain ⟨fn, hf, hn, hb⟩ := h
  have hn' : fn.name ≠ "runtime.NumGoroutine" := by simpa using hn
  have hb' : fn.body ≠ none := fun e => by rw [e] at hb; cases hb
  simp [callFunc, hf, hn', hb']

theorem ins_sound {cf : ACalls} {x : Ins} {q : Bool} {i : Nat} {Q : Exit → Act → World → Prop} {K : Act → World → Prop} (hk : CallsOk P cf) (hp : HpOk H)
    (hc : compOper P nt ops q o = some x) (ho : ops[i]? = some o) (ht : TmRel M D nt tm a) (hr : Rel M D H w) (h : insV cf x tm H = some (v, H'))
    (hK : ∀ M' D' w', Rel M' D' H' w' → Ext M D H w M' D' H' w' → okv D' v → K (a.put o.dst (conc M' v)) w') : wpOp P ops Q i K a w := by
  unfold compOper at hc
  simp only [Option.bind_eq_some_iff] at hc
  obtain ⟨g, hg, d, hd, hc⟩ := hc
  have skip : ∀ {t : Bool}, wantF tm g = some t → t = false → v = .undef → H' = H → wpOp P ops Q i K a w := by
    intro t hw e ev eh
    subst e ev eh
    unfold wpOp
    rw [ho]
    have := wanted_ok hg ht hw
    simp only [this, Bool.false_eq_true, if_false]
    exact hK M D w hr .refl (by simp [AV.undef, okv, okL])
  split at hc
  · rename_i f args _ hop
    simp only [Option.bind_eq_some_iff, Option.some.injEq] at hc
    obtain ⟨F, hF, A, hA, rfl⟩ := hc
    simp only [insV] at h
    cases hw : wantF tm g with
    | none => rw [hw] at h; cases h
    | some t =>
      rw [hw] at h
      cases t with
      | false => cases h; exact skip hw rfl rfl rfl
      | true =>
        dsimp only at h
        split at h
        · rename_i fv vs hfv hvs
          split at h
          · cases h
          · rename_i v₁ H₁ he
            cases h
            obtain ⟨f₁, first, cap, rfl, hcall⟩ := hk _ _ _ _ _ he
            obtain ⟨e1, o1⟩ := ev_ok hF ht hfv
            obtain ⟨e2, o2⟩ := evs_map hA ht hvs
            have hok : okL D (first ++ (vs ++ cap)) := by
              simp only [okv] at o1
              rw [okL_iff] at o2 ⊢
              have o3 := (okL_iff D first).1 o1.1
              have o4 := (okL_iff D cap).1 o1.2
              intro u hu
              simp only [List.mem_append] at hu
              rcases hu with hu | hu | hu
              · exact o3 u hu
              · exact o2 u hu
              · exact o4 u hu
            obtain ⟨hent, hcalls⟩ := hcall M D w ⟨by cases q <;> simp [Heap.shut, hp.ro], hp.wf⟩ (hr.heap (H' := H.shut q) rfl fun _ => rfl) hok
            unfold wpOp
            rw [ho]
            simp only [wanted_ok hg ht hw, if_true]
            refine .inl ?_
            unfold Oper.wp
            have hrun : (execOp a.eval o).run P w = .ok (.enter f₁ ((first ++ (vs ++ cap)).map (conc M)).toArray) w := by
              have ha : args.map a.eval = (vs.map (conc M)).toArray := by
                apply Array.ext'; rw [Array.toList_map]; exact e2
              simp only [execOp, hop, resolve, e1, conc, Deferred.ofValue, pure_bind, concL_map, ha, invoke]
              have := run_callFunc (P := P) (w := w) (f := f₁) (args := (List.map (conc M) first).toArray ++ (List.map (conc M) vs).toArray ++ (List.map (conc M) cap).toArray) hent
              rw [this]
              simp
            rw [hrun]
            refine Calls.mono hcalls fun e w' ⟨M', D', he, hr', hx', hv'⟩ => ?_
            subst he
            exact hK M' D' w' (hr'.heap rfl fun _ => rfl) (hx'.heaps rfl (fun _ => rfl) rfl fun _ => rfl) hv'
        · cases h
  · rename_i hne
    simp only [Option.bind_eq_some_iff, Option.some.injEq] at hc
    obtain ⟨ao, hao, rfl⟩ := hc
    simp only [insV] at h
    cases hw : wantF tm g with
    | none => rw [hw] at h; cases h
    | some t =>
      rw [hw] at h
      cases t with
      | false => cases h; exact skip hw rfl rfl rfl
      | true =>
        dsimp only at h
        obtain ⟨M', D', w', r, hrun, hy, hr', hx', hv'⟩ := op_sound rfl hao ht hr h
        unfold wpOp
        rw [ho]
        simp only [wanted_ok hg ht hw, if_true]
        refine .inl ?_
        unfold Oper.wp
        rw [hrun]
        rcases hy with rfl | ⟨rfl, e⟩
        · exact hK M' D' w' hr' hx' hv'
        · show K (a.put o.dst undef) w'
          rw [← e]; exact hK M' D' w' hr' hx' hv'
end
end Go.Ai
