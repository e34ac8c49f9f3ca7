/- Whole functions: code, results, calls. The main theorem of the interpreter. -/
import Derived.Test.YtphpkpemamccnacGreatAiCode
namespace Go.Ai

/-! ### Code -/
def LoopWp (P : Program) (c : Code) (Q : Exit → Act → World → Prop) (a : Act) (w : World) : Prop :=
  ∀ (b : Frame) (k : List Item) (cs : List Frame), ∃ e a' w', Q e a' w' ∧ Arrives P (lone (b.at a (.code c :: .inLoop c :: k)) cs w) b k cs e a' w'

section
variable {P : Program} {Q : Exit → Act → World → Prop} {a : Act} {w : World}
theorem LoopWp.wp {c : Code} (h : LoopWp P c Q a w) : (Code.loop c).wp P Q a w := fun b k cs =>
  let ⟨e, a', w', hq, harr⟩ := h b k cs
  ⟨e, a', w', hq, .of_steps (.one step_loop) harr⟩
theorem LoopWp.round {c : Code} (h : c.wp P (Exit.then (LoopWp P c Q) Q) a w) : LoopWp P c Q a w := by
  intro b k cs
  obtain ⟨e, a₁, w₁, hq, harr⟩ := h b (.inLoop c :: k) cs
  cases e with
  | normal =>
    obtain ⟨e₂, a₂, w₂, hq₂, harr₂⟩ := hq b k cs
    exact ⟨e₂, a₂, w₂, hq₂, .of_steps (Steps.trans harr (.one step_inLoop)) harr₂⟩
  | exit id => exact ⟨_, a₁, w₁, hq, .pass (x := .inLoop c) rfl (fun _ _ => .inl (by simp)) harr⟩
  | goto l => exact ⟨_, a₁, w₁, hq, .pass (x := .inLoop c) rfl (fun _ _ => .inl (by simp)) harr⟩
  | ret => exact ⟨_, a₁, w₁, hq, .pass (x := .inLoop c) rfl (fun _ _ => .inl (by simp)) harr⟩
  | panic ch => exact ⟨_, a₁, w₁, hq, .pass (x := .inLoop c) rfl (fun _ _ => .inl (by simp)) harr⟩
  | outgrown => exact ⟨_, a₁, w₁, hq, .pass (x := .inLoop c) rfl (fun _ _ => .inl (by simp)) harr⟩
end

section
variable {P : Program} {tbl : Tr AFn} {nt : Nat} {M₀ : Mp} {D₀ : Nat → Prop} {H₀ : Heap} {w₀ : World}

/-- a function of the table that is no code of its own -/
def PrimOk (P : Program) (f : FuncId) (g : List AV → Heap → CRes) : Prop := ∀ vs H v H', g vs H = .ret v H' → ∀ M D w, HpOk H → Rel M D H w → okL D vs →
  Calls P f (vs.map (conc M)).toArray w (CallPost M D H w v H')

/-- the table stands for the program's functions -/
structure TblOk (P : Program) (tbl : Tr AFn) : Prop where
  mixed : P.follows .mixedOrders = true
  mono : PrimsMono tbl
  enters : ∀ f x, tbl.get (key f) = some x → Enters P f
  code : ∀ f ps body res, tbl.get (key f) = some (.code ps body res) → ∃ fn, P.funcs[f]? = some fn ∧ compF P fn = some (.code ps body res)
  prim : ∀ f g, tbl.get (key f) = some (.prim g) → PrimOk P f g

def CodeOk (P : Program) (ih : AC → St → Out) : Prop := ∀ nt c ac, comp P nt c = some ac → ∀ s e s', ih ac s = .fin e s' → ∀ M₀ D₀ H₀ w₀ a w, Good M₀ D₀ H₀ w₀ nt s a w → c.wp P (Post M₀ D₀ H₀ w₀ nt e s') a w
def LoopOk (P : Program) (ih : AC → St → Out) : Prop := ∀ nt c ac, comp P nt c = some ac → ∀ s e s', ih (.loop ac) s = .fin e s' → ∀ M₀ D₀ H₀ w₀ a w, Good M₀ D₀ H₀ w₀ nt s a w → LoopWp P c (Post M₀ D₀ H₀ w₀ nt e s') a w

/-! ### Parameters -/
theorem bindK_some : ∀ (vs : List AV) (n m : Nat) (tm tm' : Tr AV), bindK ((List.range' m n).map key) vs tm none some = some tm' →
    vs.length = n ∧ ∀ t, tm'.get (key t) = if m ≤ t ∧ t < m + n then vs[t - m]? else tm.get (key t)
  | vs, 0, m, tm, tm', h => by
    cases vs with
    | nil =>
      have h' : some tm = some tm' := h
      cases h'
      exact ⟨rfl, fun t => by rw [if_neg (by omega)]⟩
    | cons v vs => cases h
  | vs, n + 1, m, tm, tm', h => by
    rw [List.range'_succ, List.map_cons] at h
    cases vs with
    | nil => cases h
    | cons v vs =>
      have h' : Tr.setK (key m) v tm (fun tm' => bindK ((List.range' (m + 1) n).map key) vs tm' none some) = some tm' := h
      rw [Tr.setK_eq] at h'
      obtain ⟨h1, h2⟩ := bindK_some vs n (m + 1) _ _ h'
      refine ⟨by simp [h1], fun t => ?_⟩
      rw [h2 t]
      by_cases e : t = m
      · subst e
        rw [if_neg (by omega), if_pos (by omega), Tr.get_set_same]; simp
      · rw [Tr.get_set_other (fun k => e (key_inj k).symm)]
        by_cases hc : m + 1 ≤ t ∧ t < m + 1 + n
        · rw [if_pos hc, if_pos (by omega)]
          have : t - m = (t - (m + 1)) + 1 := by omega
          rw [this]; simp
        · rw [if_neg hc, if_neg (by omega)]

/-! ### Results -/
theorem loadVar_run {M : Mp} {D : Nat → Prop} {H : Heap} {w : World} {t : TypeId} {s : Nat × Bool} {b off : Nat} {l cs : List AV} {r : AV} (hs : shapeT P t = some s) (hr : Rel M D H w) (k : D b)
    (hl : cellsAt H b = some l) (hcs : sub l off s.1 = some cs) (hp : packF s.2 cs = some r) : (loadVar t ⟨(M b).blk, (M b).base + off, none⟩).run P w = .ok (conc M r) w ∧ okv D r := by
  obtain ⟨s1, s2, s3⟩ := shapeT_ok hs
  obtain ⟨rw_, g, hg⟩ := cellsAt_some hl
  obtain ⟨q1, q2, q3⟩ := row_sub (row_of hr k hg) hcs
  obtain ⟨p1, p2⟩ := packF_valOf (M := M) hp
  refine ⟨?_, p2 D q2⟩
  have hlen : (cs.map (conc M)).length = s.1 := by simp [q1]
  have hload := run_loadCells_list (P := P) w ⟨(M b).blk, (M b).base + off, none⟩ (cs.map (conc M)) q3
  rw [hlen] at hload
  simp only [loadVar, Sem.run_bind, Sem.run_pure, Result.andThen_ok, run_agg s2, Sem.run_ite, p1, valOf]
  cases hb : s.2 with
  | true => simp only [if_true, run_size s1, Result.andThen_ok, hload]
  | false =>
    have h1 := s3 hb
    rw [h1] at q1
    match cs, q1 with
    | [c], _ =>
      have := q3 0 (conc M c) (by simp)
      rw [Addr.add_zero'] at this
      simp [this]

theorem resF_nil {s : St} {vs : List AV} (h : resF s [] = some vs) : vs = [] := by
  have : some [] = some vs := h
  simpa using this.symm
noncomputable def resV (s : St) (r : Rv) : Option AV := Rv.casesOn r (fun p => s.tm.get p) (fun p n agg => Option.casesOn (s.tm.get p) none fun v => match v with
        | .ptr b off => Option.casesOn (cellsAt s.hp b) none fun l => Option.casesOn (sub l off n) none fun cs => packF agg cs
        | _ => none)
theorem resF_cons {s : St} {r : Rv} {rs : List Rv} {vs : List AV} (h : resF s (r :: rs) = some vs) : ∃ v us, resV s r = some v ∧ resF s rs = some us ∧ vs = v :: us := by
  have h' : (Option.casesOn (resV s r) none fun v => Option.casesOn (resF s rs) none fun us => some (v :: us) : Option (List AV)) = some vs := h
  obtain ⟨v, hv, h1⟩ := ocase h'
  obtain ⟨us, hus, h2⟩ := ocase h1
  cases h2
  exact ⟨v, us, hv, hus, rfl⟩

def readResult (tmps : Array Value) (r : ResultVar) : Sem Value := match r with
  | .tmp t => pure (tmps.getD t undef)
  | .cell a t => do loadVar t (← asAddr (tmps.getD a undef))

theorem resV_sound {M : Mp} {D : Nat → Prop} {s : St} {a : Act} {w : World} {r : ResultVar} {R : Rv} {v : AV} (hc : compRv P nt r = some R) (ht : TmRel M D nt s.tm a) (hr : Rel M D s.hp w) (h : resV s R = some v) :
    (readResult a.tmps r).run P w = .ok (conc M v) w ∧ okv D v := by
  cases r with
  | tmp t =>
    simp only [compRv] at hc
    split at hc
    · rename_i hlt
      cases hc
      have h' : s.tm.get (key t) = some v := by rw [← keyC_eq]; exact h
      obtain ⟨h1, h2⟩ := ht.at_ t v hlt h'
      exact ⟨by simp only [readResult, Sem.run_pure, h1], h2⟩
    · cases hc
  | cell t ty =>
    simp only [compRv, Option.bind_eq_some_iff] at hc
    obtain ⟨z, hz, hc⟩ := hc
    split at hc
    · rename_i hlt
      cases hc
      simp only [resV] at h
      obtain ⟨u, hu, h1⟩ := ocase h
      clear h
      rw [keyC_eq] at hu
      obtain ⟨e1, e2⟩ := ht.at_ t u hlt hu
      split at h1
      · obtain ⟨l, hl, h2⟩ := ocase h1
        obtain ⟨cs, hcs, h3⟩ := ocase h2
        simp only [okv] at e2
        obtain ⟨k1, k2⟩ := loadVar_run hz hr e2 hl hcs h3
        refine ⟨?_, k2⟩
        simp only [readResult, e1, conc, asAddr, pure_bind, k1]
      · cases h1
    · cases hc

theorem resF_sound {M : Mp} {D : Nat → Prop} {s : St} {a : Act} {w : World} (ht : TmRel M D nt s.tm a) (hr : Rel M D s.hp w) : ∀ {rs : List ResultVar} {R : List Rv} {vs : List AV}, compRvs P nt rs = some R → resF s R = some vs →
    (rs.mapM (readResult a.tmps)).run P w = .ok (vs.map (conc M)) w ∧ okL D vs
  | [], R, vs, hc, h => by cases hc; rw [resF_nil h]; simp [okL]
  | r :: rs, R, vs, hc, h => by
    simp only [compRvs, Option.bind_eq_some_iff, Option.map_eq_some_iff] at hc
    obtain ⟨R₁, h1, Rs, h2, rfl⟩ := hc
    obtain ⟨v, us, h3, h4, rfl⟩ := resF_cons h
    obtain ⟨k1, k2⟩ := resV_sound h1 ht hr h3
    obtain ⟨k3, k4⟩ := resF_sound ht hr h2 h4
    refine ⟨?_, by simp [okL, k2, k4]⟩
    simp only [List.mapM_cons, Sem.run_bind, k1, Result.andThen_ok, k3, Sem.run_pure, List.map_cons]

theorem results_sound {M : Mp} {D : Nat → Prop} {s : St} {a : Act} {w : World} {fn : Func} {R : List Rv} {vs : List AV} (hc : compRvs P nt fn.results.toList = some R) (ht : TmRel M D nt s.tm a) (hr : Rel M D s.hp w) (h : resF s R = some vs) :
    (results fn a.tmps).run P w = .ok (conc M (one vs)) w ∧ okv D (one vs) := by
  obtain ⟨h1, h2⟩ := resF_sound ht hr hc h
  have e : results fn a.tmps = (do
      let vs ← fn.results.mapM (readResult a.tmps)
      pure (if h : vs.size = 1 then vs[0] else .tuple vs)) := by
    unfold results readResult
    rfl
  rw [e, Array.mapM_eq_mapM_toList]
  have ho : okv D (one vs) := by
    unfold one
    split
    · simpa [okL] using h2
    · exact h2
  refine ⟨?_, ho⟩
  simp only [Sem.run_bind, Sem.run_map, h1, Result.andThen_ok, Sem.run_pure]
  match vs with
  | [] => simp [one, conc, concL]
  | [v] => simp [one]
  | u :: v :: l => simp [one, conc, concL, concL_map]

/-! ### Calls -/
theorem calls_ok {ih : AC → St → Out} (T : TblOk P tbl) (hih : CodeOk P ih) : CallsOk P (callF tbl ih) := by
  intro fv args H v H' h
  obtain ⟨f, first, cap, hfv, h1⟩ := callF_inv h
  clear h
  refine ⟨f, first, cap, hfv, fun M D w hp hr hok => ?_⟩
  rcases h1 with ⟨g, hg, hh⟩ | ⟨ps, body, res, tm, e, s, vs, hf, hb, hx, he, hres, rfl, rfl⟩
  · exact ⟨T.enters f _ hg, T.prim f g hg _ _ _ _ hh M D w hp hr hok⟩
  · refine ⟨T.enters f _ hf, ?_⟩
    obtain ⟨fn, hfn, hc⟩ := T.code f ps body res hf
    unfold compF at hc
    simp only [Option.bind_eq_some_iff] at hc
    obtain ⟨c, hbody, ac, hac, rs, hrs, hc⟩ := hc
    split at hc
    · rename_i hle
      cases hc
      have hps : (List.range (fn.params.size + fn.nfree)).map keyC = (List.range' 0 (fn.params.size + fn.nfree)).map key := by
        rw [List.range_eq_range']; exact List.map_congr_left fun x _ => keyC_eq x
      rw [hps] at hb
      obtain ⟨hl, hget⟩ := bindK_some _ _ _ _ _ hb
      refine calls_of_wp hfn hbody ?_
      have hgood : Good M D H w fn.ntmps ⟨tm, H⟩ { tmps := ((first ++ (args ++ cap)).map (conc M)).toArray ++ Array.replicate (fn.ntmps - ((first ++ (args ++ cap)).map (conc M)).toArray.size) undef, defers := [] } w := by
        refine ⟨M, D, .refl, hr, ⟨by simp; omega, fun t u ht hu => ?_⟩, rfl, hp⟩
        rw [hget t] at hu
        split at hu
        · rename_i hlt
          simp only [Nat.sub_zero] at hu
          refine ⟨?_, (okL_iff D _).1 hok u (List.mem_of_getElem? hu)⟩
          have h1 : (((first ++ (args ++ cap)).map (conc M)).toArray ++ Array.replicate (fn.ntmps - ((first ++ (args ++ cap)).map (conc M)).toArray.size) undef)[t]? = some (conc M u) := by
            rw [Array.getElem?_append_left (by rw [List.size_toArray, List.length_map]; omega), List.getElem?_toArray, List.getElem?_map, hu]; rfl
          rw [Array.getD_eq_getD_getElem?, h1]; rfl
        · rw [Tr.get_leaf] at hu; cases hu
      refine wp_mono (hih _ c _ hac _ _ _ hx M D H w _ _ hgood) fun x a' w' hpost => ?_
      obtain ⟨rfl, M', D', hx', hr', ht', hd', hp'⟩ := hpost
      obtain ⟨k1, k2⟩ := results_sound hrs ht' hr' hres
      have fin : a'.defers = [] ∧ ∃ v, (results fn a'.tmps).run P w' = .ok v w' ∧ CallPost M D H w (one vs) s.hp (.returned v) w' := ⟨hd', _, k1, M', D', rfl, hr', hx', k2⟩
      rcases he with rfl | rfl
      · exact fin
      · exact fin
    · cases hc

theorem exec_ok (T : TblOk P tbl) : ∀ n, CodeOk P (exec tbl n) ∧ LoopOk P (exec tbl n) := by
  intro n
  induction n with
  | zero => exact ⟨fun nt c ac _ s e s' h => (by cases h), fun nt c ac _ s e s' h => (by cases h)⟩
  | succ n ih =>
    obtain ⟨ihc, ihl⟩ := ih
    have hk := calls_ok T ihc
    have hm : CallsMono (callF tbl (exec tbl n)) := callF_mono T.mono (exec_mono T.mono n)
    have loop : LoopOk P (exec tbl (n + 1)) := by
      intro nt c ac hc s e s' h M₀ D₀ H₀ w₀ a w hg
      refine LoopWp.round ?_
      rcases step_loop_inv (cf := callF tbl (exec tbl n)) h with ⟨s₁, h1, h2⟩ | ⟨h1, hne⟩
      · refine wp_mono (ihc nt c ac hc _ _ _ h1 M₀ D₀ H₀ w₀ a w hg) fun x a' w' hp => ?_
        obtain ⟨rfl, hg'⟩ := hp
        exact ihl nt c ac hc _ _ _ h2 M₀ D₀ H₀ w₀ a' w' hg'
      · refine wp_mono (ihc nt c ac hc _ _ _ h1 M₀ D₀ H₀ w₀ a w hg) fun x a' w' hp => ?_
        obtain ⟨rfl, hg'⟩ := hp
        cases e with
        | nrm => exact (hne rfl).elim
        | exi id => exact ⟨rfl, hg'⟩
        | ret => exact ⟨rfl, hg'⟩
    refine ⟨?_, loop⟩
    intro nt c
    induction c with
    | skip =>
      intro ac hc s e s' h M₀ D₀ H₀ w₀ a w hg
      cases hc
      have h' : Out.fin .nrm s = .fin e s' := h
      cases h'
      exact wp_skip ⟨rfl, hg⟩
    | region id ops draw =>
      intro ac hc s e s' h M₀ D₀ H₀ w₀ a w hg
      exact reg_sound T.mixed hk hm hc h hg
    | seq x y =>
      intro ac hc s e s' h M₀ D₀ H₀ w₀ a w hg
      simp only [comp, Option.bind_eq_some_iff, Option.some.injEq] at hc
      obtain ⟨ax, hx, ay, hy, rfl⟩ := hc
      refine wp_seq ?_
      rcases step_seq_inv (cf := callF tbl (exec tbl n)) h with ⟨s₁, h1, h2⟩ | ⟨h1, hne⟩
      · refine wp_mono (ihc nt x ax hx _ _ _ h1 M₀ D₀ H₀ w₀ a w hg) fun z a' w' hp => ?_
        obtain ⟨rfl, hg'⟩ := hp
        exact ihc nt y ay hy _ _ _ h2 M₀ D₀ H₀ w₀ a' w' hg'
      · refine wp_mono (ihc nt x ax hx _ _ _ h1 M₀ D₀ H₀ w₀ a w hg) fun z a' w' hp => ?_
        obtain ⟨rfl, hg'⟩ := hp
        cases e with
        | nrm => exact (hne rfl).elim
        | exi id => exact ⟨rfl, hg'⟩
        | ret => exact ⟨rfl, hg'⟩
    | cond b x y =>
      intro ac hc s e s' h M₀ D₀ H₀ w₀ a w hg
      simp only [comp, Option.bind_eq_some_iff, Option.some.injEq] at hc
      obtain ⟨B, hB, ax, hx, ay, hy, rfl⟩ := hc
      obtain ⟨t, ht, h1⟩ := step_cond_inv (cf := callF tbl (exec tbl n)) h
      have hg' := hg
      obtain ⟨M, D, _, _, htm, _, _⟩ := hg'
      obtain ⟨e1, _⟩ := ev_ok hB htm ht
      refine wp_cond e1 ?_
      cases t with
      | true => exact ihc nt x ax hx _ _ _ h1 M₀ D₀ H₀ w₀ a w hg
      | false => exact ihc nt y ay hy _ _ _ h1 M₀ D₀ H₀ w₀ a w hg
    | block id x =>
      intro ac hc s e s' h M₀ D₀ H₀ w₀ a w hg
      simp only [comp, Option.map_eq_some_iff] at hc
      obtain ⟨ax, hx, rfl⟩ := hc
      obtain ⟨e₁, h1, h2⟩ := step_block_inv (cf := callF tbl (exec tbl n)) h
      refine wp_block (wp_mono (ihc nt x ax hx _ _ _ h1 M₀ D₀ H₀ w₀ a w hg) fun z a' w' hp => ?_)
      obtain ⟨rfl, hg'⟩ := hp
      cases e₁ with
      | nrm => simp only at h2; subst h2; exact ⟨rfl, hg'⟩
      | ret => simp only at h2; subst h2; exact ⟨rfl, hg'⟩
      | exi i =>
        simp only at h2
        show if i = id then _ else _
        by_cases hi : i = id
        · rw [if_pos hi] at h2 ⊢; subst h2; exact ⟨rfl, hg'⟩
        · rw [if_neg hi] at h2 ⊢; subst h2; exact ⟨rfl, hg'⟩
    | loop x =>
      intro ac hc s e s' h M₀ D₀ H₀ w₀ a w hg
      simp only [comp, Option.map_eq_some_iff] at hc
      obtain ⟨ax, hx, rfl⟩ := hc
      exact (loop nt x ax hx s e s' h M₀ D₀ H₀ w₀ a w hg).wp
    | rangeFunc f ps as bd => intro ac hc; cases hc
    | exit id =>
      intro ac hc s e s' h M₀ D₀ H₀ w₀ a w hg
      cases hc
      have h' : Out.fin (.exi id) s = .fin e s' := h
      cases h'
      exact wp_exit ⟨rfl, hg⟩
    | scope x ihx =>
      intro ac hc s e s' h M₀ D₀ H₀ w₀ a w hg
      simp only [comp] at hc
      refine wp_scope_straight (wp_mono (ihx ac hc s e s' h M₀ D₀ H₀ w₀ a w hg) fun z a' w' hp => ?_)
      obtain ⟨rfl, hg'⟩ := hp
      cases e <;> exact ⟨rfl, hg'⟩
    | label l =>
      intro ac hc s e s' h M₀ D₀ H₀ w₀ a w hg
      cases hc
      have h' : Out.fin .nrm s = .fin e s' := h
      cases h'
      exact wp_label ⟨rfl, hg⟩
    | goto l => intro ac hc; cases hc
    | ret =>
      intro ac hc s e s' h M₀ D₀ H₀ w₀ a w hg
      cases hc
      have h' : Out.fin .ret s = .fin e s' := h
      cases h'
      exact wp_ret ⟨rfl, hg⟩
    | refuse why => intro ac hc; cases hc

/-- THE MAIN THEOREM: what the interpreter returns, the model's call returns. -/
theorem call_ok (T : TblOk P tbl) (n : Nat) : CallsOk P (call tbl n) := calls_ok T (exec_ok T n).1

end
end Go.Ai
