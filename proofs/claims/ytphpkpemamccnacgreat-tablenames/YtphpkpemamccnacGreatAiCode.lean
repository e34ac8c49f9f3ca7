/- Code of the interpreter is the model's; so are its calls. -/
import Derived.Test.YtphpkpemamccnacGreatAiDraw
import Derived.Test.YtphpkpemamccnacGreatAiMask
import Derived.Scope
namespace Go.Ai

/-- where a run stands, as against where it began -/
def Good (M₀ : Mp) (D₀ : Nat → Prop) (H₀ : Heap) (w₀ : World) (nt : Nat) (s : St) (a : Act) (w : World) : Prop :=
  ∃ M D, Ext M₀ D₀ H₀ w₀ M D s.hp w ∧ Rel M D s.hp w ∧ TmRel M D nt s.tm a ∧ a.defers = [] ∧ HpOk s.hp

def Ex.to : Ex → Exit
  | .nrm => .normal
  | .exi id => .exit id
  | .ret => .ret

def Post (M₀ : Mp) (D₀ : Nat → Prop) (H₀ : Heap) (w₀ : World) (nt : Nat) (e : Ex) (s : St) : Exit → Act → World → Prop :=
  fun x a w => x = e.to ∧ Good M₀ D₀ H₀ w₀ nt s a w

section
variable {P : Program} {nt : Nat} {ops : Array Oper} {M₀ : Mp} {D₀ : Nat → Prop} {H₀ : Heap} {w₀ : World} {cf : ACalls}

theorem compOper_dst {q : Bool} {o : Oper} {x : Ins} (hc : compOper P nt ops q o = some x) : compDst nt o.dst = some x.dst := by
  unfold compOper at hc
  simp only [Option.bind_eq_some_iff] at hc
  obtain ⟨g, _, c, hc', hc⟩ := hc
  rw [hc']
  split at hc
  · simp only [Option.bind_eq_some_iff, Option.some.injEq] at hc
    obtain ⟨_, _, _, _, rfl⟩ := hc; rfl
  · simp only [Option.bind_eq_some_iff, Option.some.injEq] at hc
    obtain ⟨_, _, rfl⟩ := hc; rfl

theorem TmRel.putO {M : Mp} {D : Nat → Prop} {tm : Tr AV} {a : Act} {v : AV} {d : Option Tmp} {c : Option Ai.P} (hc : compDst nt d = some c) (h : TmRel M D nt tm a) (hv : okv D v) :
    TmRel M D nt (tm.putO c v) (a.put d (conc M v)) := by
  cases d with
  | none => cases hc; exact h
  | some d =>
    simp only [compDst] at hc
    split at hc
    · cases hc; rw [keyC_eq]; exact h.put (by assumption) hv
    · cases hc

theorem put_defers (a : Act) (d : Option Tmp) (v : Value) : (a.put d v).defers = a.defers := by cases d <;> rfl

theorem compOpers_at : ∀ {q : Nat → Bool} {os : List Oper} {i : Nat} {l : List Ins}, compOpers P nt ops q i os = some l →
    l.length = os.length ∧ ∀ (j : Nat) (o : Oper), os[j]? = some o → ∃ x, l[j]? = some x ∧ compOper P nt ops (q (i + j)) o = some x
  | q, [], i, l, h => by cases h; simp
  | q, o :: os, i, l, h => by
    simp only [compOpers, Option.bind_eq_some_iff, Option.map_eq_some_iff] at h
    obtain ⟨x, hx, r, hr, rfl⟩ := h
    obtain ⟨h1, h2⟩ := compOpers_at hr
    refine ⟨by simp [h1], fun j p hp => ?_⟩
    cases j with
    | zero => simp at hp; subst hp; exact ⟨x, rfl, hx⟩
    | succ j =>
      obtain ⟨y, h3, h4⟩ := h2 j p (by simpa using hp)
      exact ⟨y, by simpa using h3, by rw [show i + (j + 1) = i + 1 + j by omega]; exact h4⟩

theorem Good.next {q : Bool} {o : Oper} {x : Ins} {i : Nat} {Q : Exit → Act → World → Prop} {K : Act → World → Prop} {s s' : St} {a : Act} {w : World} (hk : CallsOk P cf) (hm : CallsMono cf)
    (hc : compOper P nt ops q o = some x) (ho : ops[i]? = some o) (hg : Good M₀ D₀ H₀ w₀ nt s a w) (hs : insF cf x s = some s')
    (hK : ∀ a' w', Good M₀ D₀ H₀ w₀ nt s' a' w' → K a' w') : wpOp P ops Q i K a w := by
  obtain ⟨M, D, hx, hr, ht, hd, hp⟩ := hg
  obtain ⟨tm, H⟩ := s
  rw [insF_eq] at hs
  cases hv : insV cf x tm H with
  | none => rw [hv] at hs; cases hs
  | some r =>
    rw [hv] at hs; cases hs
    refine ins_sound hk hp hc ho ht hr (v := r.1) (H' := r.2) hv fun M' D' w' hr' hx' hv' => hK _ _ ⟨M', D', hx.trans hx', hr', ?_, by rw [put_defers]; exact hd, hp.mono (insV_mono hm hp.ro hv)⟩
    exact (ht.mono hx'.keep hx'.agree).putO (compOper_dst hc) hv'

theorem ops_sound {Q : Exit → Act → World → Prop} {l : List Ins} (hk : CallsOk P cf) (hm : CallsMono cf) (hcs : ∀ (j : Nat) (o : Oper), ops[j]? = some o → ∃ q x, l[j]? = some x ∧ compOper P nt ops q o = some x) (hl : l.length = ops.size) :
    ∀ (n m : Nat) {s s' : St} {e : Ex} {a : Act} {w : World}, m + n = ops.size → regF cf (l.drop m) s = .fin e s' → Good M₀ D₀ H₀ w₀ nt s a w → (∀ a' w', Good M₀ D₀ H₀ w₀ nt s' a' w' → Q .normal a' w') → wpOps P ops Q (List.range' m n) a w := by
  intro n
  induction n with
  | zero =>
    intro m s s' e a w hmn h hg hQ
    rw [List.drop_eq_nil_of_le (by omega), regF_nil] at h
    cases h
    exact hQ _ _ hg
  | succ n ih =>
    intro m s s' e a w hmn h hg hQ
    have hmo : ops[m]? = some ops[m] := Array.getElem?_eq_getElem (by omega)
    obtain ⟨q, x, hx, hc⟩ := hcs m _ hmo
    have hxe : l[m] = x := by rw [List.getElem?_eq_getElem (by omega)] at hx; simpa using hx
    rw [List.drop_eq_getElem_cons (by omega), hxe] at h
    obtain ⟨s₁, h1, h2⟩ := regF_cons h
    rw [List.range'_succ, wpOps_cons]
    exact Good.next hk hm hc hmo hg h1 fun a' w' hg' => ih (m + 1) (by omega) h2 hg' hQ

def BackOk (ops : Array Oper) : Prop := ∀ j o, ops[j]? = some o → ∀ e ∈ o.after, Region.binds .any e = true → e.on < j
theorem backOk_of (h2 : (ops.toList.zipIdx.all fun (o, i) => o.after.toList.all fun e => !Region.binds .any e || decide (e.on < i)) = true) : BackOk ops := by
  intro j o ho e he hb
  simp only [List.all_eq_true] at h2
  have hmem : (o, j) ∈ ops.toList.zipIdx := by
    rw [List.mem_zipIdx_iff_getElem?]; simpa using ho
  have := h2 (o, j) hmem e (by simpa using he)
  simpa [hb] using this

theorem drawOk_draws {l : List Ins} (hl : l.length = ops.size) (h1 : drawOk ops l = true) (h2 : BackOk ops) : Draws ops l id fun _ _ => False := by
  refine ⟨hl, fun i j p q hij hp hq => ?_, h2, fun _ _ _ _ h => h, fun r hr => ⟨r, by omega, rfl⟩, fun i hi => by rw [← hl]; exact hi⟩
  have hjl : j < ops.size := by
    rcases Nat.lt_or_ge j l.length with h' | h'
    · omega
    · rw [List.getElem?_eq_none h'] at hq; cases hq
  unfold drawOk at h1
  simp only [List.all_eq_true, List.mem_range] at h1
  have := h1 j hjl i hij
  simp only [Bool.or_eq_true, List.contains_iff_mem, hp, hq, Bool.and_eq_true, Bool.not_eq_true'] at this
  exact this.imp id fun h => ⟨h.1, .inl h.2⟩

theorem passes_or {p q : Ins} (h : passes p q = true) : clash (clsI p) (clsI q) = false ∨ Late p q := by
  unfold passes at h
  rw [Bool.or_eq_true, Bool.and_eq_true, Bool.not_eq_true'] at h
  refine h.imp id fun h => ⟨h.1, ?_⟩
  cases hc : clsI q <;> simp_all

theorem inN_iff {r : Nat} : ∀ {l : List Nat}, inN r l = true ↔ r ∈ l
  | [] => by simp [inN]
  | x :: l => by
    rw [inN, Bool.or_eq_true, inN_iff, List.mem_cons, Nat.beq_eq]
    exact ⟨fun h => h.imp Eq.symm id, fun h => h.imp Eq.symm id⟩
theorem distN_nodup : ∀ {l : List Nat}, distN l = true → l.Nodup
  | [], _ => List.nodup_nil
  | x :: l, h => by
    rw [distN, Bool.and_eq_true, Bool.not_eq_true'] at h
    refine List.nodup_cons.2 ⟨fun hm => ?_, distN_nodup h.2⟩
    rw [inN_iff.2 hm] at h; cases h.1
theorem permOk_inv {n : Nat} {π : List Nat} (h : permOk n π = true) : π.length = n ∧ (∀ r, r < n → ∃ i, i < n ∧ π.getD i 0 = r) ∧ (∀ i j, i < n → j < n → π.getD i 0 = π.getD j 0 → i = j) ∧ ∀ i, i < n → π.getD i 0 < n := by
  unfold permOk at h
  rw [Bool.and_eq_true, Bool.and_eq_true, Bool.and_eq_true] at h
  obtain ⟨h1, h2, h3, h4⟩ := h
  have h1 := Nat.eq_of_beq_eq_true h1
  rw [List.all_eq_true] at h2 h4
  have hnd := distN_nodup h3
  have get : ∀ i, i < n → ∃ x, π[i]? = some x ∧ π.getD i 0 = x := fun i hi => ⟨π[i]'(by omega), List.getElem?_eq_getElem (by omega), by rw [List.getD_eq_getElem?_getD, List.getElem?_eq_getElem (by omega)]; rfl⟩
  refine ⟨h1, fun r hr => ?_, fun i j hi hj e => ?_, fun i hi => ?_⟩
  · obtain ⟨i, hi⟩ := List.mem_iff_getElem?.1 (inN_iff.1 (h2 r (List.mem_range.2 hr)))
    have hil : i < π.length := (List.getElem?_eq_some_iff.1 hi).1
    exact ⟨i, by omega, by rw [List.getD_eq_getElem?_getD, hi]; rfl⟩
  · obtain ⟨x, hx, ex⟩ := get i hi
    obtain ⟨y, hy, ey⟩ := get j hj
    have hxy : x = y := by rw [← ex, ← ey]; exact e
    subst hxy
    obtain ⟨hi', e1⟩ := List.getElem?_eq_some_iff.1 hx
    obtain ⟨hj', e2⟩ := List.getElem?_eq_some_iff.1 hy
    exact (List.getElem_inj hnd).1 (e1.trans e2.symm)
  · obtain ⟨x, hx, ex⟩ := get i hi
    rw [ex]
    have := h4 x (List.mem_of_getElem? hx)
    simpa [Nat.blt_eq] using this

theorem drawFast_draws {l : List Ins} (hl : l.length = ops.size) (h1 : drawFast ops l = true) (h2 : BackOk ops) : Draws ops l id fun _ _ => False := by
  refine ⟨hl, fun i j p q hij hp hq => ?_, h2, fun _ _ _ _ h => h, fun r hr => ⟨r, by omega, rfl⟩, fun i hi => by rw [← hl]; exact hi⟩
  have hjl : j < l.length := (List.getElem?_eq_some_iff.1 hq).1
  unfold drawFast at h1
  rw [Bool.and_eq_true] at h1
  have hr : ∀ k, k < ops.size → (List.range ops.size).getD k 0 = k := fun k hk => by
    rw [List.getD_eq_getElem?_getD, List.getElem?_range hk]; rfl
  have := fast_at h1.2 hij hp hq (by rw [List.length_range]; omega)
  rw [hr i (by omega), hr j (by omega)] at this
  refine this.imp masks_bef fun h => ⟨h.1, .inl ?_⟩
  have := h.2
  rwa [Bool.not_eq_true'] at this

theorem drawFastU_draws {us : List UI} {π : List Nat} (hl : us.length = ops.size) (hp : permOk ops.size π = true) (h1 : drawFastU (masks ops.toList) π us = true) (h2 : BackOk ops) :
    Draws ops (us.map UI.x) (fun i => π.getD i 0) fun i j => redone us i j = true := by
  obtain ⟨p0, p1, p2, p3⟩ := permOk_inv hp
  have hml : (us.map UI.x).length = ops.size := by simpa using hl
  refine ⟨hml, fun i j p q hij hp hq => ?_, h2, fun i j hi hj => p2 i j (by omega) (by omega), fun r hr => by rw [hml]; exact p1 r hr, fun i hi => p3 i (by omega)⟩
  have hjl : j < (us.map UI.x).length := (List.getElem?_eq_some_iff.1 hq).1
  unfold drawFastU at h1
  rw [Bool.and_eq_true] at h1
  rcases fast_at h1.2 hij hp hq (by omega) with h | ⟨h3, h4⟩
  · exact .inl (masks_bef h)
  · rw [Bool.or_eq_true] at h4
    rcases h4 with h4 | h4
    · exact .inr ⟨h3, (passes_or h4).imp id fun h => .inr h⟩
    · exact .inr ⟨h3, .inr (.inl h4)⟩

theorem pickAll_at {l₀ : List Ins} : ∀ {π : List Nat} {l : List Ins}, pickAll l₀ π = some l → l.length = π.length ∧ ∀ i, i < π.length → ∃ x, l[i]? = some x ∧ l₀[π.getD i 0]? = some x
  | [], l, h => by cases h; exact ⟨rfl, fun i hi => by simp at hi⟩
  | r :: π, l, h => by
    simp only [pickAll, Option.bind_eq_some_iff, Option.map_eq_some_iff] at h
    obtain ⟨x, hx, l', hl', rfl⟩ := h
    obtain ⟨h1, h2⟩ := pickAll_at hl'
    refine ⟨by simp [h1], fun i hi => ?_⟩
    cases i with
    | zero => exact ⟨x, rfl, hx⟩
    | succ i =>
      obtain ⟨y, h3, h4⟩ := h2 i (by simpa using hi)
      exact ⟨y, by simpa using h3, by simpa using h4⟩

theorem getD_replicate_off {m j : Nat} : (Array.replicate m false).getD j false = false := by
  rcases Nat.lt_or_ge j m with h | h
  · simp [h]
  · simp [h]

theorem drawn_sound {id : Nat} {l : List Ins} {R : Nat → Nat → Prop} {s s' : St} {a : Act} {w : World} {T : Nat → Tr AV} {H : Nat → Heap} {V : Nat → AV} (hmix : P.follows .mixedOrders = true) (hk : CallsOk P cf) (hm : CallsMono cf)
    {π : Nat → Nat} (d : Draws ops l π R) (cs : Comps P nt ops l π) (lex : Lex cf l T H V) (hR : Redo cf l T H V R) (t0 : T 0 = s.tm) (h0 : H 0 = s.hp) (tn : T l.length = s'.tm) (hn : H l.length = s'.hp) (hg : Good M₀ D₀ H₀ w₀ nt s a w) :
    (Code.region id ops true).wp P (Post M₀ D₀ H₀ w₀ nt .nrm s') a w := by
  have hl' := d.len
  obtain ⟨M, D, hx, hr, ht, hd, hp⟩ := hg
  rw [← t0] at ht
  rw [← h0] at hx hr hp
  obtain ⟨k, _, k1, k2, k3⟩ := next_eff l 0 (Nat.zero_le _)
  have nxm := Lex.nx lex hm hp (Nat.zero_le k) k1
  have calm := fun b (hb : b < (H 0).nx) => (Lex.calm lex hm (Nat.zero_le k) k1 (fun m x h1 h2 h3 => k2 m x h1 h2 h3) b hb).2
  refine wp_region_any hmix ?_
  let I : Array Bool → Act → World → Prop := fun S a w' => ∃ M' D' k', Inv nt ops l π T H V M D w S M' D' k' a w'
  have off : ∀ j, ¬ On (Array.replicate ops.size false) j := fun j hj => by unfold On at hj; rw [getD_replicate_off] at hj; cases hj
  refine wpAny_inv (I := I) ?_ ?_ (fun S a w' ⟨M', D', k', h⟩ => h.cl.size) ops.size _ a _ ⟨M, D, k, ?_⟩ (by
    have := List.countP_le_length (p := fun j => !(Array.replicate ops.size false).getD j false) (l := List.range ops.size)
    simpa using this)
  · intro S a w' i ⟨M', D', k', hinv⟩ hi
    obtain ⟨_, o, ho⟩ := ready_off hi
    obtain ⟨i, hil, rfl⟩ := d.sur i (Array.getElem?_eq_some_iff.1 ho).1
    exact hinv.step d cs hk hm lex hR hp hr.dom (fun t v htn hv => (ht.at_ t v htn hv).2) hil hi fun a' w'' M'' D'' k'' hi' => ⟨M'', D'', k'', hi'⟩
  · intro S a' w' ⟨M', D', k', hinv⟩ hnone
    have all : ∀ j, j < l.length → On S (π j) := fun j hj => hinv.cl.done d hnone _ (d.rng j hj)
    have hk' : k' = l.length := by
      rcases Nat.lt_or_ge k' l.length with h' | h'
      · exact ((hinv.k3 _ (List.getElem?_eq_getElem h')).2 (all k' h')).elim
      · have := hinv.k1; omega
    subst hk'
    refine ⟨rfl, M', D', hx.trans ?_, ?_, ⟨hinv.asz, fun t v htn hv => ?_⟩, hinv.df, ?_⟩
    · rw [← hn]; exact hinv.ext
    · rw [← hn]; exact hinv.rel
    · refine hinv.t1 t v htn ?_
      rw [val_lex lex (Nat.le_refl _) (fun j x hj _ _ => all j hj), tn]; exact hv
    · rw [← hn]; exact lex.mono hm hp l.length (Nat.le_refl _)
  · have hx0 : Ext M D (H 0) w M D (H 0) w.drew := Ext.drew
    have hr0 : Rel M D (H 0) w.drew := hr.same rfl
    refine ⟨⟨by simp, fun j o ho hj => (off j hj).elim⟩, ht.size, hd, fun t v htn hv => ?_, fun j _ hj => (off _ hj).elim, k1, fun j x h1 h2 h3 => (k2 j x (Nat.zero_le _) h1 h2 h3).elim, fun x hx => ⟨k3 x hx, off _⟩,
      hr0.later nxm calm, hx0.later hr.dom nxm calm, fun b hb => .inl hb, fun m hmk hne b hb hbm => ?_, fun i x h1 h2 h3 h4 b h5 h6 => ?_⟩
    · rw [val_stay (i := 0) (Nat.zero_le _) (fun j _ _ _ _ _ => off _)] at hv
      exact ht.at_ t v htn hv
    · rw [calm b (hr.dom b hb)]
      have hnm := Lex.nx lex hm hp (Nat.zero_le m) (by omega)
      exact (hr.blk b hb).okB.mono fun c hc => ⟨hc, Nat.lt_of_lt_of_le (hr.dom c hc) hnm⟩
    · exact (Lex.calm lex hm (i := i + 1) (j := k) h1 k1 (fun m x h7 h8 h9 => k2 m x (Nat.zero_le _) h8 h9) b h6).2

theorem mkUF_x (n : Nat) (all : List (Ins × MI)) : ∀ (l : List (Ins × MI)) (i : Nat), (mkUF n all l i).map UI.x = l.map (·.1)
  | [], _ => rfl
  | (x, m) :: l, i => by
    rw [mkUF, List.map_cons, List.map_cons, mkUF_x n all l (i + 1)]
    congr 1
    cases clsI x <;> rfl
theorem withM_x {b : List Nat} : ∀ {π : List Nat} {l : List Ins}, π.length = l.length → (withM b π l).map (·.1) = l
  | [], [], _ => rfl
  | r :: π, x :: l, h => by rw [withM, List.map_cons, withM_x (by simpa using h)]
  | [], _ :: _, h => by simp at h
  | _ :: _, [], h => by simp at h
theorem mkU_x {b : List Nat} {π : List Nat} {l : List Ins} (h : π.length = l.length) : (mkU b π l).map UI.x = l := by
  unfold mkU
  rw [mkUF_x, withM_x h]

theorem reg_sound {id : Nat} {draw : Bool} {ac : AC} {ih : AC → St → Out} {s s' : St} {e : Ex} {a : Act} {w : World} (hmix : P.follows .mixedOrders = true) (hk : CallsOk P cf) (hm : CallsMono cf)
    (hc : compReg P nt ops draw = some ac) (h : step cf ih ac s = .fin e s') (hg : Good M₀ D₀ H₀ w₀ nt s a w) :
    (Code.region id ops draw).wp P (Post M₀ D₀ H₀ w₀ nt e s') a w := by
  unfold compReg at hc
  cases draw with
  | false =>
    simp only [Bool.false_eq_true, if_false, Option.map_eq_some_iff] at hc
    obtain ⟨l, hc, rfl⟩ := hc
    have h : regF cf l s = .fin e s' := h
    have he := regF_nrm h
    subst he
    obtain ⟨hl, hcs⟩ := compOpers_at hc
    refine wp_region ?_
    rw [List.range_eq_range']
    exact ops_sound hk hm (fun j o ho => ⟨_, hcs j o (by simpa using ho)⟩) (by simpa using hl) ops.size 0 (by omega) (by simpa using h) hg fun a' w' hg' => ⟨rfl, hg'⟩
  | true =>
    simp only [if_true] at hc
    split at hc
    · rename_i hback
      have hback := backOk_of hback
      simp only [Option.bind_eq_some_iff] at hc
      have plain : ∀ {q : Nat → Bool} {l : List Ins}, compOpers P nt ops q 0 ops.toList = some l → drawOk ops l = true → ac = .reg l → (Code.region id ops true).wp P (Post M₀ D₀ H₀ w₀ nt e s') a w := by
        intro q l hl hd hac
        subst hac
        have h : regF cf l s = .fin e s' := h
        have he := regF_nrm h
        subst he
        obtain ⟨hl, hcs⟩ := compOpers_at hl
        have hl' : l.length = ops.size := by simpa using hl
        obtain ⟨T, H, V, lex, t0, h0, tn, hn⟩ := regF_lex h
        exact drawn_sound hmix hk hm (drawOk_draws hl' hd hback) ⟨fun i o _ ho => ⟨_, hcs i o (by simpa using ho)⟩⟩ lex (Redo.none _ _ _ _ _) t0 h0 tn hn hg
      have plainF : ∀ {q : Nat → Bool} {l : List Ins}, compOpers P nt ops q 0 ops.toList = some l → drawFast ops l = true → ac = .reg l → (Code.region id ops true).wp P (Post M₀ D₀ H₀ w₀ nt e s') a w := by
        intro q l hl hd hac
        subst hac
        have h : regF cf l s = .fin e s' := h
        have he := regF_nrm h
        subst he
        obtain ⟨hl, hcs⟩ := compOpers_at hl
        have hl' : l.length = ops.size := by simpa using hl
        obtain ⟨T, H, V, lex, t0, h0, tn, hn⟩ := regF_lex h
        exact drawn_sound hmix hk hm (drawFast_draws hl' hd hback) ⟨fun i o _ ho => ⟨_, hcs i o (by simpa using ho)⟩⟩ lex (Redo.none _ _ _ _ _) t0 h0 tn hn hg
      obtain ⟨l₀, hl₀, hc⟩ := hc
      split at hc
      · rename_i hd; cases hc; exact plainF hl₀ hd rfl
      · split at hc
        · rename_i c hcu
          cases hc
          unfold compU at hcu
          dsimp only at hcu
          split at hcu
          · rename_i hperm
            rw [Option.bind_eq_some_iff] at hcu
            obtain ⟨l, hl, hcu⟩ := hcu
            obtain ⟨g1, g2⟩ := pickAll_at hl
            obtain ⟨g3, g4⟩ := compOpers_at hl₀
            obtain ⟨p0, p1, p2, p3⟩ := permOk_inv hperm
            have hls : l.length = ops.size := by omega
            have cs : Comps P nt ops l fun i => (sched (masks ops.toList) (effB l₀) ops.size (List.range ops.size) 0 []).getD i 0 := ⟨fun i o hi ho => by
              obtain ⟨x, h3, h4⟩ := g2 i (by omega)
              obtain ⟨y, h5, h6⟩ := g4 _ o (show ops.toList[_]? = some o by rw [Array.getElem?_toList]; exact ho)
              have e := h4.symm.trans h5
              cases e
              exact ⟨_, x, h3, h6⟩⟩
            split at hcu
            · rename_i hd
              cases hcu
              have h : regF cf l s = .fin e s' := h
              have he := regF_nrm h
              subst he
              obtain ⟨T, H, V, lex, t0, h0, tn, hn⟩ := regF_lex h
              have hpx : (plainU l).map UI.x = l := by unfold plainU; rw [List.map_map]; exact List.map_id'' (fun _ => rfl) _
              have hpl : (plainU l).length = l.length := by unfold plainU; simp
              have d := drawFastU_draws (by rw [hpl]; exact hls) hperm hd hback
              rw [hpx] at d
              have nored : ∀ i j, ¬ redone (plainU l) i j = true := fun i j hr => by
                obtain ⟨p, q, hp, hq, hor⟩ := redone_inv hr
                unfold plainU at hp hq
                rw [List.getElem?_map, Option.map_eq_some_iff] at hp hq
                obtain ⟨_, _, rfl⟩ := hp
                obtain ⟨_, _, rfl⟩ := hq
                rcases hor with ⟨_, _, h⟩ | ⟨_, _, h⟩ <;> cases h
              exact drawn_sound hmix hk hm d cs lex ⟨fun i j _ _ _ _ h => (nored i j h).elim, fun i j _ _ _ _ h => (nored i j h).elim, fun i j _ _ _ _ h => (nored i j h).elim⟩ t0 h0 tn hn hg
            · split at hcu
              · rename_i hd
                cases hcu
                have h : regUF cf (mkU (masks ops.toList) (sched (masks ops.toList) (effB l₀) ops.size (List.range ops.size) 0 []) l) 0 [] [] s = .fin e s' := h
                have he := regF_nrm (regUF_reg h)
                subst he
                obtain ⟨T, H, V, lex, ag, t0, h0, tn, hn⟩ := regUF_lex h
                have hux := mkU_x (b := masks ops.toList) g1.symm
                have hlen := congrArg List.length hux
                rw [List.length_map] at hlen
                have d := drawFastU_draws (by rw [hlen]; exact hls) hperm hd hback
                have hR := ag.redo
                rw [hux] at lex d hR
                rw [hlen] at tn hn
                exact drawn_sound hmix hk hm d cs lex hR t0 h0 tn hn hg
              · cases hcu
          · cases hcu
        · simp only [Option.bind_eq_some_iff] at hc
          obtain ⟨l, hl, hc⟩ := hc
          split at hc
          · rename_i hd; cases hc; exact plain hl hd rfl
          · cases hc
    · cases hc
end
end Go.Ai
