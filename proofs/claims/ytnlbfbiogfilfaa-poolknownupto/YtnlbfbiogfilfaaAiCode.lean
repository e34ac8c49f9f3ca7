/- Code of the interpreter is the model's; so are its calls. -/
import Derived.Test.YtnlbfbiogfilfaaAiDraw
import Derived.Scope
namespace Go.Ai

/-- where a run stands, as against where it began -/
def Good (M₀ : Mp) (D₀ : Nat → Prop) (H₀ : Heap) (w₀ : World) (nt : Nat) (s : St) (a : Act) (w : World) : Prop :=
  ∃ M D, Ext M₀ D₀ H₀ w₀ M D s.hp w ∧ Rel M D s.hp w ∧ TmRel M D nt s.tm a ∧ a.defers = [] ∧ HpOk s.hp

def Ex.to : Ex → Exit
  | .nrm => .normal
  | .exi id => .exit id
  | .ret => .ret

def Post (M₀ : Mp) (D₀ : Nat → Prop) (H₀ : Heap) (w₀ : World) (nt : Nat) (e : Ex) (s : St) : Exit → Act → World → Prop :=
  fun x a w => x = e.to ∧ Good M₀ D₀ H₀ w₀ nt s a w

section
variable {P : Program} {nt : Nat} {ops : Array Oper} {M₀ : Mp} {D₀ : Nat → Prop} {H₀ : Heap} {w₀ : World} {cf : ACalls}

theorem compOper_dst {q : Bool} {o : Oper} {x : Ins} (hc : compOper P nt ops q o = some x) : compDst nt o.dst = some x.dst := by
  unfold compOper at hc
  simp only [Option.bind_eq_some_iff] at hc
  obtain ⟨g, _, c, hc', hc⟩ := hc
  rw [hc']
  split at hc
  · simp only [Option.bind_eq_some_iff, Option.some.injEq] at hc
    obtain ⟨_, _, _, _, rfl⟩ := hc; rfl
  · simp only [Option.bind_eq_some_iff, Option.some.injEq] at hc
    obtain ⟨_, _, rfl⟩ := hc; rfl

theorem TmRel.putO {M : Mp} {D : Nat → Prop} {tm : Tr AV} {a : Act} {v : AV} {d : Option Tmp} {c : Option Ai.P} (hc : compDst nt d = some c) (h : TmRel M D nt tm a) (hv : okv D v) :
    TmRel M D nt (tm.putO c v) (a.put d (conc M v)) := by
  cases d with
  | none => cases hc; exact h
  | some d =>
    simp only [compDst] at hc
    split at hc
    · cases hc; rw [keyC_eq]; exact h.put (by assumption) hv
    · cases hc

theorem put_defers (a : Act) (d : Option Tmp) (v : Value) : (a.put d v).defers = a.defers := by cases d <;> rfl

theorem compOpers_at : ∀ {q : Nat → Bool} {os : List Oper} {i : Nat} {l : List Ins}, compOpers P nt ops q i os = some l →
    l.length = os.length ∧ ∀ (j : Nat) (o : Oper), os[j]? = some o → ∃ x, l[j]? = some x ∧ compOper P nt ops (q (i + j)) o = some x
  | q, [], i, l, h => by cases h; simp
  | q, o :: os, i, l, h => by
    simp only [compOpers, Option.bind_eq_some_iff, Option.map_eq_some_iff] at h
    obtain ⟨x, hx, r, hr, rfl⟩ := h
    obtain ⟨h1, h2⟩ := compOpers_at hr
    refine ⟨by simp [h1], fun j p hp => ?_⟩
    cases j with
    | zero => simp at hp; subst hp; exact ⟨x, rfl, hx⟩
    | succ j =>
      obtain ⟨y, h3, h4⟩ := h2 j p (by simpa using hp)
      exact ⟨y, by simpa using h3, by rw [show i + (j + 1) = i + 1 + j by omega]; exact h4⟩

theorem Good.next {q : Bool} {o : Oper} {x : Ins} {i : Nat} {Q : Exit → Act → World → Prop} {K : Act → World → Prop} {s s' : St} {a : Act} {w : World} (hk : CallsOk P cf) (hm : CallsMono cf)
    (hc : compOper P nt ops q o = some x) (ho : ops[i]? = some o) (hg : Good M₀ D₀ H₀ w₀ nt s a w) (hs : insF cf x s = some s')
    (hK : ∀ a' w', Good M₀ D₀ H₀ w₀ nt s' a' w' → K a' w') : wpOp P ops Q i K a w := by
  obtain ⟨M, D, hx, hr, ht, hd, hp⟩ := hg
  obtain ⟨tm, H⟩ := s
  rw [insF_eq] at hs
  cases hv : insV cf x tm H with
  | none => rw [hv] at hs; cases hs
  | some r =>
    rw [hv] at hs; cases hs
    refine ins_sound hk hp hc ho ht hr (v := r.1) (H' := r.2) hv fun M' D' w' hr' hx' hv' => hK _ _ ⟨M', D', hx.trans hx', hr', ?_, by rw [put_defers]; exact hd, hp.mono (insV_mono hm hp.ro hv)⟩
    exact (ht.mono hx'.keep hx'.agree).putO (compOper_dst hc) hv'

theorem ops_sound {Q : Exit → Act → World → Prop} {l : List Ins} (hk : CallsOk P cf) (hm : CallsMono cf) (hcs : ∀ (j : Nat) (o : Oper), ops[j]? = some o → ∃ q x, l[j]? = some x ∧ compOper P nt ops q o = some x) (hl : l.length = ops.size) :
    ∀ (n m : Nat) {s s' : St} {e : Ex} {a : Act} {w : World}, m + n = ops.size → regF cf (l.drop m) s = .fin e s' → Good M₀ D₀ H₀ w₀ nt s a w → (∀ a' w', Good M₀ D₀ H₀ w₀ nt s' a' w' → Q .normal a' w') → wpOps P ops Q (List.range' m n) a w := by
  intro n
  induction n with
  | zero =>
    intro m s s' e a w hmn h hg hQ
    rw [List.drop_eq_nil_of_le (by omega), regF_nil] at h
    cases h
    exact hQ _ _ hg
  | succ n ih =>
    intro m s s' e a w hmn h hg hQ
    have hmo : ops[m]? = some ops[m] := Array.getElem?_eq_getElem (by omega)
    obtain ⟨q, x, hx, hc⟩ := hcs m _ hmo
    have hxe : l[m] = x := by rw [List.getElem?_eq_getElem (by omega)] at hx; simpa using hx
    rw [List.drop_eq_getElem_cons (by omega), hxe] at h
    obtain ⟨s₁, h1, h2⟩ := regF_cons h
    rw [List.range'_succ, wpOps_cons]
    exact Good.next hk hm hc hmo hg h1 fun a' w' hg' => ih (m + 1) (by omega) h2 hg' hQ

theorem drawOk_draws {l : List Ins} (hl : l.length = ops.size) (h1 : drawOk ops l = true) (h2 : (ops.toList.zipIdx.all fun (o, i) => o.after.toList.all fun e => !Region.binds .any e || decide (e.on < i)) = true) : Draws ops l := by
  refine ⟨hl, fun i j p q hij hp hq => ?_, fun j o ho e he hb => ?_⟩
  · have hjl : j < ops.size := by
      rcases Nat.lt_or_ge j l.length with h' | h'
      · omega
      · rw [List.getElem?_eq_none h'] at hq; cases hq
    unfold drawOk at h1
    simp only [List.all_eq_true, List.mem_range] at h1
    have := h1 j hjl i hij
    simp only [Bool.or_eq_true, List.contains_iff_mem, hp, hq, Bool.and_eq_true, Bool.not_eq_true'] at this
    exact this
  · simp only [List.all_eq_true] at h2
    have hmem : (o, j) ∈ ops.toList.zipIdx := by
      rw [List.mem_zipIdx_iff_getElem?]; simpa using ho
    have := h2 (o, j) hmem e (by simpa using he)
    simpa [hb] using this

theorem reg_sound {id : Nat} {draw : Bool} {l : List Ins} {s s' : St} {e : Ex} {a : Act} {w : World} (hmix : P.follows .mixedOrders = true) (hk : CallsOk P cf) (hm : CallsMono cf)
    (hc : compReg P nt ops draw = some l) (h : regF cf l s = .fin e s') (hg : Good M₀ D₀ H₀ w₀ nt s a w) :
    (Code.region id ops draw).wp P (Post M₀ D₀ H₀ w₀ nt e s') a w := by
  have he := regF_nrm h
  subst he
  unfold compReg at hc
  cases draw with
  | false =>
    simp only [Bool.false_eq_true, if_false] at hc
    obtain ⟨hl, hcs⟩ := compOpers_at hc
    refine wp_region ?_
    rw [List.range_eq_range']
    exact ops_sound hk hm (fun j o ho => ⟨_, hcs j o (by simpa using ho)⟩) (by simpa using hl) ops.size 0 (by omega) (by simpa using h) hg fun a' w' hg' => ⟨rfl, hg'⟩
  | true =>
    simp only [if_true, Option.bind_eq_some_iff] at hc
    obtain ⟨l₀, _, l₁, hc1, hc⟩ := hc
    split at hc
    · rename_i hok
      cases hc
      simp only [Bool.and_eq_true] at hok
      obtain ⟨hl, hcs⟩ := compOpers_at hc1
      have hl' : l.length = ops.size := by simpa using hl
      have d := drawOk_draws hl' hok.1 hok.2
      have cs : Comps P nt ops l := ⟨fun i o ho => ⟨_, hcs i o (by simpa using ho)⟩⟩
      obtain ⟨M, D, hx, hr, ht, hd, hp⟩ := hg
      obtain ⟨T, H, V, lex, t0, h0, tn, hn⟩ := regF_lex h
      rw [← t0] at ht
      rw [← h0] at hx hr hp
      obtain ⟨k, _, k1, k2, k3⟩ := next_eff l 0 (Nat.zero_le _)
      have nxm := Lex.nx lex hm hp (Nat.zero_le k) k1
      have calm := fun b (hb : b < (H 0).nx) => (Lex.calm lex hm (Nat.zero_le k) k1 (fun m x h1 h2 h3 => k2 m x h1 h2 h3) b hb).2
      refine wp_region_any hmix ?_
      let I : Array Bool → Act → World → Prop := fun S a w' => ∃ M' D' k', Inv nt ops l T H V M D w S M' D' k' a w'
      have off : ∀ j, ¬ On (Array.replicate ops.size false) j := fun j hj => by unfold On at hj; rw [getD_replicate_false'] at hj; cases hj
      refine wpAny_inv (I := I) ?_ ?_ (fun S a w' ⟨M', D', k', h⟩ => h.cl.size) ops.size _ a _ ⟨M, D, k, ?_⟩ (by
        have := List.countP_le_length (p := fun j => !(Array.replicate ops.size false).getD j false) (l := List.range ops.size)
        simpa using this)
      · intro S a w' i ⟨M', D', k', hinv⟩ hi
        exact hinv.step d cs hk hm lex hp hr.dom (fun t v htn hv => (ht.at_ t v htn hv).2) hi fun a' w'' M'' D'' k'' hi' => ⟨M'', D'', k'', hi'⟩
      · intro S a' w' ⟨M', D', k', hinv⟩ hnone
        have all := hinv.cl.done d hnone
        have hk' : k' = l.length := by
          rcases Nat.lt_or_ge k' l.length with h' | h'
          · exact ((hinv.k3 _ (List.getElem?_eq_getElem h')).2 (all k' (by omega))).elim
          · have := hinv.k1; omega
        subst hk'
        refine ⟨rfl, M', D', hx.trans ?_, ?_, ⟨hinv.asz, fun t v htn hv => ?_⟩, hinv.df, ?_⟩
        · rw [← hn]; exact hinv.ext
        · rw [← hn]; exact hinv.rel
        · refine hinv.t1 t v htn ?_
          rw [val_lex lex (Nat.le_refl _) (fun j x hj _ _ => all j (by omega)), tn]; exact hv
        · rw [← hn]; exact lex.mono hm hp l.length (Nat.le_refl _)
      · have hx0 : Ext M D (H 0) w M D (H 0) w.drew := Ext.drew
        have hr0 : Rel M D (H 0) w.drew := hr.same rfl
        refine ⟨⟨by simp, fun j o ho hj => (off j hj).elim⟩, ht.size, hd, fun t v htn hv => ?_, fun j hj => (off j hj).elim, k1, fun j x h1 h2 h3 => (k2 j x (Nat.zero_le _) h1 h2 h3).elim, fun x hx => ⟨k3 x hx, off k⟩,
          hr0.later nxm calm, hx0.later hr.dom nxm calm, fun b hb => .inl hb, fun m hmk hne b hb hbm => ?_⟩
        · rw [val_stay (i := 0) (Nat.zero_le _) (fun j _ _ _ _ _ => off j)] at hv
          exact ht.at_ t v htn hv
        · rw [calm b (hr.dom b hb)]
          have hnm := Lex.nx lex hm hp (Nat.zero_le m) (by omega)
          exact (hr.blk b hb).okB.mono fun c hc => ⟨hc, Nat.lt_of_lt_of_le (hr.dom c hc) hnm⟩
    · cases hc
where
  getD_replicate_false' {m j : Nat} : (Array.replicate m false).getD j false = false := by
    rcases Nat.lt_or_ge j m with h | h
    · simp [h]
    · simp [h]
end
end Go.Ai
