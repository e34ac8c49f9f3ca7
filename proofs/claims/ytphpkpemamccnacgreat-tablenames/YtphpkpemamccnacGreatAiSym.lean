/- The interpreter without fuel, and rules to show what a run does. -/
import Derived.Test.YtphpkpemamccnacGreatAiCall
namespace Go.Ai

section
variable {tbl : Tr AFn}

/-! ### More fuel changes nothing -/
def CfLe (cf cf' : ACalls) : Prop := ∀ fv args H v H', cf fv args H = .ret v H' → cf' fv args H = .ret v H'
def IhLe (ih ih' : AC → St → Out) : Prop := ∀ c s e s', ih c s = .fin e s' → ih' c s = .fin e s'

theorem insV_le {cf cf' : ACalls} (h : CfLe cf cf') {x : Ins} {tm : Tr AV} {H : Heap} {r : AV × Heap} (hr : insV cf x tm H = some r) : insV cf' x tm H = some r := by
  cases x with
  | op g d o => exact hr
  | call g d q f args =>
    simp only [insV] at hr ⊢
    split at hr
    · cases hr
    · exact hr
    · split at hr
      · split at hr
        · cases hr
        · rename_i he; rw [h _ _ _ _ _ he]; exact hr
      · cases hr

theorem regF_le {cf cf' : ACalls} (h : CfLe cf cf') : ∀ {l : List Ins} {s : St} {e : Ex} {s' : St}, regF cf l s = .fin e s' → regF cf' l s = .fin e s'
  | [], _, _, _, hr => hr
  | x :: l, s, e, s', hr => by
    obtain ⟨s₁, h1, h2⟩ := regF_cons hr
    have h3 : insF cf' x s = some s₁ := by
      obtain ⟨tm, H⟩ := s
      rw [insF_eq] at h1 ⊢
      cases hv : insV cf x tm H with
      | none => rw [hv] at h1; cases h1
      | some r => rw [insV_le h hv]; rw [hv] at h1; exact h1
    show (Option.casesOn (insF cf' x s) .err (regF cf' l) : Out) = _
    rw [h3]
    exact regF_le h h2

theorem redoF_le {cf cf' : ACalls} (h : CfLe cf cf') {x : Ins} {tm : Tr AV} {H : Heap} {v : AV} (hr : redoF cf x tm H v = true) : redoF cf' x tm H v = true := by
  unfold redoF at hr ⊢
  cases hv : insV cf x tm H with
  | none => rw [hv] at hr; cases hr
  | some r => rw [hv] at hr; rw [insV_le h hv]; exact hr
theorem allB_le {α : Type} {f g : α → Bool} (h : ∀ x, f x = true → g x = true) : ∀ {l : List α}, allB f l = true → allB g l = true
  | [], _ => rfl
  | y :: l, hr => by
    have h0 : (Bool.casesOn (f y) false (allB f l) : Bool) = true := hr
    show (Bool.casesOn (g y) false (allB g l) : Bool) = true
    cases hy : f y with
    | false => rw [hy] at h0; cases h0
    | true => rw [hy] at h0; rw [h y hy]; exact allB_le h h0
theorem regUF_le {cf cf' : ACalls} (h : CfLe cf cf') : ∀ {us : List UI} {j : Nat} {sn : List (Nat × Heap)} {sv : List (Nat × Sv)} {s : St} {e : Ex} {s' : St}, regUF cf us j sn sv s = .fin e s' → regUF cf' us j sn sv s = .fin e s'
  | [], _, _, _, _, _, _, hr => hr
  | u :: us, j, sn, sv, s, e, s', hr => by
    simp only [regUF] at hr ⊢
    cases hv : insV cf u.x s.tm s.hp with
    | none => rw [hv] at hr; cases hr
    | some r =>
      rw [hv] at hr; rw [insV_le h hv]
      dsimp only at hr ⊢
      split at hr
      · cases hr
      · rename_i hok
        rw [Bool.and_eq_true] at hok
        have h1 : backF cf' u.x s.tm r.1 sn u.back = true := allB_le (fun k hk => by
          cases hf : findN k sn with
          | none => rw [hf] at hk; cases hk
          | some K => rw [hf] at hk; exact redoF_le h hk) hok.1
        have h2 : againF cf' r.2 sv u.again = true := allB_le (fun i hi => by
          cases hf : findN i sv with
          | none => rw [hf] at hi; cases hi
          | some y =>
            rw [hf] at hi
            dsimp only at hi ⊢
            cases hd : redoF cf y.x y.tm r.2 y.v with
            | false => rw [hd] at hi; cases hi
            | true => rw [hd] at hi; rw [redoF_le h hd]; exact hi) hok.2
        rw [h1, h2]
        exact regUF_le h hr

theorem bindK_fwd : ∀ (ps : List P) (vs : List AV) (tm tm' : Tr AV) (e : CRes) (k : Tr AV → CRes), bindK ps vs tm none some = some tm' → bindK ps vs tm e k = k tm'
  | [], [], tm, tm', e, k, h => by have h' : some tm = some tm' := h; cases h'; rfl
  | [], _ :: _, tm, tm', e, k, h => by cases h
  | p :: ps, [], tm, tm', e, k, h => by cases h
  | p :: ps, v :: vs, tm, tm', e, k, h => by
    have h' : Tr.setK p v tm (fun tm' => bindK ps vs tm' none some) = some tm' := h
    show Tr.setK p v tm (fun tm' => bindK ps vs tm' e k) = k tm'
    rw [Tr.setK_eq] at h' ⊢
    exact bindK_fwd ps vs _ _ e k h'

theorem callF_code {ih : AC → St → Out} {f : Nat} {first cap args : List AV} {H : Heap} {ps : List P} {body : AC} {res : List Rv} {tm : Tr AV} {e : Ex} {s : St} {vs : List AV}
    (hf : tbl.get (key f) = some (.code ps body res)) (hb : bindK ps (first ++ (args ++ cap)) .leaf none some = some tm) (hi : ih body ⟨tm, H⟩ = .fin e s) (he : e = .nrm ∨ e = .ret) (hr : resF s res = some vs) :
    callF tbl ih (.func f first cap) args H = .ret (one vs) s.hp := by
  simp only [callF, hf, appK_eq, id]
  rw [bindK_fwd _ _ _ _ _ _ hb, hi]
  rcases he with rfl | rfl <;> (dsimp only; rw [hr])

theorem callF_le {ih ih' : AC → St → Out} (h : IhLe ih ih') : CfLe (callF tbl ih) (callF tbl ih') := by
  intro fv args H v H' hc
  obtain ⟨f, first, cap, rfl, hor⟩ := callF_inv hc
  rcases hor with ⟨g, hg, hh⟩ | ⟨ps, body, res, tm, e, s, vs, hf, hb, hx, he, hres, rfl, rfl⟩
  · simp only [callF, hg, appK_eq, id]; exact hh
  · exact callF_code hf hb (h _ _ _ _ hx) he hres

theorem step_le {cf cf' : ACalls} {ih ih' : AC → St → Out} (hc : CfLe cf cf') (h : IhLe ih ih') : IhLe (step cf ih) (step cf' ih') := by
  intro c s e s' hr
  cases c with
  | skip => exact hr
  | reg l => exact regF_le hc hr
  | regU l => exact regUF_le hc hr
  | seq a b =>
    rcases step_seq_inv hr with ⟨s₁, h1, h2⟩ | ⟨h1, hne⟩
    · simp only [step]; rw [h _ _ _ _ h1]; exact h _ _ _ _ h2
    · simp only [step]; rw [h _ _ _ _ h1]; cases e <;> first | exact (hne rfl).elim | rfl
  | cond c a b =>
    obtain ⟨t, h1, h2⟩ := step_cond_inv hr
    simp only [step]; rw [h1]
    cases t <;> exact h _ _ _ _ h2
  | block id a =>
    simp only [step] at hr ⊢
    cases ha : ih a s with
    | err => rw [ha] at hr; cases hr
    | fin e₁ s₁ => rw [ha] at hr; rw [h _ _ _ _ ha]; exact hr
  | loop a =>
    rcases step_loop_inv hr with ⟨s₁, h1, h2⟩ | ⟨h1, hne⟩
    · simp only [step]; rw [h _ _ _ _ h1]; exact h _ _ _ _ h2
    · simp only [step]; rw [h _ _ _ _ h1]; cases e <;> first | exact (hne rfl).elim | rfl
  | exit id => exact hr
  | ret => exact hr

theorem exec_succ_le : ∀ n, IhLe (exec tbl n) (exec tbl (n + 1))
  | 0 => fun c s e s' h => by cases h
  | n + 1 => step_le (callF_le (exec_succ_le n)) (exec_succ_le n)
theorem exec_le {n m : Nat} (h : n ≤ m) : IhLe (exec tbl n) (exec tbl m) := by
  induction m with
  | zero => have : n = 0 := by omega
            subst this; exact fun _ _ _ _ h => h
  | succ m ih =>
    by_cases e : n = m + 1
    · subst e; exact fun _ _ _ _ h => h
    · exact fun c s x s' hx => exec_succ_le m _ _ _ _ (ih (by omega) c s x s' hx)
theorem call_le {n m : Nat} (h : n ≤ m) : CfLe (call tbl n) (call tbl m) := callF_le (exec_le h)

/-! ### Runs -/
/-- the run ends in a way and a state of which Q holds -/
def Wp (tbl : Tr AFn) (c : AC) (s : St) (Q : Ex → St → Prop) : Prop := ∃ n e s', exec tbl n c s = .fin e s' ∧ Q e s'
def WpR (tbl : Tr AFn) (l : List Ins) (s : St) (K : St → Prop) : Prop := ∃ n s', regF (call tbl n) l s = .fin .nrm s' ∧ K s'
def WpC (tbl : Tr AFn) (fv : AV) (args : List AV) (H : Heap) (R : AV → Heap → Prop) : Prop := ∃ n v H', call tbl n fv args H = .ret v H' ∧ R v H'

theorem Wp.mono {c : AC} {s : St} {Q Q' : Ex → St → Prop} (h : Wp tbl c s Q) (k : ∀ e s, Q e s → Q' e s) : Wp tbl c s Q' :=
  let ⟨n, e, s', h1, h2⟩ := h; ⟨n, e, s', h1, k _ _ h2⟩
theorem WpC.mono {fv : AV} {args : List AV} {H : Heap} {R R' : AV → Heap → Prop} (h : WpC tbl fv args H R) (k : ∀ v H, R v H → R' v H) : WpC tbl fv args H R' :=
  let ⟨n, v, H', h1, h2⟩ := h; ⟨n, v, H', h1, k _ _ h2⟩

theorem Wp.skip {s : St} {Q : Ex → St → Prop} (h : Q .nrm s) : Wp tbl .skip s Q := ⟨1, .nrm, s, rfl, h⟩
theorem Wp.exit {id : Nat} {s : St} {Q : Ex → St → Prop} (h : Q (.exi id) s) : Wp tbl (.exit id) s Q := ⟨1, .exi id, s, rfl, h⟩
theorem Wp.ret {s : St} {Q : Ex → St → Prop} (h : Q .ret s) : Wp tbl .ret s Q := ⟨1, .ret, s, rfl, h⟩
theorem Wp.reg {l : List Ins} {s : St} {Q : Ex → St → Prop} (h : WpR tbl l s (Q .nrm)) : Wp tbl (.reg l) s Q := by
  obtain ⟨n, s', h1, h2⟩ := h
  exact ⟨n + 1, .nrm, s', h1, h2⟩
theorem Wp.regU {l : List UI} {s : St} {Q : Ex → St → Prop} {n : Nat} {s' : St} (h : regUF (call tbl n) l 0 [] [] s = .fin .nrm s') (hQ : Q .nrm s') : Wp tbl (.regU l) s Q := ⟨n + 1, .nrm, s', h, hQ⟩
/-- what comes behind a normal end; any other end passes -/
def Ex.thn (Q : Ex → St → Prop) (K : St → Prop) : Ex → St → Prop
  | .nrm, s => K s
  | e, s => Q e s
theorem Wp.seq {a b : AC} {s : St} {Q : Ex → St → Prop} (h : Wp tbl a s (Ex.thn Q fun s => Wp tbl b s Q)) : Wp tbl (.seq a b) s Q := by
  obtain ⟨n, e, s₁, h1, h2⟩ := h
  cases e with
  | nrm =>
    obtain ⟨m, e, s₂, h3, h4⟩ := h2
    refine ⟨max n m + 1, e, s₂, ?_, h4⟩
    show step (callF tbl (exec tbl (max n m))) (exec tbl (max n m)) (.seq a b) s = _
    simp only [step]
    rw [exec_le (Nat.le_max_left n m) _ _ _ _ h1]
    exact exec_le (Nat.le_max_right n m) _ _ _ _ h3
  | exi id => exact ⟨n + 1, .exi id, s₁, by show step (callF tbl (exec tbl n)) (exec tbl n) (.seq a b) s = _; simp only [step]; rw [h1], h2⟩
  | ret => exact ⟨n + 1, .ret, s₁, by show step (callF tbl (exec tbl n)) (exec tbl n) (.seq a b) s = _; simp only [step]; rw [h1], h2⟩
theorem Wp.cond {c : Opd} {a b : AC} {s : St} {Q : Ex → St → Prop} {t : Bool} (hc : ev s.tm c = some (.bool t)) (h : Wp tbl (if t then a else b) s Q) : Wp tbl (.cond c a b) s Q := by
  obtain ⟨n, e, s₁, h1, h2⟩ := h
  refine ⟨n + 1, e, s₁, ?_, h2⟩
  show step (callF tbl (exec tbl n)) (exec tbl n) (.cond c a b) s = _
  simp only [step]
  rw [hc]
  cases t <;> exact h1
/-- an exit to the block ends it -/
def Ex.blk (id : Nat) (Q : Ex → St → Prop) : Ex → St → Prop
  | .exi i, s => if i = id then Q .nrm s else Q (.exi i) s
  | e, s => Q e s
theorem Wp.block {id : Nat} {a : AC} {s : St} {Q : Ex → St → Prop} (h : Wp tbl a s (Ex.blk id Q)) : Wp tbl (.block id a) s Q := by
  obtain ⟨n, e, s₁, h1, h2⟩ := h
  cases e with
  | nrm => exact ⟨n + 1, .nrm, s₁, by show step (callF tbl (exec tbl n)) (exec tbl n) (.block id a) s = _; simp only [step]; rw [h1], h2⟩
  | ret => exact ⟨n + 1, .ret, s₁, by show step (callF tbl (exec tbl n)) (exec tbl n) (.block id a) s = _; simp only [step]; rw [h1], h2⟩
  | exi i =>
    by_cases hi : i = id
    · subst hi
      refine ⟨n + 1, .nrm, s₁, ?_, by simpa [Ex.blk] using h2⟩
      show step (callF tbl (exec tbl n)) (exec tbl n) (.block i a) s = _
      simp only [step]; rw [h1]
      dsimp only
      rw [show Nat.beq i i = true from Nat.beq_refl i]
    · refine ⟨n + 1, .exi i, s₁, ?_, by simpa [Ex.blk, hi] using h2⟩
      show step (callF tbl (exec tbl n)) (exec tbl n) (.block id a) s = _
      simp only [step]; rw [h1]
      dsimp only
      have : Nat.beq i id = false := by cases hb : Nat.beq i id with
        | false => rfl
        | true => exact (hi (Nat.eq_of_beq_eq_true hb)).elim
      rw [this]
theorem Wp.round {a : AC} {s : St} {Q : Ex → St → Prop} (h : Wp tbl a s (Ex.thn Q fun s => Wp tbl (.loop a) s Q)) : Wp tbl (.loop a) s Q := by
  obtain ⟨n, e, s₁, h1, h2⟩ := h
  cases e with
  | nrm =>
    obtain ⟨m, e, s₂, h3, h4⟩ := h2
    refine ⟨max n m + 1, e, s₂, ?_, h4⟩
    show step (callF tbl (exec tbl (max n m))) (exec tbl (max n m)) (.loop a) s = _
    simp only [step]
    rw [exec_le (Nat.le_max_left n m) _ _ _ _ h1]
    exact exec_le (Nat.le_max_right n m) _ _ _ _ h3
  | exi id => exact ⟨n + 1, .exi id, s₁, by show step (callF tbl (exec tbl n)) (exec tbl n) (.loop a) s = _; simp only [step]; rw [h1], h2⟩
  | ret => exact ⟨n + 1, .ret, s₁, by show step (callF tbl (exec tbl n)) (exec tbl n) (.loop a) s = _; simp only [step]; rw [h1], h2⟩
/-- a loop: what holds at the head of each round, and what becomes less -/
theorem Wp.loop {a : AC} {Q : Ex → St → Prop} (I : St → Prop) (μ : St → Nat) {s : St} (h₀ : I s)
    (round : ∀ s, I s → Wp tbl a s (Ex.thn Q fun s' => I s' ∧ μ s' < μ s)) : Wp tbl (.loop a) s Q := by
  have key : ∀ n s, μ s = n → I s → Wp tbl (.loop a) s Q := by
    intro n
    induction n using Nat.strongRecOn with
    | _ n ih =>
      intro s hn hI
      refine Wp.round ((round s hI).mono fun e s' h => ?_)
      cases e with
      | nrm => exact ih (μ s') (hn ▸ h.2) s' rfl h.1
      | exi id => exact h
      | ret => exact h
  exact key _ s rfl h₀

theorem WpR.nil {s : St} {K : St → Prop} (h : K s) : WpR tbl [] s K := ⟨0, s, rfl, h⟩
theorem WpR.cons {x : Ins} {l : List Ins} {tm : Tr AV} {H : Heap} {K : St → Prop} {n : Nat} {v : AV} {H' : Heap} (hv : insV (call tbl n) x tm H = some (v, H')) (h : WpR tbl l ⟨tm.putO x.dst v, H'⟩ K) : WpR tbl (x :: l) ⟨tm, H⟩ K := by
  obtain ⟨m, s', h1, h2⟩ := h
  refine ⟨max n m, s', ?_, h2⟩
  show (Option.casesOn (insF (call tbl (max n m)) x ⟨tm, H⟩) .err (regF (call tbl (max n m)) l) : Out) = _
  rw [insF_eq, insV_le (call_le (Nat.le_max_left n m)) hv]
  exact regF_le (call_le (Nat.le_max_right n m)) h1
theorem WpR.op {g : Gd} {d : Option P} {o : AOp} {l : List Ins} {tm : Tr AV} {H H' : Heap} {v : AV} {K : St → Prop} (hg : wantF tm g = some true) (ho : opF o tm H = some (v, H')) (h : WpR tbl l ⟨tm.putO d v, H'⟩ K) :
    WpR tbl (.op g d o :: l) ⟨tm, H⟩ K := WpR.cons (n := 0) (by simp only [insV, hg]; exact ho) h
theorem WpR.not {x : Ins} {l : List Ins} {tm : Tr AV} {H : Heap} {K : St → Prop} (hg : wantF tm (match x with | .op g _ _ => g | .call g _ _ _ _ => g) = some false) (h : WpR tbl l ⟨tm.putO x.dst .undef, H⟩ K) :
    WpR tbl (x :: l) ⟨tm, H⟩ K := WpR.cons (n := 0) (by cases x <;> (simp only at hg; simp only [insV, hg])) h
theorem WpR.call {g : Gd} {d : Option P} {q : Bool} {f : Opd} {args : List Opd} {l : List Ins} {tm : Tr AV} {H : Heap} {fv : AV} {vs : List AV} {K : St → Prop} (hg : wantF tm g = some true) (hf : ev tm f = some fv) (ha : evs tm args = some vs)
    (h : WpC tbl fv vs (H.shut q) fun v H' => WpR tbl l ⟨tm.putO d v, H'.back H.ro⟩ K) : WpR tbl (.call g d q f args :: l) ⟨tm, H⟩ K := by
  obtain ⟨n, v, H', h1, h2⟩ := h
  exact WpR.cons (n := n) (by simp only [insV, hg, hf, ha, h1]) h2

theorem WpC.code {f : Nat} {first cap args : List AV} {H : Heap} {ps : List P} {body : AC} {res : List Rv} {tm : Tr AV} {R : AV → Heap → Prop}
    (hf : tbl.get (key f) = some (.code ps body res)) (hb : bindK ps (first ++ (args ++ cap)) .leaf none some = some tm)
    (h : Wp tbl body ⟨tm, H⟩ fun e s => (e = .nrm ∨ e = .ret) ∧ ∃ vs, resF s res = some vs ∧ R (one vs) s.hp) : WpC tbl (.func f first cap) args H R := by
  obtain ⟨n, e, s, h1, he, vs, h2, h3⟩ := h
  exact ⟨n, one vs, s.hp, callF_code hf hb h1 he h2, h3⟩
end
end Go.Ai
