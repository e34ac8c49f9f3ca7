/- The interpreter in continuation style, for long runs by the kernel: what it returns, the interpreter's calls return. -/
import Derived.Test.YtnlbfbiogfilfaaAiCpsOk
import Derived.Test.YtnlbfbiogfilfaaAiCallSym
import Derived.Test.YtnlbfbiogfilfaaPaSCode
import Derived.Test.YtnlbfbiogfilfaaAiInsert
set_option linter.all false
namespace Go.Ai
noncomputable def getV : P → Tr AV → (AV → CRes) → CRes := P.rec (motive := fun _ => Tr AV → (AV → CRes) → CRes)
  (Tr.rec (motive := fun _ => (AV → CRes) → CRes) (fun _ => .err) (fun _ v _ _ _ k => oC v k))
  (fun _ ih => Tr.rec (motive := fun _ => (AV → CRes) → CRes) (fun _ => .err) (fun l _ _ _ _ k => ih l k))
  (fun _ ih => Tr.rec (motive := fun _ => (AV → CRes) → CRes) (fun _ => .err) (fun _ _ r _ _ k => ih r k))
noncomputable def setV : P → AV → Tr AV → (Tr AV → CRes) → CRes := P.rec (motive := fun _ => AV → Tr AV → (Tr AV → CRes) → CRes)
  (fun x => Tr.rec (motive := fun _ => (Tr AV → CRes) → CRes) (fun k => k (.node .leaf (some x) .leaf)) (fun l _ r _ _ k => k (.node l (some x) r)))
  (fun _ ih x => Tr.rec (motive := fun _ => (Tr AV → CRes) → CRes) (fun k => ih x .leaf fun l => k (.node l none .leaf)) (fun l v r _ _ k => ih x l fun l => k (.node l v r)))
  (fun _ ih x => Tr.rec (motive := fun _ => (Tr AV → CRes) → CRes) (fun k => ih x .leaf fun r => k (.node .leaf none r)) (fun l v r _ _ k => ih x r fun r => k (.node l v r)))
noncomputable def evX (tm : Tr AV) (x : Opd) : (AV → CRes) → CRes := Opd.rec (motive := fun _ => (AV → CRes) → CRes) (fun p k => getV p tm k) (fun v k => k v) x
noncomputable def evsX (tm : Tr AV) : List Opd → (List AV → CRes) → CRes := List.rec (motive := fun _ => (List AV → CRes) → CRes) (fun k => k []) (fun x _ ih k => evX tm x fun v => ih fun vs => k (v :: vs))
noncomputable def evOX (tm : Tr AV) (x : Option Opd) : (Option AV → CRes) → CRes := Option.rec (motive := fun _ => (Option AV → CRes) → CRes) (fun k => k none) (fun x k => evX tm x fun v => k (some v)) x
noncomputable def evPX (tm : Tr AV) : List (Nat × Nat × Opd) → (List (Nat × Nat × AV) → CRes) → CRes :=
  List.rec (motive := fun _ => (List (Nat × Nat × AV) → CRes) → CRes) (fun k => k []) (fun x _ ih k => evX tm x.2.2 fun v => ih fun vs => k ((x.1, x.2.1, v) :: vs))
noncomputable def fbX (b : Bool) (k : AV → CRes) : CRes := ifB b (k (.bool true)) (k (.bool false))
noncomputable def aa4 : AV → (IntKind → Int → CRes) → CRes := AV.rec (motive_1 := fun _ => (IntKind → Int → CRes) → CRes) (motive_2 := fun _ => Unit) (fun _ _ => .err) (fun q n k => k q n) (fun _ _ => .err) (fun _ _ _ => .err) (fun _ => .err) (fun _ _ _ _ _ _ => .err) (fun _ _ _ _ => .err) (fun _ => .err) (fun _ _ => .err) (fun _ => .err) (fun _ _ _ _ _ _ => .err) (fun _ => .err) (fun _ _ _ _ => .err) (fun _ => .err) (fun _ _ _ => .err) (fun _ _ _ => .err) () (fun _ _ _ _ => ())
noncomputable def binIX : BinOp → IntKind → IntKind → Int → Int → (AV → CRes) → CRes := BinOp.rec (motive := fun _ => IntKind → IntKind → Int → Int → (AV → CRes) → CRes)
  (fun q q' a b k => ifB (yn q q') (mO q a b fun n => k (.int q n)) .err)
  (fun q q' a b k => ifB (yn q q') (W5 q a b fun n => k (.int q n)) .err)
  (fun q q' a b k => ifB (yn q q') (LV q a b fun n => k (.int q n)) .err)
  (fun q q' a b k => ifB (yn q q') (quoK q a b fun n => k (.int q n)) .err)
  (fun q q' a b k => ifB (yn q q') (remK q a b fun n => k (.int q n)) .err)
  (fun q q' a b k => ifB (yn q q') (bitK .and q a b fun n => k (.int q n)) .err)
  (fun q q' a b k => ifB (yn q q') (bitK .or q a b fun n => k (.int q n)) .err)
  (fun q q' a b k => ifB (yn q q') (bitK .xor q a b fun n => k (.int q n)) .err)
  (fun q _ a b k => ae4 q a b fun n => k (.int q n))
  (fun q _ a b k => shrK q a b fun n => k (.int q n))
  (fun q q' a b k => ifB (yn q q') (bitK .andNot q a b fun n => k (.int q n)) .err)
  (fun q q' a b k => ifB (yn q q') (fbX (eqF a b) k) .err)
  (fun q q' a b k => ifB (yn q q') (fbX (jK (eqF a b)) k) .err)
  (fun q q' a b k => ifB (yn q q') (fbX (ltF a b) k) .err)
  (fun q q' a b k => ifB (yn q q') (fbX (jK (ltF b a)) k) .err)
  (fun q q' a b k => ifB (yn q q') (fbX (ltF b a) k) .err)
  (fun q q' a b k => ifB (yn q q') (fbX (jK (ltF a b)) k) .err)
noncomputable def binSX : BinOp → List UInt8 → List UInt8 → (AV → CRes) → CRes := BinOp.rec (motive := fun _ => List UInt8 → List UInt8 → (AV → CRes) → CRes)
  (fun a b k => catK a b fun n => k (.str n)) (fun _ _ _ => .err) (fun _ _ _ => .err) (fun _ _ _ => .err) (fun _ _ _ => .err) (fun _ _ _ => .err) (fun _ _ _ => .err) (fun _ _ _ => .err) (fun _ _ _ => .err) (fun _ _ _ => .err) (fun _ _ _ => .err) (fun a b k => fbX (xm a b) k) (fun a b k => fbX (jK (xm a b)) k) (fun _ _ _ => .err) (fun _ _ _ => .err) (fun _ _ _ => .err) (fun _ _ _ => .err)
noncomputable def binX (op : BinOp) : AV → AV → (AV → CRes) → CRes := AV.rec (motive_1 := fun _ => AV → (AV → CRes) → CRes) (motive_2 := fun _ => Unit) (fun _ _ _ => .err) (fun q a v k => aa4 v fun q' b => binIX op q q' a b k) (fun a v k => vStr v fun b => binSX op a b k) (fun _ _ _ _ => .err) (fun _ _ => .err) (fun _ _ _ _ _ _ _ => .err) (fun _ _ _ _ _ => .err) (fun _ _ => .err) (fun _ _ _ => .err) (fun _ _ => .err) (fun _ _ _ _ _ _ _ => .err) (fun _ _ => .err) (fun _ _ _ _ _ => .err) (fun _ _ => .err) (fun _ _ _ _ => .err) (fun _ _ _ _ => .err) () (fun _ _ _ _ => ())
noncomputable def adc (d : Option P) (v : AV) (tm : Tr AV) (k : Tr AV → CRes) : CRes := Option.rec (motive := fun _ => CRes) (k tm) (fun p => setV p v tm k) d
noncomputable def wantX (want : Bool) : AV → CRes → CRes → CRes := AV.rec (motive_1 := fun _ => CRes → CRes → CRes) (motive_2 := fun _ => Unit) (fun b y n => ifB (eqBB b want) y n) (fun _ _ _ n => n) (fun _ _ n => n) (fun _ _ _ n => n) (fun _ n => n) (fun _ _ _ _ _ _ n => n) (fun _ _ _ _ n => n) (fun _ n => n) (fun _ _ n => n) (fun _ n => n) (fun _ _ _ _ _ _ n => n) (fun _ n => n) (fun _ _ _ _ n => n) (fun _ n => n) (fun _ _ _ n => n) (fun _ _ _ n => n) () (fun _ _ _ _ => ())
noncomputable def ab9 : Gd → Tr AV → CRes → CRes → CRes := Gd.rec (motive := fun _ => Tr AV → CRes → CRes → CRes) (fun _ y _ => y) (fun p want tm y n => getV p tm fun v => wantX want v y n)
noncomputable def bindX : List P → List AV → Tr AV → (Tr AV → CRes) → CRes := List.rec (motive := fun _ => List AV → Tr AV → (Tr AV → CRes) → CRes)
  (List.rec (motive := fun _ => Tr AV → (Tr AV → CRes) → CRes) (fun tm k => k tm) (fun _ _ _ _ _ => .err))
  (fun p _ ih => List.rec (motive := fun _ => Tr AV → (Tr AV → CRes) → CRes) (fun _ _ => .err) (fun v vs _ tm k => setV p v tm fun tm => ih vs tm k))
noncomputable def oneX : List AV → AV := List.rec (motive := fun _ => AV) (.tuple []) (fun v t _ => List.rec (motive := fun _ => AV) v (fun u t _ => .tuple (v :: u :: t)) t)
noncomputable def funC : AV → (Nat → List AV → List AV → CRes) → CRes := AV.rec (motive_1 := fun _ => (Nat → List AV → List AV → CRes) → CRes) (motive_2 := fun _ => Unit) (fun _ _ => .err) (fun _ _ _ => .err) (fun _ _ => .err) (fun _ _ _ => .err) (fun _ => .err) (fun _ _ _ _ _ _ => .err) (fun _ _ _ _ => .err) (fun _ => .err) (fun _ _ => .err) (fun _ => .err) (fun f a c _ _ k => k f a c) (fun _ => .err) (fun _ _ _ _ => .err) (fun _ => .err) (fun _ _ _ => .err) (fun _ _ _ => .err) () (fun _ _ _ _ => ())
section
variable {r : AV} {H' : Heap} {tm : Tr AV}
theorem ak8 : ∀ (p : P) (t : Tr AV) (k : AV → CRes), getV p t k = oC (t.get p) k
  | .h, .leaf, _ => rfl
  | .h, .node _ _ _, _ => rfl
  | .o p, .leaf, _ => rfl
  | .o p, .node l v r, k => ak8 p l k
  | .i p, .leaf, _ => rfl
  | .i p, .node l v r, k => ak8 p r k
theorem Nh : ∀ (p : P) (x : AV) (t : Tr AV) (k : Tr AV → CRes), setV p x t k = k (t.set p x)
  | .h, _, .leaf, _ => rfl
  | .h, _, .node _ _ _, _ => rfl
  | .o p, x, .leaf, k => by rw [Tr.set_o]; exact Nh p x .leaf fun l => k (.node l none .leaf)
  | .o p, x, .node l v r, k => by rw [Tr.set_o]; exact Nh p x l fun l => k (.node l v r)
  | .i p, x, .leaf, k => by rw [Tr.set_i]; exact Nh p x .leaf fun r => k (.node .leaf none r)
  | .i p, x, .node l v r, k => by rw [Tr.set_i]; exact Nh p x r fun r => k (.node l v r)
theorem aab {p : P} {k : AV → CRes} (h : getV p tm k = .ret r H') : ∃ v, tm.get p = some v ∧ k v = .ret r H' := by
  rw [ak8] at h
  exact jB h
theorem BH {b : Bool} {k : AV → CRes} (h : fbX b k = .ret r H') : k (.bool b) = .ret r H' := by cases b <;> exact h
theorem Cf {v : AV} {k : IntKind → Int → CRes} (h : aa4 v k = .ret r H') : ∃ q n, v = .int q n ∧ k q n = .ret r H' := by
  cases v <;> first | exact ⟨_, _, rfl, h⟩ | cases h
theorem extK_inv {ix : Nat} {v : AV} {k : AV → CRes} (h : extK ix v k = .ret r H') : ∃ vs u, v = .tuple vs ∧ nth vs ix = some u ∧ k u = .ret r H' := amD h
theorem fQ {x : Opd} {k : AV → CRes} (h : evX tm x k = .ret r H') : ∃ v, ev tm x = some v ∧ k v = .ret r H' := by
  cases x with
  | t p => exact aab h
  | c v => exact ⟨v, rfl, h⟩
theorem Qr : ∀ {xs : List Opd} {k : List AV → CRes}, evsX tm xs k = .ret r H' → ∃ vs, evs tm xs = some vs ∧ k vs = .ret r H'
  | [], k, h => ⟨[], rfl, h⟩
  | x :: xs, k, h => by
    obtain ⟨v, h1, h2⟩ := fQ (x := x) h
    obtain ⟨vs, h3, h4⟩ := Qr (xs := xs) h2
    refine ⟨v :: vs, ?_, h4⟩
    show (Option.casesOn (ev tm x) none fun v => Option.casesOn (evs tm xs) none fun vs => some (v :: vs) : Option (List AV)) = _
    rw [h1, h3]
theorem aho {x : Option Opd} {k : Option AV → CRes} (h : evOX tm x k = .ret r H') : ∃ o, adR tm x o ∧ k o = .ret r H' := by
  cases x with
  | none => exact ⟨none, .inl ⟨rfl, rfl⟩, h⟩
  | some y => obtain ⟨v, h1, h2⟩ := fQ (x := y) h; exact ⟨some v, .inr ⟨y, v, rfl, rfl, h1⟩, h2⟩
theorem ahf : ∀ {xs : List (Nat × Nat × Opd)} {k : List (Nat × Nat × AV) → CRes}, evPX tm xs k = .ret r H' → ∃ ps, Js tm xs = abo ps ∧ k ps = .ret r H'
  | [], k, h => ⟨[], rfl, h⟩
  | (a, b, x) :: xs, k, h => by
    obtain ⟨v, h1, h2⟩ := fQ (x := x) h
    obtain ⟨ps, h3, h4⟩ := ahf (xs := xs) h2
    refine ⟨(a, b, v) :: ps, ?_, h4⟩
    funext z
    simp only [Js, abo] at h3 ⊢
    rw [h1]
    dsimp only
    rw [h3]
    rfl
theorem apJ {op : BinOp} {q q' : IntKind} {a b : Int} {k : AV → CRes} (h : binIX op q q' a b k = .ret r H') : ∃ v, binF op (.int q a) (.int q' b) = some v ∧ k v = .ret r H' := by
  have same : ∀ {c : CRes}, ifB (yn q q') c .err = .ret r H' → q = q' ∧ c = .ret r H' := fun h => ⟨af3 (gz h).1, (gz h).2⟩
  cases op with
  | add =>
    obtain ⟨rfl, h1⟩ := same h
    replace h := h1
    clear h1
    rw [ck] at h
    refine ⟨_, ?_, h⟩
    show (if q = q then Hm q (addF a b) (fun n => some (AV.int q n)) else none) = _
    rw [if_pos rfl, nR, aac]
  | sub =>
    obtain ⟨rfl, h1⟩ := same h
    replace h := h1
    clear h1
    rw [ci] at h
    refine ⟨_, ?_, h⟩
    show (if q = q then Hm q (subF a b) (fun n => some (AV.int q n)) else none) = _
    rw [if_pos rfl, nR, aai]
  | mul =>
    obtain ⟨rfl, h1⟩ := same h
    replace h := h1
    clear h1
    rw [ce] at h
    refine ⟨_, ?_, h⟩
    show (if q = q then Hm q (mulF a b) (fun n => some (AV.int q n)) else none) = _
    rw [if_pos rfl, nR, aar]
  | quo =>
    obtain ⟨rfl, h1⟩ := same h
    replace h := h1
    clear h1
    have h0 : ifB (isZ b) .err (A5 q (divF a b) fun n => k (.int q n)) = .ret r H' := h
    obtain ⟨h1, h2⟩ := A2 h0
    rw [bC] at h2
    refine ⟨_, ?_, h2⟩
    show (if q = q then (Bool.casesOn (isZ b) (Hm q (divF a b) (fun n => some (AV.int q n))) none : Option AV) else none) = _
    rw [if_pos rfl, h1]
    exact nR _ _ _
  | rem =>
    obtain ⟨rfl, h1⟩ := same h
    replace h := h1
    clear h1
    have h0 : ifB (isZ b) .err (qg (modF a b) fun n => k (.int q n)) = .ret r H' := h
    obtain ⟨h1, h2⟩ := A2 h0
    rw [bg] at h2
    refine ⟨_, ?_, h2⟩
    show (if q = q then (Bool.casesOn (isZ b) (some (AV.int q (modF a b))) none : Option AV) else none) = _
    rw [if_pos rfl, h1]
  | and =>
    obtain ⟨rfl, h1⟩ := same h
    replace h := h1
    clear h1
    have h0 : (Option.casesOn (tL .and q a b) .err fun n => qg n fun n => k (.int q n) : CRes) = .ret r H' := h
    cases hb : tL .and q a b with
    | none => rw [hb] at h0; cases h0
    | some n =>
      rw [hb] at h0
      have h2 : qg n (fun n => k (.int q n)) = .ret r H' := h0
      rw [bg] at h2
      refine ⟨_, ?_, h2⟩
      show (if q = q then (Option.casesOn (tL .and q a b) none (fun n => some (AV.int q n)) : Option AV) else none) = _
      rw [if_pos rfl, hb]
  | or =>
    obtain ⟨rfl, h1⟩ := same h
    replace h := h1
    clear h1
    have h0 : (Option.casesOn (tL .or q a b) .err fun n => qg n fun n => k (.int q n) : CRes) = .ret r H' := h
    cases hb : tL .or q a b with
    | none => rw [hb] at h0; cases h0
    | some n =>
      rw [hb] at h0
      have h2 : qg n (fun n => k (.int q n)) = .ret r H' := h0
      rw [bg] at h2
      refine ⟨_, ?_, h2⟩
      show (if q = q then (Option.casesOn (tL .or q a b) none (fun n => some (AV.int q n)) : Option AV) else none) = _
      rw [if_pos rfl, hb]
  | xor =>
    obtain ⟨rfl, h1⟩ := same h
    replace h := h1
    clear h1
    have h0 : (Option.casesOn (tL .xor q a b) .err fun n => qg n fun n => k (.int q n) : CRes) = .ret r H' := h
    cases hb : tL .xor q a b with
    | none => rw [hb] at h0; cases h0
    | some n =>
      rw [hb] at h0
      have h2 : qg n (fun n => k (.int q n)) = .ret r H' := h0
      rw [bg] at h2
      refine ⟨_, ?_, h2⟩
      show (if q = q then (Option.casesOn (tL .xor q a b) none (fun n => some (AV.int q n)) : Option AV) else none) = _
      rw [if_pos rfl, hb]
  | andNot =>
    obtain ⟨rfl, h1⟩ := same h
    replace h := h1
    clear h1
    have h0 : (Option.casesOn (tL .andNot q a b) .err fun n => qg n fun n => k (.int q n) : CRes) = .ret r H' := h
    cases hb : tL .andNot q a b with
    | none => rw [hb] at h0; cases h0
    | some n =>
      rw [hb] at h0
      have h2 : qg n (fun n => k (.int q n)) = .ret r H' := h0
      rw [bg] at h2
      refine ⟨_, ?_, h2⟩
      show (if q = q then (Option.casesOn (tL .andNot q a b) none (fun n => some (AV.int q n)) : Option AV) else none) = _
      rw [if_pos rfl, hb]
  | shl =>
    obtain ⟨n, rfl, hz⟩ := U6 (a := b) h
    replace h := hz
    clear hz
    rw [bC] at h
    refine ⟨_, ?_, h⟩
    show Hm q (acm q a n) (fun r => some (AV.int q r)) = _
    exact nR _ _ _
  | shr =>
    obtain ⟨n, rfl, hz⟩ := U6 (a := b) h
    replace h := hz
    clear hz
    rw [bg] at h
    exact ⟨_, rfl, h⟩
  | eql =>
    obtain ⟨rfl, h1⟩ := same h
    replace h := BH h1
    clear h1
    refine ⟨_, ?_, h⟩
    show (if q = q then some (AV.bool (eqF a b)) else none) = _
    rw [if_pos rfl]
  | neq =>
    obtain ⟨rfl, h1⟩ := same h
    replace h := BH h1
    clear h1
    refine ⟨_, ?_, h⟩
    show (if q = q then (Bool.casesOn (eqF a b) (some (AV.bool true)) (some (AV.bool false)) : Option AV) else none) = _
    rw [if_pos rfl]; cases eqF a b <;> rfl
  | lss =>
    obtain ⟨rfl, h1⟩ := same h
    replace h := BH h1
    clear h1
    refine ⟨_, ?_, h⟩
    show (if q = q then some (AV.bool (ltF a b)) else none) = _
    rw [if_pos rfl]
  | leq =>
    obtain ⟨rfl, h1⟩ := same h
    replace h := BH h1
    clear h1
    refine ⟨_, ?_, h⟩
    show (if q = q then (Bool.casesOn (ltF b a) (some (AV.bool true)) (some (AV.bool false)) : Option AV) else none) = _
    rw [if_pos rfl]; cases ltF b a <;> rfl
  | gtr =>
    obtain ⟨rfl, h1⟩ := same h
    replace h := BH h1
    clear h1
    refine ⟨_, ?_, h⟩
    show (if q = q then some (AV.bool (ltF b a)) else none) = _
    rw [if_pos rfl]
  | geq =>
    obtain ⟨rfl, h1⟩ := same h
    replace h := BH h1
    clear h1
    refine ⟨_, ?_, h⟩
    show (if q = q then (Bool.casesOn (ltF a b) (some (AV.bool true)) (some (AV.bool false)) : Option AV) else none) = _
    rw [if_pos rfl]; cases ltF a b <;> rfl
theorem binX_inv {op : BinOp} {u v : AV} {k : AV → CRes} (h : binX op u v k = .ret r H') : ∃ w, binF op u v = some w ∧ k w = .ret r H' := by
  cases u with
  | int q a =>
    obtain ⟨q', b, rfl, hz⟩ := Cf (v := v) h
    replace h := hz
    clear hz
    exact apJ h
  | str a =>
    obtain ⟨b, rfl, hz⟩ := abl (v := v) h
    replace h := hz
    clear hz
    cases op with
    | add =>
      have h0 : ifB (Nat.ble (Nat.add (lF a) (lF b)) 1099511627776) (DZ a b fun n => k (.str n)) .err = .ret r H' := h
      obtain ⟨h1, h2⟩ := gz h0
      rw [gS] at h2
      refine ⟨_, ?_, h2⟩
      show (Bool.casesOn (Nat.ble (Nat.add (lF a) (lF b)) 1099511627776) none (some (AV.str (DZ a b id))) : Option AV) = _
      rw [h1, gS]; rfl
    | eql =>
      have h1 := BH (b := xm a b) h
      exact ⟨_, rfl, h1⟩
    | neq =>
      have h1 := BH (b := jK (xm a b)) h
      exact ⟨_, by show some (AV.bool (!xm a b)) = some _; rw [← cg], h1⟩
    | _ => cases h
  | _ => cases h
end
end Go.Ai
/- A table of functions, put together of its entries. -/
namespace Go.Ai
def Entry (P : Program) (f : Nat) (x : AFn) : Prop := ∃ fn, P.funcs[f]? = some fn ∧ (fn.name == "runtime.NumGoroutine") = false ∧ fn.body.isNone = false ∧ ∃ m, VU P fn m = some x
def Entries (P : Program) : List (Nat × AFn) → Prop
  | [] => True
  | e :: l => Entry P e.1 e.2 ∧ Entries P l
theorem Entries.mem {P : Program} : ∀ {l : List (Nat × AFn)}, Entries P l → ∀ {f x}, (f, x) ∈ l → Entry P f x
  | e :: l, h, f, x, hm => by
    rcases List.mem_cons.1 hm with rfl | hm
    · exact h.1
    · exact Entries.mem h.2 hm
theorem Rp {P : Program} {fn : Func} {m : Bool} {x : AFn} (h : VU P fn m = some x) : ∃ ps body res, x = .code ps body res := by
  unfold VU at h
  simp only [Option.bind_eq_some_iff] at h
  obtain ⟨c, _, ac, _, rs, _, h⟩ := h
  split at h
  · cases h; exact ⟨_, _, _, rfl⟩
  · cases h
theorem TblOk.prim_set {P : Program} {tbl : Tr AFn} (T : TblOk P tbl) {f : Nat} {g : List AV → Heap → CRes} (hp : al3 P f g) (hm : ∀ vs H v H', H.ro ≤ H.nx → g vs H = .ret v H' → Mono H H') (he : Enters P f) : TblOk P (tbl.set (key f) (.prim g)) := {
  mixed := T.mixed
  mono f' g' hg := by
    by_cases e : f = f'
    · subst e; rw [Tr.get_set_same] at hg; cases hg; exact hm
    · rw [Tr.get_set_other (fun k => e (xD k))] at hg; exact T.mono f' g' hg
  enters f' x hx := by
    by_cases e : f = f'
    · subst e; exact he
    · rw [Tr.get_set_other (fun k => e (xD k))] at hx; exact T.enters f' x hx
  code f' ps body res hx := by
    by_cases e : f = f'
    · subst e; rw [Tr.get_set_same] at hx; cases hx
    · rw [Tr.get_set_other (fun k => e (xD k))] at hx; exact T.code f' ps body res hx
  prim f' g' hg := by
    by_cases e : f = f'
    · subst e; rw [Tr.get_set_same] at hg; cases hg; exact hp
    · rw [Tr.get_set_other (fun k => e (xD k))] at hg; exact T.prim f' g' hg }
end Go.Ai
/- The interpreter in continuation style: instructions, code, calls. What it returns, the interpreter's calls return. -/
namespace Go.Ai
section
variable {r : AV} {H' : Heap} {tbl : Tr AFn} {tm : Tr AV} {H : Heap}
def CfOk (tbl : Tr AFn) (cf : eg) : Prop := ∀ fv vs H k r H', H.ro ≤ H.nx → cf fv vs H k = .ret r H' → ∃ n v H₁, call tbl n fv vs H = .ret v H₁ ∧ k v H₁ = .ret r H'
theorem QN {d : Option P} {v : AV} {k : Tr AV → CRes} (h : adc d v tm k = .ret r H') : k (tm.putO d v) = .ret r H' := by
  cases d with
  | none => exact h
  | some p => exact (Nh p v tm k).symm.trans h
theorem apt {want : Bool} {v : AV} {y n : CRes} (h : wantX want v y n = .ret r H') :
    ∃ t, (match v with | .bool b => some (b == want) | _ => some false) = some t ∧ (if t then y else n) = .ret r H' := by
  cases v with
  | bool b =>
    have h0 : ifB (eqBB b want) y n = .ret r H' := h
    rw [Lp, cb] at h0
    exact ⟨b == want, rfl, h0⟩
  | _ => exact ⟨false, rfl, by rw [if_neg (by simp)]; exact h⟩
theorem Mk {g : Gd} {y n : CRes} (h : ab9 g tm y n = .ret r H') : (vr tm g = some true ∧ y = .ret r H') ∨ (vr tm g = some false ∧ n = .ret r H') := by
  cases g with
  | always => exact .inl ⟨rfl, h⟩
  | on p want =>
    obtain ⟨v, hv, h⟩ := aab (p := p) h
    obtain ⟨t, h1, h2⟩ := apt h
    have hw : vr tm (.on p want) = some t := by
      simp only [vr]; rw [hv]; exact h1
    cases t with
    | true => exact .inl ⟨hw, h2⟩
    | false => exact .inr ⟨hw, h2⟩
variable {cf : eg} (hp : cN tbl) (hcf : CfOk tbl cf)
include hp hcf
omit hp hcf
theorem aj8 : ∀ {ps : List P} {vs : List AV} {tm : Tr AV} {k : Tr AV → CRes}, bindX ps vs tm k = .ret r H' → ∃ tm', Ed ps vs tm none some = some tm' ∧ k tm' = .ret r H'
  | [], [], tm, k, h => ⟨tm, rfl, h⟩
  | [], _ :: _, tm, k, h => by cases h
  | _ :: _, [], tm, k, h => by cases h
  | p :: ps, v :: vs, tm, k, h => by
    have h0 : setV p v tm (fun tm => bindX ps vs tm k) = .ret r H' := h
    rw [Nh] at h0
    obtain ⟨tm', h1, h2⟩ := aj8 h0
    refine ⟨tm', ?_, h2⟩
    show Tr.setK p v tm (fun tm' => Ed ps vs tm' none some) = _
    rw [Tr.setK_eq]; exact h1
theorem oneX_eq (vs : List AV) : oneX vs = one vs := by
  match vs with
  | [] => rfl
  | [v] => rfl
  | _ :: _ :: _ => rfl
end
end Go.Ai
/- The table of all functions that the compiler takes, found by compiling. -/
namespace Go.Ai
def VE (P : Program) (f : Nat) : Option AFn := (P.funcs[f]?).bind fun fn => if fn.name == "runtime.NumGoroutine" then none else VU P fn
theorem Kc {P : Program} {f : Nat} {x : AFn} (h : VE P f = some x) : Entry P f x := by
  unfold VE at h
  simp only [Option.bind_eq_some_iff] at h
  obtain ⟨fn, h1, h2⟩ := h
  split at h2
  · cases h2
  · rename_i hn
    refine ⟨fn, h1, by simpa using hn, ?_, false, h2⟩
    unfold VU at h2
    simp only [Option.bind_eq_some_iff] at h2
    obtain ⟨c, hc, _⟩ := h2
    rw [hc]; rfl
noncomputable def tblN (P : Program) : Nat → Tr AFn
  | 0 => .leaf
  | n + 1 => match VE P n with
    | some x => (tblN P n).set (key n) x
    | none => tblN P n
theorem amt (P : Program) : ∀ (n f : Nat), (tblN P n).get (key f) = if f < n then VE P f else none
  | 0, f => by rw [tblN, Tr.get_leaf, if_neg (by omega)]
  | n + 1, f => by
    have ih := amt P n f
    cases hc : VE P n with
    | none =>
      simp only [tblN, hc]
      rw [ih]
      by_cases h : f < n
      · rw [if_pos h, if_pos (by omega)]
      · rw [if_neg h]
        by_cases e : f = n
        · subst e; rw [if_pos (by omega), hc]
        · rw [if_neg (by omega)]
    | some x =>
      simp only [tblN, hc]
      by_cases e : n = f
      · subst e; rw [Tr.get_set_same, if_pos (by omega), hc]
      · rw [Tr.get_set_other (fun k => e (xD k)), ih]
        by_cases h : f < n
        · rw [if_pos h, if_pos (by omega)]
        · rw [if_neg h, if_neg (by omega)]
noncomputable def tblP (P : Program) : Tr AFn := tblN P P.funcs.size
theorem We (P : Program) (f : Nat) : (tblP P).get (key f) = VE P f := by
  unfold tblP
  rw [amt]
  split
  · rfl
  · rename_i h
    unfold VE
    rw [Array.getElem?_eq_none (by omega)]; rfl
theorem tblP_ok {P : Program} (hm : P.follows .mixedOrders = true) : TblOk P (tblP P) := {
  mixed := hm
  mono f g hg := by
    rw [We] at hg
    obtain ⟨fn, _, _, _, _, hc⟩ := Kc hg
    obtain ⟨_, _, _, e⟩ := Rp hc
    cases e
  enters f x hx := by
    rw [We] at hx
    obtain ⟨fn, h1, h2, h3, _⟩ := Kc hx
    exact ⟨fn, h1, h2, h3⟩
  code f ps body res hx := by
    rw [We] at hx
    obtain ⟨fn, h1, _, _, m, h4⟩ := Kc hx
    exact ⟨fn, m, h1, h4⟩
  prim f g hg := by
    rw [We] at hg
    obtain ⟨fn, _, _, _, _, hc⟩ := Kc hg
    obtain ⟨_, _, _, e⟩ := Rp hc
    cases e }
end Go.Ai
/- A call of plain values whose run from an empty heap is known: it answers so from every heap. -/
namespace Go.Ai
theorem Ext.of_below' {M : Mp} {D : Nat → Prop} {K : Heap} {w W : World} (hs : w.heap.size ≤ W.heap.size) (hf : ∀ c, c < w.heap.size → W.heap[c]? = w.heap[c]?) (ho : W.os = w.os) (ht : W.tape = w.tape) (hp : W.output = w.output) : Ext M D K w M D K W := {
  keep := fun _ h => h
  agree := fun _ _ => rfl
  old := fun _ h _ => h
  nx := Nat.le_refl _
  wrm := fun _ _ h => h
  newb := fun _ h hn => (hn h).elim
  frame := fun c hc _ => hf c hc
  unm := fun _ _ _ => rfl
  size := hs
  os := ho
  tape := ht
  output := hp }
theorem Rel.of_below' {M : Mp} {D : Nat → Prop} {K : Heap} {w W : World} (hr : Rel M D K w) (hs : w.heap.size ≤ W.heap.size) (hf : ∀ c, c < w.heap.size → W.heap[c]? = w.heap[c]?) : Rel M D K W :=
  ⟨hr.dom, fun b hb => (hr.blk b hb).keep (fun _ h => h) (fun _ _ => rfl) (fun hl => hf _ ((hr.blk b hb).lt hl)) hs, hr.inj⟩
def Zs : AV → Bool
  | .int _ _ => true
  | .bool _ => true
  | .str _ => true
  | _ => false
def aoK : AV → Bool
  | .tuple l => l.all Zs
  | v => Zs v
theorem amw {v : AV} (h : Zs v = true) (M M' : Mp) : bh M v = bh M' v := by cases v <;> first | rfl | cases h
theorem akc {v : AV} (h : Zs v = true) (D : Nat → Prop) : okv D v := by cases v <;> first | exact trivial | (simp [okv]; done) | cases h
theorem ana {v : AV} (h : aoK v = true) (M M' : Mp) : bh M v = bh M' v := by
  cases v with
  | tuple l =>
    have h : l.all Zs = true := h
    simp only [bh, mb]
    congr 2
    exact List.map_congr_left fun x hx => amw (List.all_eq_true.1 h x hx) M M'
  | int _ _ => rfl
  | bool _ => rfl
  | str _ => rfl
  | _ => cases h
theorem apX {v : AV} (h : aoK v = true) (D : Nat → Prop) : okv D v := by
  cases v with
  | tuple l =>
    have h : l.all Zs = true := h
    simp only [okv]
    exact (oP D _).2 fun x hx => akc (List.all_eq_true.1 h x hx) D
  | int _ _ => simp [okv]
  | bool _ => simp [okv]
  | str _ => simp [okv]
  | _ => cases h
noncomputable def sameV : AV → AV → Bool
  | .int q a, .int q' b => ikN q == ikN q' && decide (a = b)
  | .bool a, .bool b => a == b
  | _, _ => false
noncomputable def sameL (l : List AV) : List AV → Bool := List.rec (motive := fun _ => List AV → Bool) (fun l' => List.rec (motive := fun _ => Bool) true (fun _ _ _ => false) l')
  (fun a _ ih l' => List.rec (motive := fun _ => Bool) false (fun b t _ => andB (sameV a b) (ih t)) l') l
theorem sameV_ok {a b : AV} (h : sameV a b = true) : a = b := by
  unfold sameV at h
  split at h
  · simp only [Bool.and_eq_true, beq_iff_eq, decide_eq_true_eq] at h
    rename_i q a q' b
    have : q = q' := af3 (by show Nat.beq _ _ = true; rw [h.1]; exact Nat.beq_refl _)
    rw [this, h.2]
  · simp only [beq_iff_eq] at h; rw [h]
  · cases h
theorem anO : ∀ {l l' : List AV}, sameL l l' = true → l = l'
  | [], [], _ => rfl
  | [], _ :: _, h => by cases h
  | _ :: _, [], h => by cases h
  | a :: l, b :: l', h => by
    have h0 : andB (sameV a b) (sameL l l') = true := h
    rw [b8, Bool.and_eq_true] at h0
    rw [sameV_ok h0.1, anO h0.2]
noncomputable def akl (vs : List AV) (u : AV) (args : List AV) (H : Heap) : CRes := ifB (sameL vs args) (.ret u H) .err
theorem aj6 {vs : List AV} {u : AV} {args : List AV} {H H' : Heap} {v : AV} (h : akl vs u args H = .ret v H') : args = vs ∧ v = u ∧ H' = H := by
  unfold akl at h
  rw [Lp] at h
  split at h
  · rename_i hs
    cases h
    exact ⟨(anO hs).symm, rfl, rfl⟩
  · cases h
theorem aoL {vs : List AV} {u : AV} {args : List AV} {H H' : Heap} {v : AV} (h : akl vs u args H = .ret v H') : Mono H H' := by
  obtain ⟨_, _, rfl⟩ := aj6 h
  exact .refl
end Go.Ai
/- The functions that the printed text does not reach into. -/
namespace Go.Proofs.Ytnlbfbiogfilfaa.Sh
open Go.Ai
abbrev ma : Nat := 6
abbrev jU : Nat := 67
noncomputable abbrev lP : List AV → Heap → CRes := y9
noncomputable abbrev l6 : List AV → Heap → CRes := akl [] (.bool true)
end Go.Proofs.Ytnlbfbiogfilfaa.Sh
