/- The interpreter in continuation style, for long runs by the kernel: what it returns, the interpreter's calls return. -/
import Derived.Test.YtnlbfbiogfilfaaAiCpsOk
import Derived.Test.YtnlbfbiogfilfaaAiCallSym
import Derived.Test.YtnlbfbiogfilfaaPaSCode
import Derived.Test.YtnlbfbiogfilfaaAiInsert
set_option linter.all false
namespace Go.Ai
noncomputable def getV : P → Tr AV → (AV → CRes) → CRes := P.rec (motive := fun _ => Tr AV → (AV → CRes) → CRes)
  (Tr.rec (motive := fun _ => (AV → CRes) → CRes) (fun _ => .err) (fun _ v _ _ _ k => oC v k))
  (fun _ ih => Tr.rec (motive := fun _ => (AV → CRes) → CRes) (fun _ => .err) (fun l _ _ _ _ k => ih l k))
  (fun _ ih => Tr.rec (motive := fun _ => (AV → CRes) → CRes) (fun _ => .err) (fun _ _ r _ _ k => ih r k))
noncomputable def setV : P → AV → Tr AV → (Tr AV → CRes) → CRes := P.rec (motive := fun _ => AV → Tr AV → (Tr AV → CRes) → CRes)
  (fun x => Tr.rec (motive := fun _ => (Tr AV → CRes) → CRes) (fun k => k (.node .leaf (some x) .leaf)) (fun l _ r _ _ k => k (.node l (some x) r)))
  (fun _ ih x => Tr.rec (motive := fun _ => (Tr AV → CRes) → CRes) (fun k => ih x .leaf fun l => k (.node l none .leaf)) (fun l v r _ _ k => ih x l fun l => k (.node l v r)))
  (fun _ ih x => Tr.rec (motive := fun _ => (Tr AV → CRes) → CRes) (fun k => ih x .leaf fun r => k (.node .leaf none r)) (fun l v r _ _ k => ih x r fun r => k (.node l v r)))
noncomputable def evX (tm : Tr AV) (x : Opd) : (AV → CRes) → CRes := Opd.rec (motive := fun _ => (AV → CRes) → CRes) (fun p k => getV p tm k) (fun v k => k v) x
noncomputable def evsX (tm : Tr AV) : List Opd → (List AV → CRes) → CRes := List.rec (motive := fun _ => (List AV → CRes) → CRes) (fun k => k []) (fun x _ ih k => evX tm x fun v => ih fun vs => k (v :: vs))
noncomputable def evOX (tm : Tr AV) (x : Option Opd) : (Option AV → CRes) → CRes := Option.rec (motive := fun _ => (Option AV → CRes) → CRes) (fun k => k none) (fun x k => evX tm x fun v => k (some v)) x
noncomputable def evPX (tm : Tr AV) : List (Nat × Nat × Opd) → (List (Nat × Nat × AV) → CRes) → CRes :=
  List.rec (motive := fun _ => (List (Nat × Nat × AV) → CRes) → CRes) (fun k => k []) (fun x _ ih k => evX tm x.2.2 fun v => ih fun vs => k ((x.1, x.2.1, v) :: vs))
noncomputable def fbX (b : Bool) (k : AV → CRes) : CRes := ifB b (k (.bool true)) (k (.bool false))
noncomputable def XZ : AV → (IntKind → Int → CRes) → CRes := AV.rec (motive_1 := fun _ => (IntKind → Int → CRes) → CRes) (motive_2 := fun _ => Unit) (fun _ _ => .err) (fun q n k => k q n) (fun _ _ => .err) (fun _ _ _ => .err) (fun _ => .err) (fun _ _ _ _ _ _ => .err) (fun _ _ _ _ => .err) (fun _ => .err) (fun _ _ => .err) (fun _ => .err) (fun _ _ _ _ _ _ => .err) (fun _ => .err) (fun _ _ _ _ => .err) (fun _ => .err) (fun _ _ _ => .err) (fun _ _ _ => .err) () (fun _ _ _ _ => ())
noncomputable def binIX : BinOp → IntKind → IntKind → Int → Int → (AV → CRes) → CRes := BinOp.rec (motive := fun _ => IntKind → IntKind → Int → Int → (AV → CRes) → CRes)
  (fun q q' a b k => ifB (wE q q') (mG q a b fun n => k (.int q n)) .err)
  (fun q q' a b k => ifB (wE q q') (W3 q a b fun n => k (.int q n)) .err)
  (fun q q' a b k => ifB (wE q q') (Kn q a b fun n => k (.int q n)) .err)
  (fun q q' a b k => ifB (wE q q') (quoK q a b fun n => k (.int q n)) .err)
  (fun q q' a b k => ifB (wE q q') (remK q a b fun n => k (.int q n)) .err)
  (fun q q' a b k => ifB (wE q q') (bitK .and q a b fun n => k (.int q n)) .err)
  (fun q q' a b k => ifB (wE q q') (bitK .or q a b fun n => k (.int q n)) .err)
  (fun q q' a b k => ifB (wE q q') (bitK .xor q a b fun n => k (.int q n)) .err)
  (fun q _ a b k => aci q a b fun n => k (.int q n))
  (fun q _ a b k => shrK q a b fun n => k (.int q n))
  (fun q q' a b k => ifB (wE q q') (bitK .andNot q a b fun n => k (.int q n)) .err)
  (fun q q' a b k => ifB (wE q q') (fbX (eqF a b) k) .err)
  (fun q q' a b k => ifB (wE q q') (fbX (jR (eqF a b)) k) .err)
  (fun q q' a b k => ifB (wE q q') (fbX (ltF a b) k) .err)
  (fun q q' a b k => ifB (wE q q') (fbX (jR (ltF b a)) k) .err)
  (fun q q' a b k => ifB (wE q q') (fbX (ltF b a) k) .err)
  (fun q q' a b k => ifB (wE q q') (fbX (jR (ltF a b)) k) .err)
noncomputable def binSX : BinOp → List UInt8 → List UInt8 → (AV → CRes) → CRes := BinOp.rec (motive := fun _ => List UInt8 → List UInt8 → (AV → CRes) → CRes)
  (fun a b k => catK a b fun n => k (.str n)) (fun _ _ _ => .err) (fun _ _ _ => .err) (fun _ _ _ => .err) (fun _ _ _ => .err) (fun _ _ _ => .err) (fun _ _ _ => .err) (fun _ _ _ => .err) (fun _ _ _ => .err) (fun _ _ _ => .err) (fun _ _ _ => .err) (fun a b k => fbX (vZ a b) k) (fun a b k => fbX (jR (vZ a b)) k) (fun _ _ _ => .err) (fun _ _ _ => .err) (fun _ _ _ => .err) (fun _ _ _ => .err)
noncomputable def binX (op : BinOp) : AV → AV → (AV → CRes) → CRes := AV.rec (motive_1 := fun _ => AV → (AV → CRes) → CRes) (motive_2 := fun _ => Unit) (fun _ _ _ => .err) (fun q a v k => XZ v fun q' b => binIX op q q' a b k) (fun a v k => vStr v fun b => binSX op a b k) (fun _ _ _ _ => .err) (fun _ _ => .err) (fun _ _ _ _ _ _ _ => .err) (fun _ _ _ _ _ => .err) (fun _ _ => .err) (fun _ _ _ => .err) (fun _ _ => .err) (fun _ _ _ _ _ _ _ => .err) (fun _ _ => .err) (fun _ _ _ _ _ => .err) (fun _ _ => .err) (fun _ _ _ _ => .err) (fun _ _ _ _ => .err) () (fun _ _ _ _ => ())
noncomputable def aaE (d : Option P) (v : AV) (tm : Tr AV) (k : Tr AV → CRes) : CRes := Option.rec (motive := fun _ => CRes) (k tm) (fun p => setV p v tm k) d
noncomputable def wantX (want : Bool) : AV → CRes → CRes → CRes := AV.rec (motive_1 := fun _ => CRes → CRes → CRes) (motive_2 := fun _ => Unit) (fun b y n => ifB (eqBB b want) y n) (fun _ _ _ n => n) (fun _ _ n => n) (fun _ _ _ n => n) (fun _ n => n) (fun _ _ _ _ _ _ n => n) (fun _ _ _ _ n => n) (fun _ n => n) (fun _ _ n => n) (fun _ n => n) (fun _ _ _ _ _ _ n => n) (fun _ n => n) (fun _ _ _ _ n => n) (fun _ n => n) (fun _ _ _ n => n) (fun _ _ _ n => n) () (fun _ _ _ _ => ())
noncomputable def aba : Gd → Tr AV → CRes → CRes → CRes := Gd.rec (motive := fun _ => Tr AV → CRes → CRes → CRes) (fun _ y _ => y) (fun p want tm y n => getV p tm fun v => wantX want v y n)
noncomputable def bindX : List P → List AV → Tr AV → (Tr AV → CRes) → CRes := List.rec (motive := fun _ => List AV → Tr AV → (Tr AV → CRes) → CRes)
  (List.rec (motive := fun _ => Tr AV → (Tr AV → CRes) → CRes) (fun tm k => k tm) (fun _ _ _ _ _ => .err))
  (fun p _ ih => List.rec (motive := fun _ => Tr AV → (Tr AV → CRes) → CRes) (fun _ _ => .err) (fun v vs _ tm k => setV p v tm fun tm => ih vs tm k))
noncomputable def oneX : List AV → AV := List.rec (motive := fun _ => AV) (.tuple []) (fun v t _ => List.rec (motive := fun _ => AV) v (fun u t _ => .tuple (v :: u :: t)) t)
noncomputable def funC : AV → (Nat → List AV → List AV → CRes) → CRes := AV.rec (motive_1 := fun _ => (Nat → List AV → List AV → CRes) → CRes) (motive_2 := fun _ => Unit) (fun _ _ => .err) (fun _ _ _ => .err) (fun _ _ => .err) (fun _ _ _ => .err) (fun _ => .err) (fun _ _ _ _ _ _ => .err) (fun _ _ _ _ => .err) (fun _ => .err) (fun _ _ => .err) (fun _ => .err) (fun f a c _ _ k => k f a c) (fun _ => .err) (fun _ _ _ _ => .err) (fun _ => .err) (fun _ _ _ => .err) (fun _ _ _ => .err) () (fun _ _ _ _ => ())
section
variable {r : AV} {H' : Heap} {tm : Tr AV}
theorem ahX : ∀ (p : P) (t : Tr AV) (k : AV → CRes), getV p t k = oC (t.get p) k
  | .h, .leaf, _ => rfl
  | .h, .node _ _ _, _ => rfl
  | .o p, .leaf, _ => rfl
  | .o p, .node l v r, k => ahX p l k
  | .i p, .leaf, _ => rfl
  | .i p, .node l v r, k => ahX p r k
theorem KI : ∀ (p : P) (x : AV) (t : Tr AV) (k : Tr AV → CRes), setV p x t k = k (t.set p x)
  | .h, _, .leaf, _ => rfl
  | .h, _, .node _ _ _, _ => rfl
  | .o p, x, .leaf, k => by rw [Tr.set_o]; exact KI p x .leaf fun l => k (.node l none .leaf)
  | .o p, x, .node l v r, k => by rw [Tr.set_o]; exact KI p x l fun l => k (.node l v r)
  | .i p, x, .leaf, k => by rw [Tr.set_i]; exact KI p x .leaf fun r => k (.node .leaf none r)
  | .i p, x, .node l v r, k => by rw [Tr.set_i]; exact KI p x r fun r => k (.node l v r)
theorem Yi {p : P} {k : AV → CRes} (h : getV p tm k = .ret r H') : ∃ v, tm.get p = some v ∧ k v = .ret r H' := by
  rw [ahX] at h
  exact jc h
theorem zk {b : Bool} {k : AV → CRes} (h : fbX b k = .ret r H') : k (.bool b) = .ret r H' := by cases b <;> exact h
theorem Ad {v : AV} {k : IntKind → Int → CRes} (h : XZ v k = .ret r H') : ∃ q n, v = .int q n ∧ k q n = .ret r H' := by
  cases v <;> first | exact ⟨_, _, rfl, h⟩ | cases h
theorem extK_inv {ix : Nat} {v : AV} {k : AV → CRes} (h : extK ix v k = .ret r H') : ∃ vs u, v = .tuple vs ∧ nth vs ix = some u ∧ k u = .ret r H' := ajC h
theorem eY {x : Opd} {k : AV → CRes} (h : evX tm x k = .ret r H') : ∃ v, ev tm x = some v ∧ k v = .ret r H' := by
  cases x with
  | t p => exact Yi h
  | c v => exact ⟨v, rfl, h⟩
theorem Ng : ∀ {xs : List Opd} {k : List AV → CRes}, evsX tm xs k = .ret r H' → ∃ vs, evs tm xs = some vs ∧ k vs = .ret r H'
  | [], k, h => ⟨[], rfl, h⟩
  | x :: xs, k, h => by
    obtain ⟨v, h1, h2⟩ := eY (x := x) h
    obtain ⟨vs, h3, h4⟩ := Ng (xs := xs) h2
    refine ⟨v :: vs, ?_, h4⟩
    show (Option.casesOn (ev tm x) none fun v => Option.casesOn (evs tm xs) none fun vs => some (v :: vs) : Option (List AV)) = _
    rw [h1, h3]
theorem adP {x : Option Opd} {k : Option AV → CRes} (h : evOX tm x k = .ret r H') : ∃ o, aaK tm x o ∧ k o = .ret r H' := by
  cases x with
  | none => exact ⟨none, .inl ⟨rfl, rfl⟩, h⟩
  | some y => obtain ⟨v, h1, h2⟩ := eY (x := y) h; exact ⟨some v, .inr ⟨y, v, rfl, rfl, h1⟩, h2⟩
theorem adW : ∀ {xs : List (Nat × Nat × Opd)} {k : List (Nat × Nat × AV) → CRes}, evPX tm xs k = .ret r H' → ∃ ps, Hx tm xs = X7 ps ∧ k ps = .ret r H'
  | [], k, h => ⟨[], rfl, h⟩
  | (a, b, x) :: xs, k, h => by
    obtain ⟨v, h1, h2⟩ := eY (x := x) h
    obtain ⟨ps, h3, h4⟩ := adW (xs := xs) h2
    refine ⟨(a, b, v) :: ps, ?_, h4⟩
    funext z
    simp only [Hx, X7] at h3 ⊢
    rw [h1]
    dsimp only
    rw [h3]
    rfl
theorem ani {op : BinOp} {q q' : IntKind} {a b : Int} {k : AV → CRes} (h : binIX op q q' a b k = .ret r H') : ∃ v, binF op (.int q a) (.int q' b) = some v ∧ k v = .ret r H' := by
  have same : ∀ {c : CRes}, ifB (wE q q') c .err = .ret r H' → q = q' ∧ c = .ret r H' := fun h => ⟨adc (gf h).1, (gf h).2⟩
  cases op with
  | add =>
    obtain ⟨rfl, h1⟩ := same h
    replace h := h1
    clear h1
    rw [cd] at h
    refine ⟨_, ?_, h⟩
    show (if q = q then EI q (addF a b) (fun n => some (AV.int q n)) else none) = _
    rw [if_pos rfl, nc, Xv]
  | sub =>
    obtain ⟨rfl, h1⟩ := same h
    replace h := h1
    clear h1
    rw [ca] at h
    refine ⟨_, ?_, h⟩
    show (if q = q then EI q (subF a b) (fun n => some (AV.int q n)) else none) = _
    rw [if_pos rfl, nc, Yf]
  | mul =>
    obtain ⟨rfl, h1⟩ := same h
    replace h := h1
    clear h1
    rw [cc] at h
    refine ⟨_, ?_, h⟩
    show (if q = q then EI q (mulF a b) (fun n => some (AV.int q n)) else none) = _
    rw [if_pos rfl, nc, Y2]
  | quo =>
    obtain ⟨rfl, h1⟩ := same h
    replace h := h1
    clear h1
    have h0 : ifB (isZ b) .err (yV q (divF a b) fun n => k (.int q n)) = .ret r H' := h
    obtain ⟨h1, h2⟩ := y0 h0
    rw [bC] at h2
    refine ⟨_, ?_, h2⟩
    show (if q = q then (Bool.casesOn (isZ b) (EI q (divF a b) (fun n => some (AV.int q n))) none : Option AV) else none) = _
    rw [if_pos rfl, h1]
    exact nc _ _ _
  | rem =>
    obtain ⟨rfl, h1⟩ := same h
    replace h := h1
    clear h1
    have h0 : ifB (isZ b) .err (pg (modF a b) fun n => k (.int q n)) = .ret r H' := h
    obtain ⟨h1, h2⟩ := y0 h0
    rw [bf] at h2
    refine ⟨_, ?_, h2⟩
    show (if q = q then (Bool.casesOn (isZ b) (some (AV.int q (modF a b))) none : Option AV) else none) = _
    rw [if_pos rfl, h1]
  | and =>
    obtain ⟨rfl, h1⟩ := same h
    replace h := h1
    clear h1
    have h0 : (Option.casesOn (rY .and q a b) .err fun n => pg n fun n => k (.int q n) : CRes) = .ret r H' := h
    cases hb : rY .and q a b with
    | none => rw [hb] at h0; cases h0
    | some n =>
      rw [hb] at h0
      have h2 : pg n (fun n => k (.int q n)) = .ret r H' := h0
      rw [bf] at h2
      refine ⟨_, ?_, h2⟩
      show (if q = q then (Option.casesOn (rY .and q a b) none (fun n => some (AV.int q n)) : Option AV) else none) = _
      rw [if_pos rfl, hb]
  | or =>
    obtain ⟨rfl, h1⟩ := same h
    replace h := h1
    clear h1
    have h0 : (Option.casesOn (rY .or q a b) .err fun n => pg n fun n => k (.int q n) : CRes) = .ret r H' := h
    cases hb : rY .or q a b with
    | none => rw [hb] at h0; cases h0
    | some n =>
      rw [hb] at h0
      have h2 : pg n (fun n => k (.int q n)) = .ret r H' := h0
      rw [bf] at h2
      refine ⟨_, ?_, h2⟩
      show (if q = q then (Option.casesOn (rY .or q a b) none (fun n => some (AV.int q n)) : Option AV) else none) = _
      rw [if_pos rfl, hb]
  | xor =>
    obtain ⟨rfl, h1⟩ := same h
    replace h := h1
    clear h1
    have h0 : (Option.casesOn (rY .xor q a b) .err fun n => pg n fun n => k (.int q n) : CRes) = .ret r H' := h
    cases hb : rY .xor q a b with
    | none => rw [hb] at h0; cases h0
    | some n =>
      rw [hb] at h0
      have h2 : pg n (fun n => k (.int q n)) = .ret r H' := h0
      rw [bf] at h2
      refine ⟨_, ?_, h2⟩
      show (if q = q then (Option.casesOn (rY .xor q a b) none (fun n => some (AV.int q n)) : Option AV) else none) = _
      rw [if_pos rfl, hb]
  | andNot =>
    obtain ⟨rfl, h1⟩ := same h
    replace h := h1
    clear h1
    have h0 : (Option.casesOn (rY .andNot q a b) .err fun n => pg n fun n => k (.int q n) : CRes) = .ret r H' := h
    cases hb : rY .andNot q a b with
    | none => rw [hb] at h0; cases h0
    | some n =>
      rw [hb] at h0
      have h2 : pg n (fun n => k (.int q n)) = .ret r H' := h0
      rw [bf] at h2
      refine ⟨_, ?_, h2⟩
      show (if q = q then (Option.casesOn (rY .andNot q a b) none (fun n => some (AV.int q n)) : Option AV) else none) = _
      rw [if_pos rfl, hb]
  | shl =>
    obtain ⟨n, rfl, hz⟩ := SD (a := b) h
    replace h := hz
    clear hz
    rw [bC] at h
    refine ⟨_, ?_, h⟩
    show EI q (ZH q a n) (fun r => some (AV.int q r)) = _
    exact nc _ _ _
  | shr =>
    obtain ⟨n, rfl, hz⟩ := SD (a := b) h
    replace h := hz
    clear hz
    rw [bf] at h
    exact ⟨_, rfl, h⟩
  | eql =>
    obtain ⟨rfl, h1⟩ := same h
    replace h := zk h1
    clear h1
    refine ⟨_, ?_, h⟩
    show (if q = q then some (AV.bool (eqF a b)) else none) = _
    rw [if_pos rfl]
  | neq =>
    obtain ⟨rfl, h1⟩ := same h
    replace h := zk h1
    clear h1
    refine ⟨_, ?_, h⟩
    show (if q = q then (Bool.casesOn (eqF a b) (some (AV.bool true)) (some (AV.bool false)) : Option AV) else none) = _
    rw [if_pos rfl]; cases eqF a b <;> rfl
  | lss =>
    obtain ⟨rfl, h1⟩ := same h
    replace h := zk h1
    clear h1
    refine ⟨_, ?_, h⟩
    show (if q = q then some (AV.bool (ltF a b)) else none) = _
    rw [if_pos rfl]
  | leq =>
    obtain ⟨rfl, h1⟩ := same h
    replace h := zk h1
    clear h1
    refine ⟨_, ?_, h⟩
    show (if q = q then (Bool.casesOn (ltF b a) (some (AV.bool true)) (some (AV.bool false)) : Option AV) else none) = _
    rw [if_pos rfl]; cases ltF b a <;> rfl
  | gtr =>
    obtain ⟨rfl, h1⟩ := same h
    replace h := zk h1
    clear h1
    refine ⟨_, ?_, h⟩
    show (if q = q then some (AV.bool (ltF b a)) else none) = _
    rw [if_pos rfl]
  | geq =>
    obtain ⟨rfl, h1⟩ := same h
    replace h := zk h1
    clear h1
    refine ⟨_, ?_, h⟩
    show (if q = q then (Bool.casesOn (ltF a b) (some (AV.bool true)) (some (AV.bool false)) : Option AV) else none) = _
    rw [if_pos rfl]; cases ltF a b <;> rfl
theorem binX_inv {op : BinOp} {u v : AV} {k : AV → CRes} (h : binX op u v k = .ret r H') : ∃ w, binF op u v = some w ∧ k w = .ret r H' := by
  cases u with
  | int q a =>
    obtain ⟨q', b, rfl, hz⟩ := Ad (v := v) h
    replace h := hz
    clear hz
    exact ani h
  | str a =>
    obtain ⟨b, rfl, hz⟩ := Yb (v := v) h
    replace h := hz
    clear hz
    cases op with
    | add =>
      have h0 : ifB (Nat.ble (Nat.add (kQ a) (kQ b)) 1099511627776) (BT a b fun n => k (.str n)) .err = .ret r H' := h
      obtain ⟨h1, h2⟩ := gf h0
      rw [gD] at h2
      refine ⟨_, ?_, h2⟩
      show (Bool.casesOn (Nat.ble (Nat.add (kQ a) (kQ b)) 1099511627776) none (some (AV.str (BT a b id))) : Option AV) = _
      rw [h1, gD]; rfl
    | eql =>
      have h1 := zk (b := vZ a b) h
      exact ⟨_, rfl, h1⟩
    | neq =>
      have h1 := zk (b := jR (vZ a b)) h
      exact ⟨_, by show some (AV.bool (!vZ a b)) = some _; rw [← b9], h1⟩
    | _ => cases h
  | _ => cases h
end
end Go.Ai
/- A table of functions, put together of its entries. -/
namespace Go.Ai
def Entry (P : Program) (f : Nat) (x : AFn) : Prop := ∃ fn, P.funcs[f]? = some fn ∧ (fn.name == "runtime.NumGoroutine") = false ∧ fn.body.isNone = false ∧ ∃ m, TX P fn m = some x
def Entries (P : Program) : List (Nat × AFn) → Prop
  | [] => True
  | e :: l => Entry P e.1 e.2 ∧ Entries P l
theorem Entries.mem {P : Program} : ∀ {l : List (Nat × AFn)}, Entries P l → ∀ {f x}, (f, x) ∈ l → Entry P f x
  | e :: l, h, f, x, hm => by
    rcases List.mem_cons.1 hm with rfl | hm
    · exact h.1
    · exact Entries.mem h.2 hm
theorem OX {P : Program} {fn : Func} {m : Bool} {x : AFn} (h : TX P fn m = some x) : ∃ ps body res, x = .code ps body res := by
  unfold TX at h
  simp only [Option.bind_eq_some_iff] at h
  obtain ⟨c, _, ac, _, rs, _, h⟩ := h
  split at h
  · cases h; exact ⟨_, _, _, rfl⟩
  · cases h
theorem TblOk.prim_set {P : Program} {tbl : Tr AFn} (T : TblOk P tbl) {f : Nat} {g : List AV → Heap → CRes} (hp : aiY P f g) (hm : ∀ vs H v H', H.ro ≤ H.nx → g vs H = .ret v H' → Mono H H') (he : Enters P f) : TblOk P (tbl.set (key f) (.prim g)) := {
  mixed := T.mixed
  mono f' g' hg := by
    by_cases e : f = f'
    · subst e; rw [Tr.get_set_same] at hg; cases hg; exact hm
    · rw [Tr.get_set_other (fun k => e (wh k))] at hg; exact T.mono f' g' hg
  enters f' x hx := by
    by_cases e : f = f'
    · subst e; exact he
    · rw [Tr.get_set_other (fun k => e (wh k))] at hx; exact T.enters f' x hx
  code f' ps body res hx := by
    by_cases e : f = f'
    · subst e; rw [Tr.get_set_same] at hx; cases hx
    · rw [Tr.get_set_other (fun k => e (wh k))] at hx; exact T.code f' ps body res hx
  prim f' g' hg := by
    by_cases e : f = f'
    · subst e; rw [Tr.get_set_same] at hg; cases hg; exact hp
    · rw [Tr.get_set_other (fun k => e (wh k))] at hg; exact T.prim f' g' hg }
end Go.Ai
/- The interpreter in continuation style: instructions, code, calls. What it returns, the interpreter's calls return. -/
namespace Go.Ai
section
variable {r : AV} {H' : Heap} {tbl : Tr AFn} {tm : Tr AV} {H : Heap}
def CfOk (tbl : Tr AFn) (cf : d7) : Prop := ∀ fv vs H k r H', H.ro ≤ H.nx → cf fv vs H k = .ret r H' → ∃ n v H₁, call tbl n fv vs H = .ret v H₁ ∧ k v H₁ = .ret r H'
theorem Oi {d : Option P} {v : AV} {k : Tr AV → CRes} (h : aaE d v tm k = .ret r H') : k (tm.putO d v) = .ret r H' := by
  cases d with
  | none => exact h
  | some p => exact (KI p v tm k).symm.trans h
theorem ane {want : Bool} {v : AV} {y n : CRes} (h : wantX want v y n = .ret r H') :
    ∃ t, (match v with | .bool b => some (b == want) | _ => some false) = some t ∧ (if t then y else n) = .ret r H' := by
  cases v with
  | bool b =>
    have h0 : ifB (eqBB b want) y n = .ret r H' := h
    rw [Jw, b8] at h0
    exact ⟨b == want, rfl, h0⟩
  | _ => exact ⟨false, rfl, by rw [if_neg (by simp)]; exact h⟩
theorem I4 {g : Gd} {y n : CRes} (h : aba g tm y n = .ret r H') : (tY tm g = some true ∧ y = .ret r H') ∨ (tY tm g = some false ∧ n = .ret r H') := by
  cases g with
  | always => exact .inl ⟨rfl, h⟩
  | on p want =>
    obtain ⟨v, hv, h⟩ := Yi (p := p) h
    obtain ⟨t, h1, h2⟩ := ane h
    have hw : tY tm (.on p want) = some t := by
      simp only [tY]; rw [hv]; exact h1
    cases t with
    | true => exact .inl ⟨hw, h2⟩
    | false => exact .inr ⟨hw, h2⟩
variable {cf : d7} (hp : cF tbl) (hcf : CfOk tbl cf)
include hp hcf
omit hp hcf
theorem ahB : ∀ {ps : List P} {vs : List AV} {tm : Tr AV} {k : Tr AV → CRes}, bindX ps vs tm k = .ret r H' → ∃ tm', Ct ps vs tm none some = some tm' ∧ k tm' = .ret r H'
  | [], [], tm, k, h => ⟨tm, rfl, h⟩
  | [], _ :: _, tm, k, h => by cases h
  | _ :: _, [], tm, k, h => by cases h
  | p :: ps, v :: vs, tm, k, h => by
    have h0 : setV p v tm (fun tm => bindX ps vs tm k) = .ret r H' := h
    rw [KI] at h0
    obtain ⟨tm', h1, h2⟩ := ahB h0
    refine ⟨tm', ?_, h2⟩
    show Tr.setK p v tm (fun tm' => Ct ps vs tm' none some) = _
    rw [Tr.setK_eq]; exact h1
theorem oneX_eq (vs : List AV) : oneX vs = one vs := by
  match vs with
  | [] => rfl
  | [v] => rfl
  | _ :: _ :: _ => rfl
end
end Go.Ai
/- The table of all functions that the compiler takes, found by compiling. -/
namespace Go.Ai
def TM (P : Program) (f : Nat) : Option AFn := (P.funcs[f]?).bind fun fn => if fn.name == "runtime.NumGoroutine" then none else TX P fn
theorem H9 {P : Program} {f : Nat} {x : AFn} (h : TM P f = some x) : Entry P f x := by
  unfold TM at h
  simp only [Option.bind_eq_some_iff] at h
  obtain ⟨fn, h1, h2⟩ := h
  split at h2
  · cases h2
  · rename_i hn
    refine ⟨fn, h1, by simpa using hn, ?_, false, h2⟩
    unfold TX at h2
    simp only [Option.bind_eq_some_iff] at h2
    obtain ⟨c, hc, _⟩ := h2
    rw [hc]; rfl
noncomputable def tblN (P : Program) : Nat → Tr AFn
  | 0 => .leaf
  | n + 1 => match TM P n with
    | some x => (tblN P n).set (key n) x
    | none => tblN P n
theorem akB (P : Program) : ∀ (n f : Nat), (tblN P n).get (key f) = if f < n then TM P f else none
  | 0, f => by rw [tblN, Tr.get_leaf, if_neg (by omega)]
  | n + 1, f => by
    have ih := akB P n f
    cases hc : TM P n with
    | none =>
      simp only [tblN, hc]
      rw [ih]
      by_cases h : f < n
      · rw [if_pos h, if_pos (by omega)]
      · rw [if_neg h]
        by_cases e : f = n
        · subst e; rw [if_pos (by omega), hc]
        · rw [if_neg (by omega)]
    | some x =>
      simp only [tblN, hc]
      by_cases e : n = f
      · subst e; rw [Tr.get_set_same, if_pos (by omega), hc]
      · rw [Tr.get_set_other (fun k => e (wh k)), ih]
        by_cases h : f < n
        · rw [if_pos h, if_pos (by omega)]
        · rw [if_neg h, if_neg (by omega)]
noncomputable def tblP (P : Program) : Tr AFn := tblN P P.funcs.size
theorem Ub (P : Program) (f : Nat) : (tblP P).get (key f) = TM P f := by
  unfold tblP
  rw [akB]
  split
  · rfl
  · rename_i h
    unfold TM
    rw [Array.getElem?_eq_none (by omega)]; rfl
theorem tblP_ok {P : Program} (hm : P.follows .mixedOrders = true) : TblOk P (tblP P) := {
  mixed := hm
  mono f g hg := by
    rw [Ub] at hg
    obtain ⟨fn, _, _, _, _, hc⟩ := H9 hg
    obtain ⟨_, _, _, e⟩ := OX hc
    cases e
  enters f x hx := by
    rw [Ub] at hx
    obtain ⟨fn, h1, h2, h3, _⟩ := H9 hx
    exact ⟨fn, h1, h2, h3⟩
  code f ps body res hx := by
    rw [Ub] at hx
    obtain ⟨fn, h1, _, _, m, h4⟩ := H9 hx
    exact ⟨fn, m, h1, h4⟩
  prim f g hg := by
    rw [Ub] at hg
    obtain ⟨fn, _, _, _, _, hc⟩ := H9 hg
    obtain ⟨_, _, _, e⟩ := OX hc
    cases e }
end Go.Ai
/- A call of plain values whose run from an empty heap is known: it answers so from every heap. -/
namespace Go.Ai
theorem Ext.of_below' {M : Mp} {D : Nat → Prop} {K : Heap} {w W : World} (hs : w.heap.size ≤ W.heap.size) (hf : ∀ c, c < w.heap.size → W.heap[c]? = w.heap[c]?) (ho : W.os = w.os) (ht : W.tape = w.tape) (hp : W.output = w.output) : Ext M D K w M D K W := {
  keep := fun _ h => h
  agree := fun _ _ => rfl
  old := fun _ h _ => h
  nx := Nat.le_refl _
  wrm := fun _ _ h => h
  newb := fun _ h hn => (hn h).elim
  frame := fun c hc _ => hf c hc
  unm := fun _ _ _ => rfl
  size := hs
  os := ho
  tape := ht
  output := hp }
theorem Rel.of_below' {M : Mp} {D : Nat → Prop} {K : Heap} {w W : World} (hr : Rel M D K w) (hs : w.heap.size ≤ W.heap.size) (hf : ∀ c, c < w.heap.size → W.heap[c]? = w.heap[c]?) : Rel M D K W :=
  ⟨hr.dom, fun b hb => (hr.blk b hb).keep (fun _ h => h) (fun _ _ => rfl) (fun hl => hf _ ((hr.blk b hb).lt hl)) hs, hr.inj⟩
def WV : AV → Bool
  | .int _ _ => true
  | .bool _ => true
  | .str _ => true
  | _ => false
def alI : AV → Bool
  | .tuple l => l.all WV
  | v => WV v
theorem ajD {v : AV} (h : WV v = true) (M M' : Mp) : aZ M v = aZ M' v := by cases v <;> first | rfl | cases h
theorem ahl {v : AV} (h : WV v = true) (D : Nat → Prop) : okv D v := by cases v <;> first | exact trivial | (simp [okv]; done) | cases h
theorem aj5 {v : AV} (h : alI v = true) (M M' : Mp) : aZ M v = aZ M' v := by
  cases v with
  | tuple l =>
    have h : l.all WV = true := h
    simp only [aZ, lh]
    congr 2
    exact List.map_congr_left fun x hx => ajD (List.all_eq_true.1 h x hx) M M'
  | int _ _ => rfl
  | bool _ => rfl
  | str _ => rfl
  | _ => cases h
theorem amG {v : AV} (h : alI v = true) (D : Nat → Prop) : okv D v := by
  cases v with
  | tuple l =>
    have h : l.all WV = true := h
    simp only [okv]
    exact (nN D _).2 fun x hx => ahl (List.all_eq_true.1 h x hx) D
  | int _ _ => simp [okv]
  | bool _ => simp [okv]
  | str _ => simp [okv]
  | _ => cases h
noncomputable def sameV : AV → AV → Bool
  | .int q a, .int q' b => ikN q == ikN q' && decide (a = b)
  | .bool a, .bool b => a == b
  | _, _ => false
noncomputable def sameL (l : List AV) : List AV → Bool := List.rec (motive := fun _ => List AV → Bool) (fun l' => List.rec (motive := fun _ => Bool) true (fun _ _ _ => false) l')
  (fun a _ ih l' => List.rec (motive := fun _ => Bool) false (fun b t _ => andB (sameV a b) (ih t)) l') l
theorem sameV_ok {a b : AV} (h : sameV a b = true) : a = b := by
  unfold sameV at h
  split at h
  · simp only [Bool.and_eq_true, beq_iff_eq, decide_eq_true_eq] at h
    rename_i q a q' b
    have : q = q' := adc (by show Nat.beq _ _ = true; rw [h.1]; exact Nat.beq_refl _)
    rw [this, h.2]
  · simp only [beq_iff_eq] at h; rw [h]
  · cases h
theorem akS : ∀ {l l' : List AV}, sameL l l' = true → l = l'
  | [], [], _ => rfl
  | [], _ :: _, h => by cases h
  | _ :: _, [], h => by cases h
  | a :: l, b :: l', h => by
    have h0 : andB (sameV a b) (sameL l l') = true := h
    rw [bW, Bool.and_eq_true] at h0
    rw [sameV_ok h0.1, akS h0.2]
noncomputable def ag4 (vs : List AV) (u : AV) (args : List AV) (H : Heap) : CRes := ifB (sameL vs args) (.ret u H) .err
theorem ahi {vs : List AV} {u : AV} {args : List AV} {H H' : Heap} {v : AV} (h : ag4 vs u args H = .ret v H') : args = vs ∧ v = u ∧ H' = H := by
  unfold ag4 at h
  rw [Jw] at h
  split at h
  · rename_i hs
    cases h
    exact ⟨(akS hs).symm, rfl, rfl⟩
  · cases h
theorem alx {vs : List AV} {u : AV} {args : List AV} {H H' : Heap} {v : AV} (h : ag4 vs u args H = .ret v H') : Mono H H' := by
  obtain ⟨_, _, rfl⟩ := ahi h
  exact .refl
end Go.Ai
/- The functions that the printed text does not reach into. -/
namespace Go.Proofs.Ytnlbfbiogfilfaa.Sh
open Go.Ai
abbrev lr : Nat := 6
abbrev jz : Nat := 67
noncomputable abbrev lb : List AV → Heap → CRes := xv
noncomputable abbrev lq : List AV → Heap → CRes := ag4 [] (.bool true)
end Go.Proofs.Ytnlbfbiogfilfaa.Sh
