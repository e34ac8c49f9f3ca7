/- A run shown step by step: straight code is gone through by rewriting; loops and calls stand still. -/
import Derived.Test.YtphpkpemamccnaaGreatAiSym
namespace Go.Ai

section
variable {tbl : Tr AFn}

/-- what is to be shown of a region -/
def RegQ (tbl : Tr AFn) : List Ins → Tr AV → Heap → (St → Prop) → Prop
  | [], tm, H, K => K ⟨tm, H⟩
  | .op g d o :: l, tm, H, K => match wantF tm g with
    | some true => match opF o tm H with
      | some r => RegQ tbl l (tm.putO d r.1) r.2 K
      | none => False
    | some false => RegQ tbl l (tm.putO d .undef) H K
    | none => False
  | .call g d q f args :: l, tm, H, K => match wantF tm g with
    | some true => match ev tm f, evs tm args with
      | some fv, some vs => WpC tbl fv vs (H.shut q) fun v H' => RegQ tbl l (tm.putO d v) (H'.back H.ro) K
      | _, _ => False
    | some false => RegQ tbl l (tm.putO d .undef) H K
    | none => False

theorem RegQ.wp : ∀ {l : List Ins} {tm : Tr AV} {H : Heap} {K : St → Prop}, RegQ tbl l tm H K → WpR tbl l ⟨tm, H⟩ K
  | [], tm, H, K, h => WpR.nil h
  | .op g d o :: l, tm, H, K, h => by
    unfold RegQ at h
    split at h
    · rename_i hg
      split at h
      · rename_i r hr; exact WpR.op hg hr (RegQ.wp h)
      · exact h.elim
    · rename_i hg; exact WpR.not hg (RegQ.wp h)
    · exact h.elim
  | .call g d q f args :: l, tm, H, K, h => by
    unfold RegQ at h
    split at h
    · rename_i hg
      split at h
      · rename_i fv vs hf ha; exact WpR.call hg hf ha (h.mono fun v H' hr => RegQ.wp hr)
      · exact h.elim
    · rename_i hg; exact WpR.not hg (RegQ.wp h)
    · exact h.elim

/-- what is to be shown of code -/
def CQ (tbl : Tr AFn) : AC → St → (Ex → St → Prop) → Prop
  | .skip, s, Q => Q .nrm s
  | .reg l, s, Q => RegQ tbl l s.tm s.hp (Q .nrm)
  | .regU _, _, _ => False
  | .seq a b, s, Q => CQ tbl a s (Ex.thn Q fun s => CQ tbl b s Q)
  | .cond c a b, s, Q => match ev s.tm c with
    | some (.bool t) => if t = true then CQ tbl a s Q else CQ tbl b s Q
    | _ => False
  | .block id a, s, Q => CQ tbl a s (Ex.blk id Q)
  | .loop a, s, Q => Wp tbl (.loop a) s Q
  | .exit id, s, Q => Q (.exi id) s
  | .ret, s, Q => Q .ret s

theorem CQ.wp : ∀ {c : AC} {s : St} {Q : Ex → St → Prop}, CQ tbl c s Q → Wp tbl c s Q
  | .skip, _, _, h => Wp.skip h
  | .reg _, _, _, h => Wp.reg (RegQ.wp h)
  | .regU _, _, _, h => h.elim
  | .seq a b, s, Q, h => Wp.seq ((CQ.wp (c := a) h).mono fun e s₁ hs => by
      cases e with
      | nrm => exact CQ.wp (c := b) hs
      | exi id => exact hs
      | ret => exact hs)
  | .cond c a b, s, Q, h => by
    unfold CQ at h
    split at h
    · rename_i t ht
      refine Wp.cond ht ?_
      cases t with
      | true => exact CQ.wp (c := a) (by simpa using h)
      | false => exact CQ.wp (c := b) (by simpa using h)
    · exact h.elim
  | .block id a, s, Q, h => Wp.block (CQ.wp (c := a) h)
  | .loop _, _, _, h => h
  | .exit _, _, _, h => Wp.exit h
  | .ret, _, _, h => Wp.ret h

/-- a loop, its round gone through -/
theorem CQ.loop {a : AC} {Q : Ex → St → Prop} (I : St → Prop) (μ : St → Nat) {s : St} (h₀ : I s)
    (round : ∀ tm H, I ⟨tm, H⟩ → CQ tbl a ⟨tm, H⟩ (Ex.thn Q fun s' => I s' ∧ μ s' < μ ⟨tm, H⟩)) : Wp tbl (.loop a) s Q :=
  Wp.loop I μ h₀ fun s hI => CQ.wp (round s.tm s.hp hI)
end

/-! ### The operations, for rewriting -/
section
variable {tm : Tr AV} {H : Heap}

theorem get_set_key (a b : Nat) (v : AV) : (tm.set (key a) v).get (key b) = if a = b then some v else tm.get (key b) := by
  by_cases h : a = b
  · subst h; rw [if_pos rfl, Tr.get_set_same]
  · rw [if_neg h, Tr.get_set_other (fun e => h (key_inj e))]
theorem putO_some (p : P) (v : AV) : tm.putO (some p) v = tm.set p v := rfl
theorem putO_none (v : AV) : tm.putO none v = tm := rfl
theorem ev_t (p : P) : ev tm (.t p) = tm.get p := rfl
theorem ev_c (v : AV) : ev tm (.c v) = some v := rfl
theorem evs_nilq : evs tm [] = some [] := rfl
theorem evs_consq (x : Opd) (xs : List Opd) : evs tm (x :: xs) = (ev tm x).bind fun v => (evs tm xs).bind fun vs => some (v :: vs) := by
  show (Option.casesOn (ev tm x) none fun v => Option.casesOn (evs tm xs) none fun vs => some (v :: vs) : Option (List AV)) = _
  cases ev tm x with
  | none => rfl
  | some v => cases evs tm xs <;> rfl
theorem want_always : wantF tm .always = some true := rfl
theorem want_on (p : P) (w : Bool) : wantF tm (.on p w) = (tm.get p).bind fun v => match v with | .bool b => some (b == w) | _ => some false := by
  show (Option.casesOn (tm.get p) none fun v => _ : Option Bool) = _
  cases tm.get p <;> rfl
theorem opF_mov (x : Opd) : opF (.mov x) tm H = (ev tm x).bind fun v => some (v, H) := by simp only [opF]; cases ev tm x <;> rfl
theorem opF_pick (c a b : Opd) : opF (.pick c a b) tm H = (ev tm c).bind fun v => match v with
    | .bool true => (ev tm a).bind fun v => some (v, H)
    | .bool false => (ev tm b).bind fun v => some (v, H)
    | _ => none := by
  simp only [opF]
  cases ev tm c with
  | none => rfl
  | some v =>
    cases v with
    | bool t =>
      cases t
      · show (Option.casesOn (ev tm b) none fun v => some (v, H) : Option (AV × Heap)) = (ev tm b).bind fun v => some (v, H)
        cases ev tm b <;> rfl
      · show (Option.casesOn (ev tm a) none fun v => some (v, H) : Option (AV × Heap)) = (ev tm a).bind fun v => some (v, H)
        cases ev tm a <;> rfl
    | _ => rfl
theorem opF_not (x : Opd) : opF (.not x) tm H = (ev tm x).bind fun v => match v with
    | .bool b => some (.bool (!b), H)
    | _ => none := by
  simp only [opF]
  cases ev tm x with
  | none => rfl
  | some v =>
    cases v with
    | bool t => cases t <;> rfl
    | _ => rfl
theorem opF_bin (op : BinOp) (x y : Opd) : opF (.bin op x y) tm H = (ev tm x).bind fun v => (ev tm y).bind fun u => (binF op v u).bind fun r => some (r, H) := by
  simp only [opF]
  cases ev tm x with
  | none => rfl
  | some v =>
    cases ev tm y with
    | none => rfl
    | some u => dsimp only [Option.bind]; cases binF op v u <;> rfl
theorem opF_eq (k : EqK) (n : Bool) (x y : Opd) : opF (.eq k n x y) tm H = (ev tm x).bind fun v => (ev tm y).bind fun u => (eqK k v u).bind fun r => some (.bool (r ^^ n), H) := by
  simp only [opF]
  cases ev tm x with
  | none => rfl
  | some v =>
    cases ev tm y with
    | none => rfl
    | some u => dsimp only [Option.bind]; cases eqK k v u <;> rfl
theorem opF_conv (k : IntKind) (x : Opd) : opF (.conv k x) tm H = (ev tm x).bind fun v => match v with
    | .int _ n => some (.int k (k.wrap n), H)
    | _ => none := by
  simp only [opF]
  cases ev tm x with
  | none => rfl
  | some v => cases v <;> first | rfl | exact wrapK_eq _ _ _
theorem opF_nilchk (x : Opd) : opF (.nilchk x) tm H = (ev tm x).bind fun v => match v with
    | .ptr b off => some (.ptr b off, H)
    | .func f a c => some (.func f a c, H)
    | _ => none := by simp only [opF]; cases ev tm x <;> rfl
theorem opF_fa (k : Nat) (x : Opd) : opF (.fa k x) tm H = (ev tm x).bind fun v => match v with
    | .ptr b off => some (.ptr b (off + k), H)
    | _ => none := by simp only [opF]; cases ev tm x <;> rfl
/-- an index as a number -/
def idx (i : Int) (n : Nat) : Option Nat := if 0 ≤ i ∧ i < n then some i.toNat else none
theorem idx_ofNat (i n : Nat) : idx i n = if i < n then some i else none := by
  unfold idx
  by_cases h : i < n
  · rw [if_pos h, if_pos ⟨Int.natCast_nonneg _, Int.ofNat_lt.2 h⟩]; rfl
  · rw [if_neg h, if_neg (fun c => h (Int.ofNat_lt.1 c.2))]
theorem idx_some {i : Int} {n : Nat} (h0 : 0 ≤ i) (h1 : i < n) : idx i n = some i.toNat := if_pos ⟨h0, h1⟩
theorem natF_idx {α : Type} (i : Int) (n : Nat) (k : Nat → Option α) : natF i none (fun j => Bool.casesOn (motive := fun _ => Option α) (Nat.blt j n) none (k j)) = (idx i n).bind k := by
  cases i with
  | negSucc i => unfold idx; rw [if_neg (by omega)]; rfl
  | ofNat i =>
    show Bool.casesOn (motive := fun _ => Option α) (Nat.blt i n) none (k i) = (idx (i : Nat) n).bind k
    rw [idx_ofNat, blt_eq]
    by_cases h : i < n <;> simp [h]
theorem opF_iaS (sz : Nat) (x i : Opd) : opF (.iaS sz x i) tm H = (ev tm x).bind fun v => (ev tm i).bind fun u => match v, u with
    | .slice b off len _ _, .int _ i => (idx i len).bind fun j => some (.ptr b (off + j * sz), H)
    | _, _ => none := by
  simp only [opF]
  cases ev tm x with
  | none => rfl
  | some v =>
    cases ev tm i with
    | none => rfl
    | some u => cases v <;> try rfl
                cases u <;> try rfl
                exact natF_idx _ _ _
theorem opF_iaA (sz len : Nat) (x i : Opd) : opF (.iaA sz len x i) tm H = (ev tm x).bind fun v => (ev tm i).bind fun u => match v, u with
    | .ptr b off, .int _ i => (idx i len).bind fun j => some (.ptr b (off + j * sz), H)
    | _, _ => none := by
  simp only [opF]
  cases ev tm x with
  | none => rfl
  | some v =>
    cases ev tm i with
    | none => rfl
    | some u => cases v <;> try rfl
                cases u <;> try rfl
                exact natF_idx _ _ _
/-- n cells of a block from a place on -/
noncomputable def cellsQ (H : Heap) (b off n : Nat) : Option (List AV) := (cellsAt H b).bind fun l => sub l off n
theorem opF_loadQ (n : Nat) (g : Bool) (x : Opd) : opF (.load n g x) tm H = (ev tm x).bind fun v => match v with
    | .ptr b off => (cellsQ H b off n).bind fun cs => (packF g cs).bind fun r => some (r, H)
    | _ => none := by
  simp only [opF]
  cases ev tm x with
  | none => rfl
  | some v =>
    cases v <;> try rfl
    rename_i b off
    simp only [cellsQ, Option.bind_some]
    cases cellsAt H b with
    | none => rfl
    | some l =>
      simp only [Option.bind_some]
      cases sub l off n with
      | none => rfl
      | some cs => simp only [Option.bind_some]; cases packF g cs <;> rfl
/-- cells of a block of one's own written over -/
noncomputable def storeTo (H : Heap) (b off n : Nat) (u : AV) : Option Heap := ownK H b none fun l g =>
  if cellable u = true ∧ u.cells.length = n ∧ off + n ≤ l.length then some (H.set b (.cells (over u.cells l off) true g)) else none
theorem opF_store (n : Nat) (a x : Opd) : opF (.store n a x) tm H = (ev tm a).bind fun v => match v with
    | .ptr b off => (ev tm x).bind fun u => (storeTo H b off n u).bind fun H' => some (.undef, H')
    | _ => none := by
  simp only [opF]
  cases ev tm a with
  | none => rfl
  | some v =>
    cases v <;> try rfl
    rename_i b off
    cases ev tm x with
    | none => rfl
    | some u =>
      simp only [Option.bind_some, storeTo, ownK]
      cases Nat.blt b H.ro <;> try rfl
      cases H.get b with
      | none => rfl
      | some y =>
        cases y with
        | cells l rw g =>
          cases rw <;> try rfl
          show (match cellable u && lenN u.cells == n && Nat.ble (off + n) (lenN l) with | true => overK u.cells l off fun l' => H.setK b (.cells l' true g) fun H' => some (AV.undef, H') | false => none) = Option.bind (if cellable u = true ∧ u.cells.length = n ∧ off + n ≤ l.length then some (H.set b (.cells (over u.cells l off) true g)) else none) fun H' => some (AV.undef, H')
          by_cases hc : cellable u = true ∧ u.cells.length = n ∧ off + n ≤ l.length
          · rw [if_pos hc]
            have : (cellable u && lenN u.cells == n && Nat.ble (off + n) (lenN l)) = true := by
              simp only [Bool.and_eq_true, beq_iff_eq, Nat.ble_eq, lenN_eq]
              exact ⟨⟨hc.1, hc.2.1⟩, hc.2.2⟩
            rw [this]
            dsimp only
            rw [overK_eq, Heap.setK_eq]; rfl
          · rw [if_neg hc]
            have : (cellable u && lenN u.cells == n && Nat.ble (off + n) (lenN l)) = false := by
              rw [Bool.eq_false_iff]
              intro h
              simp only [Bool.and_eq_true, beq_iff_eq, Nat.ble_eq, lenN_eq] at h
              exact hc ⟨h.1.1, h.1.2, h.2⟩
            rw [this]; rfl
        | mp es => rfl
        | dead => rfl
theorem opF_ext (i : Nat) (x : Opd) : opF (.ext i x) tm H = (ev tm x).bind fun v => match v with
    | .tuple vs => vs[i]?.bind fun r => some (r, H)
    | _ => none := by
  simp only [opF]
  cases ev tm x with
  | none => rfl
  | some v =>
    cases v <;> try rfl
    rename_i vs
    show (Option.casesOn (nth vs i) none fun r => some (r, H) : Option (AV × Heap)) = vs[i]?.bind fun r => some (r, H)
    rw [nth_eq]
    cases vs[i]? <;> rfl
theorem opF_lenS (x : Opd) : opF (.len .sl x) tm H = (ev tm x).bind fun v => match v with
    | .slice _ _ len _ _ => some (.int .i64 (len : Nat), H)
    | .send _ _ _ => some (.int .i64 0, H)
    | .nilslice => some (.int .i64 0, H)
    | _ => none := by simp only [opF]; cases ev tm x with
  | none => rfl
  | some v => cases v <;> rfl

/-- the parameters of a call -/
noncomputable def argsT : Nat → List AV → Tr AV → Tr AV
  | _, [], tm => tm
  | i, v :: vs, tm => argsT (i + 1) vs (tm.set (key i) v)
theorem bind_args : ∀ (vs : List AV) (i : Nat) (tm : Tr AV), bindK ((List.range' i vs.length).map key) vs tm none some = some (argsT i vs tm)
  | [], _, _ => rfl
  | v :: vs, i, tm => by
    rw [List.length_cons, List.range'_succ, List.map_cons]
    show Tr.setK (key i) v tm (fun tm' => bindK ((List.range' (i + 1) vs.length).map key) vs tm' none some) = _
    rw [Tr.setK_eq]; exact bind_args vs (i + 1) _
theorem WpC.go {tbl : Tr AFn} {f : Nat} {args : List AV} {H : Heap} {ps : List P} {body : AC} {res : List Rv} {R : AV → Heap → Prop}
    (hf : tbl.get (key f) = some (.code ps body res)) (hp : ps = (List.range' 0 args.length).map key)
    (h : CQ tbl body ⟨argsT 0 args .leaf, H⟩ fun e s => (e = .nrm ∨ e = .ret) ∧ ∃ vs, resF s res = some vs ∧ R (one vs) s.hp) : WpC tbl (.func f [] []) args H R := by
  subst hp
  refine WpC.code hf ?_ (CQ.wp h)
  rw [List.nil_append, List.append_nil]
  exact bind_args _ _ _
theorem resF_nilq (s : St) : resF s [] = some [] := rfl
theorem resF_t (s : St) (p : P) (rs : List Rv) : resF s (.t p :: rs) = (s.tm.get p).bind fun v => (resF s rs).bind fun vs => some (v :: vs) := by
  show (Option.casesOn (s.tm.get p) none fun v => Option.casesOn (resF s rs) none fun vs => some (v :: vs) : Option (List AV)) = _
  cases s.tm.get p with
  | none => rfl
  | some v => cases resF s rs <;> rfl
theorem one1 (v : AV) : one [v] = v := rfl
theorem one0 : one [] = .undef := rfl
theorem get_leafq (p : P) : (Tr.leaf : Tr AV).get p = none := Tr.get_leaf p

/-! ### Numbers of the kind int -/
def in64 (n : Int) : Prop := -9223372036854775808 ≤ n ∧ n ≤ 9223372036854775807
theorem wrap_in64 {n : Int} (h : in64 n) : IntKind.i64.wrap n = n := by
  rw [IntKind.wrap_i64]; unfold in64 at h; omega
theorem bin_add {a b : Int} (h : in64 (a + b)) : binF .add (.int .i64 a) (.int .i64 b) = some (.int .i64 (a + b)) := by
  simp only [binF, if_true, intOp, wrapK_eq, addF_eq, wrap_in64 h]
theorem bin_sub {a b : Int} (h : in64 (a - b)) : binF .sub (.int .i64 a) (.int .i64 b) = some (.int .i64 (a - b)) := by
  simp only [binF, if_true, intOp, wrapK_eq, subF_eq, wrap_in64 h]
theorem bin_mul {a b : Int} (h : in64 (a * b)) : binF .mul (.int .i64 a) (.int .i64 b) = some (.int .i64 (a * b)) := by
  simp only [binF, if_true, intOp, wrapK_eq, mulF_eq, wrap_in64 h]
theorem bin_lss (k : IntKind) (a b : Int) : binF .lss (.int k a) (.int k b) = some (.bool (decide (a < b))) := by
  simp only [binF, if_true, intOp, ltF_eq]
theorem bin_gtr (k : IntKind) (a b : Int) : binF .gtr (.int k a) (.int k b) = some (.bool (decide (b < a))) := by
  simp only [binF, if_true, intOp, ltF_eq]
theorem bin_leq (k : IntKind) (a b : Int) : binF .leq (.int k a) (.int k b) = some (.bool (decide (a ≤ b))) := by
  simp only [binF, if_true, intOp, ltF_eq]
  by_cases h : b < a
  · simp [h, show ¬ a ≤ b by omega]
  · simp [h, show a ≤ b by omega]
theorem bin_geq (k : IntKind) (a b : Int) : binF .geq (.int k a) (.int k b) = some (.bool (decide (b ≤ a))) := by
  simp only [binF, if_true, intOp, ltF_eq]
  by_cases h : a < b
  · simp [h, show ¬ b ≤ a by omega]
  · simp [h, show b ≤ a by omega]
theorem bin_eql (k : IntKind) (a b : Int) : binF .eql (.int k a) (.int k b) = some (.bool (decide (a = b))) := by
  simp only [binF, if_true, intOp, eqF_eq]
  by_cases h : a = b <;> simp [h]
theorem bin_neq (k : IntKind) (a b : Int) : binF .neq (.int k a) (.int k b) = some (.bool (decide (a ≠ b))) := by
  simp only [binF, if_true, intOp, eqF_eq]
  by_cases h : a = b
  · have e : (a == b) = true := by simp [h]
    rw [e]; simp [h]
  · have e : (a == b) = false := by simp [h]
    rw [e]; simp [h]

/-! ### Heaps -/
theorem Tr.set_set {α : Type} (x y : α) : ∀ (p : P) (t : Tr α), (t.set p x).set p y = t.set p y
  | .h, t => by rw [Tr.set_h, Tr.set_h, Tr.set_h]; cases t <;> rfl
  | .o p, t => by
    rw [Tr.set_o, Tr.set_o, Tr.set_o]
    cases t with
    | leaf => simp only [Tr.set_set x y p]
    | node l v r => simp only [Tr.set_set x y p]
  | .i p, t => by
    rw [Tr.set_i, Tr.set_i, Tr.set_i]
    cases t with
    | leaf => simp only [Tr.set_set x y p]
    | node l v r => simp only [Tr.set_set x y p]
theorem Heap.set_eq (H : Heap) (b : Nat) (x : Blk) : H.set b x = ⟨H.t.set (key b) x, H.nx, H.ro⟩ := by
  cases H; simp only [Heap.set, Heap.setK, Tr.setK_eq]; rfl
theorem Heap.set_set (H : Heap) (b : Nat) (x y : Blk) : (H.set b x).set b y = H.set b y := by
  simp only [Heap.set_eq, Tr.set_set]
theorem Tr.set_id {α : Type} (x : α) : ∀ (p : P) (t : Tr α), t.get p = some x → t.set p x = t
  | .h, t, h => by rw [Tr.set_h]; cases t with
    | leaf => cases h
    | node l v r => have h' : v = some x := h
                    rw [h']
  | .o p, t, h => by rw [Tr.set_o]; cases t with
    | leaf => cases h
    | node l v r => show Tr.node (l.set p x) v r = _; rw [Tr.set_id x p l h]
  | .i p, t, h => by rw [Tr.set_i]; cases t with
    | leaf => cases h
    | node l v r => show Tr.node l v (r.set p x) = _; rw [Tr.set_id x p r h]
theorem Heap.set_id {H : Heap} {b : Nat} {x : Blk} (h : H.get b = some x) : H.set b x = H := by
  rw [Heap.set_eq, Tr.set_id _ _ _ h]
theorem shut_false (H : Heap) : H.shut false = H := rfl
theorem back_ro (H : Heap) : H.back H.ro = H := rfl
theorem back_set (H : Heap) (b : Nat) (x : Blk) : (H.set b x).back H.ro = H.set b x := by simp only [Heap.set_eq]; rfl
theorem cells1 {H : Heap} {b : Nat} {l : List AV} {rw_ : Bool} {g : Nat} (h : H.get b = some (.cells l rw_ g)) (off : Nat) : cellsQ H b off 1 = l[off]?.bind fun v => some [v] := by
  unfold cellsQ cellsAt
  rw [h]
  show sub l off 1 = _
  rw [sub_eq]
  cases hl : l[off]? with
  | none => rw [if_neg]; rfl
            rw [List.length_drop]; have := List.getElem?_eq_none_iff.1 hl; omega
  | some v =>
    have hlt := (List.getElem?_eq_some_iff.1 hl).1
    rw [if_pos (by rw [List.length_drop]; omega), List.drop_eq_getElem_cons hlt]
    have := (List.getElem?_eq_some_iff.1 hl).2
    rw [this]; rfl
theorem packF1 (v : AV) : packF false [v] = some v := rfl
theorem store1 {H : Heap} {b off : Nat} {l : List AV} {g : Nat} {u : AV} (h : H.get b = some (.cells l true g)) (hr : H.ro ≤ b) (hu : u.isCell = true) (ho : off < l.length) :
    storeTo H b off 1 u = some (H.set b (.cells (l.set off u) true g)) := by
  have hb : Nat.blt b H.ro = false := by rw [blt_eq]; simp; omega
  have hc : u.cells = [u] := by cases u <;> simp_all [AV.cells, AV.isCell]
  have hce : cellable u = true := by cases u <;> simp_all [cellable, AV.isCell]
  unfold storeTo ownK
  rw [hb, h]
  show (if cellable u = true ∧ u.cells.length = 1 ∧ off + 1 ≤ l.length then some (H.set b (.cells (over u.cells l off) true g)) else none) = _
  rw [if_pos ⟨hce, by rw [hc]; rfl, ho⟩, hc]
  rfl
end
attribute [simp] get_set_key putO_some putO_none ev_t ev_c evs_nilq evs_consq want_always want_on opF_mov opF_pick opF_not opF_bin opF_eq opF_conv opF_nilchk opF_fa opF_iaS opF_iaA opF_loadQ opF_store opF_ext opF_lenS argsT resF_nilq resF_t one1 one0 get_leafq bin_lss bin_gtr bin_leq bin_geq bin_eql bin_neq CQ RegQ Ex.thn Ex.blk shut_false back_ro back_set packF1
end Go.Ai
