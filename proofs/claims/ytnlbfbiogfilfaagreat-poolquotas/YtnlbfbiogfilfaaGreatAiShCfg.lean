/- The table of all functions that the compiler takes, calls beside loads with the heap shut where that may be: for the printed functions in continuation style. -/
import Derived.Test.YtnlbfbiogfilfaaGreatAiCpsRun
import Derived.Test.YtnlbfbiogfilfaaGreatAiTblPaQPrims
set_option linter.all false
namespace Go.Ai
def aeO (P : Program) (f : Nat) : Option AFn := (P.funcs[f]?).bind fun fn => if fn.name == "runtime.NumGoroutine" then none else match ae1 P fn true with
  | some x => some x
  | none => ae1 P fn
theorem Qo {P : Program} {f : Nat} {x : AFn} (h : aeO P f = some x) : Entry P f x := by
  unfold aeO at h
  simp only [Option.bind_eq_some_iff] at h
  obtain ⟨fn, h1, h2⟩ := h
  split at h2
  · cases h2
  · rename_i hn
    have : ∃ m, ae1 P fn m = some x := by
      split at h2
      · rename_i y hy; cases h2; exact ⟨true, hy⟩
      · exact ⟨false, h2⟩
    obtain ⟨m, h2⟩ := this
    refine ⟨fn, h1, by simpa using hn, ?_, m, h2⟩
    unfold ae1 at h2
    simp only [Option.bind_eq_some_iff] at h2
    obtain ⟨c, hc, _⟩ := h2
    rw [hc]; rfl
noncomputable def akW (P : Program) : Nat → Tr AFn
  | 0 => .leaf
  | n + 1 => match aeO P n with
    | some x => (akW P n).set (key n) x
    | none => akW P n
theorem ann (P : Program) : ∀ (n f : Nat), (akW P n).get (key f) = if f < n then aeO P f else none
  | 0, f => by rw [akW, Tr.get_leaf, if_neg (by omega)]
  | n + 1, f => by
    have ih := ann P n f
    cases hc : aeO P n with
    | none =>
      simp only [akW, hc]
      rw [ih]
      by_cases h : f < n
      · rw [if_pos h, if_pos (by omega)]
      · rw [if_neg h]
        by_cases h' : f = n
        · subst h'; rw [if_pos (by omega), hc]
        · rw [if_neg (by omega)]
    | some x =>
      simp only [akW, hc]
      by_cases h' : n = f
      · subst h'; rw [Tr.get_set_same, if_pos (by omega), hc]
      · rw [Tr.get_set_other (fun k => h' (CV k)), ih]
        by_cases h : f < n
        · rw [if_pos h, if_pos (by omega)]
        · rw [if_neg h, if_neg (by omega)]
noncomputable def tblS (P : Program) : Tr AFn := akW P P.funcs.size
theorem Sq (P : Program) (f : Nat) : (tblS P).get (key f) = aeO P f := by
  unfold tblS
  rw [ann]
  split
  · rfl
  · rename_i h
    unfold aeO
    rw [Array.getElem?_eq_none (by omega)]; rfl
theorem tblS_ok {P : Program} (hm : P.follows .mixedOrders = true) : TblOk P (tblS P) := {
  mixed := hm
  mono f g hg := by
    rw [Sq] at hg
    obtain ⟨fn, _, _, _, _, hc⟩ := Qo hg
    obtain ⟨_, _, _, e⟩ := aki hc
    cases e
  enters f x hx := by
    rw [Sq] at hx
    obtain ⟨fn, h1, h2, h3, _⟩ := Qo hx
    exact ⟨fn, h1, h2, h3⟩
  code f ps body res hx := by
    rw [Sq] at hx
    obtain ⟨fn, h1, _, _, m, h4⟩ := Qo hx
    exact ⟨fn, m, h1, h4⟩
  prim f g hg := by
    rw [Sq] at hg
    obtain ⟨fn, _, _, _, _, hc⟩ := Qo hg
    obtain ⟨_, _, _, e⟩ := aki hc
    cases e }
theorem DM {tbl : Tr AFn} {f g : Nat} {x : AFn} {y : Option AFn} (e : Nat.beq g f = false) (h : tbl.get (key f) = y) : (tbl.set (key g) x).get (key f) = y := by
  rw [Tr.get_set_other (fun k => by rw [CV k, Nat.beq_refl] at e; cases e)]
  exact h
end Go.Ai
/- What printed functions compute, forward: rules for runs, what the operations do, slices of numbers in the heap. -/
namespace Go.Ai
def RunG {K R : Type} (ap : K → R → CRes) (f : K → CRes) (Q : R → Prop) : Prop := ∃ r, Q r ∧ ∀ k, f k = ap k r
def ap0 (k : Heap → CRes) (r : Heap) : CRes := k r
def ap1 {α : Type} (k : α → Heap → CRes) (r : α × Heap) : CRes := k r.1 r.2
def ap2 {α β : Type} (k : α → β → Heap → CRes) (r : α × β × Heap) : CRes := k r.1 r.2.1 r.2.2
def Run0 (f : (Heap → CRes) → CRes) (Q : Heap → Prop) : Prop := RunG ap0 f Q
def Run1 {α : Type} (f : (α → Heap → CRes) → CRes) (Q : α → Heap → Prop) : Prop := RunG ap1 f fun r => Q r.1 r.2
def Run2 {α β : Type} (f : (α → β → Heap → CRes) → CRes) (Q : α → β → Heap → Prop) : Prop := RunG ap2 f fun r => Q r.1 r.2.1 r.2.2
section
variable {K R : Type} {ap : K → R → CRes} {Q Q' : R → Prop} {α β γ : Type}
theorem RunG.mono {f : K → CRes} (h : RunG ap f Q) (hq : ∀ r, Q r → Q' r) : RunG ap f Q' := by
  obtain ⟨r, h1, h2⟩ := h; exact ⟨r, hq r h1, h2⟩
theorem Run0.mono {f : (Heap → CRes) → CRes} {Q Q' : Heap → Prop} (h : Run0 f Q) (hq : ∀ r, Q r → Q' r) : Run0 f Q' := RunG.mono h hq
theorem Run1.mono {f : (α → Heap → CRes) → CRes} {Q Q' : α → Heap → Prop} (h : Run1 f Q) (hq : ∀ a h, Q a h → Q' a h) : Run1 f Q' := RunG.mono h fun r => hq r.1 r.2
theorem Run2.mono {f : (α → β → Heap → CRes) → CRes} {Q Q' : α → β → Heap → Prop} (h : Run2 f Q) (hq : ∀ a b h, Q a b h → Q' a b h) : Run2 f Q' := RunG.mono h fun r => hq r.1 r.2.1 r.2.2
theorem ret0 {h : Heap} {Q : Heap → Prop} (hq : Q h) : RunG ap0 (fun k => k h) Q := ⟨h, hq, fun _ => rfl⟩
theorem kZ {a : α} {h : Heap} {Q : α × Heap → Prop} (hq : Q (a, h)) : RunG ap1 (fun k => k a h) Q := ⟨(a, h), hq, fun _ => rfl⟩
theorem QN {a : α} {b : β} {h : Heap} {Q : α × β × Heap → Prop} (hq : Q (a, b, h)) : RunG ap2 (fun k => k a b h) Q := ⟨(a, b, h), hq, fun _ => rfl⟩
theorem Run0.bind {f : (Heap → CRes) → CRes} {P : Heap → Prop} (hf : Run0 f P) {g : K → Heap → CRes} (h : ∀ h', P h' → RunG ap (fun k => g k h') Q) : RunG ap (fun k => f (g k)) Q := by
  obtain ⟨r, h1, h2⟩ := hf
  obtain ⟨s, h3, h4⟩ := h r h1
  exact ⟨s, h3, fun k => (h2 _).trans (h4 k)⟩
theorem Run1.bind {f : (α → Heap → CRes) → CRes} {P : α → Heap → Prop} (hf : Run1 f P) {g : K → α → Heap → CRes} (h : ∀ a h', P a h' → RunG ap (fun k => g k a h') Q) : RunG ap (fun k => f (g k)) Q := by
  obtain ⟨r, h1, h2⟩ := hf
  obtain ⟨s, h3, h4⟩ := h _ _ h1
  exact ⟨s, h3, fun k => (h2 _).trans (h4 k)⟩
theorem Run2.bind {f : (α → β → Heap → CRes) → CRes} {P : α → β → Heap → Prop} (hf : Run2 f P) {g : K → α → β → Heap → CRes} (h : ∀ a b h', P a b h' → RunG ap (fun k => g k a b h') Q) : RunG ap (fun k => f (g k)) Q := by
  obtain ⟨r, h1, h2⟩ := hf
  obtain ⟨s, h3, h4⟩ := h _ _ _ h1
  exact ⟨s, h3, fun k => (h2 _).trans (h4 k)⟩
theorem RunG.ifB {c : Bool} {f g : K → CRes} (ht : c = true → RunG ap f Q) (hf : c = false → RunG ap g Q) : RunG ap (fun k => ifB c (f k) (g k)) Q := by
  cases c with
  | true => exact ht rfl
  | false => exact hf rfl
end
attribute [simp] aQ aY ba bc ca b7 b9 ce bH ci cb cd sO Jy cy cB aoA afR aeM ael arH arM jM
@[simp] theorem bG (a b : CRes) : ifB true a b = a := rfl
@[simp] theorem bu (a b : CRes) : ifB false a b = b := rfl
@[simp] theorem bX {α : Type} (a : α) (k : α → CRes) : oC (some a) k = k a := rfl
@[simp] theorem b8 (n : Nat) (k : Nat → CRes) : aip (n : Int) k = k n := rfl
theorem arC {i : Int} (h : 0 ≤ i) (k : Nat → CRes) : aip i k = k i.toNat := by
  obtain ⟨n, rfl⟩ := Int.eq_ofNat_of_zero_le h; rfl
@[simp] theorem bK (q : IntKind) (n : Int) (k : Int → CRes) : UA q (.int q n) k = k n := by cases q <;> rfl
@[simp] theorem aU (b : Bool) (k : Bool → CRes) : Nf (.bool b) k = k b := rfl
@[simp] theorem be (b o : Nat) (k : Nat → Nat → CRes) : am8 (.ptr b o) k = k b o := rfl
@[simp] theorem aN (b o l e : Nat) (p : Bool) (k : Nat → Nat → Nat → CRes) : asSlc (.slice b o l e p) k = k b o l := rfl
@[simp] theorem bA (l : List AV) (k : List AV → CRes) : asAgg (.agg l) k = k l := rfl
@[simp] theorem bz (b : Nat) (k : Nat → CRes) : asMap (.map b) k = k b := rfl
@[simp] theorem aO (b o : Nat) (k : CRes) : Nw (.ptr b o) k = k := rfl
@[simp] theorem aK (b o l e : Nat) (p : Bool) (k : Int → CRes) : jb (.slice b o l e p) k = k l := rfl
@[simp] theorem aS (k : Int → CRes) : jb .nilslice k = k 0 := rfl
@[simp] theorem cg (d b o : Nat) (k : AV → CRes) : faK d (.ptr b o) k = k (.ptr b (o + d)) := by simp [faK]
@[simp] theorem aky (H : Heap) (l : List AV) (c : Nat → Heap → CRes) : zt H (.agg l) c = c H.nx (H.add (.cells l true 0)) := by
  show yA H (.cells l true 0) c = _; simp
theorem cI (d b o : Nat) (k : AV → CRes) : nfa d (.ptr b o) k = k (.ptr b (o + d)) := by simp [nfa]
attribute [simp] cI
def andZ (a b : Int) : Int := IntKind.i64.wrap (BitVec.ofInt 64 a &&& BitVec.ofInt 64 b).toNat
@[simp] theorem bM (a b : Int) (c : Int → CRes) : bitK .and .i64 a b c = c (andZ a b) := by
  show oC (some _) _ = _
  rw [bX, aY]; rfl
theorem aoB {q : IntKind} {a b : Int} (h : b ≠ 0) (c : Int → CRes) : quoK q a b c = c (q.wrap (a.tdiv b)) := by
  unfold quoK; rw [aoA, decide_eq_false h]; simp
theorem anv {q : IntKind} {a b : Int} (h : b ≠ 0) (c : Int → CRes) : remK q a b c = c (a.tmod b) := by
  unfold remK; rw [aoA, decide_eq_false h]; simp
theorem U3 {q : IntKind} {a b : Int} (h : 0 ≤ b) (c : Int → CRes) : aiv q a b c = c (q.wrap (agM q a b.toNat)) := by
  unfold aiv; rw [arC h]; simp
def Heap.cl (h : Heap) (b : Nat) (l : List AV) : Prop := b < h.nx ∧ ∃ rw g, h.get b = some (.cells l rw g)
theorem bU {h : Heap} {b : Nat} {l : List AV} (hb : h.cl b l) (c : List AV → CRes) : Mm h b c = c l := by
  obtain ⟨_, rw_, g, hb⟩ := hb
  unfold Mm
  rw [ae4]
  have : h.t.get (key b) = some (.cells l rw_ g) := hb
  rw [this]; rfl
@[simp] theorem aR (h : Heap) (b off : Nat) (k : AV → CRes) : gJ h (.ptr b off) 1 false k = Mm h b fun l => oC l[off]? k := by
  unfold gJ
  simp only [be, bu, ajs]; rfl
@[simp] theorem aV (h : Heap) (b off n : Nat) (k : AV → CRes) : gJ h (.ptr b off) n true k = Mm h b fun l => oC (sub l off n) fun cs => k (.agg cs) := by
  unfold gJ
  simp only [be, bG]
@[simp] theorem cm (q : IntKind) (h : Heap) (b off : Nat) (k : Int → CRes) : ldI q h (.ptr b off) k = Mm h b fun l => oC l[off]? fun v => UA q v k := by unfold ldI; simp
@[simp] theorem cn (h : Heap) (b off : Nat) (k : Bool → CRes) : ldB h (.ptr b off) k = Mm h b fun l => oC l[off]? fun v => Nf v k := by unfold ldB; simp
@[simp] theorem bN (q : IntKind) (d : Nat) (h : Heap) (b off : Nat) (k : AV → Int → CRes) : jO q d h (.ptr b off) k = Mm h b fun l => oC l[off + d]? fun v => UA q v (k (.ptr b (off + d))) := by unfold jO; simp
@[simp] theorem bO (d : Nat) (h : Heap) (b off : Nat) (k : AV → Bool → CRes) : fldB d h (.ptr b off) k = Mm h b fun l => oC l[off + d]? fun v => Nf v (k (.ptr b (off + d))) := by unfold fldB; simp
@[simp] theorem bL (d : Nat) (h : Heap) (b off : Nat) (k : AV → AV → CRes) : fld d h (.ptr b off) 1 false k = Mm h b fun l => oC l[off + d]? (k (.ptr b (off + d))) := by unfold fld; simp
@[simp] theorem bP (d : Nat) (h : Heap) (b off n : Nat) (k : AV → AV → CRes) : fld d h (.ptr b off) n true k = Mm h b fun l => oC (sub l (off + d) n) fun cs => k (.ptr b (off + d)) (.agg cs) := by unfold fld; simp
@[simp] theorem bC (q : IntKind) (d : Nat) (h : Heap) (b off : Nat) (k : AV → Int → CRes) : apt q d h (.ptr b off) k = jO q d h (.ptr b off) k := by unfold apt; simp
@[simp] theorem bB (d : Nat) (h : Heap) (b off : Nat) (k : AV → Bool → CRes) : nfldB d h (.ptr b off) k = fldB d h (.ptr b off) k := by unfold nfldB; simp
@[simp] theorem bQ (d : Nat) (h : Heap) (b off n : Nat) (g : Bool) (k : AV → AV → CRes) : Z3 d h (.ptr b off) n g k = fld d h (.ptr b off) n g k := by unfold Z3; simp
theorem load_agg {h : Heap} {b off n : Nat} {l cs : List AV} (hb : h.cl b l) (hs : (l.drop off).take n = cs) (hn : off + n ≤ l.length) (k : AV → CRes) : gJ h (.ptr b off) n true k = k (.agg cs) := by
  unfold gJ
  rw [be, bU hb, bG, pM, if_pos (by rw [List.length_drop]; omega), hs]; rfl
theorem akn {h : Heap} {b off : Nat} {l : List AV} {v : AV} (hb : h.cl b l) (hs : l[off]? = some v) (k : AV → CRes) : gJ h (.ptr b off) 1 false k = k v := by
  unfold gJ
  rw [be, bU hb, bu]
  show ifB true _ _ = _
  rw [bG, ajs, hs]; rfl
theorem arL {h : Heap} {b off d : Nat} {l : List AV} {q : IntKind} {n : Int} (hb : h.cl b l) (hs : l[off + d]? = some (.int q n)) (k : AV → Int → CRes) : jO q d h (.ptr b off) k = k (.ptr b (off + d)) n := by
  unfold jO; rw [cg, akn hb hs, bK]
theorem fld_of {h : Heap} {b off d : Nat} {l : List AV} {v : AV} (hb : h.cl b l) (hs : l[off + d]? = some v) (k : AV → AV → CRes) : fld d h (.ptr b off) 1 false k = k (.ptr b (off + d)) v := by
  unfold fld; rw [cg, akn hb hs]
structure Grow (h h' : Heap) : Prop where
  nx : h.nx ≤ h'.nx
  ro : h'.ro = h.ro
  old : ∀ b, b < h.nx → h'.get b = h.get b
theorem Grow.refl {h : Heap} : Grow h h := ⟨Nat.le_refl _, rfl, fun _ _ => rfl⟩
theorem Grow.trans {h h' h'' : Heap} (a : Grow h h') (b : Grow h' h'') : Grow h h'' := ⟨Nat.le_trans a.nx b.nx, b.ro.trans a.ro, fun c hc => (b.old c (Nat.lt_of_lt_of_le hc a.nx)).trans (a.old c hc)⟩
theorem Grow.add {h : Heap} {x : Blk} : Grow h (h.add x) := ⟨by simp, by simp, fun b hb => by rw [Heap.get_add, if_neg (by omega)]⟩
theorem Grow.cl {h h' : Heap} (g : Grow h h') {b : Nat} {l : List AV} (hb : h.cl b l) : h'.cl b l := by
  obtain ⟨h1, rw_, q, h2⟩ := hb
  exact ⟨Nat.lt_of_lt_of_le h1 g.nx, rw_, q, (g.old b h1).trans h2⟩
theorem ark (h : Heap) (l : List AV) (rw_ : Bool) (g : Nat) : (h.add (.cells l rw_ g)).cl h.nx l := ⟨by simp, rw_, g, by rw [Heap.get_add, if_pos rfl]⟩
theorem Grow.shut {h h' : Heap} (g : Grow (h.shut true) h') : Grow h (h'.back h.ro) := ⟨g.nx, rfl, fun b hb => g.old b hb⟩
theorem Heap.cl.shut {h : Heap} {b : Nat} {l : List AV} (hb : h.cl b l) : (h.shut true).cl b l := hb
theorem xT (h : Heap) (l : List AV) : Run1 (zt h (.agg l)) fun x h' => h'.cl x l ∧ Grow h h' := ⟨(h.nx, h.add (.cells l true 0)), ⟨ark .., Grow.add⟩, fun k => aky ..⟩
structure Own (h : Heap) (b : Nat) (l : List AV) (g : Nat) : Prop where
  lt : b < h.nx
  ro : h.ro ≤ b
  get : h.get b = some (.cells l true g)
theorem Own.cl {h : Heap} {b : Nat} {l : List AV} {g : Nat} (o : Own h b l g) : h.cl b l := ⟨o.lt, true, g, o.get⟩
theorem Own.grow {h h' : Heap} {b : Nat} {l : List AV} {q : Nat} (o : Own h b l q) (g : Grow h h') : Own h' b l q := ⟨Nat.lt_of_lt_of_le o.lt g.nx, by rw [g.ro]; exact o.ro, (g.old b o.lt).trans o.get⟩
theorem ah2 {h : Heap} (hro : h.ro ≤ h.nx) (l : List AV) (g : Nat) : Run1 (yA h (.cells l true g)) fun x h' => h.nx ≤ x ∧ Own h' x l g ∧ Grow h h' :=
  ⟨(h.nx, h.add (.cells l true g)), ⟨Nat.le_refl _, ⟨by simp, by simpa using hro, by rw [Heap.get_add, if_pos rfl]⟩, Grow.add⟩, fun k => sO ..⟩
theorem Grow.le {h h' : Heap} (g : Grow h h') (hro : h.ro ≤ h.nx) : h'.ro ≤ h'.nx := by rw [g.ro]; exact Nat.le_trans hro g.nx
theorem Grow.set {h h' : Heap} (g : Grow h h') {b : Nat} (hb : h.nx ≤ b) (x : Blk) : Grow h (h'.set b x) := ⟨by simp [g.nx], by simp [g.ro], fun c hc => by rw [Heap.get_set_other _ (by omega)]; exact g.old c hc⟩
theorem apJ {h : Heap} {b : Nat} {l : List AV} {g : Nat} (o : Own h b l g) (c : List AV → Nat → CRes) : ownX h b c = c l g := by
  unfold ownX
  have : Nat.blt b h.ro = false := by rw [blt_eq]; simp; exact o.ro
  rw [this, bu, ae4]
  have h2 : h.t.get (key b) = some (.cells l true g) := o.get
  rw [h2]; rfl
structure Put (h : Heap) (b : Nat) (l : List AV) (g : Nat) (h' : Heap) : Prop where
  own : Own h' b l g
  nx : h'.nx = h.nx
  ro : h'.ro = h.ro
  other : ∀ c, c ≠ b → h'.get c = h.get c
theorem Put.grow {h₀ h h' : Heap} {b : Nat} {l : List AV} {q : Nat} (p : Put h b l q h') (g : Grow h₀ h) (hb : h₀.nx ≤ b) : Grow h₀ h' := ⟨by rw [p.nx]; exact g.nx, by rw [p.ro]; exact g.ro, fun c hc => by rw [p.other c (by omega)]; exact g.old c hc⟩
theorem Put.cl {h h' : Heap} {b c : Nat} {l l' : List AV} {q : Nat} (p : Put h b l q h') (hc : c ≠ b) (o : h.cl c l') : h'.cl c l' := by
  obtain ⟨h1, rw_, g, h2⟩ := o
  exact ⟨by rw [p.nx]; exact h1, rw_, g, by rw [p.other c hc]; exact h2⟩
theorem aeT {h : Heap} {b : Nat} {l : List AV} {q : Nat} (o : Own h b l q) (l' : List AV) : Put h b l' q (h.set b (.cells l' true q)) :=
  ⟨⟨by simpa using o.lt, by simpa using o.ro, Heap.get_set_same ..⟩, by simp, by simp, fun c hc => Heap.get_set_other _ (fun e => hc e.symm) _⟩
theorem Va {h : Heap} {b off n : Nat} {l cs : List AV} {g : Nat} (o : Own h b l g) (hn : cs.length = n) (hl : off + n ≤ l.length) : Run0 (lR h (.ptr b off) n (.agg cs)) (Put h b (xF cs l off) g) := by
  refine ⟨h.set b (.cells (xF cs l off) true g), aeT o _, fun k => ?_⟩
  unfold lR
  rw [be, apJ o]
  show ifB (Nat.beq (mo cs) n) _ _ = _
  rw [jM, hn, Nat.beq_refl, bG, aaD, if_pos (by omega), Jy]; rfl
theorem JN {h : Heap} {b off : Nat} {l : List AV} {g : Nat} {u : AV} (o : Own h b l g) (hl : off < l.length) (hu : u.isCell = true) : Run0 (lR h (.ptr b off) 1 u) (Put h b (l.set off u) g) := by
  refine ⟨h.set b (.cells (l.set off u) true g), aeT o _, fun k => ?_⟩
  unfold lR
  rw [be, apJ o]
  have : amL u (fun cs => ifB (Nat.beq (mo cs) 1) (anb cs l off fun l => setX h b (.cells l true g) k) .err) (ifB (Nat.beq 1 1) (akh u l off fun l => setX h b (.cells l true g) k) .err) = ifB (Nat.beq 1 1) (akh u l off fun l => setX h b (.cells l true g) k) .err := by
    cases u <;> first | rfl | cases hu
  rw [this]
  show ifB true _ _ = _
  rw [bG, Yy, if_pos hl, Jy]; rfl
theorem Uf (cs l : List AV) (h : cs.length = l.length) : xF cs l 0 = cs := by
  rw [abl _ _ (by omega), h, List.drop_length, List.append_nil]
theorem ajA {h : Heap} (hro : h.ro ≤ h.nx) {z cs : List AV} {n : Nat} (hz : z.length = n) (hc : cs.length = n) :
    Run1 (fun K => yA h (.cells z true 0) fun x h1 => lR h1 (.ptr x 0) n (.agg cs) (K x)) fun x h' => h.nx ≤ x ∧ Own h' x cs 0 ∧ Grow h h' := by
  refine Run1.bind (ah2 hro z 0) ?_
  rintro x h1 ⟨hx, ho, g⟩
  refine Run0.bind (Va ho hc (by omega)) ?_
  intro h2 hp
  rw [Uf _ _ (by omega)] at hp
  exact kZ ⟨hx, hp.own, hp.grow g hx⟩
theorem anq {h : Heap} (hro : h.ro ≤ h.nx) {z u : AV} (hu : u.isCell = true) :
    Run1 (fun K => yA h (.cells [z] true 0) fun x h1 => lR h1 (.ptr x 0) 1 u (K x)) fun x h' => h.nx ≤ x ∧ Own h' x [u] 0 ∧ Grow h h' := by
  refine Run1.bind (ah2 hro [z] 0) ?_
  rintro x h1 ⟨hx, ho, g⟩
  refine Run0.bind (JN ho (by simp) hu) ?_
  intro h2 hp
  exact kZ ⟨hx, hp.own, hp.grow g hx⟩
theorem anN {l : List AV} {n i : Nat} (hn : l.length = n) (hi : i < n) (k : AV → CRes) : Xc 1 n false (.agg l) (i : Int) k = k (l[i]'(by omega)) := by
  unfold Xc
  rw [bA, b8]
  have h1 : Nat.blt i n = true := by rw [blt_eq]; simpa using hi
  rw [h1, bG, aQ, pM, if_pos (by rw [List.length_drop, Nat.mul_eq, Nat.mul_one]; omega), bX]
  have : (l.drop (Nat.mul i 1)).take 1 = [l[i]'(by omega)] := by
    rw [Nat.mul_eq, Nat.mul_one, List.drop_eq_getElem_cons (by omega)]; rfl
  rw [this]; rfl
def SlAt (h : Heap) (v : AV) (sz n : Nat) (f : Nat → List AV) : Prop := n ≤ 9223372036854775807 ∧
  ((v = .nilslice ∧ n = 0) ∨ ∃ b off ext opn, v = .slice b off n ext opn ∧ (0 < n → ∃ l, h.cl b l ∧ ∀ i, i < n → off + i * sz + sz ≤ l.length ∧ (l.drop (off + i * sz)).take sz = f i))
theorem SlAt.grow {h h' : Heap} {v : AV} {sz n : Nat} {f : Nat → List AV} (s : SlAt h v sz n f) (g : Grow h h') : SlAt h' v sz n f := by
  obtain ⟨hn, s⟩ := s
  rcases s with s | ⟨b, off, ext, opn, h1, h2⟩
  · exact ⟨hn, .inl s⟩
  · exact ⟨hn, .inr ⟨b, off, ext, opn, h1, fun h0 => have ⟨l, h3, h4⟩ := h2 h0; ⟨l, g.cl h3, h4⟩⟩⟩
theorem SlAt.len {h : Heap} {v : AV} {sz n : Nat} {f : Nat → List AV} (s : SlAt h v sz n f) (k : Int → CRes) : jb v k = k n := by
  rcases s with ⟨_, ⟨rfl, rfl⟩ | ⟨b, off, ext, opn, rfl, _⟩⟩ <;> rfl
def elP (v : AV) (sz : Nat) (i : Int) : AV := match v with
  | .slice b off _ _ _ => .ptr b (off + i.toNat * sz)
  | v => v
theorem SlAt.ia {h : Heap} {v : AV} {sz n : Nat} {f : Nat → List AV} (s : SlAt h v sz n f) {i : Int} (h0 : 0 ≤ i) (hi : i < n) (k : AV → CRes) : SM sz v i k = k (elP v sz i) := by
  rcases s with ⟨_, ⟨rfl, rfl⟩ | ⟨b, off, ext, opn, rfl, _⟩⟩
  · omega
  · unfold SM
    rw [aN, arC h0]
    have : Nat.blt i.toNat n = true := by rw [blt_eq]; simp; omega
    rw [this, bG]; simp [elP]
theorem SlAt.at_ {h : Heap} {v : AV} {sz n : Nat} {f : Nat → List AV} (s : SlAt h v sz n f) {i : Int} (h0 : 0 ≤ i) (hi : i < n) :
    ∃ b off l, elP v sz i = .ptr b off ∧ h.cl b l ∧ off + sz ≤ l.length ∧ (l.drop off).take sz = f i.toNat := by
  rcases s with ⟨_, ⟨rfl, rfl⟩ | ⟨b, off, ext, opn, rfl, h1⟩⟩
  · omega
  · obtain ⟨l, h1, h2⟩ := h1 (by omega)
    obtain ⟨h3, h4⟩ := h2 i.toNat (by omega)
    exact ⟨b, _, l, rfl, h1, h3, h4⟩
theorem SlAt.eld {h : Heap} {v : AV} {sz n : Nat} {f : Nat → List AV} (s : SlAt h v sz n f) {i : Int} (h0 : 0 ≤ i) (hi : i < n) (k : AV → AV → CRes) : eld sz h v i sz true k = k (elP v sz i) (.agg (f i.toNat)) := by
  unfold Ai.eld
  rw [s.ia h0 hi]
  obtain ⟨b, off, l, e, h1, h2, h3⟩ := s.at_ h0 hi
  rw [e, load_agg h1 h3 h2]
def AV.shut : AV → Bool
  | .slice _ _ _ _ opn => !opn
  | _ => true
theorem SlAt.take {h : Heap} {v : AV} {sz n : Nat} {f : Nat → List AV} (s : SlAt h v sz n f) (hs : v.shut = true) {i : Int} (h0 : 0 ≤ i) (hi : i ≤ n) : ∃ v', SlAt h v' sz i.toNat f ∧ ∀ k, slK (.sl sz) v none (some (.int .i64 i)) none k = k v' := by
  obtain ⟨m, rfl⟩ := Int.eq_ofNat_of_zero_le h0
  obtain ⟨hn, ⟨rfl, rfl⟩ | ⟨b, off, ext, opn, rfl, h1⟩⟩ := s
  · have : m = 0 := by omega
    subst this
    exact ⟨.nilslice, ⟨by simp, .inl ⟨rfl, rfl⟩⟩, fun k => rfl⟩
  · obtain rfl : opn = false := by simpa [AV.shut] using hs
    refine ⟨.slice b off m (n + ext - m) false, ⟨by simp; omega, .inr ⟨b, off, _, false, rfl, fun h0 => have ⟨l, h3, h4⟩ := h1 (by simp at h0; omega); ⟨l, h3, fun j hj => h4 j (by simp at hj; omega)⟩⟩⟩, fun k => ?_⟩
    have hm : m ≤ n + ext := by omega
    unfold slK
    have : slV (.sl sz) (.slice b off n ext false) none (some (.int .i64 (m : Int))) none = some (.slice b off m (n + ext - m) false) := by
      have e1 : Gh (some (.int .i64 (m : Int))) n (n + ext) = some m := by
        have h2 : Nat.ble m (n + ext) = true := Nat.ble_eq_true_of_le hm
        show Bool.casesOn (motive := fun _ => Option Nat) (Nat.ble m (n + ext)) none (some m) = _
        rw [h2]
      simp only [slV]
      have e0 : Gh none (n + ext) (n + ext) = some (n + ext) := rfl
      rw [e0]; dsimp only; rw [e1]; dsimp only
      have e2 : Gh none 0 m = some 0 := rfl
      rw [e2]; dsimp only
      simp
    rw [this, bX, ba]
def nz (l : List Int) (i : Nat) : Int := l.getD i 0
theorem s9 {l : List Int} {i : Nat} (h : i < l.length) : nz l i = l[i] := by unfold nz; rw [List.getD_eq_getElem?_getD, List.getElem?_eq_getElem h]; rfl
def Ints (h : Heap) (q : IntKind) (v : AV) (l : List Int) : Prop := SlAt h v 1 l.length fun i => [.int q (nz l i)]
theorem Ints.grow {h h' : Heap} {q : IntKind} {v : AV} {l : List Int} (s : Ints h q v l) (g : Grow h h') : Ints h' q v l := SlAt.grow s g
theorem Ints.len {h : Heap} {q : IntKind} {v : AV} {l : List Int} (s : Ints h q v l) (k : Int → CRes) : jb v k = k l.length := SlAt.len s k
theorem Ints.small {h : Heap} {q : IntKind} {v : AV} {l : List Int} (s : Ints h q v l) : l.length ≤ 9223372036854775807 := s.1
theorem Ints.el {h : Heap} {q : IntKind} {v : AV} {l : List Int} (s : Ints h q v l) {i : Int} (h0 : 0 ≤ i) (hi : i < l.length) (k : AV → Int → CRes) : Q6 q 1 h v i k = k (elP v 1 i) (nz l i.toNat) := by
  unfold Q6
  rw [SlAt.ia s h0 hi]
  obtain ⟨b, off, l', e, h1, h2, h3⟩ := SlAt.at_ s h0 hi
  have h4 : l'[off]? = some (.int q (nz l i.toNat)) := by
    have := congrArg (·[0]?) h3
    simpa using this
  rw [e, akn h1 h4, bK]
theorem Ints.elN {h : Heap} {q : IntKind} {v : AV} {l : List Int} (s : Ints h q v l) {i : Nat} (hi : i < l.length) (k : AV → Int → CRes) : Q6 q 1 h v i k = k (elP v 1 i) (nz l i) := s.el (Int.natCast_nonneg i) (by omega) k
theorem ari {h : Heap} {b : Nat} {q : IntKind} {l : List Int} (hb : h.cl b (l.map (.int q))) (hl : l.length ≤ 9223372036854775807) (ext : Nat) (opn : Bool) : Ints h q (.slice b 0 l.length ext opn) l := by
  refine ⟨hl, .inr ⟨b, 0, ext, opn, rfl, fun _ => ⟨_, hb, fun i hi => ⟨by simp; omega, ?_⟩⟩⟩⟩
  simp only [Nat.zero_add, Nat.mul_one]
  rw [s9 hi, ← List.map_drop, ← List.map_take]
  rw [List.drop_eq_getElem_cons hi]; rfl
theorem HS {h : Heap} {len : Nat} {z l : List AV} {parts : List (Nat × Nat × AV)} (hf : ∀ k, aia parts z k = k l) : Run1 (pR h len z parts) fun v h' => v = .slice h.nx 0 len 0 false ∧ h'.cl h.nx l ∧ Grow h h' := by
  refine ⟨(.slice h.nx 0 len 0 false, h.add (.cells l true 0)), ⟨rfl, ark .., Grow.add⟩, fun k => ?_⟩
  unfold pR
  rw [hf, sO]; rfl
theorem aib {h : Heap} {q : IntKind} (xs : List Int) {z : List AV} {parts : List (Nat × Nat × AV)} (hf : ∀ k, aia parts z k = k (xs.map (.int q))) (hl : xs.length ≤ 9223372036854775807) : Run1 (pR h xs.length z parts) fun v h' => Ints h' q v xs ∧ Grow h h' :=
  (HS hf).mono fun _ _ ⟨h1, h2, h3⟩ => ⟨by rw [h1]; exact ari h2 hl 0 false, h3⟩
theorem Ints.nil {h : Heap} {q : IntKind} : Ints h q .nilslice [] := ⟨by simp, .inl ⟨rfl, rfl⟩⟩
theorem lJ {n : Int} (h0 : -9223372036854775808 ≤ n) (h1 : n ≤ 9223372036854775807) : IntKind.i64.wrap n = n := by
  rw [IntKind.wrap_i64]; omega
theorem wrap_u {n : Int} (h0 : 0 ≤ n) (h1 : n < 18446744073709551616) : IntKind.u64.wrap n = n := by
  simp only [IntKind.wrap, IntKind.signed, IntKind.bits]; simp; omega
theorem iT {i : Nat} (h : i ≤ 9223372036854775806) : IntKind.i64.wrap ((i : Int) + 1) = ((i + 1 : Nat) : Int) := by
  rw [lJ (by omega) (by omega)]; simp
end Go.Ai
/- Configurations: what chapter 11 says may be, as plain functions; how one lies in the heap. -/
namespace Go.Ai
structure PartZ where
  cols : List Int
  order : Int
  user : Int
  tables : Int
  spaces : Int
  regions : Int
  records : Int
  slots : Int
structure CfgZ where
  frames : Int
  colours : Int
  ways : Int
  l1sets : Int
  l1ways : Int
  tlb : Int
  l1 : Int
  llc : Int
  miss : Int
  fault : Int
  step : Int
  disk : Int
  slice : Int
  pad : Int
  first : Int
  turns : List Int
  parts : List PartZ
def Ca (z : CfgZ) : List AV := [.int .u64 z.l1, .int .u64 z.llc, .int .u64 z.miss, .int .u64 z.fault, .int .u64 z.step, .int .u64 z.disk]
def zI (z : CfgZ) (t p : AV) : List AV := [.int .i64 z.frames, .int .i64 z.colours, .int .i64 z.ways, .int .i64 z.l1sets, .int .i64 z.l1ways, .int .i64 z.tlb,
  .int .u64 z.l1, .int .u64 z.llc, .int .u64 z.miss, .int .u64 z.fault, .int .u64 z.step, .int .u64 z.disk, .int .u64 z.slice, .int .u64 z.pad, .int .u64 z.first, t, p]
def yW (x : PartZ) (s : AV) : List AV := [s, .int .i64 x.order, .int .i64 x.user, .int .i64 x.tables, .int .i64 x.spaces, .int .i64 x.regions, .int .i64 x.records, .int .i64 x.slots]
instance : Inhabited PartZ := ⟨⟨[], 0, 0, 0, 0, 0, 0, 0⟩⟩
def Parts (h : Heap) (v : AV) (ps : List PartZ) : Prop := v.shut = true ∧ ∃ S : Nat → AV, SlAt h v 8 ps.length (fun i => yW (ps.getD i default) (S i)) ∧ ∀ i, i < ps.length → Ints h .i64 (S i) (ps.getD i default).cols
theorem Parts.grow {h h' : Heap} {v : AV} {ps : List PartZ} (s : Parts h v ps) (g : Grow h h') : Parts h' v ps := by
  obtain ⟨h0, S, h1, h2⟩ := s
  exact ⟨h0, S, h1.grow g, fun i hi => (h2 i hi).grow g⟩
def Cfg (h : Heap) (z : CfgZ) (c : List AV) : Prop := ∃ t p, c = zI z t p ∧ Ints h .i64 t z.turns ∧ Parts h p z.parts
theorem Cfg.grow {h h' : Heap} {z : CfgZ} {c : List AV} (s : Cfg h z c) (g : Grow h h') : Cfg h' z c := by
  obtain ⟨t, p, h1, h2, h3⟩ := s
  exact ⟨t, p, h1, h2.grow g, h3.grow g⟩
def db (n a b : Int) : Bool := decide (a ≤ n) && decide (n ≤ b)
def adJ (n Np : Int) : Bool := db n 1 Np && (andZ n (IntKind.i64.wrap (n - 1)) == 0)
def pV (z : CfgZ) : Bool := adJ z.colours 16 && (db z.frames 1 4096 && (z.frames.tmod z.colours == 0 && (adJ z.l1sets 4096 && (db z.ways 1 16 && (db z.l1ways 1 16 &&
  (db z.tlb 1 64 && db z.parts.length 1 8))))))
def akE (z : CfgZ) : Int := IntKind.i64.wrap (z.frames.tdiv z.colours)
def uZ (a b : Int) : Bool := decide (a ≤ b) && decide (b ≤ 65536)
def arA (z : CfgZ) : Bool := uZ 1 z.l1 && (uZ z.l1 z.llc && (uZ z.llc z.miss && (uZ 1 z.fault && (uZ 1 z.step && uZ 1 z.disk))))
def afP (z : CfgZ) : Int := if arA z then 0 else 100
def ad7 (last : Option Int) (x : Int) : Bool := match last with | none => true | some y => decide (y < x)
def B6 (z : CfgZ) (ps : List PartZ) (last : Option Int) : List Int → Bool
  | [] => true
  | x :: l => decide (0 ≤ x) && (decide (x < z.colours) && (ad7 last x && (ps.all (fun q => !decide (x ∈ q.cols)) && B6 z ps (some x) l)))
theorem JA (z : CfgZ) (ps : List PartZ) (last : Option Int) (x : Int) (l : List Int) : B6 z ps last (x :: l) = (decide (0 ≤ x) && (decide (x < z.colours) && (ad7 last x && (ps.all (fun q => !decide (x ∈ q.cols)) && B6 z ps (some x) l)))) := rfl
def c0 (z : CfgZ) (p : Nat) : PartZ := z.parts.getD p default
def aeq (z : CfgZ) (p : Nat) : Bool := B6 z (z.parts.take p) none (c0 z p).cols && decide (0 < (c0 z p).cols.length)
def s8 (z : CfgZ) (p : Nat) : Int := IntKind.i64.wrap ((c0 z p).cols.length * akE z)
theorem im (z : CfgZ) (t p : AV) : (zI z t p)[0]? = some (.int .i64 z.frames) := rfl
theorem ij (z : CfgZ) (t p : AV) : (zI z t p)[1]? = some (.int .i64 z.colours) := rfl
theorem io (z : CfgZ) (t p : AV) : (zI z t p)[2]? = some (.int .i64 z.ways) := rfl
theorem ii (z : CfgZ) (t p : AV) : (zI z t p)[3]? = some (.int .i64 z.l1sets) := rfl
theorem il (z : CfgZ) (t p : AV) : (zI z t p)[4]? = some (.int .i64 z.l1ways) := rfl
theorem iu (z : CfgZ) (t p : AV) : (zI z t p)[5]? = some (.int .i64 z.tlb) := rfl
theorem ip (z : CfgZ) (t p : AV) : (zI z t p)[6]? = some (.int .u64 z.l1) := rfl
theorem ir (z : CfgZ) (t p : AV) : (zI z t p)[7]? = some (.int .u64 z.llc) := rfl
theorem iq (z : CfgZ) (t p : AV) : (zI z t p)[8]? = some (.int .u64 z.miss) := rfl
theorem ik (z : CfgZ) (t p : AV) : (zI z t p)[9]? = some (.int .u64 z.fault) := rfl
theorem fg (z : CfgZ) (t p : AV) : (zI z t p)[10]? = some (.int .u64 z.step) := rfl
theorem eW (z : CfgZ) (t p : AV) : (zI z t p)[11]? = some (.int .u64 z.disk) := rfl
theorem eZ (z : CfgZ) (t p : AV) : (zI z t p)[12]? = some (.int .u64 z.slice) := rfl
theorem fy (z : CfgZ) (t p : AV) : (zI z t p)[13]? = some (.int .u64 z.pad) := rfl
theorem fk (z : CfgZ) (t p : AV) : (zI z t p)[14]? = some (.int .u64 z.first) := rfl
theorem fe (z : CfgZ) (t p : AV) : (zI z t p)[15]? = some t := rfl
theorem fd (z : CfgZ) (t p : AV) : (zI z t p)[16]? = some p := rfl
theorem fu (x : PartZ) (s : AV) : (yW x s)[0]? = some s := rfl
theorem fq (x : PartZ) (s : AV) : (yW x s)[1]? = some (.int .i64 x.order) := rfl
theorem eR (x : PartZ) (s : AV) : (yW x s)[2]? = some (.int .i64 x.user) := rfl
theorem eS (x : PartZ) (s : AV) : (yW x s)[3]? = some (.int .i64 x.tables) := rfl
theorem eV (x : PartZ) (s : AV) : (yW x s)[4]? = some (.int .i64 x.spaces) := rfl
theorem eT (x : PartZ) (s : AV) : (yW x s)[5]? = some (.int .i64 x.regions) := rfl
theorem eU (x : PartZ) (s : AV) : (yW x s)[6]? = some (.int .i64 x.records) := rfl
theorem fb (x : PartZ) (s : AV) : (yW x s)[7]? = some (.int .i64 x.slots) := rfl
theorem d9 (z : CfgZ) (t p : AV) : sub (zI z t p) 0 17 = some (zI z t p) := by rw [pM]; rfl
theorem du (z : CfgZ) (t p : AV) : sub (zI z t p) 6 6 = some (Ca z) := by rw [pM]; rfl
theorem ft (z : CfgZ) : (Ca z)[0]? = some (.int .u64 z.l1) := rfl
theorem fh (z : CfgZ) : (Ca z)[1]? = some (.int .u64 z.llc) := rfl
theorem fj (z : CfgZ) : (Ca z)[2]? = some (.int .u64 z.miss) := rfl
theorem fx (z : CfgZ) : (Ca z)[3]? = some (.int .u64 z.fault) := rfl
theorem fA (z : CfgZ) : (Ca z)[4]? = some (.int .u64 z.step) := rfl
theorem eY (z : CfgZ) : (Ca z)[5]? = some (.int .u64 z.disk) := rfl
theorem dh (z : CfgZ) : sub (Ca z) 0 6 = some (Ca z) := by rw [pM]; rfl
def anR (ps : List PartZ) (a : Int) : Int := ps.foldl (fun a q => if db q.slots 1 1024 then IntKind.i64.wrap (a + q.slots) else a) a
def Vo (x : PartZ) : Int := IntKind.i64.wrap (agM .i64 1 x.order.toNat)
def needZ (x : PartZ) : Int := IntKind.i64.wrap (IntKind.i64.wrap (IntKind.i64.wrap (IntKind.i64.wrap (IntKind.i64.wrap (Vo x + x.user) + x.tables) + x.spaces) + x.regions) + x.records)
def qW (z : CfgZ) (p : Nat) : Bool := db (c0 z p).order 0 3 && (db (c0 z p).user 2 4096 && (db (c0 z p).tables 4 4096 && (db (c0 z p).spaces 1 4096 && (db (c0 z p).regions 1 4096 &&
  (db (c0 z p).records 1 4096 && (db (c0 z p).slots 1 1024 && (decide (anR (z.parts.take (p + 1)) 0 ≤ 1024) && (!pV z || (decide (Vo (c0 z p) ≤ akE z) && decide (needZ (c0 z p) ≤ s8 z p))))))))))
def aaF (z : CfgZ) (p : Nat) : Int := if aeq z p then (if qW z p then 0 else 111) else 110
theorem VJ {z : CfgZ} (h : pV z = true) : z.colours ≠ 0 := by
  simp [pV, adJ, db] at h; omega
def w64 (n : Int) : Int := IntKind.u64.wrap n
structure ShapeZ where
  image : Int
  user : Int
  limit : Int
  nodes : Int
def BA (s : ShapeZ) : List AV := [.int .i64 s.image, .int .i64 s.user, .int .i64 s.limit, .int .i64 s.nodes]
theorem d7 (s : ShapeZ) : (BA s)[0]? = some (.int .i64 s.image) := rfl
theorem d8 (s : ShapeZ) : (BA s)[1]? = some (.int .i64 s.user) := rfl
theorem ea (s : ShapeZ) : (BA s)[2]? = some (.int .i64 s.limit) := rfl
theorem ed (s : ShapeZ) : (BA s)[3]? = some (.int .i64 s.nodes) := rfl
theorem dg (s : ShapeZ) : sub (BA s) 0 4 = some (BA s) := by rw [pM]; rfl
def maxZ (a b : Int) : Int := if a < b then b else a
def minZ (a b : Int) : Int := if b < a then b else a
def pageC (z : CfgZ) : Int := w64 (z.step + w64 (2 * z.miss))
def allC (z : CfgZ) (s : ShapeZ) : Int := w64 (w64 s.limit * pageC z)
def aq0 (z : CfgZ) (s : ShapeZ) : Int := w64 (w64 (w64 (w64 (2 * w64 s.user) + 1) * z.step) + z.disk)
def arW (z : CfgZ) : Int := w64 (113 * z.miss)
def am3 (z : CfgZ) : Int := w64 (64 * pageC z)
def aeV (z : CfgZ) (s : ShapeZ) : List Int := [0, w64 (17 * z.miss), w64 (allC z s + z.miss), w64 (w64 (z.miss + w64 (w64 (16 * w64 s.nodes) * z.miss)) + allC z s), arW z, am3 z,
  w64 (w64 (64 * w64 (z.step + z.miss)) + z.miss), maxZ (arW z) (am3 z), w64 (w64 (w64 (w64 (26 * z.miss) + z.fault) + aq0 z s) + z.disk),
  w64 (w64 (w64 (w64 (64 * z.miss) + w64 (2 * z.fault)) + w64 (2 * aq0 z s)) + z.disk), 0]
def mostC (z : CfgZ) (s : ShapeZ) : Int := w64 (w64 (w64 s.image * z.miss) + (aeV z s).foldl maxZ 0)
def aj7 (z : CfgZ) (s : ShapeZ) : Int := if afP z = 0 then (if (decide (s.image = 1) || (decide (s.image = 2) || (decide (s.image = 4) || decide (s.image = 8)))) && (db s.user 2 4096 && (db s.limit 1 5120 && db s.nodes 1 4096)) then 0 else 2) else afP z
def akc (z : CfgZ) (p : Nat) : ShapeZ := ⟨Vo (c0 z p), (c0 z p).user, minZ (IntKind.i64.wrap (IntKind.i64.wrap ((c0 z p).user + (c0 z p).slots) - 1)) (IntKind.i64.wrap (16 * (c0 z p).records)), (c0 z p).tables⟩
def abt (z : CfgZ) (lines trans : Int) : Int := if afP z = 0 then (if db lines 0 65536 && db trans 0 64 then 0 else 2) else afP z
def arK (z : CfgZ) (lines trans : Int) : Int := w64 (w64 (IntKind.i64.wrap (lines + trans)) * z.step)
def Az (z : CfgZ) (p : Nat) : Bool := !decide (aaF z p = 0) || (decide (aj7 z (akc z p) = 0) && decide (mostC z (akc z p) ≤ z.slice))
def CA (z : CfgZ) : Bool := decide (1 ≤ z.slice) && (decide (z.slice ≤ 4194304) && (decide (z.pad ≤ 4194304) && (decide (z.first < 1099511627776) && (!pV z || (!decide (afP z = 0) ||
  (decide (abt z (IntKind.i64.wrap (z.l1sets * z.l1ways)) z.tlb = 0) && (decide (arK z (IntKind.i64.wrap (z.l1sets * z.l1ways)) z.tlb ≤ z.pad) && (List.range z.parts.length).all (Az z))))))))
def afk (z : CfgZ) : Bool := db z.turns.length 1 64 && z.turns.all fun p => db p 0 (IntKind.i64.wrap (z.parts.length - 1))
def RB (z : CfgZ) : Bool := pV z && (decide (afP z = 0) && (CA z && (afk z && (List.range (min z.parts.length 8)).all fun p => decide (aaF z p = 0))))
end Go.Ai
