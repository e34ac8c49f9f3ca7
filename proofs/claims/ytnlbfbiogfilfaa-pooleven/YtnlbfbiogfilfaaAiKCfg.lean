/- What printed functions compute, forward: rules for runs, what the operations do, slices of numbers in the heap. -/
import Derived.Test.YtnlbfbiogfilfaaAiYRunSh
set_option linter.all false
namespace Go.Ai
def RunG {K R : Type} (ap : K → R → CRes) (f : K → CRes) (Q : R → Prop) : Prop := ∃ r, Q r ∧ ∀ k, f k = ap k r
def ap0 (k : Heap → CRes) (r : Heap) : CRes := k r
def ap1 {α : Type} (k : α → Heap → CRes) (r : α × Heap) : CRes := k r.1 r.2
def ap2 {α β : Type} (k : α → β → Heap → CRes) (r : α × β × Heap) : CRes := k r.1 r.2.1 r.2.2
def Run0 (f : (Heap → CRes) → CRes) (Q : Heap → Prop) : Prop := RunG ap0 f Q
def Run1 {α : Type} (f : (α → Heap → CRes) → CRes) (Q : α → Heap → Prop) : Prop := RunG ap1 f fun r => Q r.1 r.2
def Run2 {α β : Type} (f : (α → β → Heap → CRes) → CRes) (Q : α → β → Heap → Prop) : Prop := RunG ap2 f fun r => Q r.1 r.2.1 r.2.2
section
variable {K R : Type} {ap : K → R → CRes} {Q Q' : R → Prop} {α β γ : Type}
theorem RunG.mono {f : K → CRes} (h : RunG ap f Q) (hq : ∀ r, Q r → Q' r) : RunG ap f Q' := by
  obtain ⟨r, h1, h2⟩ := h; exact ⟨r, hq r h1, h2⟩
theorem Run0.mono {f : (Heap → CRes) → CRes} {Q Q' : Heap → Prop} (h : Run0 f Q) (hq : ∀ r, Q r → Q' r) : Run0 f Q' := RunG.mono h hq
theorem Run1.mono {f : (α → Heap → CRes) → CRes} {Q Q' : α → Heap → Prop} (h : Run1 f Q) (hq : ∀ a h, Q a h → Q' a h) : Run1 f Q' := RunG.mono h fun r => hq r.1 r.2
theorem Run2.mono {f : (α → β → Heap → CRes) → CRes} {Q Q' : α → β → Heap → Prop} (h : Run2 f Q) (hq : ∀ a b h, Q a b h → Q' a b h) : Run2 f Q' := RunG.mono h fun r => hq r.1 r.2.1 r.2.2
theorem ret0 {h : Heap} {Q : Heap → Prop} (hq : Q h) : RunG ap0 (fun k => k h) Q := ⟨h, hq, fun _ => rfl⟩
theorem lD {a : α} {h : Heap} {Q : α × Heap → Prop} (hq : Q (a, h)) : RunG ap1 (fun k => k a h) Q := ⟨(a, h), hq, fun _ => rfl⟩
theorem OJ {a : α} {b : β} {h : Heap} {Q : α × β × Heap → Prop} (hq : Q (a, b, h)) : RunG ap2 (fun k => k a b h) Q := ⟨(a, b, h), hq, fun _ => rfl⟩
theorem Run0.bind {f : (Heap → CRes) → CRes} {P : Heap → Prop} (hf : Run0 f P) {g : K → Heap → CRes} (h : ∀ h', P h' → RunG ap (fun k => g k h') Q) : RunG ap (fun k => f (g k)) Q := by
  obtain ⟨r, h1, h2⟩ := hf
  obtain ⟨s, h3, h4⟩ := h r h1
  exact ⟨s, h3, fun k => (h2 _).trans (h4 k)⟩
theorem Run1.bind {f : (α → Heap → CRes) → CRes} {P : α → Heap → Prop} (hf : Run1 f P) {g : K → α → Heap → CRes} (h : ∀ a h', P a h' → RunG ap (fun k => g k a h') Q) : RunG ap (fun k => f (g k)) Q := by
  obtain ⟨r, h1, h2⟩ := hf
  obtain ⟨s, h3, h4⟩ := h _ _ h1
  exact ⟨s, h3, fun k => (h2 _).trans (h4 k)⟩
theorem Run2.bind {f : (α → β → Heap → CRes) → CRes} {P : α → β → Heap → Prop} (hf : Run2 f P) {g : K → α → β → Heap → CRes} (h : ∀ a b h', P a b h' → RunG ap (fun k => g k a b h') Q) : RunG ap (fun k => f (g k)) Q := by
  obtain ⟨r, h1, h2⟩ := hf
  obtain ⟨s, h3, h4⟩ := h _ _ _ h1
  exact ⟨s, h3, fun k => (h2 _).trans (h4 k)⟩
theorem RunG.ifB {c : Bool} {f g : K → CRes} (ht : c = true → RunG ap f Q) (hf : c = false → RunG ap g Q) : RunG ap (fun k => ifB c (f k) (g k)) Q := by
  cases c with
  | true => exact ht rfl
  | false => exact hf rfl
end
attribute [simp] aL bg bj bl cg b8 cb cj bC ck ci ce Bu RN cx cz alH aai aac aar aoY aoW iA
@[simp] theorem bD (a b : CRes) : ifB true a b = a := rfl
@[simp] theorem bq (a b : CRes) : ifB false a b = b := rfl
@[simp] theorem bX {α : Type} (a : α) (k : α → CRes) : oC (some a) k = k a := rfl
@[simp] theorem cd (n : Nat) (k : Nat → CRes) : Y7 (n : Int) k = k n := rfl
theorem aoX {i : Int} (h : 0 ≤ i) (k : Nat → CRes) : Y7 i k = k i.toNat := by
  obtain ⟨n, rfl⟩ := Int.eq_ofNat_of_zero_le h; rfl
@[simp] theorem bJ (q : IntKind) (n : Int) (k : Int → CRes) : UK q (.int q n) k = k n := by cases q <;> rfl
@[simp] theorem bb (b : Bool) (k : Bool → CRes) : I6 (.bool b) k = k b := rfl
@[simp] theorem bo (b o : Nat) (k : Nat → Nat → CRes) : aeH (.ptr b o) k = k b o := rfl
@[simp] theorem aN (b o l e : Nat) (p : Bool) (k : Nat → Nat → Nat → CRes) : asSlc (.slice b o l e p) k = k b o l := rfl
@[simp] theorem bu (l : List AV) (k : List AV → CRes) : asAgg (.agg l) k = k l := rfl
@[simp] theorem bt (b : Nat) (k : Nat → CRes) : asMap (.map b) k = k b := rfl
@[simp] theorem aP (b o : Nat) (k : CRes) : Ko (.ptr b o) k = k := rfl
@[simp] theorem aJ (b o l e : Nat) (p : Bool) (k : Int → CRes) : iP (.slice b o l e p) k = k l := rfl
@[simp] theorem be (k : Int → CRes) : iP .nilslice k = k 0 := rfl
@[simp] theorem cm (d b o : Nat) (k : AV → CRes) : faK d (.ptr b o) k = k (.ptr b (o + d)) := by simp [faK]
@[simp] theorem ag1 (H : Heap) (l : List AV) (c : Nat → Heap → CRes) : Co H (.agg l) c = c H.nx (H.add (.cells l true 0)) := by
  show DK H (.cells l true 0) c = _; simp
theorem cF (d b o : Nat) (k : AV → CRes) : nfa d (.ptr b o) k = k (.ptr b (o + d)) := by simp [nfa]
attribute [simp] cF
def andZ (a b : Int) : Int := IntKind.i64.wrap (BitVec.ofInt 64 a &&& BitVec.ofInt 64 b).toNat
@[simp] theorem bM (a b : Int) (c : Int → CRes) : bitK .and .i64 a b c = c (andZ a b) := by
  show oC (some _) _ = _
  rw [bX, bg]; rfl
theorem akL {q : IntKind} {a b : Int} (h : b ≠ 0) (c : Int → CRes) : quoK q a b c = c (q.wrap (a.tdiv b)) := by
  unfold quoK; rw [alH, decide_eq_false h]; simp
theorem apf {q : IntKind} {a b : Int} (h : b ≠ 0) (c : Int → CRes) : remK q a b c = c (a.tmod b) := by
  unfold remK; rw [alH, decide_eq_false h]; simp
theorem RD {q : IntKind} {a b : Int} (h : 0 ≤ b) (c : Int → CRes) : ae4 q a b c = c (q.wrap (acm q a b.toNat)) := by
  unfold ae4; rw [aoX h]; simp
def Heap.cl (h : Heap) (b : Nat) (l : List AV) : Prop := b < h.nx ∧ ∃ rw g, h.get b = some (.cells l rw g)
theorem bS {h : Heap} {b : Nat} {l : List AV} (hb : h.cl b l) (c : List AV → CRes) : H7 h b c = c l := by
  obtain ⟨_, rw_, g, hb⟩ := hb
  unfold H7
  rw [Z6]
  have : h.t.get (key b) = some (.cells l rw_ g) := hb
  rw [this]; rfl
@[simp] theorem ba (h : Heap) (b off : Nat) (k : AV → CRes) : iZ h (.ptr b off) 1 false k = H7 h b fun l => oC l[off]? k := by
  unfold iZ
  simp only [bo, bq, aay]; rfl
@[simp] theorem bc (h : Heap) (b off n : Nat) (k : AV → CRes) : iZ h (.ptr b off) n true k = H7 h b fun l => oC (sub l off n) fun cs => k (.agg cs) := by
  unfold iZ
  simp only [bo, bD]
@[simp] theorem cq (q : IntKind) (h : Heap) (b off : Nat) (k : Int → CRes) : ldI q h (.ptr b off) k = H7 h b fun l => oC l[off]? fun v => UK q v k := by unfold ldI; simp
@[simp] theorem cp (h : Heap) (b off : Nat) (k : Bool → CRes) : ldB h (.ptr b off) k = H7 h b fun l => oC l[off]? fun v => I6 v k := by unfold ldB; simp
@[simp] theorem bL (q : IntKind) (d : Nat) (h : Heap) (b off : Nat) (k : AV → Int → CRes) : mV q d h (.ptr b off) k = H7 h b fun l => oC l[off + d]? fun v => UK q v (k (.ptr b (off + d))) := by unfold mV; simp
@[simp] theorem bO (d : Nat) (h : Heap) (b off : Nat) (k : AV → Bool → CRes) : fldB d h (.ptr b off) k = H7 h b fun l => oC l[off + d]? fun v => I6 v (k (.ptr b (off + d))) := by unfold fldB; simp
@[simp] theorem bN (d : Nat) (h : Heap) (b off : Nat) (k : AV → AV → CRes) : fld d h (.ptr b off) 1 false k = H7 h b fun l => oC l[off + d]? (k (.ptr b (off + d))) := by unfold fld; simp
@[simp] theorem bP (d : Nat) (h : Heap) (b off n : Nat) (k : AV → AV → CRes) : fld d h (.ptr b off) n true k = H7 h b fun l => oC (sub l (off + d) n) fun cs => k (.ptr b (off + d)) (.agg cs) := by unfold fld; simp
@[simp] theorem bw (q : IntKind) (d : Nat) (h : Heap) (b off : Nat) (k : AV → Int → CRes) : nfldI q d h (.ptr b off) k = mV q d h (.ptr b off) k := by unfold nfldI; simp
@[simp] theorem bz (d : Nat) (h : Heap) (b off : Nat) (k : AV → Bool → CRes) : nfldB d h (.ptr b off) k = fldB d h (.ptr b off) k := by unfold nfldB; simp
@[simp] theorem bK (d : Nat) (h : Heap) (b off n : Nat) (g : Bool) (k : AV → AV → CRes) : ac7 d h (.ptr b off) n g k = fld d h (.ptr b off) n g k := by unfold ac7; simp
theorem load_agg {h : Heap} {b off n : Nat} {l cs : List AV} (hb : h.cl b l) (hs : (l.drop off).take n = cs) (hn : off + n ≤ l.length) (k : AV → CRes) : iZ h (.ptr b off) n true k = k (.agg cs) := by
  unfold iZ
  rw [bo, bS hb, bD, pR, if_pos (by rw [List.length_drop]; omega), hs]; rfl
theorem load_one {h : Heap} {b off : Nat} {l : List AV} {v : AV} (hb : h.cl b l) (hs : l[off]? = some v) (k : AV → CRes) : iZ h (.ptr b off) 1 false k = k v := by
  unfold iZ
  rw [bo, bS hb, bq]
  show ifB true _ _ = _
  rw [bD, aay, hs]; rfl
structure Grow (h h' : Heap) : Prop where
  nx : h.nx ≤ h'.nx
  ro : h'.ro = h.ro
  old : ∀ b, b < h.nx → h'.get b = h.get b
theorem Grow.refl {h : Heap} : Grow h h := ⟨Nat.le_refl _, rfl, fun _ _ => rfl⟩
theorem Grow.trans {h h' h'' : Heap} (a : Grow h h') (b : Grow h' h'') : Grow h h'' := ⟨Nat.le_trans a.nx b.nx, b.ro.trans a.ro, fun c hc => (b.old c (Nat.lt_of_lt_of_le hc a.nx)).trans (a.old c hc)⟩
theorem Grow.add {h : Heap} {x : Blk} : Grow h (h.add x) := ⟨by simp, by simp, fun b hb => by rw [Heap.get_add, if_neg (by omega)]⟩
theorem Grow.cl {h h' : Heap} (g : Grow h h') {b : Nat} {l : List AV} (hb : h.cl b l) : h'.cl b l := by
  obtain ⟨h1, rw_, q, h2⟩ := hb
  exact ⟨Nat.lt_of_lt_of_le h1 g.nx, rw_, q, (g.old b h1).trans h2⟩
theorem cl_add (h : Heap) (l : List AV) (rw_ : Bool) (g : Nat) : (h.add (.cells l rw_ g)).cl h.nx l := ⟨by simp, rw_, g, by rw [Heap.get_add, if_pos rfl]⟩
theorem Grow.shut {h h' : Heap} (g : Grow (h.shut true) h') : Grow h (h'.back h.ro) := ⟨g.nx, rfl, fun b hb => g.old b hb⟩
theorem Heap.cl.shut {h : Heap} {b : Nat} {l : List AV} (hb : h.cl b l) : (h.shut true).cl b l := hb
theorem yx (h : Heap) (l : List AV) : Run1 (Co h (.agg l)) fun x h' => h'.cl x l ∧ Grow h h' := ⟨(h.nx, h.add (.cells l true 0)), ⟨cl_add .., Grow.add⟩, fun k => ag1 ..⟩
structure Own (h : Heap) (b : Nat) (l : List AV) (g : Nat) : Prop where
  lt : b < h.nx
  ro : h.ro ≤ b
  get : h.get b = some (.cells l true g)
theorem Own.cl {h : Heap} {b : Nat} {l : List AV} {g : Nat} (o : Own h b l g) : h.cl b l := ⟨o.lt, true, g, o.get⟩
theorem Own.grow {h h' : Heap} {b : Nat} {l : List AV} {q : Nat} (o : Own h b l q) (g : Grow h h') : Own h' b l q := ⟨Nat.lt_of_lt_of_le o.lt g.nx, by rw [g.ro]; exact o.ro, (g.old b o.lt).trans o.get⟩
theorem amQ {h : Heap} (hro : h.ro ≤ h.nx) (l : List AV) (g : Nat) : Run1 (DK h (.cells l true g)) fun x h' => h.nx ≤ x ∧ Own h' x l g ∧ Grow h h' :=
  ⟨(h.nx, h.add (.cells l true g)), ⟨Nat.le_refl _, ⟨by simp, by simpa using hro, by rw [Heap.get_add, if_pos rfl]⟩, Grow.add⟩, fun k => Bu ..⟩
theorem Grow.le {h h' : Heap} (g : Grow h h') (hro : h.ro ≤ h.nx) : h'.ro ≤ h'.nx := by rw [g.ro]; exact Nat.le_trans hro g.nx
theorem Grow.set {h h' : Heap} (g : Grow h h') {b : Nat} (hb : h.nx ≤ b) (x : Blk) : Grow h (h'.set b x) := ⟨by simp [g.nx], by simp [g.ro], fun c hc => by rw [Heap.get_set_other _ (by omega)]; exact g.old c hc⟩
theorem anq {h : Heap} {b : Nat} {l : List AV} {g : Nat} (o : Own h b l g) (c : List AV → Nat → CRes) : ownX h b c = c l g := by
  unfold ownX
  have : Nat.blt b h.ro = false := by rw [blt_eq]; simp; exact o.ro
  rw [this, bq, Z6]
  have h2 : h.t.get (key b) = some (.cells l true g) := o.get
  rw [h2]; rfl
structure Put (h : Heap) (b : Nat) (l : List AV) (g : Nat) (h' : Heap) : Prop where
  own : Own h' b l g
  nx : h'.nx = h.nx
  ro : h'.ro = h.ro
  other : ∀ c, c ≠ b → h'.get c = h.get c
theorem Put.grow {h₀ h h' : Heap} {b : Nat} {l : List AV} {q : Nat} (p : Put h b l q h') (g : Grow h₀ h) (hb : h₀.nx ≤ b) : Grow h₀ h' := ⟨by rw [p.nx]; exact g.nx, by rw [p.ro]; exact g.ro, fun c hc => by rw [p.other c (by omega)]; exact g.old c hc⟩
theorem Put.cl {h h' : Heap} {b c : Nat} {l l' : List AV} {q : Nat} (p : Put h b l q h') (hc : c ≠ b) (o : h.cl c l') : h'.cl c l' := by
  obtain ⟨h1, rw_, g, h2⟩ := o
  exact ⟨by rw [p.nx]; exact h1, rw_, g, by rw [p.other c hc]; exact h2⟩
theorem aau {h : Heap} {b : Nat} {l : List AV} {q : Nat} (o : Own h b l q) (l' : List AV) : Put h b l' q (h.set b (.cells l' true q)) :=
  ⟨⟨by simpa using o.lt, by simpa using o.ro, Heap.get_set_same ..⟩, by simp, by simp, fun c hc => Heap.get_set_other _ (fun e => hc e.symm) _⟩
theorem af7 {h : Heap} {b off n : Nat} {l cs : List AV} {g : Nat} (o : Own h b l g) (hn : cs.length = n) (hl : off + n ≤ l.length) : Run0 (pl h (.ptr b off) n (.agg cs)) (Put h b (sF cs l off) g) := by
  refine ⟨h.set b (.cells (sF cs l off) true g), aau o _, fun k => ?_⟩
  unfold pl
  rw [bo, anq o]
  show ifB (Nat.beq (lF cs) n) _ _ = _
  rw [iA, hn, Nat.beq_refl, bD, aa8, if_pos (by omega), RN]; rfl
theorem K2 {h : Heap} {b off : Nat} {l : List AV} {g : Nat} {u : AV} (o : Own h b l g) (hl : off < l.length) (hu : u.isCell = true) : Run0 (pl h (.ptr b off) 1 u) (Put h b (l.set off u) g) := by
  refine ⟨h.set b (.cells (l.set off u) true g), aau o _, fun k => ?_⟩
  unfold pl
  rw [bo, anq o]
  have : aes u (fun cs => ifB (Nat.beq (lF cs) 1) (akk cs l off fun l => setX h b (.cells l true g) k) .err) (ifB (Nat.beq 1 1) (ahr u l off fun l => setX h b (.cells l true g) k) .err) = ifB (Nat.beq 1 1) (ahr u l off fun l => setX h b (.cells l true g) k) .err := by
    cases u <;> first | rfl | cases hu
  rw [this]
  show ifB true _ _ = _
  rw [bD, aa1, if_pos hl, RN]; rfl
theorem agZ (cs l : List AV) (h : cs.length = l.length) : sF cs l 0 = cs := by
  rw [WX _ _ (by omega), h, List.drop_length, List.append_nil]
theorem ahH {h : Heap} (hro : h.ro ≤ h.nx) {z cs : List AV} {n : Nat} (hz : z.length = n) (hc : cs.length = n) :
    Run1 (fun K => DK h (.cells z true 0) fun x h1 => pl h1 (.ptr x 0) n (.agg cs) (K x)) fun x h' => h.nx ≤ x ∧ Own h' x cs 0 ∧ Grow h h' := by
  refine Run1.bind (amQ hro z 0) ?_
  rintro x h1 ⟨hx, ho, g⟩
  refine Run0.bind (af7 ho hc (by omega)) ?_
  intro h2 hp
  rw [agZ _ _ (by omega)] at hp
  exact lD ⟨hx, hp.own, hp.grow g hx⟩
theorem akj {h : Heap} (hro : h.ro ≤ h.nx) {z u : AV} (hu : u.isCell = true) :
    Run1 (fun K => DK h (.cells [z] true 0) fun x h1 => pl h1 (.ptr x 0) 1 u (K x)) fun x h' => h.nx ≤ x ∧ Own h' x [u] 0 ∧ Grow h h' := by
  refine Run1.bind (amQ hro [z] 0) ?_
  rintro x h1 ⟨hx, ho, g⟩
  refine Run0.bind (K2 ho (by simp) hu) ?_
  intro h2 hp
  exact lD ⟨hx, hp.own, hp.grow g hx⟩
theorem apa {l : List AV} {n i : Nat} (hn : l.length = n) (hi : i < n) (k : AV → CRes) : Yn 1 n false (.agg l) (i : Int) k = k (l[i]'(by omega)) := by
  unfold Yn
  rw [bu, cd]
  have h1 : Nat.blt i n = true := by rw [blt_eq]; simpa using hi
  rw [h1, bD, aL, pR, if_pos (by rw [List.length_drop, Nat.mul_eq, Nat.mul_one]; omega), bX]
  have : (l.drop (Nat.mul i 1)).take 1 = [l[i]'(by omega)] := by
    rw [Nat.mul_eq, Nat.mul_one, List.drop_eq_getElem_cons (by omega)]; rfl
  rw [this]; rfl
def SlAt (h : Heap) (v : AV) (sz n : Nat) (f : Nat → List AV) : Prop := n ≤ 9223372036854775807 ∧
  ((v = .nilslice ∧ n = 0) ∨ ∃ b off ext opn, v = .slice b off n ext opn ∧ (0 < n → ∃ l, h.cl b l ∧ ∀ i, i < n → off + i * sz + sz ≤ l.length ∧ (l.drop (off + i * sz)).take sz = f i))
theorem SlAt.grow {h h' : Heap} {v : AV} {sz n : Nat} {f : Nat → List AV} (s : SlAt h v sz n f) (g : Grow h h') : SlAt h' v sz n f := by
  obtain ⟨hn, s⟩ := s
  rcases s with s | ⟨b, off, ext, opn, h1, h2⟩
  · exact ⟨hn, .inl s⟩
  · exact ⟨hn, .inr ⟨b, off, ext, opn, h1, fun h0 => have ⟨l, h3, h4⟩ := h2 h0; ⟨l, g.cl h3, h4⟩⟩⟩
theorem SlAt.len {h : Heap} {v : AV} {sz n : Nat} {f : Nat → List AV} (s : SlAt h v sz n f) (k : Int → CRes) : iP v k = k n := by
  rcases s with ⟨_, ⟨rfl, rfl⟩ | ⟨b, off, ext, opn, rfl, _⟩⟩ <;> rfl
def elP (v : AV) (sz : Nat) (i : Int) : AV := match v with
  | .slice b off _ _ _ => .ptr b (off + i.toNat * sz)
  | v => v
theorem SlAt.ia {h : Heap} {v : AV} {sz n : Nat} {f : Nat → List AV} (s : SlAt h v sz n f) {i : Int} (h0 : 0 ≤ i) (hi : i < n) (k : AV → CRes) : iaSK sz v i k = k (elP v sz i) := by
  rcases s with ⟨_, ⟨rfl, rfl⟩ | ⟨b, off, ext, opn, rfl, _⟩⟩
  · omega
  · unfold iaSK
    rw [aN, aoX h0]
    have : Nat.blt i.toNat n = true := by rw [blt_eq]; simp; omega
    rw [this, bD]; simp [elP]
theorem SlAt.at_ {h : Heap} {v : AV} {sz n : Nat} {f : Nat → List AV} (s : SlAt h v sz n f) {i : Int} (h0 : 0 ≤ i) (hi : i < n) :
    ∃ b off l, elP v sz i = .ptr b off ∧ h.cl b l ∧ off + sz ≤ l.length ∧ (l.drop off).take sz = f i.toNat := by
  rcases s with ⟨_, ⟨rfl, rfl⟩ | ⟨b, off, ext, opn, rfl, h1⟩⟩
  · omega
  · obtain ⟨l, h1, h2⟩ := h1 (by omega)
    obtain ⟨h3, h4⟩ := h2 i.toNat (by omega)
    exact ⟨b, _, l, rfl, h1, h3, h4⟩
theorem SlAt.eld {h : Heap} {v : AV} {sz n : Nat} {f : Nat → List AV} (s : SlAt h v sz n f) {i : Int} (h0 : 0 ≤ i) (hi : i < n) (k : AV → AV → CRes) : eld sz h v i sz true k = k (elP v sz i) (.agg (f i.toNat)) := by
  unfold Ai.eld
  rw [s.ia h0 hi]
  obtain ⟨b, off, l, e, h1, h2, h3⟩ := s.at_ h0 hi
  rw [e, load_agg h1 h3 h2]
def AV.shut : AV → Bool
  | .slice _ _ _ _ opn => !opn
  | _ => true
theorem SlAt.take {h : Heap} {v : AV} {sz n : Nat} {f : Nat → List AV} (s : SlAt h v sz n f) (hs : v.shut = true) {i : Int} (h0 : 0 ≤ i) (hi : i ≤ n) : ∃ v', SlAt h v' sz i.toNat f ∧ ∀ k, slK (.sl sz) v none (some (.int .i64 i)) none k = k v' := by
  obtain ⟨m, rfl⟩ := Int.eq_ofNat_of_zero_le h0
  obtain ⟨hn, ⟨rfl, rfl⟩ | ⟨b, off, ext, opn, rfl, h1⟩⟩ := s
  · have : m = 0 := by omega
    subst this
    exact ⟨.nilslice, ⟨by simp, .inl ⟨rfl, rfl⟩⟩, fun k => rfl⟩
  · obtain rfl : opn = false := by simpa [AV.shut] using hs
    refine ⟨.slice b off m (n + ext - m) false, ⟨by simp; omega, .inr ⟨b, off, _, false, rfl, fun h0 => have ⟨l, h3, h4⟩ := h1 (by simp at h0; omega); ⟨l, h3, fun j hj => h4 j (by simp at hj; omega)⟩⟩⟩, fun k => ?_⟩
    have hm : m ≤ n + ext := by omega
    unfold slK
    have : slV (.sl sz) (.slice b off n ext false) none (some (.int .i64 (m : Int))) none = some (.slice b off m (n + ext - m) false) := by
      have e1 : D3 (some (.int .i64 (m : Int))) n (n + ext) = some m := by
        have h2 : Nat.ble m (n + ext) = true := Nat.ble_eq_true_of_le hm
        show Bool.casesOn (motive := fun _ => Option Nat) (Nat.ble m (n + ext)) none (some m) = _
        rw [h2]
      simp only [slV]
      have e0 : D3 none (n + ext) (n + ext) = some (n + ext) := rfl
      rw [e0]; dsimp only; rw [e1]; dsimp only
      have e2 : D3 none 0 m = some 0 := rfl
      rw [e2]; dsimp only
      simp
    rw [this, bX, bj]
def nz (l : List Int) (i : Nat) : Int := l.getD i 0
theorem vu {l : List Int} {i : Nat} (h : i < l.length) : nz l i = l[i] := by unfold nz; rw [List.getD_eq_getElem?_getD, List.getElem?_eq_getElem h]; rfl
def Ints (h : Heap) (q : IntKind) (v : AV) (l : List Int) : Prop := SlAt h v 1 l.length fun i => [.int q (nz l i)]
theorem Ints.grow {h h' : Heap} {q : IntKind} {v : AV} {l : List Int} (s : Ints h q v l) (g : Grow h h') : Ints h' q v l := SlAt.grow s g
theorem Ints.len {h : Heap} {q : IntKind} {v : AV} {l : List Int} (s : Ints h q v l) (k : Int → CRes) : iP v k = k l.length := SlAt.len s k
theorem Ints.small {h : Heap} {q : IntKind} {v : AV} {l : List Int} (s : Ints h q v l) : l.length ≤ 9223372036854775807 := s.1
theorem Ints.el {h : Heap} {q : IntKind} {v : AV} {l : List Int} (s : Ints h q v l) {i : Int} (h0 : 0 ≤ i) (hi : i < l.length) (k : AV → Int → CRes) : DW q 1 h v i k = k (elP v 1 i) (nz l i.toNat) := by
  unfold DW
  rw [SlAt.ia s h0 hi]
  obtain ⟨b, off, l', e, h1, h2, h3⟩ := SlAt.at_ s h0 hi
  have h4 : l'[off]? = some (.int q (nz l i.toNat)) := by
    have := congrArg (·[0]?) h3
    simpa using this
  rw [e, load_one h1 h4, bJ]
theorem Ints.elN {h : Heap} {q : IntKind} {v : AV} {l : List Int} (s : Ints h q v l) {i : Nat} (hi : i < l.length) (k : AV → Int → CRes) : DW q 1 h v i k = k (elP v 1 i) (nz l i) := s.el (Int.natCast_nonneg i) (by omega) k
theorem aij {h : Heap} {b : Nat} {q : IntKind} {l : List Int} (hb : h.cl b (l.map (.int q))) (hl : l.length ≤ 9223372036854775807) (ext : Nat) (opn : Bool) : Ints h q (.slice b 0 l.length ext opn) l := by
  refine ⟨hl, .inr ⟨b, 0, ext, opn, rfl, fun _ => ⟨_, hb, fun i hi => ⟨by simp; omega, ?_⟩⟩⟩⟩
  simp only [Nat.zero_add, Nat.mul_one]
  rw [vu hi, ← List.map_drop, ← List.map_take]
  rw [List.drop_eq_getElem_cons hi]; rfl
theorem KQ {h : Heap} {len : Nat} {z l : List AV} {parts : List (Nat × Nat × AV)} (hf : ∀ k, aao parts z k = k l) : Run1 (sf h len z parts) fun v h' => v = .slice h.nx 0 len 0 false ∧ h'.cl h.nx l ∧ Grow h h' := by
  refine ⟨(.slice h.nx 0 len 0 false, h.add (.cells l true 0)), ⟨rfl, cl_add .., Grow.add⟩, fun k => ?_⟩
  unfold sf
  rw [hf, Bu]; rfl
theorem aeK {h : Heap} {q : IntKind} (xs : List Int) {z : List AV} {parts : List (Nat × Nat × AV)} (hf : ∀ k, aao parts z k = k (xs.map (.int q))) (hl : xs.length ≤ 9223372036854775807) : Run1 (sf h xs.length z parts) fun v h' => Ints h' q v xs ∧ Grow h h' :=
  (KQ hf).mono fun _ _ ⟨h1, h2, h3⟩ => ⟨by rw [h1]; exact aij h2 hl 0 false, h3⟩
theorem Ints.nil {h : Heap} {q : IntKind} : Ints h q .nilslice [] := ⟨by simp, .inl ⟨rfl, rfl⟩⟩
theorem qH {n : Int} (h0 : -9223372036854775808 ≤ n) (h1 : n ≤ 9223372036854775807) : IntKind.i64.wrap n = n := by
  rw [IntKind.wrap_i64]; omega
theorem wrap_u {n : Int} (h0 : 0 ≤ n) (h1 : n < 18446744073709551616) : IntKind.u64.wrap n = n := by
  simp only [IntKind.wrap, IntKind.signed, IntKind.bits]; simp; omega
theorem jd {i : Nat} (h : i ≤ 9223372036854775806) : IntKind.i64.wrap ((i : Int) + 1) = ((i + 1 : Nat) : Int) := by
  rw [qH (by omega) (by omega)]; simp
end Go.Ai
/- Configurations: what chapter 11 says may be, as plain functions; how one lies in the heap. -/
namespace Go.Ai
structure PartZ where
  cols : List Int
  order : Int
  user : Int
  tables : Int
  spaces : Int
  regions : Int
  records : Int
  slots : Int
structure CfgZ where
  frames : Int
  colours : Int
  ways : Int
  l1sets : Int
  l1ways : Int
  tlb : Int
  l1 : Int
  llc : Int
  miss : Int
  fault : Int
  step : Int
  disk : Int
  slice : Int
  pad : Int
  first : Int
  turns : List Int
  parts : List PartZ
def AU (z : CfgZ) : List AV := [.int .u64 z.l1, .int .u64 z.llc, .int .u64 z.miss, .int .u64 z.fault, .int .u64 z.step, .int .u64 z.disk]
def A6 (z : CfgZ) (t p : AV) : List AV := [.int .i64 z.frames, .int .i64 z.colours, .int .i64 z.ways, .int .i64 z.l1sets, .int .i64 z.l1ways, .int .i64 z.tlb,
  .int .u64 z.l1, .int .u64 z.llc, .int .u64 z.miss, .int .u64 z.fault, .int .u64 z.step, .int .u64 z.disk, .int .u64 z.slice, .int .u64 z.pad, .int .u64 z.first, t, p]
def CN (x : PartZ) (s : AV) : List AV := [s, .int .i64 x.order, .int .i64 x.user, .int .i64 x.tables, .int .i64 x.spaces, .int .i64 x.regions, .int .i64 x.records, .int .i64 x.slots]
instance : Inhabited PartZ := ⟨⟨[], 0, 0, 0, 0, 0, 0, 0⟩⟩
def Parts (h : Heap) (v : AV) (ps : List PartZ) : Prop := v.shut = true ∧ ∃ S : Nat → AV, SlAt h v 8 ps.length (fun i => CN (ps.getD i default) (S i)) ∧ ∀ i, i < ps.length → Ints h .i64 (S i) (ps.getD i default).cols
theorem Parts.grow {h h' : Heap} {v : AV} {ps : List PartZ} (s : Parts h v ps) (g : Grow h h') : Parts h' v ps := by
  obtain ⟨h0, S, h1, h2⟩ := s
  exact ⟨h0, S, h1.grow g, fun i hi => (h2 i hi).grow g⟩
def Cfg (h : Heap) (z : CfgZ) (c : List AV) : Prop := ∃ t p, c = A6 z t p ∧ Ints h .i64 t z.turns ∧ Parts h p z.parts
theorem Cfg.grow {h h' : Heap} {z : CfgZ} {c : List AV} (s : Cfg h z c) (g : Grow h h') : Cfg h' z c := by
  obtain ⟨t, p, h1, h2, h3⟩ := s
  exact ⟨t, p, h1, h2.grow g, h3.grow g⟩
def cR (n a b : Int) : Bool := decide (a ≤ n) && decide (n ≤ b)
def ZB (n zH : Int) : Bool := cR n 1 zH && (andZ n (IntKind.i64.wrap (n - 1)) == 0)
def pU (z : CfgZ) : Bool := ZB z.colours 16 && (cR z.frames 1 4096 && (z.frames.tmod z.colours == 0 && (ZB z.l1sets 4096 && (cR z.ways 1 16 && (cR z.l1ways 1 16 &&
  (cR z.tlb 1 64 && cR z.parts.length 1 8))))))
def anm (z : CfgZ) : Int := IntKind.i64.wrap (z.frames.tdiv z.colours)
def uP (a b : Int) : Bool := decide (a ≤ b) && decide (b ≤ 65536)
def apb (z : CfgZ) : Bool := uP 1 z.l1 && (uP z.l1 z.llc && (uP z.llc z.miss && (uP 1 z.fault && (uP 1 z.step && uP 1 z.disk))))
def Z5 (z : CfgZ) : Int := if apb z then 0 else 100
def Zn (last : Option Int) (x : Int) : Bool := match last with | none => true | some y => decide (y < x)
def AS (z : CfgZ) (ps : List PartZ) (last : Option Int) : List Int → Bool
  | [] => true
  | x :: l => decide (0 ≤ x) && (decide (x < z.colours) && (Zn last x && (ps.all (fun q => !decide (x ∈ q.cols)) && AS z ps (some x) l)))
theorem Gs (z : CfgZ) (ps : List PartZ) (last : Option Int) (x : Int) (l : List Int) : AS z ps last (x :: l) = (decide (0 ≤ x) && (decide (x < z.colours) && (Zn last x && (ps.all (fun q => !decide (x ∈ q.cols)) && AS z ps (some x) l)))) := rfl
def ec (z : CfgZ) (p : Nat) : PartZ := z.parts.getD p default
def aaB (z : CfgZ) (p : Nat) : Bool := AS z (z.parts.take p) none (ec z p).cols && decide (0 < (ec z p).cols.length)
def Zk (z : CfgZ) (p : Nat) : Int := IntKind.i64.wrap ((ec z p).cols.length * anm z)
theorem ji (z : CfgZ) (t p : AV) : (A6 z t p)[0]? = some (.int .i64 z.frames) := rfl
theorem jv (z : CfgZ) (t p : AV) : (A6 z t p)[1]? = some (.int .i64 z.colours) := rfl
theorem jr (z : CfgZ) (t p : AV) : (A6 z t p)[2]? = some (.int .i64 z.ways) := rfl
theorem jg (z : CfgZ) (t p : AV) : (A6 z t p)[3]? = some (.int .i64 z.l1sets) := rfl
theorem jl (z : CfgZ) (t p : AV) : (A6 z t p)[4]? = some (.int .i64 z.l1ways) := rfl
theorem ju (z : CfgZ) (t p : AV) : (A6 z t p)[5]? = some (.int .i64 z.tlb) := rfl
theorem jo (z : CfgZ) (t p : AV) : (A6 z t p)[6]? = some (.int .u64 z.l1) := rfl
theorem jk (z : CfgZ) (t p : AV) : (A6 z t p)[7]? = some (.int .u64 z.llc) := rfl
theorem jx (z : CfgZ) (t p : AV) : (A6 z t p)[8]? = some (.int .u64 z.miss) := rfl
theorem jf (z : CfgZ) (t p : AV) : (A6 z t p)[9]? = some (.int .u64 z.fault) := rfl
theorem fF (z : CfgZ) (t p : AV) : (A6 z t p)[10]? = some (.int .u64 z.step) := rfl
theorem gd (z : CfgZ) (t p : AV) : (A6 z t p)[11]? = some (.int .u64 z.disk) := rfl
theorem fV (z : CfgZ) (t p : AV) : (A6 z t p)[12]? = some (.int .u64 z.slice) := rfl
theorem fZ (z : CfgZ) (t p : AV) : (A6 z t p)[13]? = some (.int .u64 z.pad) := rfl
theorem fC (z : CfgZ) (t p : AV) : (A6 z t p)[14]? = some (.int .u64 z.first) := rfl
theorem fT (z : CfgZ) (t p : AV) : (A6 z t p)[15]? = some t := rfl
theorem fL (z : CfgZ) (t p : AV) : (A6 z t p)[16]? = some p := rfl
theorem f0 (x : PartZ) (s : AV) : (CN x s)[0]? = some s := rfl
theorem fK (x : PartZ) (s : AV) : (CN x s)[1]? = some (.int .i64 x.order) := rfl
theorem fU (x : PartZ) (s : AV) : (CN x s)[2]? = some (.int .i64 x.user) := rfl
theorem fJ (x : PartZ) (s : AV) : (CN x s)[3]? = some (.int .i64 x.tables) := rfl
theorem fE (x : PartZ) (s : AV) : (CN x s)[4]? = some (.int .i64 x.spaces) := rfl
theorem fR (x : PartZ) (s : AV) : (CN x s)[5]? = some (.int .i64 x.regions) := rfl
theorem gb (x : PartZ) (s : AV) : (CN x s)[6]? = some (.int .i64 x.records) := rfl
theorem ga (x : PartZ) (s : AV) : (CN x s)[7]? = some (.int .i64 x.slots) := rfl
theorem dR (z : CfgZ) (t p : AV) : sub (A6 z t p) 0 17 = some (A6 z t p) := by rw [pR]; rfl
theorem de (z : CfgZ) (t p : AV) : sub (A6 z t p) 6 6 = some (AU z) := by rw [pR]; rfl
theorem fN (z : CfgZ) : (AU z)[0]? = some (.int .u64 z.l1) := rfl
theorem fH (z : CfgZ) : (AU z)[1]? = some (.int .u64 z.llc) := rfl
theorem fY (z : CfgZ) : (AU z)[2]? = some (.int .u64 z.miss) := rfl
theorem gc (z : CfgZ) : (AU z)[3]? = some (.int .u64 z.fault) := rfl
theorem fW (z : CfgZ) : (AU z)[4]? = some (.int .u64 z.step) := rfl
theorem fD (z : CfgZ) : (AU z)[5]? = some (.int .u64 z.disk) := rfl
theorem cW (z : CfgZ) : sub (AU z) 0 6 = some (AU z) := by rw [pR]; rfl
def alP (ps : List PartZ) (a : Int) : Int := ps.foldl (fun a q => if cR q.slots 1 1024 then IntKind.i64.wrap (a + q.slots) else a) a
def Zo (x : PartZ) : Int := IntKind.i64.wrap (acm .i64 1 x.order.toNat)
def needZ (x : PartZ) : Int := IntKind.i64.wrap (IntKind.i64.wrap (IntKind.i64.wrap (IntKind.i64.wrap (IntKind.i64.wrap (Zo x + x.user) + x.tables) + x.spaces) + x.regions) + x.records)
def q8 (z : CfgZ) (p : Nat) : Bool := cR (ec z p).order 0 3 && (cR (ec z p).user 2 4096 && (cR (ec z p).tables 4 4096 && (cR (ec z p).spaces 1 4096 && (cR (ec z p).regions 1 4096 &&
  (cR (ec z p).records 1 4096 && (cR (ec z p).slots 1 1024 && (decide (alP (z.parts.take (p + 1)) 0 ≤ 1024) && (!pU z || (decide (Zo (ec z p) ≤ anm z) && decide (needZ (ec z p) ≤ Zk z p))))))))))
def WC (z : CfgZ) (p : Nat) : Int := if aaB z p then (if q8 z p then 0 else 111) else 110
theorem SV {z : CfgZ} (h : pU z = true) : z.colours ≠ 0 := by
  simp [pU, ZB, cR] at h; omega
def w64 (n : Int) : Int := IntKind.u64.wrap n
structure ShapeZ where
  image : Int
  user : Int
  limit : Int
  nodes : Int
def AD (s : ShapeZ) : List AV := [.int .i64 s.image, .int .i64 s.user, .int .i64 s.limit, .int .i64 s.nodes]
theorem dP (s : ShapeZ) : (AD s)[0]? = some (.int .i64 s.image) := rfl
theorem dQ (s : ShapeZ) : (AD s)[1]? = some (.int .i64 s.user) := rfl
theorem dW (s : ShapeZ) : (AD s)[2]? = some (.int .i64 s.limit) := rfl
theorem dS (s : ShapeZ) : (AD s)[3]? = some (.int .i64 s.nodes) := rfl
theorem cU (s : ShapeZ) : sub (AD s) 0 4 = some (AD s) := by rw [pR]; rfl
def maxZ (a b : Int) : Int := if a < b then b else a
def minZ (a b : Int) : Int := if b < a then b else a
def pageC (z : CfgZ) : Int := w64 (z.step + w64 (2 * z.miss))
def allC (z : CfgZ) (s : ShapeZ) : Int := w64 (w64 s.limit * pageC z)
def aom (z : CfgZ) (s : ShapeZ) : Int := w64 (w64 (w64 (w64 (2 * w64 s.user) + 1) * z.step) + z.disk)
def aoZ (z : CfgZ) : Int := w64 (113 * z.miss)
def akb (z : CfgZ) : Int := w64 (64 * pageC z)
def Z8 (z : CfgZ) (s : ShapeZ) : List Int := [0, w64 (17 * z.miss), w64 (allC z s + z.miss), w64 (w64 (z.miss + w64 (w64 (16 * w64 s.nodes) * z.miss)) + allC z s), aoZ z, akb z,
  w64 (w64 (64 * w64 (z.step + z.miss)) + z.miss), maxZ (aoZ z) (akb z), w64 (w64 (w64 (w64 (26 * z.miss) + z.fault) + aom z s) + z.disk),
  w64 (w64 (w64 (w64 (64 * z.miss) + w64 (2 * z.fault)) + w64 (2 * aom z s)) + z.disk), 0]
def mostC (z : CfgZ) (s : ShapeZ) : Int := w64 (w64 (w64 s.image * z.miss) + (Z8 z s).foldl maxZ 0)
def ahN (z : CfgZ) (s : ShapeZ) : Int := if Z5 z = 0 then (if (decide (s.image = 1) || (decide (s.image = 2) || (decide (s.image = 4) || decide (s.image = 8)))) && (cR s.user 2 4096 && (cR s.limit 1 5120 && cR s.nodes 1 4096)) then 0 else 2) else Z5 z
def ah8 (z : CfgZ) (p : Nat) : ShapeZ := ⟨Zo (ec z p), (ec z p).user, minZ (IntKind.i64.wrap (IntKind.i64.wrap ((ec z p).user + (ec z p).slots) - 1)) (IntKind.i64.wrap (16 * (ec z p).records)), (ec z p).tables⟩
def W1 (z : CfgZ) (lines trans : Int) : Int := if Z5 z = 0 then (if cR lines 0 65536 && cR trans 0 64 then 0 else 2) else Z5 z
def ao2 (z : CfgZ) (lines trans : Int) : Int := w64 (w64 (IntKind.i64.wrap (lines + trans)) * z.step)
def zk (z : CfgZ) (p : Nat) : Bool := !decide (WC z p = 0) || (decide (ahN z (ah8 z p) = 0) && decide (mostC z (ah8 z p) ≤ z.slice))
def Bf (z : CfgZ) : Bool := decide (1 ≤ z.slice) && (decide (z.slice ≤ 4194304) && (decide (z.pad ≤ 4194304) && (decide (z.first < 1099511627776) && (!pU z || (!decide (Z5 z = 0) ||
  (decide (W1 z (IntKind.i64.wrap (z.l1sets * z.l1ways)) z.tlb = 0) && (decide (ao2 z (IntKind.i64.wrap (z.l1sets * z.l1ways)) z.tlb ≤ z.pad) && (List.range z.parts.length).all (zk z))))))))
def Z3 (z : CfgZ) : Bool := cR z.turns.length 1 64 && z.turns.all fun p => cR p 0 (IntKind.i64.wrap (z.parts.length - 1))
def abj (z : CfgZ) : Bool := pU z && (decide (Z5 z = 0) && (Bf z && (Z3 z && (List.range (min z.parts.length 8)).all fun p => decide (WC z p = 0))))
end Go.Ai
