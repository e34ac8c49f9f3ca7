/- The interpreter in continuation style, for long runs by the kernel: what it returns, the interpreter's calls return. -/
import Derived.Test.YtnlbfbiogfilfaaGreatAiCpsOk
set_option linter.all false
namespace Go.Ai
noncomputable def getV : P → Tr AV → (AV → CRes) → CRes := P.rec (motive := fun _ => Tr AV → (AV → CRes) → CRes)
  (Tr.rec (motive := fun _ => (AV → CRes) → CRes) (fun _ => .err) (fun _ v _ _ _ k => oC v k))
  (fun _ ih => Tr.rec (motive := fun _ => (AV → CRes) → CRes) (fun _ => .err) (fun l _ _ _ _ k => ih l k))
  (fun _ ih => Tr.rec (motive := fun _ => (AV → CRes) → CRes) (fun _ => .err) (fun _ _ r _ _ k => ih r k))
noncomputable def setV : P → AV → Tr AV → (Tr AV → CRes) → CRes := P.rec (motive := fun _ => AV → Tr AV → (Tr AV → CRes) → CRes)
  (fun x => Tr.rec (motive := fun _ => (Tr AV → CRes) → CRes) (fun k => k (.node .leaf (some x) .leaf)) (fun l _ r _ _ k => k (.node l (some x) r)))
  (fun _ ih x => Tr.rec (motive := fun _ => (Tr AV → CRes) → CRes) (fun k => ih x .leaf fun l => k (.node l none .leaf)) (fun l v r _ _ k => ih x l fun l => k (.node l v r)))
  (fun _ ih x => Tr.rec (motive := fun _ => (Tr AV → CRes) → CRes) (fun k => ih x .leaf fun r => k (.node .leaf none r)) (fun l v r _ _ k => ih x r fun r => k (.node l v r)))
noncomputable def evX (tm : Tr AV) (x : Opd) : (AV → CRes) → CRes := Opd.rec (motive := fun _ => (AV → CRes) → CRes) (fun p k => getV p tm k) (fun v k => k v) x
noncomputable def evsX (tm : Tr AV) : List Opd → (List AV → CRes) → CRes := List.rec (motive := fun _ => (List AV → CRes) → CRes) (fun k => k []) (fun x _ ih k => evX tm x fun v => ih fun vs => k (v :: vs))
noncomputable def evOX (tm : Tr AV) (x : Option Opd) : (Option AV → CRes) → CRes := Option.rec (motive := fun _ => (Option AV → CRes) → CRes) (fun k => k none) (fun x k => evX tm x fun v => k (some v)) x
noncomputable def evPX (tm : Tr AV) : List (Nat × Nat × Opd) → (List (Nat × Nat × AV) → CRes) → CRes :=
  List.rec (motive := fun _ => (List (Nat × Nat × AV) → CRes) → CRes) (fun k => k []) (fun x _ ih k => evX tm x.2.2 fun v => ih fun vs => k ((x.1, x.2.1, v) :: vs))
noncomputable def fbX (b : Bool) (k : AV → CRes) : CRes := ifB b (k (.bool true)) (k (.bool false))
noncomputable def afB : AV → (IntKind → Int → CRes) → CRes := AV.rec (motive_1 := fun _ => (IntKind → Int → CRes) → CRes) (motive_2 := fun _ => Unit) (fun _ _ => .err) (fun q n k => k q n) (fun _ _ => .err) (fun _ _ _ => .err) (fun _ => .err) (fun _ _ _ _ _ _ => .err) (fun _ _ _ _ => .err) (fun _ => .err) (fun _ _ => .err) (fun _ => .err) (fun _ _ _ _ _ _ => .err) (fun _ => .err) (fun _ _ _ _ => .err) (fun _ => .err) (fun _ _ _ => .err) (fun _ _ _ => .err) () (fun _ _ _ _ => ())
noncomputable def binIX : BinOp → IntKind → IntKind → Int → Int → (AV → CRes) → CRes := BinOp.rec (motive := fun _ => IntKind → IntKind → Int → Int → (AV → CRes) → CRes)
  (fun q q' a b k => ifB (zf q q') (lU q a b fun n => k (.int q n)) .err)
  (fun q q' a b k => ifB (zf q q') (Yl q a b fun n => k (.int q n)) .err)
  (fun q q' a b k => ifB (zf q q') (OL q a b fun n => k (.int q n)) .err)
  (fun q q' a b k => ifB (zf q q') (quoK q a b fun n => k (.int q n)) .err)
  (fun q q' a b k => ifB (zf q q') (remK q a b fun n => k (.int q n)) .err)
  (fun q q' a b k => ifB (zf q q') (bitK .and q a b fun n => k (.int q n)) .err)
  (fun q q' a b k => ifB (zf q q') (bitK .or q a b fun n => k (.int q n)) .err)
  (fun q q' a b k => ifB (zf q q') (bitK .xor q a b fun n => k (.int q n)) .err)
  (fun q _ a b k => aiv q a b fun n => k (.int q n))
  (fun q _ a b k => shrK q a b fun n => k (.int q n))
  (fun q q' a b k => ifB (zf q q') (bitK .andNot q a b fun n => k (.int q n)) .err)
  (fun q q' a b k => ifB (zf q q') (fbX (eqF a b) k) .err)
  (fun q q' a b k => ifB (zf q q') (fbX (jk (eqF a b)) k) .err)
  (fun q q' a b k => ifB (zf q q') (fbX (ltF a b) k) .err)
  (fun q q' a b k => ifB (zf q q') (fbX (jk (ltF b a)) k) .err)
  (fun q q' a b k => ifB (zf q q') (fbX (ltF b a) k) .err)
  (fun q q' a b k => ifB (zf q q') (fbX (jk (ltF a b)) k) .err)
noncomputable def binSX : BinOp → List UInt8 → List UInt8 → (AV → CRes) → CRes := BinOp.rec (motive := fun _ => List UInt8 → List UInt8 → (AV → CRes) → CRes)
  (fun a b k => catK a b fun n => k (.str n)) (fun _ _ _ => .err) (fun _ _ _ => .err) (fun _ _ _ => .err) (fun _ _ _ => .err) (fun _ _ _ => .err) (fun _ _ _ => .err) (fun _ _ _ => .err) (fun _ _ _ => .err) (fun _ _ _ => .err) (fun _ _ _ => .err) (fun a b k => fbX (zb a b) k) (fun a b k => fbX (jk (zb a b)) k) (fun _ _ _ => .err) (fun _ _ _ => .err) (fun _ _ _ => .err) (fun _ _ _ => .err)
noncomputable def binX (op : BinOp) : AV → AV → (AV → CRes) → CRes := AV.rec (motive_1 := fun _ => AV → (AV → CRes) → CRes) (motive_2 := fun _ => Unit) (fun _ _ _ => .err) (fun q a v k => afB v fun q' b => binIX op q q' a b k) (fun a v k => vStr v fun b => binSX op a b k) (fun _ _ _ _ => .err) (fun _ _ => .err) (fun _ _ _ _ _ _ _ => .err) (fun _ _ _ _ _ => .err) (fun _ _ => .err) (fun _ _ _ => .err) (fun _ _ => .err) (fun _ _ _ _ _ _ _ => .err) (fun _ _ => .err) (fun _ _ _ _ _ => .err) (fun _ _ => .err) (fun _ _ _ _ => .err) (fun _ _ _ _ => .err) () (fun _ _ _ _ => ())
noncomputable def opX : AOp → Tr AV → Heap → (AV → Heap → CRes) → CRes := AOp.rec (motive := fun _ => Tr AV → Heap → (AV → Heap → CRes) → CRes)
  (fun x tm H k => evX tm x fun v => k v H)
  (fun c a b tm H k => evX tm c fun v => Nf v fun t => ifB t (evX tm a fun v => k v H) (evX tm b fun v => k v H))
  (fun x tm H k => evX tm x fun v => Nf v fun t => fbX (jk t) fun r => k r H)
  (fun op x y tm H k => evX tm x fun u => evX tm y fun v => binX op u v fun r => k r H)
  (fun e neg x y tm H k => evX tm x fun u => evX tm y fun v => EqK.casesOn e (fun n => X0 (.nil n) u v fun r => fbX (X7 neg r) fun r => k r H)
      (Nf u fun a => Nf v fun b => fbX (X7 neg (eqBB a b)) fun r => k r H) (fun ks => X0 (.plain ks) u v fun r => fbX (X7 neg r) fun r => k r H))
  (fun q x tm H k => evX tm x fun u => afB u fun _ n => BG q n fun r => k (.int q r) H)
  (fun z tm H k => yA H (.cells z true 0) fun b H' => k (.ptr b 0) H')
  (fun x tm H k => evX tm x fun u => zt H u fun b H' => k (.ptr b 0) H')
  (fun z parts tm H k => evPX tm parts fun ps => wa z ps fun r => k r H)
  (fun len z parts tm H k => evPX tm parts fun ps => pR H len z ps k)
  (fun n agg x tm H k => evX tm x fun u => gJ H u n agg fun r => k r H)
  (fun n a x tm H k => evX tm a fun a => evX tm x fun u => lR H a n u fun H' => k .undef H')
  (fun x tm H k => evX tm x fun u => Nw u (k u H))
  (fun d x tm H k => evX tm x fun u => faK d u fun r => k r H)
  (fun sz x i tm H k => evX tm x fun u => evX tm i fun i => afB i fun _ i => SM sz u i fun r => k r H)
  (fun sz len x i tm H k => evX tm x fun u => evX tm i fun i => afB i fun _ i => KG sz len u i fun r => k r H)
  (fun sz len agg x i tm H k => evX tm x fun u => evX tm i fun i => afB i fun _ i => Xc sz len agg u i fun r => k r H)
  (fun x i tm H k => evX tm x fun u => evX tm i fun i => vStr u fun s => afB i fun _ i => idxSK s i fun n => k (.int .u8 n) H)
  (fun sk x lo hi mx tm H k => evX tm x fun u => evOX tm lo fun lo => evOX tm hi fun hi => evOX tm mx fun mx => slK sk u lo hi mx fun r => k r H)
  (fun ix x tm H k => evX tm x fun u => extK ix u fun r => k r H)
  (fun f a c tm H k => evsX tm a fun va => evsX tm c fun cs => k (.func f va cs) H)
  (fun tm H k => yA H (.mp []) fun b H' => k (.map b) H')
  (fun z len cap tm H k => evX tm len fun u => evX tm cap fun v => afB u fun _ l => afB v fun _ c => mkK H z l c k)
  (fun kk z ok m key tm H k => evX tm m fun m => evX tm key fun u => afG H kk z m u fun r b => ifB ok (k (.tuple [r, .bool b]) H) (k r H))
  (fun kk m key x tm H k => evX tm m fun m => evX tm key fun u => evX tm x fun y => abm H kk m u y fun H' => k .undef H')
  (fun kk m key tm H k => evX tm m fun m => evX tm key fun u => arw H kk m u fun H' => k .undef H')
  (fun lk x tm H k => evX tm x fun u => LenK.casesOn lk (vStr u fun s => ar0 s fun n => k (.int .i64 n) H) (fun n => k (.int .i64 (.ofNat n)) H)
      (jb u fun n => k (.int .i64 n) H) (akg H u fun n => k (.int .i64 n) H))
  (fun mx xs tm H k => evsX tm xs fun vs => Qd mx vs fun r => k r H)
  (fun sz s x tm H k => evX tm s fun s => evX tm x fun x => qk H sz s x k)
  (fun sz d x tm H k => evX tm d fun d => evX tm x fun x => copyK H sz d x k)
  (fun z x tm H k => evX tm x fun x => ajK H z x fun H' => k .undef H')
noncomputable def akz (d : Option P) (v : AV) (tm : Tr AV) (k : Tr AV → CRes) : CRes := Option.rec (motive := fun _ => CRes) (k tm) (fun p => setV p v tm k) d
noncomputable def wantX (want : Bool) : AV → CRes → CRes → CRes := AV.rec (motive_1 := fun _ => CRes → CRes → CRes) (motive_2 := fun _ => Unit) (fun b y n => ifB (eqBB b want) y n) (fun _ _ _ n => n) (fun _ _ n => n) (fun _ _ _ n => n) (fun _ n => n) (fun _ _ _ _ _ _ n => n) (fun _ _ _ _ n => n) (fun _ n => n) (fun _ _ n => n) (fun _ n => n) (fun _ _ _ _ _ _ n => n) (fun _ n => n) (fun _ _ _ _ n => n) (fun _ n => n) (fun _ _ _ n => n) (fun _ _ _ n => n) () (fun _ _ _ _ => ())
noncomputable def aqs : Gd → Tr AV → CRes → CRes → CRes := Gd.rec (motive := fun _ => Tr AV → CRes → CRes → CRes) (fun _ y _ => y) (fun p want tm y n => getV p tm fun v => wantX want v y n)
abbrev KS := Tr AV → Heap → CRes
noncomputable def insX (cf : dN) : Ins → Tr AV → Heap → KS → CRes := Ins.rec (motive := fun _ => Tr AV → Heap → KS → CRes)
  (fun g d o tm H k => aqs g tm (opX o tm H fun v H => akz d v tm fun tm => k tm H) (akz d .undef tm fun tm => k tm H))
  (fun g d q f args tm H k => aqs g tm (evX tm f fun fv => evsX tm args fun vs =>
      ifB q (cf fv vs (H.shut true) fun v H' => akz d v tm fun tm => k tm (H'.back H.ro)) (cf fv vs H fun v H' => akz d v tm fun tm => k tm H'))
    (akz d .undef tm fun tm => k tm H))
noncomputable def regX (cf : dN) : List Ins → Tr AV → Heap → KS → CRes := List.rec (motive := fun _ => Tr AV → Heap → KS → CRes) (fun tm H k => k tm H)
  (fun x _ ih tm H k => insX cf x tm H fun tm H => ih tm H k)
noncomputable def loopX (body : KS → KS) : Nat → KS := Nat.rec (motive := fun _ => KS) (fun _ _ => .err) (fun _ F => body F)
noncomputable def am7 (cf : dN) (n : Nat) : AC → KS → (Nat → KS) → KS → KS := AC.rec (motive := fun _ => KS → (Nat → KS) → KS → KS)
  (fun kn _ _ tm H => kn tm H)
  (fun l kn _ _ tm H => regX cf l tm H kn)
  (fun _ _ _ _ _ _ => .err)
  (fun _ _ iha ihb kn ke kr tm H => iha (ihb kn ke kr) ke kr tm H)
  (fun c _ _ iha ihb kn ke kr tm H => evX tm c fun v => Nf v fun b => ifB b (iha kn ke kr tm H) (ihb kn ke kr tm H))
  (fun id _ ih kn ke kr tm H => ih kn (fun i tm H => ifB (Nat.beq i id) (kn tm H) (ke i tm H)) kr tm H)
  (fun _ ih _ ke kr tm H => loopX (fun F => ih F ke kr) n tm H)
  (fun id _ ke _ tm H => ke id tm H)
  (fun _ _ kr tm H => kr tm H)
noncomputable def bindX : List P → List AV → Tr AV → (Tr AV → CRes) → CRes := List.rec (motive := fun _ => List AV → Tr AV → (Tr AV → CRes) → CRes)
  (List.rec (motive := fun _ => Tr AV → (Tr AV → CRes) → CRes) (fun tm k => k tm) (fun _ _ _ _ _ => .err))
  (fun p _ ih => List.rec (motive := fun _ => Tr AV → (Tr AV → CRes) → CRes) (fun _ _ => .err) (fun v vs _ tm k => setV p v tm fun tm => ih vs tm k))
noncomputable def resX (tm : Tr AV) (H : Heap) : List Rv → (List AV → CRes) → CRes := List.rec (motive := fun _ => (List AV → CRes) → CRes) (fun k => k [])
  (fun r _ ih k => Rv.rec (motive := fun _ => (AV → CRes) → CRes) (fun p k => getV p tm k) (fun p n agg k => getV p tm fun v => gJ H v n agg k) r fun v => ih fun vs => k (v :: vs))
noncomputable def oneX : List AV → AV := List.rec (motive := fun _ => AV) (.tuple []) (fun v t _ => List.rec (motive := fun _ => AV) v (fun u t _ => .tuple (v :: u :: t)) t)
noncomputable def finX (rs : List Rv) (k : AV → Heap → CRes) (tm : Tr AV) (H : Heap) : CRes := resX tm H rs fun vs => k (oneX vs) H
noncomputable def funC : AV → (Nat → List AV → List AV → CRes) → CRes := AV.rec (motive_1 := fun _ => (Nat → List AV → List AV → CRes) → CRes) (motive_2 := fun _ => Unit) (fun _ _ => .err) (fun _ _ _ => .err) (fun _ _ => .err) (fun _ _ _ => .err) (fun _ => .err) (fun _ _ _ _ _ _ => .err) (fun _ _ _ _ => .err) (fun _ => .err) (fun _ _ => .err) (fun _ => .err) (fun f a c _ _ k => k f a c) (fun _ => .err) (fun _ _ _ _ => .err) (fun _ => .err) (fun _ _ _ => .err) (fun _ _ _ => .err) () (fun _ _ _ _ => ())
noncomputable def appX (cf : dN) (n : Nat) : AFn → List AV → Heap → (AV → Heap → CRes) → CRes := AFn.rec (motive := fun _ => List AV → Heap → (AV → Heap → CRes) → CRes)
  (fun ps body res args H k => bindX ps args .leaf fun tm => am7 cf n body (finX res k) (fun _ _ _ => .err) (finX res k) tm H)
  (fun g args H k => CRes.rec (motive := fun _ => CRes) .err (fun v H => k v H) (g args H))
noncomputable def callX (find : Nat → (AFn → CRes) → CRes) (n : Nat) : Nat → dN := Nat.rec (motive := fun _ => dN) (fun _ _ _ _ => .err)
  (fun _ cf fv vs H k => funC fv fun f first cap => find f fun fn => appX cf n fn (Pd first (Pd vs cap id) id) H k)
section
variable {r : AV} {H' : Heap} {tm : Tr AV}
theorem aoR : ∀ (p : P) (t : Tr AV) (k : AV → CRes), getV p t k = oC (t.get p) k
  | .h, .leaf, _ => rfl
  | .h, .node _ _ _, _ => rfl
  | .o p, .leaf, _ => rfl
  | .o p, .node l v r, k => aoR p l k
  | .i p, .leaf, _ => rfl
  | .i p, .node l v r, k => aoR p r k
theorem abx : ∀ (p : P) (x : AV) (t : Tr AV) (k : Tr AV → CRes), setV p x t k = k (t.set p x)
  | .h, _, .leaf, _ => rfl
  | .h, _, .node _ _ _, _ => rfl
  | .o p, x, .leaf, k => by rw [Tr.set_o]; exact abx p x .leaf fun l => k (.node l none .leaf)
  | .o p, x, .node l v r, k => by rw [Tr.set_o]; exact abx p x l fun l => k (.node l v r)
  | .i p, x, .leaf, k => by rw [Tr.set_i]; exact abx p x .leaf fun r => k (.node .leaf none r)
  | .i p, x, .node l v r, k => by rw [Tr.set_i]; exact abx p x r fun r => k (.node l v r)
theorem afx {p : P} {k : AV → CRes} (h : getV p tm k = .ret r H') : ∃ v, tm.get p = some v ∧ k v = .ret r H' := by
  rw [aoR] at h
  exact la h
theorem Cy {b : Bool} {k : AV → CRes} (h : fbX b k = .ret r H') : k (.bool b) = .ret r H' := by cases b <;> exact h
theorem DZ {v : AV} {k : IntKind → Int → CRes} (h : afB v k = .ret r H') : ∃ q n, v = .int q n ∧ k q n = .ret r H' := by
  cases v <;> first | exact ⟨_, _, rfl, h⟩ | cases h
theorem extK_inv {ix : Nat} {v : AV} {k : AV → CRes} (h : extK ix v k = .ret r H') : ∃ vs u, v = .tuple vs ∧ nth vs ix = some u ∧ k u = .ret r H' := api h
theorem fS {x : Opd} {k : AV → CRes} (h : evX tm x k = .ret r H') : ∃ v, ev tm x = some v ∧ k v = .ret r H' := by
  cases x with
  | t p => exact afx h
  | c v => exact ⟨v, rfl, h⟩
theorem Zo : ∀ {xs : List Opd} {k : List AV → CRes}, evsX tm xs k = .ret r H' → ∃ vs, evs tm xs = some vs ∧ k vs = .ret r H'
  | [], k, h => ⟨[], rfl, h⟩
  | x :: xs, k, h => by
    obtain ⟨v, h1, h2⟩ := fS (x := x) h
    obtain ⟨vs, h3, h4⟩ := Zo (xs := xs) h2
    refine ⟨v :: vs, ?_, h4⟩
    show (Option.casesOn (ev tm x) none fun v => Option.casesOn (evs tm xs) none fun vs => some (v :: vs) : Option (List AV)) = _
    rw [h1, h3]
theorem akx {x : Option Opd} {k : Option AV → CRes} (h : evOX tm x k = .ret r H') : ∃ o, af7 tm x o ∧ k o = .ret r H' := by
  cases x with
  | none => exact ⟨none, .inl ⟨rfl, rfl⟩, h⟩
  | some y => obtain ⟨v, h1, h2⟩ := fS (x := y) h; exact ⟨some v, .inr ⟨y, v, rfl, rfl, h1⟩, h2⟩
theorem ali : ∀ {xs : List (Nat × Nat × Opd)} {k : List (Nat × Nat × AV) → CRes}, evPX tm xs k = .ret r H' → ∃ ps, M1 tm xs = afz ps ∧ k ps = .ret r H'
  | [], k, h => ⟨[], rfl, h⟩
  | (a, b, x) :: xs, k, h => by
    obtain ⟨v, h1, h2⟩ := fS (x := x) h
    obtain ⟨ps, h3, h4⟩ := ali (xs := xs) h2
    refine ⟨(a, b, v) :: ps, ?_, h4⟩
    funext z
    simp only [M1, afz] at h3 ⊢
    rw [h1]
    dsimp only
    rw [h3]
    rfl
theorem asj {op : BinOp} {q q' : IntKind} {a b : Int} {k : AV → CRes} (h : binIX op q q' a b k = .ret r H') : ∃ v, binF op (.int q a) (.int q' b) = some v ∧ k v = .ret r H' := by
  have same : ∀ {c : CRes}, ifB (zf q q') c .err = .ret r H' → q = q' ∧ c = .ret r H' := fun h => ⟨ajv (oW h).1, (oW h).2⟩
  cases op with
  | add =>
    obtain ⟨rfl, h1⟩ := same h
    replace h := h1
    clear h1
    rw [ci] at h
    refine ⟨_, ?_, h⟩
    show (if q = q then Kg q (addF a b) (fun n => some (AV.int q n)) else none) = _
    rw [if_pos rfl, nJ, aeM]
  | sub =>
    obtain ⟨rfl, h1⟩ := same h
    replace h := h1
    clear h1
    rw [cb] at h
    refine ⟨_, ?_, h⟩
    show (if q = q then Kg q (subF a b) (fun n => some (AV.int q n)) else none) = _
    rw [if_pos rfl, nJ, afR]
  | mul =>
    obtain ⟨rfl, h1⟩ := same h
    replace h := h1
    clear h1
    rw [cd] at h
    refine ⟨_, ?_, h⟩
    show (if q = q then Kg q (mulF a b) (fun n => some (AV.int q n)) else none) = _
    rw [if_pos rfl, nJ, ael]
  | quo =>
    obtain ⟨rfl, h1⟩ := same h
    replace h := h1
    clear h1
    have h0 : ifB (isZ b) .err (BG q (divF a b) fun n => k (.int q n)) = .ret r H' := h
    obtain ⟨h1, h2⟩ := N7 h0
    rw [bH] at h2
    refine ⟨_, ?_, h2⟩
    show (if q = q then (Bool.casesOn (isZ b) (Kg q (divF a b) (fun n => some (AV.int q n))) none : Option AV) else none) = _
    rw [if_pos rfl, h1]
    exact nJ _ _ _
  | rem =>
    obtain ⟨rfl, h1⟩ := same h
    replace h := h1
    clear h1
    have h0 : ifB (isZ b) .err (qG (modF a b) fun n => k (.int q n)) = .ret r H' := h
    obtain ⟨h1, h2⟩ := N7 h0
    rw [aY] at h2
    refine ⟨_, ?_, h2⟩
    show (if q = q then (Bool.casesOn (isZ b) (some (AV.int q (modF a b))) none : Option AV) else none) = _
    rw [if_pos rfl, h1]
  | and =>
    obtain ⟨rfl, h1⟩ := same h
    replace h := h1
    clear h1
    have h0 : (Option.casesOn (tM .and q a b) .err fun n => qG n fun n => k (.int q n) : CRes) = .ret r H' := h
    cases hb : tM .and q a b with
    | none => rw [hb] at h0; cases h0
    | some n =>
      rw [hb] at h0
      have h2 : qG n (fun n => k (.int q n)) = .ret r H' := h0
      rw [aY] at h2
      refine ⟨_, ?_, h2⟩
      show (if q = q then (Option.casesOn (tM .and q a b) none (fun n => some (AV.int q n)) : Option AV) else none) = _
      rw [if_pos rfl, hb]
  | or =>
    obtain ⟨rfl, h1⟩ := same h
    replace h := h1
    clear h1
    have h0 : (Option.casesOn (tM .or q a b) .err fun n => qG n fun n => k (.int q n) : CRes) = .ret r H' := h
    cases hb : tM .or q a b with
    | none => rw [hb] at h0; cases h0
    | some n =>
      rw [hb] at h0
      have h2 : qG n (fun n => k (.int q n)) = .ret r H' := h0
      rw [aY] at h2
      refine ⟨_, ?_, h2⟩
      show (if q = q then (Option.casesOn (tM .or q a b) none (fun n => some (AV.int q n)) : Option AV) else none) = _
      rw [if_pos rfl, hb]
  | xor =>
    obtain ⟨rfl, h1⟩ := same h
    replace h := h1
    clear h1
    have h0 : (Option.casesOn (tM .xor q a b) .err fun n => qG n fun n => k (.int q n) : CRes) = .ret r H' := h
    cases hb : tM .xor q a b with
    | none => rw [hb] at h0; cases h0
    | some n =>
      rw [hb] at h0
      have h2 : qG n (fun n => k (.int q n)) = .ret r H' := h0
      rw [aY] at h2
      refine ⟨_, ?_, h2⟩
      show (if q = q then (Option.casesOn (tM .xor q a b) none (fun n => some (AV.int q n)) : Option AV) else none) = _
      rw [if_pos rfl, hb]
  | andNot =>
    obtain ⟨rfl, h1⟩ := same h
    replace h := h1
    clear h1
    have h0 : (Option.casesOn (tM .andNot q a b) .err fun n => qG n fun n => k (.int q n) : CRes) = .ret r H' := h
    cases hb : tM .andNot q a b with
    | none => rw [hb] at h0; cases h0
    | some n =>
      rw [hb] at h0
      have h2 : qG n (fun n => k (.int q n)) = .ret r H' := h0
      rw [aY] at h2
      refine ⟨_, ?_, h2⟩
      show (if q = q then (Option.casesOn (tM .andNot q a b) none (fun n => some (AV.int q n)) : Option AV) else none) = _
      rw [if_pos rfl, hb]
  | shl =>
    obtain ⟨n, rfl, hz⟩ := ab6 (a := b) h
    replace h := hz
    clear hz
    rw [bH] at h
    refine ⟨_, ?_, h⟩
    show Kg q (agM q a n) (fun r => some (AV.int q r)) = _
    exact nJ _ _ _
  | shr =>
    obtain ⟨n, rfl, hz⟩ := ab6 (a := b) h
    replace h := hz
    clear hz
    rw [aY] at h
    exact ⟨_, rfl, h⟩
  | eql =>
    obtain ⟨rfl, h1⟩ := same h
    replace h := Cy h1
    clear h1
    refine ⟨_, ?_, h⟩
    show (if q = q then some (AV.bool (eqF a b)) else none) = _
    rw [if_pos rfl]
  | neq =>
    obtain ⟨rfl, h1⟩ := same h
    replace h := Cy h1
    clear h1
    refine ⟨_, ?_, h⟩
    show (if q = q then (Bool.casesOn (eqF a b) (some (AV.bool true)) (some (AV.bool false)) : Option AV) else none) = _
    rw [if_pos rfl]; cases eqF a b <;> rfl
  | lss =>
    obtain ⟨rfl, h1⟩ := same h
    replace h := Cy h1
    clear h1
    refine ⟨_, ?_, h⟩
    show (if q = q then some (AV.bool (ltF a b)) else none) = _
    rw [if_pos rfl]
  | leq =>
    obtain ⟨rfl, h1⟩ := same h
    replace h := Cy h1
    clear h1
    refine ⟨_, ?_, h⟩
    show (if q = q then (Bool.casesOn (ltF b a) (some (AV.bool true)) (some (AV.bool false)) : Option AV) else none) = _
    rw [if_pos rfl]; cases ltF b a <;> rfl
  | gtr =>
    obtain ⟨rfl, h1⟩ := same h
    replace h := Cy h1
    clear h1
    refine ⟨_, ?_, h⟩
    show (if q = q then some (AV.bool (ltF b a)) else none) = _
    rw [if_pos rfl]
  | geq =>
    obtain ⟨rfl, h1⟩ := same h
    replace h := Cy h1
    clear h1
    refine ⟨_, ?_, h⟩
    show (if q = q then (Bool.casesOn (ltF a b) (some (AV.bool true)) (some (AV.bool false)) : Option AV) else none) = _
    rw [if_pos rfl]; cases ltF a b <;> rfl
theorem binX_inv {op : BinOp} {u v : AV} {k : AV → CRes} (h : binX op u v k = .ret r H') : ∃ w, binF op u v = some w ∧ k w = .ret r H' := by
  cases u with
  | int q a =>
    obtain ⟨q', b, rfl, hz⟩ := DZ (v := v) h
    replace h := hz
    clear hz
    exact asj h
  | str a =>
    obtain ⟨b, rfl, hz⟩ := afV (v := v) h
    replace h := hz
    clear hz
    cases op with
    | add =>
      have h0 : ifB (Nat.ble (Nat.add (mo a) (mo b)) 1099511627776) (Pd a b fun n => k (.str n)) .err = .ret r H' := h
      obtain ⟨h1, h2⟩ := oW h0
      rw [jG] at h2
      refine ⟨_, ?_, h2⟩
      show (Bool.casesOn (Nat.ble (Nat.add (mo a) (mo b)) 1099511627776) none (some (AV.str (Pd a b id))) : Option AV) = _
      rw [h1, jG]; rfl
    | eql =>
      have h1 := Cy (b := zb a b) h
      exact ⟨_, rfl, h1⟩
    | neq =>
      have h1 := Cy (b := jk (zb a b)) h
      exact ⟨_, by show some (AV.bool (!zb a b)) = some _; rw [← ca], h1⟩
    | _ => cases h
  | _ => cases h
theorem ash {o : AOp} {H : Heap} {k : AV → Heap → CRes} (h : opX o tm H k = .ret r H') : ∃ v H₁, opF o tm H = some (v, H₁) ∧ k v H₁ = .ret r H' := by
  cases o with
  | mov x =>
    obtain ⟨v, hv, h⟩ := fS h
    exact ⟨v, H, by simp only [opF]; rw [hv], h⟩
  | pick c a b =>
    obtain ⟨v, hv, h⟩ := fS h
    obtain ⟨t, rfl, hz⟩ := HX h
    replace h := hz
    clear hz
    cases t with
    | true =>
      obtain ⟨u, hu, h⟩ := fS (x := a) h
      exact ⟨u, H, by simp only [opF]; rw [hv]; dsimp only; rw [hu], h⟩
    | false =>
      obtain ⟨u, hu, h⟩ := fS (x := b) h
      exact ⟨u, H, by simp only [opF]; rw [hv]; dsimp only; rw [hu], h⟩
  | not x =>
    obtain ⟨v, hv, h⟩ := fS h
    obtain ⟨t, rfl, hz⟩ := HX h
    replace h := hz
    clear hz
    refine ⟨_, H, ?_, Cy h⟩
    simp only [opF]; rw [hv]; cases t <;> rfl
  | bin op x y =>
    obtain ⟨u, hu, h⟩ := fS h
    obtain ⟨v, hv, h⟩ := fS h
    obtain ⟨w, hw, h⟩ := binX_inv h
    exact ⟨w, H, by simp only [opF]; rw [hu]; dsimp only; rw [hv]; dsimp only; rw [hw], h⟩
  | eq e neg x y =>
    obtain ⟨u, hu, h⟩ := fS h
    obtain ⟨v, hv, h⟩ := fS h
    have fin : ∀ b, eqK e u v = some b → k (.bool (X7 neg b)) H = .ret r H' → ∃ v H₁, opF (.eq e neg x y) tm H = some (v, H₁) ∧ k v H₁ = .ret r H' := by
      intro b hb hk
      refine ⟨_, H, ?_, hk⟩
      simp only [opF]; rw [hu]; dsimp only; rw [hv]; dsimp only; rw [hb]; dsimp only; rw [ce]
    cases e with
    | nil n =>
      have h0 : X0 (.nil n) u v (fun r => fbX (X7 neg r) fun r => k r H) = .ret r H' := h
      obtain ⟨b, hb, h⟩ := afD h0
      exact fin b hb (Cy h)
    | bool =>
      obtain ⟨a, rfl, hz⟩ := HX (v := u) h
      replace h := hz
      clear hz
      obtain ⟨b, rfl, hz⟩ := HX (v := v) h
      replace h := hz
      clear hz
      exact fin (eqBB a b) (by rw [b9]; rfl) (Cy h)
    | plain ks =>
      have h0 : X0 (.plain ks) u v (fun r => fbX (X7 neg r) fun r => k r H) = .ret r H' := h
      obtain ⟨b, hb, h⟩ := afD h0
      exact fin b hb (Cy h)
  | conv q x =>
    obtain ⟨u, hu, h⟩ := fS h
    obtain ⟨_, n, rfl, hz⟩ := DZ h
    replace h := hz
    clear hz
    rw [bH] at h
    refine ⟨_, H, ?_, h⟩
    simp only [opF]; rw [hu]; exact nJ _ _ _
  | alloc z =>
    have h' : yA H (.cells z true 0) (fun b H' => k (.ptr b 0) H') = .ret r H' := h
    rw [sO] at h'
    exact ⟨_, _, by simp only [opF]; rw [Heap.newK_eq], h'⟩
  | box x =>
    obtain ⟨u, hu, h⟩ := fS h
    rcases Ug h with ⟨l, rfl, h5⟩ | ⟨h1, h2, h3, h⟩
    · replace h := h5
      rw [sO] at h
      exact ⟨_, _, by simp only [opF]; rw [hu]; dsimp only [FI]; rw [Heap.newK_eq]; rfl, h⟩
    · rw [sO] at h
      exact ⟨_, _, by simp only [opF]; rw [hu]; dsimp only; rw [h3, h2]; dsimp only; rw [Heap.newK_eq], h⟩
  | build z parts =>
    obtain ⟨ps, hp, h⟩ := ali h
    obtain ⟨l, hl, h⟩ := NL h
    exact ⟨_, H, by simp only [opF]; rw [hp, hl], h⟩
  | buildSlice len z parts =>
    obtain ⟨ps, hp, h⟩ := ali h
    obtain ⟨l, hl, h⟩ := NL h
    rw [sO] at h
    exact ⟨_, _, by simp only [opF]; rw [hp, hl]; dsimp only; rw [Heap.newK_eq], h⟩
  | load n agg x =>
    obtain ⟨u, hu, h⟩ := fS h
    obtain ⟨b, off, l, cs, v, rfl, hl, hc, hp, h⟩ := aby h
    exact ⟨v, H, by simp only [opF]; rw [hu]; dsimp only; rw [hl]; dsimp only; rw [hc]; dsimp only; rw [hp], h⟩
  | store n a x =>
    obtain ⟨a', ha, h⟩ := fS h
    obtain ⟨u, hu, h⟩ := fS h
    obtain ⟨b, off, rfl, h⟩ := Iw h
    obtain ⟨l, g, h, ho⟩ := ap8 h
    have fin : FI u = true → mo u.cells = n → off + n ≤ l.length → k .undef (H.set b (.cells (xF u.cells l off) true g)) = .ret r H' → ∃ v H₁, opF (.store n a x) tm H = some (v, H₁) ∧ k v H₁ = .ret r H' := by
      intro e1 e2 e3 e4
      refine ⟨_, _, ?_, e4⟩
      simp only [opF]; rw [ha]; dsimp only; rw [hu]; dsimp only; rw [ho]
      have h2 : (FI u && mo u.cells == n && Nat.ble (off + n) (mo l)) = true := by
        rw [e1, e2, jM l]; simp [e3]
      rw [h2]; dsimp only; rw [pB, Heap.setK_eq]
    rcases Ug h with ⟨cs, rfl, h5⟩ | ⟨h1, h2, h3, h⟩
    · obtain ⟨hn, h⟩ := oW h5
      have hn := Nat.eq_of_beq_eq_true hn
      rw [aaD] at h
      obtain ⟨hl, h⟩ := abs h
      rw [Jy] at h
      exact fin rfl hn (by rw [← hn, jM]; exact hl) h
    · obtain ⟨hn, h⟩ := oW h
      have hn := Nat.eq_of_beq_eq_true hn
      rw [Yy] at h
      obtain ⟨hl, h⟩ := abs h
      rw [Jy] at h
      refine fin h3 (by rw [h2]; exact hn) (by omega) ?_
      rw [h2]; exact h
  | nilchk x =>
    obtain ⟨u, hu, h⟩ := fS h
    obtain ⟨h1, h⟩ := ah6 h
    refine ⟨u, H, ?_, h⟩
    simp only [opF]; rw [hu]
    rcases h1 with ⟨b, o, rfl⟩ | ⟨f, a, c, rfl⟩ <;> rfl
  | fa d x =>
    obtain ⟨u, hu, h⟩ := fS h
    obtain ⟨b, off, rfl, hz⟩ := Iw h
    replace h := hz
    clear hz
    rw [aQ] at h
    exact ⟨_, H, by simp only [opF]; rw [hu]; rfl, h⟩
  | iaS sz x i =>
    obtain ⟨u, hu, h⟩ := fS h
    obtain ⟨v, hv, h⟩ := fS h
    obtain ⟨_, i, rfl, hz⟩ := DZ h
    replace h := hz
    clear hz
    obtain ⟨b, off, l, e, p, rfl, hz⟩ := am4 h
    replace h := hz
    clear hz
    obtain ⟨j, rfl, hz⟩ := ab6 h
    replace h := hz
    clear hz
    obtain ⟨h1, h⟩ := oW h
    rw [aQ] at h
    exact ⟨_, H, by simp only [opF]; rw [hu]; dsimp only; rw [hv]; dsimp only; rw [uc, h1]; rfl, h⟩
  | iaA sz len x i =>
    obtain ⟨u, hu, h⟩ := fS h
    obtain ⟨v, hv, h⟩ := fS h
    obtain ⟨_, i, rfl, hz⟩ := DZ h
    replace h := hz
    clear hz
    obtain ⟨b, off, rfl, hz⟩ := Iw h
    replace h := hz
    clear hz
    obtain ⟨j, rfl, hz⟩ := ab6 h
    replace h := hz
    clear hz
    obtain ⟨h1, h⟩ := oW h
    rw [aQ] at h
    exact ⟨_, H, by simp only [opF]; rw [hu]; dsimp only; rw [hv]; dsimp only; rw [uc, h1]; rfl, h⟩
  | idxA sz len agg x i =>
    obtain ⟨u, hu, h⟩ := fS h
    obtain ⟨v, hv, h⟩ := fS h
    obtain ⟨_, i, rfl, hz⟩ := DZ h
    replace h := hz
    clear hz
    obtain ⟨cs, rfl, hz⟩ := anh h
    replace h := hz
    clear hz
    obtain ⟨j, rfl, hz⟩ := ab6 h
    replace h := hz
    clear hz
    obtain ⟨h1, h⟩ := oW h
    rw [aQ] at h
    obtain ⟨l, hl, h⟩ := la h
    obtain ⟨w, hw, h⟩ := la h
    have hl' : sub cs (j * sz) sz = some l := hl
    exact ⟨w, H, by simp only [opF]; rw [hu]; dsimp only; rw [hv]; dsimp only; rw [uc, h1]; dsimp only; rw [hl']; dsimp only; rw [hw], h⟩
  | idxS x i =>
    obtain ⟨u, hu, h⟩ := fS h
    obtain ⟨v, hv, h⟩ := fS h
    obtain ⟨s, rfl, hz⟩ := afV h
    replace h := hz
    clear hz
    obtain ⟨_, i, rfl, hz⟩ := DZ h
    replace h := hz
    clear hz
    obtain ⟨j, rfl, hz⟩ := ab6 h
    replace h := hz
    clear hz
    obtain ⟨c, hc, h⟩ := la h
    rw [aQ] at h
    exact ⟨_, H, by simp only [opF]; rw [hu]; dsimp only; rw [hv]; dsimp only; rw [uc, hc]; rfl, h⟩
  | sl sk x lo hi mx =>
    obtain ⟨u, hu, h⟩ := fS h
    obtain ⟨lo', h1, h⟩ := akx h
    obtain ⟨hi', h2, h⟩ := akx h
    obtain ⟨mx', h3, h⟩ := akx h
    obtain ⟨v, hv, h⟩ := la h
    rw [ba] at h
    exact ⟨v, H, by simp only [opF]; rw [hu]; dsimp only; rw [ar1 h1 h2 h3, hv], h⟩
  | ext ix x =>
    obtain ⟨u, hu, h⟩ := fS h
    obtain ⟨vs, v, rfl, hv, hz⟩ := extK_inv h
    replace h := hz
    clear hz
    exact ⟨v, H, by simp only [opF]; rw [hu]; dsimp only; rw [hv], h⟩
  | mkfunc f a c =>
    obtain ⟨va, ha, h⟩ := Zo h
    obtain ⟨cs, hc, h⟩ := Zo h
    exact ⟨_, H, by simp only [opF]; rw [ha]; dsimp only; rw [hc], h⟩
  | mkmap =>
    have h' : yA H (.mp []) (fun b H' => k (.map b) H') = .ret r H' := h
    rw [sO] at h'
    exact ⟨_, _, by simp only [opF]; rw [Heap.newK_eq], h'⟩
  | mk z len cap =>
    obtain ⟨u, hu, h⟩ := fS h
    obtain ⟨v, hv, h⟩ := fS h
    obtain ⟨_, l, rfl, hz⟩ := DZ h
    replace h := hz
    clear hz
    obtain ⟨_, c, rfl, hz⟩ := DZ h
    replace h := hz
    clear hz
    obtain ⟨l, rfl, hz⟩ := ab6 h
    replace h := hz
    clear hz
    obtain ⟨c, rfl, hz⟩ := ab6 h
    replace h := hz
    clear hz
    obtain ⟨h1, h⟩ := oW h
    rw [sO, aQ] at h
    rw [b7] at h1
    exact ⟨_, _, by simp only [opF]; rw [hu]; dsimp only; rw [hv]; dsimp only; rw [uc, uc, h1]; dsimp only; rw [Heap.newK_eq]; rfl, h⟩
  | lookup kk z ok m key =>
    obtain ⟨u, hu, h⟩ := fS h
    obtain ⟨v, hv, h⟩ := fS h
    obtain ⟨es, hes, h⟩ := la h
    obtain ⟨e1, he, h⟩ := la h
    obtain ⟨w, hw, h⟩ := la h
    have pre : ∀ {β : AV × Heap}, (Option.casesOn w (some (if ok then .tuple [z, .bool false] else z, H)) fun x => some (if ok then .tuple [x, .bool true] else x, H) : Option (AV × Heap)) = some β → opF (.lookup kk z ok m key) tm H = some β := by
      intro β hβ
      simp only [opF]; rw [hu]; dsimp only; rw [hv]
      cases u with
      | map b =>
        have hes' : xg H b = some es := hes
        dsimp only; rw [hes']; dsimp only; rw [he]; dsimp only; rw [hw]; exact hβ
      | nilmap =>
        have hes' : some [] = some es := hes
        cases hes'
        dsimp only; rw [he]; dsimp only; rw [hw]; exact hβ
      | _ => cases hes
    cases w with
    | none => cases ok <;> exact ⟨_, H, pre rfl, h⟩
    | some x => cases ok <;> exact ⟨_, H, pre rfl, h⟩
  | mapset kk m key x =>
    obtain ⟨u, hu, h⟩ := fS h
    obtain ⟨v, hv, h⟩ := fS h
    obtain ⟨y, hy, h⟩ := fS h
    obtain ⟨b, rfl, hz⟩ := amY h
    replace h := hz
    clear hz
    obtain ⟨h1, h⟩ := N7 h
    obtain ⟨es, hes, h⟩ := la h
    obtain ⟨e1, he, h⟩ := la h
    obtain ⟨es', hp, h⟩ := la h
    rw [Jy] at h
    exact ⟨_, _, by simp only [opF]; rw [hu]; dsimp only; rw [hv]; dsimp only; rw [hy]; dsimp only; rw [h1]; dsimp only; rw [hes]; dsimp only; rw [he]; dsimp only; rw [hp]; dsimp only; rw [Heap.setK_eq], h⟩
  | mapdel kk m key =>
    obtain ⟨u, hu, h⟩ := fS h
    obtain ⟨v, hv, h⟩ := fS h
    obtain ⟨H₁, h1, h⟩ := la h
    refine ⟨_, H₁, ?_, h⟩
    obtain ⟨e1, he, h2⟩ := cL h1
    clear h1
    simp only [opF]; rw [hu]; dsimp only; rw [hv]; dsimp only; rw [he]; dsimp only
    cases u with
    | map b =>
      have h1 : (Bool.casesOn (Nat.blt b H.ro) (Option.casesOn (xg H b) none fun es => Option.casesOn (delF kk v es) none fun es' => H.setK b (.mp es') some) none : Option Heap) = some H₁ := h2
      cases hb : Nat.blt b H.ro with
      | true => rw [hb] at h1; cases h1
      | false =>
        rw [hb] at h1
        obtain ⟨es, hes, h2⟩ := cL h1
        obtain ⟨es', hp, h3⟩ := cL h2
        rw [Heap.setK_eq] at h3
        cases h3
        dsimp only; rw [hes]; dsimp only; rw [hp]; dsimp only; rw [Heap.setK_eq, hb]
    | nilmap =>
      have h1 : some H = some H₁ := h2
      cases h1; rfl
    | _ => cases h2
  | len lk x =>
    obtain ⟨u, hu, h⟩ := fS h
    cases lk with
    | str =>
      obtain ⟨s, rfl, hz⟩ := afV h
      replace h := hz
      clear hz
      have h' : mN (mo s) (fun n => k (.int .i64 (.ofNat n)) H) = .ret r H' := h
      rw [aQ] at h'
      exact ⟨_, H, by simp only [opF]; rw [hu], h'⟩
    | arr n => exact ⟨_, H, by simp only [opF]; rw [hu]; try rfl, h⟩
    | sl =>
      have h' : jb u (fun n => k (.int .i64 n) H) = .ret r H' := h
      cases u <;> first | exact ⟨_, H, by simp only [opF]; rw [hu]; try rfl, h'⟩ | cases h'
    | mp =>
      have h' : oC (amN H u) (fun es => mN (mo es) fun n => k (.int .i64 (.ofNat n)) H) = .ret r H' := h
      obtain ⟨es, hes, h2⟩ := la h'
      rw [aQ] at h2
      cases u with
      | map b =>
        have hes' : xg H b = some es := hes
        exact ⟨_, H, by simp only [opF]; rw [hu]; dsimp only; rw [hes'], h2⟩
      | nilmap =>
        have hes' : some [] = some es := hes
        cases hes'
        exact ⟨_, H, by simp only [opF]; rw [hu]; try rfl, h2⟩
      | _ => cases hes
  | minmax mx xs =>
    obtain ⟨vs, hv, h⟩ := Zo h
    cases vs with
    | nil => cases h
    | cons v vs =>
      obtain ⟨w, hw, h⟩ := la h
      exact ⟨w, H, by simp only [opF]; rw [hv]; dsimp only; rw [hw], h⟩
  | append sz s x =>
    obtain ⟨u, hu, h⟩ := fS h
    obtain ⟨v, hv, h⟩ := fS h
    obtain ⟨w, H₁, hw, h⟩ := Tq h
    rw [ba, bc] at h
    exact ⟨w, H₁, by simp only [opF]; rw [hu]; dsimp only; rw [hv]; exact hw, h⟩
  | copy sz d x =>
    obtain ⟨u, hu, h⟩ := fS h
    obtain ⟨v, hv, h⟩ := fS h
    obtain ⟨w, H₁, hw, h⟩ := Tq h
    exact ⟨w, H₁, by simp only [opF]; rw [hu]; dsimp only; rw [hv]; exact hw, h⟩
  | clear z x =>
    obtain ⟨u, hu, h⟩ := fS h
    obtain ⟨w, H₁, hw, h⟩ := Tq h
    have hw' : w = .undef := by
      have h1 := hw
      unfold U5 at h1
      split at h1
      · cases h1; rfl
      · cases h1; rfl
      · cases h1; rfl
      · split at h1
        · cases h1; rfl
        · obtain ⟨_, l, g, _, h2⟩ := NB h1
          obtain ⟨_, h3⟩ := mM h2
          rw [pB, Heap.setK_eq] at h3
          cases h3; rfl
      · cases h1
    subst hw'
    exact ⟨_, H₁, by simp only [opF]; rw [hu]; exact hw, h⟩
end
end Go.Ai
