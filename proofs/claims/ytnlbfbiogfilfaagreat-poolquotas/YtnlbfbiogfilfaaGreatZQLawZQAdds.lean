/- What is taken, with its uses: what a pool keeps of it; how much is free. -/
import Derived.Test.YtnlbfbiogfilfaaGreatZUPoolNewZUInv
set_option linter.all false
namespace Go.Proofs.YtnlbfbiogfilfaaGreat.Sh
open Go.Ai
theorem aj5 {s s' : BudZ} (h : s.free = s'.free) : ∀ n, lf s n = lf s' n
  | 0 => rfl
  | n + 1 => by rw [lf, lf, aj5 h n, h]
theorem aqx {s : BudZ} {o k : Nat} {a : Int} {rest : List Int} (hok : o ≤ k) (hx : s.free k = a :: rest) (hemp : ∀ j, o ≤ j → j < k → s.free j = []) :
    ∀ n, (n ≤ o → lf (xI s o k o a rest) n = lf s n) ∧ (o ≤ n → n ≤ k → lf (xI s o k o a rest) n + 2 ^ o = lf s n + 2 ^ n) ∧ (k < n → lf (xI s o k o a rest) n + 2 ^ o = lf s n) := by
  intro n
  induction n with
  | zero =>
    refine ⟨fun _ => rfl, fun h1 _ => ?_, fun h => by omega⟩
    have : o = 0 := by omega
    subst this; rfl
  | succ n ih =>
    obtain ⟨i1, i2, i3⟩ := ih
    have fr : (xI s o k o a rest).free n = if n = k then rest else if o ≤ n ∧ n < k then [a + 2 ^ n] else s.free n := rfl
    refine ⟨fun h => ?_, fun h1 h2 => ?_, fun h => ?_⟩
    · rw [lf, lf, i1 (by omega), fr, if_neg (by omega), if_neg (by omega)]
    · by_cases h3 : n + 1 = o
      · rw [← h3] at i1 ⊢
        rw [lf, lf, i1 (by omega)]
        subst h3
        rw [fr, if_neg (by omega), if_neg (by omega)]
      · have j := i2 (by omega) (by omega)
        rw [lf, lf, fr, if_neg (by omega), if_pos (by omega), hemp n (by omega) (by omega), List.length_singleton, List.length_nil, Nat.pow_succ]
        omega
    · by_cases h3 : n = k
      · subst h3
        have j := i2 (by omega) (by omega)
        rw [lf, lf, fr, if_pos rfl, hx, List.length_cons, Nat.add_mul]
        omega
      · have j := i3 (by omega)
        rw [lf, lf, fr, if_neg h3, if_neg (by omega)]
        omega
theorem aqi {z : PoolZ} {i o u k : Nat} {a : Int} {rest : List Int} (hok : o ≤ k) (hk : k < 7) (hx : (z.buds i).free k = a :: rest) (hemp : ∀ j, o ≤ j → j < k → (z.buds i).free j = []) :
    sV (aei z i o u k a rest) i + 2 ^ o = sV z i ∧ ∀ j, j ≠ i → sV (aei z i o u k a rest) j = sV z j := by
  constructor
  · show lf (upd z.buds i _ i) 7 + 2 ^ o = _
    rw [gx]
    refine Eq.trans (congrArg (fun x => x + 2 ^ o) (aj5 (s' := xI (z.buds i) o k o a rest) rfl 7)) ?_
    exact (aqx hok hx hemp 7).2.2 hk
  · intro j hj
    show lf (upd z.buds i _ j) 7 = _
    rw [ga _ _ hj]
def Et (f : Nat → Nat) : Nat → Nat
  | 0 => 0
  | n + 1 => Et f n + f n
theorem aqj {f f' : Nat → Nat} {i d : Nat} (h1 : f' i + d = f i) (h2 : ∀ j, j ≠ i → f' j = f j) : ∀ n, (n ≤ i → Et f' n = Et f n) ∧ (i < n → Et f' n + d = Et f n)
  | 0 => ⟨fun _ => rfl, fun h => by omega⟩
  | n + 1 => by
    obtain ⟨a, b⟩ := aqj h1 h2 n
    refine ⟨fun h => by rw [Et, Et, a (by omega), h2 n (by omega)], fun h => ?_⟩
    by_cases e : n = i
    · subst e; rw [Et, Et, a (Nat.le_refl _)]; omega
    · have := b (by omega); rw [Et, Et, h2 n e]; omega
theorem apq {f : Nat → Nat} : ∀ n, 0 < Et f n → ∃ j, j < n ∧ 0 < f j
  | 0, h => by simp [Et] at h
  | n + 1, h => by
    rw [Et] at h
    by_cases e : 0 < f n
    · exact ⟨n, by omega, e⟩
    · obtain ⟨j, h1, h2⟩ := apq (f := f) n (by omega)
      exact ⟨j, by omega, h2⟩
theorem alD {f : Nat → Nat} {b : Nat} : ∀ n, (∀ j, j < n → f j = b) → Et f n = n * b
  | 0, _ => by simp [Et]
  | n + 1, h => by rw [Et, alD n fun j hj => h j (by omega), h n (by omega), Nat.add_mul]; omega
def pX (L : List (Int × Int)) (u : Int) : Nat := L.countP fun e => decide (e.2 = u)
theorem ahW (L M : List (Int × Int)) (u : Int) : pX (L ++ M) u = pX L u + pX M u := by simp [pX]
theorem ajB (l : List Int) (v u : Int) : pX (l.map fun f => (f, v)) u = if v = u then l.length else 0 := by
  induction l with
  | nil => simp [pX]
  | cons a t ih =>
    have : pX ((a :: t).map fun f => (f, v)) u = pX (t.map fun f => (f, v)) u + (if v = u then 1 else 0) := by simp [pX, List.countP_cons]
    rw [this, ih]
    by_cases e : v = u <;> simp [e]
theorem aj1 : ∀ (L : List (Int × Int)), (∀ e ∈ L, 1 ≤ e.2 ∧ e.2 ≤ 6) → pX L 1 + pX L 2 + pX L 3 + pX L 4 + pX L 5 + pX L 6 = L.length
  | [], _ => rfl
  | e :: t, h => by
    have ih := aj1 t fun x hx => h x (List.mem_cons_of_mem _ hx)
    have he := h e (List.mem_cons_self ..)
    have c : ∀ u, pX (e :: t) u = pX t u + if e.2 = u then 1 else 0 := fun u => by simp [pX, List.countP_cons]
    rw [c, c, c, c, c, c, List.length_cons, ← ih]
    have : e.2 = 1 ∨ e.2 = 2 ∨ e.2 = 3 ∨ e.2 = 4 ∨ e.2 = 5 ∨ e.2 = 6 := by omega
    rcases this with h | h | h | h | h | h <;> simp [h] <;> omega
theorem aqf {k x : Int} : ∀ {kv : List (Int × Int)}, k ∉ kv.map (·.1) → adH k x kv = kv ++ [(k, x)]
  | [], _ => rfl
  | e :: t, h => by
    rw [List.map_cons, List.mem_cons, not_or] at h
    rw [adH, if_neg h.1, aqf h.2]; rfl
theorem anj {u : Int} : ∀ {l : List Int} {kv : List (Int × Int)}, (kv.map (·.1) ++ l).Nodup → amV u l kv = kv ++ l.map fun f => (f, u)
  | [], kv, _ => by simp [amV]
  | f :: l, kv, h => by
    have h1 : f ∉ kv.map (·.1) := fun hm => by
      have := (List.nodup_append.1 h).2.2 f hm f (List.mem_cons_self ..)
      exact this rfl
    show amV u l (adH f u kv) = _
    rw [aqf h1, anj (by simpa using h)]
    simp
structure InvQ (zc : CfgZ) (p : Nat) (L : List (Int × Int)) (z : PoolZ) : Prop where
  inv : Inv zc p (L.map (·.1)) z
  uses : z.uses = L
  cnt : ∀ u : Nat, u < 7 → z.counts u = (pX L u : Int)
  rng : ∀ e ∈ L, 1 ≤ e.2 ∧ e.2 ≤ 6
  sum : (Et (sV z) z.mine.length : Int) + L.length = s8 zc p
  quota : z.quota = nh (c0 zc p)
  total : z.total = s8 zc p
  order : z.order = (c0 zc p).order
theorem ani {zc : CfgZ} {p : Nat} (hm : RB zc = true) (po : PartOk zc p) {bs : Nat → BudZ} (h : ∀ j, j < (c0 zc p).cols.length → ∃ o, Making (Dh zc (nz (c0 zc p).cols j)) (Dh zc (nz (c0 zc p).cols j)) o (bs j)) :
    ∀ j, j < (c0 zc p).cols.length → sV (YZ zc p bs) j = (zc.frames / zc.colours).toNat := by
  intro j hj
  obtain ⟨o, mk⟩ := h j hj
  have h2 : sV (YZ zc p bs) j = Dh zc (nz (c0 zc p).cols j) := mk.sum
  rw [h2]
  unfold Dh cntI
  obtain ⟨n1, n2⟩ := po.nz hj
  simp only [RB, Bool.and_eq_true] at hm
  have hm := hm.1
  simp only [pV, Bool.and_eq_true] at hm
  obtain ⟨_, hf, hd, _⟩ := hm
  have hco := po.co
  simp [db] at hco hf
  simp at hd
  rw [Int.tmod_eq_emod_of_nonneg (by omega)] at hd
  congr 1
  obtain ⟨k, hk⟩ := Int.dvd_of_emod_eq_zero hd
  generalize hx : nz (c0 zc p).cols j = x at *
  rw [hk, Int.mul_ediv_cancel_left _ (by omega)]
  rw [show zc.colours * k - x + zc.colours - 1 = (zc.colours - 1 - x) + zc.colours * k by omega, Int.add_mul_ediv_left _ _ (by omega), Int.ediv_eq_zero_of_lt (by omega) (by omega)]
  omega
theorem aoe {zc : CfgZ} (h1 : db zc.frames 1 4096 = true) (h2 : db zc.colours 1 16 = true) : akE zc = zc.frames / zc.colours ∧ 0 ≤ zc.frames / zc.colours ∧ zc.frames / zc.colours ≤ 4096 := by
  simp [db] at h1 h2
  have h3 : 0 ≤ zc.frames / zc.colours := Int.ediv_nonneg (by omega) (by omega)
  have h4 : zc.frames / zc.colours ≤ zc.frames := Int.ediv_le_self _ (by omega)
  refine ⟨?_, h3, by omega⟩
  unfold akE
  rw [Int.tdiv_eq_ediv_of_nonneg (by omega), lJ (by omega) (by omega)]
theorem OQ {zc : CfgZ} {p : Nat} (po : PartOk zc p) : s8 zc p = (c0 zc p).cols.length * (zc.frames / zc.colours) ∧ 0 ≤ s8 zc p ∧ s8 zc p ≤ 65536 := by
  obtain ⟨e1, e2, e3⟩ := aoe po.fr po.co
  have hl := po.few
  have h4 : ((c0 zc p).cols.length : Int) * (zc.frames / zc.colours) ≤ 16 * 4096 := Int.mul_le_mul (by omega) e3 e2 (by omega)
  have h5 : 0 ≤ ((c0 zc p).cols.length : Int) * (zc.frames / zc.colours) := Int.mul_nonneg (by omega) e2
  unfold s8
  rw [e1, lJ (by omega) (by omega)]
  exact ⟨rfl, h5, by omega⟩
theorem InvQ.new {zc : CfgZ} {p : Nat} (hm : RB zc = true) (po : PartOk zc p) {bs : Nat → BudZ} (h : ∀ j, j < (c0 zc p).cols.length → ∃ o, Making (Dh zc (nz (c0 zc p).cols j)) (Dh zc (nz (c0 zc p).cols j)) o (bs j)) : InvQ zc p [] (YZ zc p bs) := by
  refine ⟨Inv.new h, rfl, fun u _ => rfl, fun e he => (nomatch he), ?_, rfl, rfl, rfl⟩
  obtain ⟨t1, t2, _⟩ := OQ po
  obtain ⟨_, e2, _⟩ := aoe po.fr po.co
  have : Et (sV (YZ zc p bs)) (YZ zc p bs).mine.length = (c0 zc p).cols.length * (zc.frames / zc.colours).toNat := alD _ (ani hm po h)
  rw [this, t1]
  simp
  rw [Int.max_eq_left e2]
theorem InvQ.step {zc : CfgZ} {p : Nat} {L : List (Int × Int)} {z : PoolZ} (v : InvQ zc p L z) (po : PartOk zc p) {i o u k : Nat} {a : Int} {rest : List Int} (hu : 1 ≤ u ∧ u ≤ 6) (hi : i < z.mine.length) (ho : o < 7) (hok : o ≤ k) (hk : k < 7) (hx : (z.buds i).free k = a :: rest)
    (hemp : ∀ j, o ≤ j → j < k → (z.buds i).free j = []) : InvQ zc p (L ++ (ld z.colours (nz z.mine i) a (2 ^ o)).map fun f => (f, (u : Int))) (aei z i o u k a rest) := by
  have hs := v.inv.step po (u := u) hi ho hok hk hx hemp
  have hL : (L ++ (ld z.colours (nz z.mine i) a (2 ^ o)).map fun f => (f, (u : Int))).map (·.1) = L.map (·.1) ++ ld z.colours (nz z.mine i) a (2 ^ o) := by simp [Function.comp_def]
  obtain ⟨f1, f2⟩ := aqi (u := u) hok hk hx hemp
  refine ⟨by rw [hL]; exact hs, ?_, fun w hw => ?_, fun e he => ?_, ?_, v.quota, v.total, v.order⟩
  · show amV u _ z.uses = _
    rw [v.uses]
    exact anj hs.nodup
  · rw [ahW, ajB, sD]
    show upd z.counts u (z.counts u + ((2 ^ o : Nat) : Int)) w = _
    by_cases e : w = u
    · subst e; rw [gx, v.cnt w hw, if_pos rfl]; simp
    · rw [ga _ _ e, v.cnt w hw, if_neg (fun h => e (by omega))]; simp
  · rcases List.mem_append.1 he with he | he
    · exact v.rng e he
    · obtain ⟨f, _, rfl⟩ := List.mem_map.1 he
      dsimp only; omega
  · have h1 := (aqj (d := 2 ^ o) f1 f2 z.mine.length).2 hi
    have h2 := v.sum
    show (Et (sV (aei z i o u k a rest)) z.mine.length : Int) + _ = _
    rw [List.length_append, List.length_map, sD]
    generalize 2 ^ o = D at *
    omega
end Go.Proofs.YtnlbfbiogfilfaaGreat.Sh
/- Small functions of the statements; what a pool tells: counts, and what is owned. -/
namespace Go.Proofs.YtnlbfbiogfilfaaGreat.Sh
open Go.Ai
def alq (x : PartZ) : Nat → Int
  | 1 => 8
  | u => nh x u
theorem ar2 {n : Nat} {h : Heap} {x : PartZ} {s : AV} {u : Nat} (hu : u < 7) : Run1 (d6 n (.agg (yW x s)) (u : Int) h) fun r h' => r = alq x u ∧ Grow h h' := by
  unfold d6 xj xu
  refine Run1.bind (xT ..) ?_
  rintro b h1 ⟨hb, g⟩
  have hb7 : ∀ K, wa [.int .i64 0, .int .i64 0, .int .i64 0, .int .i64 0, .int .i64 0, .int .i64 0, .int .i64 0] [(1, 1, .int .i64 8), (2, 1, .int .i64 x.user), (3, 1, .int .i64 x.tables), (4, 1, .int .i64 x.spaces), (5, 1, .int .i64 x.regions), (6, 1, .int .i64 x.records)] K =
      K (.agg [.int .i64 0, .int .i64 8, .int .i64 x.user, .int .i64 x.tables, .int .i64 x.spaces, .int .i64 x.regions, .int .i64 x.records]) := fun K => rfl
  have hi : ∀ K, Xc 1 7 false (.agg [.int .i64 0, .int .i64 8, .int .i64 x.user, .int .i64 x.tables, .int .i64 x.spaces, .int .i64 x.regions, .int .i64 x.records]) (u : Int) K = K (.int .i64 (alq x u)) := by
    intro K
    rw [anN (n := 7) rfl hu]
    match u, hu with
    | 0, _ => rfl | 1, _ => rfl | 2, _ => rfl | 3, _ => rfl | 4, _ => rfl | 5, _ => rfl | 6, _ => rfl
  simp only [aQ, aY, ba, bc, ca, b7, b9, ce, bH, ci, cb, cd, cy, cB, bG, bu, bX, b8, bK, aU, be, aN, bA, bz, aO, aK, aS, cg, cI, bM, aR, aV, cm, cn, bN, bO, bL, bP, bC, bB, bQ, List.getElem?_cons_zero, List.getElem?_cons_succ, Nat.zero_add, Nat.reduceAdd, Nat.add_zero, bU hb, eR, eS, eV, eT, eU, hb7, hi]
  exact kZ ⟨rfl, g⟩
theorem v_has_1 {n : Nat} {h : Heap} {v : AV} {l : List Int} {x : Int} (hv : Ints h .i64 v l) (hx : x ∈ l) : ∀ (q i : Nat), (∀ j, j < i → nz l j ≠ x) → i ≤ l.length → l.length - i < q →
    Run1 (fun k => nO n k q v x (i : Int) h) fun r h' => r = true ∧ h' = h := by
  intro q
  induction q with
  | zero => omega
  | succ q ih =>
    intro i hno hi hq
    simp only [Vn]
    unfold rf
    simp only [hv.len]
    have hs := hv.small
    refine RunG.ifB (fun e => ?_) fun e => ?_
    · simp at e
      simp only [aQ, aY, ba, bc, ca, b7, b9, ce, bH, ci, cb, cd, cy, cB, bG, bu, bX, b8, bK, aU, be, aN, bA, bz, aO, aK, aS, cg, cI, bM, aR, aV, cm, cn, bN, bO, bL, bP, bC, bB, bQ, List.getElem?_cons_zero, List.getElem?_cons_succ, Nat.zero_add, Nat.reduceAdd, Nat.add_zero, hv.elN e, iT (show i ≤ 9223372036854775806 by omega)]
      refine RunG.ifB (fun _ => kZ ⟨rfl, rfl⟩) fun e2 => ?_
      simp at e2
      refine ih (i + 1) (fun j hj => ?_) (by omega) (by omega)
      by_cases ej : j = i
      · subst ej; exact e2
      · exact hno j (by omega)
    · exfalso
      simp at e
      obtain ⟨j, hj, rfl⟩ := List.mem_iff_getElem.1 hx
      exact hno j (by omega) (s9 hj)
theorem v_has {n : Nat} {h : Heap} {v : AV} {l : List Int} {x : Int} (hn : l.length < n) (hv : Ints h .i64 v l) (hx : x ∈ l) : Run1 (dm n v x h) fun r h' => r = true ∧ h' = h := by
  unfold dm zr zi
  exact v_has_1 hv hx n 0 (fun j hj => by omega) (by omega) (by omega)
theorem asu {h : Heap} {b : Nat} {q : IntKind} {kv : List (Int × Int)} (a : MapI h b q kv) (c : Int → CRes) : akg h (.map b) c = c kv.length := by
  unfold akg
  have : amN h (.map b) = some (kv.map fun e => (AV.int .i64 e.1, AV.int q e.2)) := by
    show xg h b = _
    unfold xg; rw [a.get]
  rw [this, bX, aQ, jM, List.length_map]; rfl
def Ao (z : PoolZ) : List AV := [.int .i64 (z.counts 0), .int .i64 (z.counts 1), .int .i64 (z.counts 2), .int .i64 (z.counts 3), .int .i64 (z.counts 4), .int .i64 (z.counts 5), .int .i64 (z.counts 6)]
theorem akD (z : PoolZ) (vm vb : AV) (mu : Nat) : (yT z vm vb mu)[12]? = some (.map mu) := rfl
theorem arc (z : PoolZ) (vm vb : AV) (mu : Nat) : sub (yT z vm vb mu) 13 7 = some (Ao z) := by rw [pM]; rfl
theorem apr {l : List AV} (hl : l.length = 7) : sub l 0 7 = some l := by rw [pM, List.drop_zero, if_pos (by omega), ← hl, List.take_length]
theorem v_Counts {n : Nat} {h : Heap} (hro : h.ro ≤ h.nx) {w : PoolP} {z : PoolZ} (b : PoolIn h w z) (ht : 0 ≤ z.total ∧ z.total ≤ 65536) (hu : z.uses.length ≤ 1000000) :
    Run1 (lV n (.ptr w.p 0) h) fun r h' => r = .agg ((Ao z).set 0 (.int .i64 (z.total - z.uses.length))) ∧ Grow h h' := by
  unfold lV Bg A9
  refine Run1.bind (ah2 hro _ 0) ?_
  rintro x0 h1 ⟨hx0, o0, g1⟩
  have b1 := b.grow g1
  simp only [aQ, aY, ba, bc, ca, b7, b9, ce, bH, ci, cb, cd, cy, cB, bG, bu, bX, b8, bK, aU, be, aN, bA, bz, aO, aK, aS, cg, cI, bM, aR, aV, cm, cn, bN, bO, bL, bP, bC, bB, bQ, List.getElem?_cons_zero, List.getElem?_cons_succ, Nat.zero_add, Nat.reduceAdd, Nat.add_zero, aaG b1, Bool.not_true, bU b1.own.cl, arc]
  have hro1 := g1.le hro
  refine Run1.bind (ah2 hro1 _ 0) ?_
  rintro x9 h10 ⟨hx9, o9, g10⟩
  refine Run0.bind (Va o9 (cs := Ao z) rfl (by simp [Ao])) ?_
  intro h11 p11
  rw [Uf (Ao z) _ (by rfl)] at p11
  have g11 : Grow h1 h11 := p11.grow g10 hx9
  have b11 := b1.grow g11
  have w1 : IntKind.i64.wrap (z.total - (z.uses.length : Int)) = z.total - z.uses.length := lJ (by omega) (by omega)
  have i0 : ∀ c, KG 1 7 (.ptr x9 0) 0 c = c (.ptr x9 (0 + 0)) := fun c => Rx (n := 7) (k := 0) (by omega) c
  simp only [aQ, aY, ba, bc, ca, b7, b9, ce, bH, ci, cb, cd, cy, cB, bG, bu, bX, b8, bK, aU, be, aN, bA, bz, aO, aK, aS, cg, cI, bM, aR, aV, cm, cn, bN, bO, bL, bP, bC, bB, bQ, List.getElem?_cons_zero, List.getElem?_cons_succ, Nat.zero_add, Nat.reduceAdd, Nat.add_zero, bU b11.own.cl, pool_10, akD, asu b11.uses, w1, i0]
  refine Run0.bind (JN p11.own (by simp [Ao]) rfl) ?_
  intro h19 p19
  have o19 := p19.own
  have l19 : ((Ao z).set 0 (.int .i64 (z.total - (z.uses.length : Int)))).length = 7 := rfl
  simp only [aQ, aY, ba, bc, ca, b7, b9, ce, bH, ci, cb, cd, cy, cB, bG, bu, bX, b8, bK, aU, be, aN, bA, bz, aO, aK, aS, cg, cI, bM, aR, aV, cm, cn, bN, bO, bL, bP, bC, bB, bQ, List.getElem?_cons_zero, List.getElem?_cons_succ, Nat.zero_add, Nat.reduceAdd, Nat.add_zero, bU o19.cl, apr l19]
  have g19 : Grow h1 h19 := p19.grow g11 hx9
  refine Run0.bind (Va (o0.grow g19) l19 (by simp)) ?_
  intro h21 p21
  rw [Uf _ _ (by rw [l19]; rfl)] at p21
  simp only [aQ, aY, ba, bc, ca, b7, b9, ce, bH, ci, cb, cd, cy, cB, bG, bu, bX, b8, bK, aU, be, aN, bA, bz, aO, aK, aS, cg, cI, bM, aR, aV, cm, cn, bN, bO, bL, bP, bC, bB, bQ, List.getElem?_cons_zero, List.getElem?_cons_succ, Nat.zero_add, Nat.reduceAdd, Nat.add_zero, bU p21.own.cl, apr l19]
  exact kZ ⟨rfl, p21.grow (g1.trans g19) hx0⟩
theorem amH {q : IntKind} {k x : Int} : ∀ {kv : List (Int × Int)}, (kv.map (·.1)).Nodup → (k, x) ∈ kv → afK (.cell .int) (.int .i64 k) (kv.map fun e => (AV.int .i64 e.1, AV.int q e.2)) = some (some (.int q x))
  | [], _, h => by simp at h
  | e :: t, hn, h => by
    rw [List.map_cons, List.nodup_cons] at hn
    have hk : qL (.cell .int) (.int .i64 k) (.int .i64 e.1) = some (k == e.1) := by
      show some (eqF k e.1) = _
      rw [cB]
    show (Option.casesOn (qL (.cell .int) (.int .i64 k) (.int .i64 e.1)) none fun b => Bool.casesOn b (afK (.cell .int) (.int .i64 k) (t.map fun e => (AV.int .i64 e.1, AV.int q e.2))) (some (some (.int q e.2))) : Option (Option AV)) = _
    rw [hk]
    rcases List.mem_cons.1 h with h | h
    · subst h
      simp
    · have hne : k ≠ e.1 := fun e' => hn.1 (by rw [← e']; exact List.mem_map.2 ⟨_, h, rfl⟩)
      have : (k == e.1) = false := by simp [hne]
      rw [this]
      exact amH hn.2 h
theorem aqH {h : Heap} {b : Nat} {q : IntKind} {kv : List (Int × Int)} (a : MapI h b q kv) (hn : (kv.map (·.1)).Nodup) {k x : Int} (hm : (k, x) ∈ kv) (z : AV) (c : AV → Bool → CRes) : afG h (.cell .int) z (.map b) (.int .i64 k) c = c (.int q x) true := by
  unfold afG
  have h1 : amN h (.map b) = some (kv.map fun e => (AV.int .i64 e.1, AV.int q e.2)) := by
    show xg h b = _
    unfold xg; rw [a.get]
  have h2 : qL (.cell .int) (.int .i64 k) (.int .i64 k) = some (k == k) := by
    show some (eqF k k) = _
    rw [cB]
  rw [h1, bX, h2, bX, amH hn hm, bX]
theorem amP {q : IntKind} : ∀ {kv : List (Int × Int)}, (∀ e ∈ kv, acQ e.1) → aaa (kv.map fun e => (AV.int .i64 e.1, AV.int q e.2)) = some (kv.map (·.1))
  | [], _ => rfl
  | e :: t, h => by
    have he := h e (List.mem_cons_self ..)
    unfold acQ at he
    have ih := amP (q := q) (kv := t) fun x hx => h x (List.mem_cons_of_mem _ hx)
    show (match ltF e.1 (-9223372036854775808), ltF 9223372036854775807 e.1 with
        | false, false => Option.casesOn (aaa (t.map fun e => (AV.int .i64 e.1, AV.int q e.2))) none fun l => some (e.1 :: l)
        | _, _ => none : Option (List Int)) = _
    rw [cy, cy, show decide (e.1 < -9223372036854775808) = false by simp; omega, show decide (9223372036854775807 < e.1) = false by simp; omega, ih]
    rfl
theorem map_I64N (l : List Int) : l.map I64N = lI l := rfl
theorem r_sorted {h : Heap} (hro : h.ro ≤ h.nx) {m : Nat} {q : IntKind} {kv : List (Int × Int)} (a : MapI h m q kv) (hk : ∀ e ∈ kv, acQ e.1) (hn : (kv.map (·.1)).Nodup) (hl : kv.length ≤ 1000000) {b : Nat} (hb : h.cl b [.map m]) :
    Run1 (B5 lq [.func 76 [] [.ptr b 0]] h) fun v h' => Lst h' v (zA (kv.map (·.1))) ∧ Grow h h' := by
  have hc : nv h b = some [.map m] := UH hb
  have hm : xg h m = some (kv.map fun e => (AV.int .i64 e.1, AV.int q e.2)) := by unfold xg; rw [a.get]
  have run : ∀ {v : AV} {h' : Heap}, Yz 76 [.func 76 [] [.ptr b 0]] h = some (v, h') → ∀ k, B5 lq [.func 76 [] [.ptr b 0]] h k = k v h' := by
    intro v h' e k
    unfold B5 lq N0
    rw [e]
  have hp := zV (kv.map (·.1))
  have hlen : (zA (kv.map (·.1))).length = kv.length := by rw [hp.length_eq, List.length_map]
  by_cases h0 : kv = []
  · subst h0
    refine ⟨(.nilslice, h), ⟨.inl ⟨rfl, rfl⟩, .refl⟩, run ?_⟩
    unfold Yz
    show (Option.casesOn (nv h b) none _ : Option (AV × Heap)) = _
    rw [hc]
    show (Option.casesOn (xg h m) none _ : Option (AV × Heap)) = _
    rw [hm]
    rfl
  · have hpos : 0 < kv.length := List.length_pos_iff.2 h0
    refine ⟨(.slice h.nx 0 kv.length 0 true, h.add (.cells (lI (zA (kv.map (·.1)))) true 1)), ⟨.inr ⟨h.nx, 0, [], by rw [hlen], ⟨by simp, by simpa using hro, by rw [Heap.get_add, if_pos rfl]; simp⟩, rfl, by omega, by omega⟩, Grow.add⟩, run ?_⟩
    unfold Yz
    show (Option.casesOn (nv h b) none _ : Option (AV × Heap)) = _
    rw [hc]
    show (Option.casesOn (xg h m) none _ : Option (AV × Heap)) = _
    rw [hm]
    show (Option.casesOn (aaa _) none _ : Option (AV × Heap)) = _
    rw [amP hk]
    show (Bool.casesOn (Nat.beq (mo (kv.map (·.1))) 0) (Bool.casesOn (agp (zA (kv.map (·.1))) && Nat.ble (mo (kv.map (·.1))) 1000000) none
          (h.newK (.cells (mapK I64N (zA (kv.map (·.1)))) true 1) fun c H' => some (.slice c 0 (mo (kv.map (·.1))) 0 true, H'))) (some (.nilslice, h)) : Option (AV × Heap)) = _
    rw [jM, List.length_map, ah7 (Rt hn), show Nat.beq kv.length 0 = false from by
      cases hk' : Nat.beq kv.length 0 with
      | false => rfl
      | true => have := Nat.eq_of_beq_eq_true hk'; omega]
    rw [show (true && Nat.ble kv.length 1000000) = true from by rw [Bool.true_and]; exact Nat.ble_eq_true_of_le hl]
    dsimp only
    rw [Heap.newK_eq, aoi, map_I64N]
def prs (R : List (Int × Int)) : List AV := R.flatMap fun e => [.int .i64 e.1, .int .u8 e.2]
theorem alf : ∀ R : List (Int × Int), (prs R).length = R.length * 2
  | [] => rfl
  | e :: t => by simp [prs] at *; rw [Nat.add_mul]; have := alf t; simp [prs] at this; omega
theorem arb (R S : List (Int × Int)) : prs (R ++ S) = prs R ++ prs S := by simp [prs]
theorem prs_at : ∀ (R : List (Int × Int)) (i : Nat) (hi : i < R.length), ((prs R).drop (i * 2)).take 2 = [.int .i64 R[i].1, .int .u8 R[i].2]
  | e :: t, 0, _ => rfl
  | e :: t, i + 1, hi => by
    have := prs_at t i (by simpa using hi)
    rw [Nat.add_mul]
    show ((AV.int .i64 e.1 :: .int .u8 e.2 :: prs t).drop (i * 2 + 2)).take 2 = _
    simpa using this
theorem boxK_map (H : Heap) (b : Nat) (c : Nat → Heap → CRes) : zt H (.map b) c = c H.nx (H.add (.cells [.map b] true 0)) := by
  show yA H (.cells [.map b] true 0) c = _; simp
structure OwnedOf (kv R : List (Int × Int)) : Prop where
  keys : R.map (·.1) = zA (kv.map (·.1))
  mem : ∀ e ∈ R, e ∈ kv
theorem asL {n : Nat} {w : PoolP} {z : PoolZ} {h0 : Heap} (hro : h0.ro ≤ h0.nx) (b0 : PoolIn h0 w z) (hn : (z.uses.map (·.1)).Nodup) {v14 : AV} {ks : List Int} (hks : ks.length ≤ 1000000) (hmem : ∀ k ∈ ks, ∃ x, (k, x) ∈ z.uses) (f1 f2 f3) :
    ∀ (q i : Nat) (h : Heap) (v : AV) (R : List (Int × Int)), Grow h0 h → Ints h .i64 v14 ks → (∀ c, v14.blk = some c → c < h0.nx) → App h v 2 i (prs R) → R.length = i → R.map (·.1) = ks.take i → (∀ e ∈ R, e ∈ z.uses) → (∀ c, v.blk = some c → h0.nx ≤ c) → i ≤ ks.length → ks.length - i < q →
    Run1 (fun k => pu n f1 f2 f3 k q (.ptr w.p 0) v v14 (ks.length : Int) (i : Int) h) fun r h' => ∃ R, R.map (·.1) = ks ∧ (∀ e ∈ R, e ∈ z.uses) ∧ App h' r 2 ks.length (prs R) ∧ Grow h0 h' := by
  intro q
  induction q with
  | zero => omega
  | succ q ih =>
    intro i h v R g hv14 h14 ha hR hR2 hR3 hlow hi hq
    simp only [aam]
    unfold tT tH zO
    refine RunG.ifB (fun e => ?_) fun e => ?_
    · simp at e
      have b := b0.grow g
      obtain ⟨x, hx⟩ := hmem (nz ks i) (by rw [s9 e]; exact List.getElem_mem e)
      have bk : ∀ K, wa [.int .i64 0, .int .u8 0] [(0, 1, .int .i64 (nz ks i)), (1, 1, .int .u8 x)] K = K (.agg [.int .i64 (nz ks i), .int .u8 x]) := fun K => rfl
      simp only [aQ, aY, ba, bc, ca, b7, b9, ce, bH, ci, cb, cd, cy, cB, bG, bu, bX, b8, bK, aU, be, aN, bA, bz, aO, aK, aS, cg, cI, bM, aR, aV, cm, cn, bN, bO, bL, bP, bC, bB, bQ, List.getElem?_cons_zero, List.getElem?_cons_succ, Nat.zero_add, Nat.reduceAdd, Nat.add_zero, hv14.elN e, bU b.own.cl, akD, aqH b.uses hn hx, bk, iT (show i ≤ 9223372036854775806 by omega)]
      refine Run1.bind (HS (fun k => by rfl)) ?_
      rintro _ h18 ⟨rfl, c18, g18⟩
      have gg := g.trans g18
      refine Run1.bind (aeN (gg.le hro) (ha.grow g18) (n := 1) (by decide) c18 (new := [.int .i64 (nz ks i), .int .u8 x]) (by rw [pM]; rfl) (by omega)) ?_
      rintro v' h20 ⟨a20, b20, c20⟩
      have hg20 : Grow h0 h20 := c20.grow gg fun c hc => hlow c hc
      refine ih (i + 1) h20 v' (R ++ [(nz ks i, x)]) hg20 ?_ h14 ?_ (by simp [hR]) ?_ (fun e he => ?_) (fun c hc => ?_) (by omega) (by omega)
      · obtain ⟨p1, p2⟩ := hv14.grow g18
        refine ⟨p1, ?_⟩
        rcases p2 with p2 | ⟨bb, off, ext, opn, p3, p4⟩
        · exact .inl p2
        · refine .inr ⟨bb, off, ext, opn, p3, fun h0' => ?_⟩
          obtain ⟨l, p5, p6⟩ := p4 h0'
          refine ⟨l, c20.cl p5 fun hbad => ?_, p6⟩
          have y1 := hlow bb hbad
          have y2 := h14 bb (by rw [p3]; rfl)
          omega
      · rw [arb]; exact a20
      · rw [List.map_append, hR2, List.take_add_one, List.getElem?_eq_getElem e, s9 e]; rfl
      · rcases List.mem_append.1 he with he | he
        · exact hR3 e he
        · simp at he; subst he; exact hx
      · rw [b20] at hc
        cases hc
        exact gg.nx
    · simp at e
      have : i = ks.length := by omega
      subst this
      exact kZ ⟨R, by rw [hR2, List.take_length], hR3, ha, g⟩
theorem v_Owned {n : Nat} {h : Heap} (hro : h.ro ≤ h.nx) {w : PoolP} {z : PoolZ} (b : PoolIn h w z) (hk : ∀ e ∈ z.uses, acQ e.1) (hnd : (z.uses.map (·.1)).Nodup) (hl : z.uses.length ≤ 1000000) (hln : z.uses.length < n) :
    Run1 (km n (.ptr w.p 0) h) fun r h' => ∃ R, OwnedOf z.uses R ∧ App h' r 2 R.length (prs R) ∧ Grow h h' := by
  unfold km Dx Ds gM l8 lT
  simp only [aQ, aY, ba, bc, ca, b7, b9, ce, bH, ci, cb, cd, cy, cB, bG, bu, bX, b8, bK, aU, be, aN, bA, bz, aO, aK, aS, cg, cI, bM, aR, aV, cm, cn, bN, bO, bL, bP, bC, bB, bQ, List.getElem?_cons_zero, List.getElem?_cons_succ, Nat.zero_add, Nat.reduceAdd, Nat.add_zero, aaG b, Bool.not_true, bU b.own.cl, akD, boxK_map]
  have g5 : Grow h (h.add (.cells [.map w.mu] true 0)) := Grow.add
  have b5 := b.grow g5
  refine Run1.bind (r_sorted (g5.le hro) b5.uses hk hnd hl (ark ..)) ?_
  rintro x6 h7 ⟨l7, g7⟩
  have hp := zV (z.uses.map (·.1))
  have hlen : (zA (z.uses.map (·.1))).length = z.uses.length := by rw [hp.length_eq, List.length_map]
  simp only [l7.len]
  have gg := g5.trans g7
  refine RunG.mono (asL (gg.le hro) (b.grow gg) hnd (by omega) (fun k hk' => ?_) _ _ _ n 0 h7 .nilslice [] .refl l7.ints (fun c hc => (l7.lt hc).1) App.nil rfl rfl (fun e he => (nomatch he)) (fun c e => by cases e) (by omega) (by omega)) ?_
  · have := hp.mem_iff.1 hk'
    obtain ⟨e, he, rfl⟩ := List.mem_map.1 this
    exact ⟨e.2, he⟩
  · rintro ⟨r, h'⟩ ⟨R, r1, r2, r3, r4⟩
    have hRl : R.length = (zA (z.uses.map (·.1))).length := by rw [← r1, List.length_map]
    exact ⟨R, ⟨r1, r2⟩, by rw [hRl]; exact r3, gg.trans r4⟩
end Go.Proofs.YtnlbfbiogfilfaaGreat.Sh
/- Within the quotas; 'adds' says true of a pool with what was taken. -/
namespace Go.Proofs.YtnlbfbiogfilfaaGreat.Sh
open Go.Ai
theorem afN {n : Int} (h0 : 0 ≤ n) (h1 : n < 256) : IntKind.u8.wrap n = n := by
  simp only [IntKind.wrap, IntKind.signed, IntKind.bits]; simp; omega
structure QuotaOk (zc : CfgZ) (p : Nat) : Prop where
  ord : 0 ≤ (c0 zc p).order ∧ (c0 zc p).order ≤ 3
  lo : ∀ u, 2 ≤ u → u ≤ 6 → 0 ≤ nh (c0 zc p) u ∧ nh (c0 zc p) u ≤ 4096
  each : ((2 ^ (c0 zc p).order.toNat : Nat) : Int) ≤ zc.frames / zc.colours
  need : ((2 ^ (c0 zc p).order.toNat : Nat) : Int) + nh (c0 zc p) 2 + nh (c0 zc p) 3 + nh (c0 zc p) 4 + nh (c0 zc p) 5 + nh (c0 zc p) 6 ≤ s8 zc p
theorem ajL {zc : CfgZ} {p : Nat} (hm : RB zc = true) (po : PartOk zc p) : QuotaOk zc p := by
  have hq := po.quota
  simp only [RB, Bool.and_eq_true] at hm
  have hma := hm.1
  simp only [qW, Bool.and_eq_true] at hq
  obtain ⟨q1, q2, q3, q4, q5, q6, _, _, q9⟩ := hq
  rw [hma] at q9
  simp [db] at q1 q2 q3 q4 q5 q6 q9
  obtain ⟨k, hk⟩ := Int.eq_ofNat_of_zero_le q1.1
  have hk3 : k ≤ 3 := by have := q1.2; omega
  have him : Vo (c0 zc p) = ((2 ^ (c0 zc p).order.toNat : Nat) : Int) ∧ ((2 ^ (c0 zc p).order.toNat : Nat) : Int) ≤ 8 := by
    unfold Vo
    rw [hk]
    rw [Int.toNat_natCast]
    match k, hk3 with
    | 0, _ => exact ⟨by decide, by decide⟩ | 1, _ => exact ⟨by decide, by decide⟩ | 2, _ => exact ⟨by decide, by decide⟩ | 3, _ => exact ⟨by decide, by decide⟩
  obtain ⟨e1, e2⟩ := him
  have e3 : (0 : Int) ≤ ((2 ^ (c0 zc p).order.toNat : Nat) : Int) := Int.natCast_nonneg _
  have hneed : ((2 ^ (c0 zc p).order.toNat : Nat) : Int) + (c0 zc p).user + (c0 zc p).tables + (c0 zc p).spaces + (c0 zc p).regions + (c0 zc p).records ≤ s8 zc p := by
    have hneed := q9.2
    unfold needZ at hneed
    rw [e1] at hneed
    generalize ((2 ^ (c0 zc p).order.toNat : Nat) : Int) = D at *
    rw [lJ (n := D + (c0 zc p).user) (by omega) (by omega), lJ (n := D + (c0 zc p).user + (c0 zc p).tables) (by omega) (by omega), lJ (n := D + (c0 zc p).user + (c0 zc p).tables + (c0 zc p).spaces) (by omega) (by omega),
      lJ (n := D + (c0 zc p).user + (c0 zc p).tables + (c0 zc p).spaces + (c0 zc p).regions) (by omega) (by omega), lJ (by omega) (by omega)] at hneed
    exact hneed
  refine ⟨q1, fun u h1 h2 => ?_, ?_, hneed⟩
  · have : u = 2 ∨ u = 3 ∨ u = 4 ∨ u = 5 ∨ u = 6 := by omega
    rcases this with rfl | rfl | rfl | rfl | rfl <;> simp only [nh] <;> omega
  · have := q9.1
    rw [e1, (aoe po.fr po.co).1] at this
    exact this
structure WithinQ (zc : CfgZ) (p : Nat) (L : List (Int × Int)) : Prop where
  image : pX L 1 ≤ 2 ^ (c0 zc p).order.toNat
  quota : ∀ u : Nat, 2 ≤ u → u ≤ 6 → (pX L u : Int) ≤ nh (c0 zc p) u
theorem WithinQ.room {zc : CfgZ} {p : Nat} {L : List (Int × Int)} (wi : WithinQ zc p L) (qo : QuotaOk zc p) (hr : ∀ e ∈ L, 1 ≤ e.2 ∧ e.2 ≤ 6) : (L.length : Int) ≤ s8 zc p ∧ ∀ u : Nat, 2 ≤ u → u ≤ 6 → (pX L u : Int) < nh (c0 zc p) u → (L.length : Int) < s8 zc p := by
  have hs := aj1 L hr
  have h1 := wi.image
  have h2 : (pX L 2 : Int) ≤ nh (c0 zc p) 2 := wi.quota 2 (by omega) (by omega)
  have h3 : (pX L 3 : Int) ≤ nh (c0 zc p) 3 := wi.quota 3 (by omega) (by omega)
  have h4 : (pX L 4 : Int) ≤ nh (c0 zc p) 4 := wi.quota 4 (by omega) (by omega)
  have h5 : (pX L 5 : Int) ≤ nh (c0 zc p) 5 := wi.quota 5 (by omega) (by omega)
  have h6 : (pX L 6 : Int) ≤ nh (c0 zc p) 6 := wi.quota 6 (by omega) (by omega)
  have hn := qo.need
  generalize 2 ^ (c0 zc p).order.toNat = D at *
  refine ⟨by omega, fun u u1 u2 hlt => ?_⟩
  have : u = 2 ∨ u = 3 ∨ u = 4 ∨ u = 5 ∨ u = 6 := by omega
  rcases this with rfl | rfl | rfl | rfl | rfl
  · have hlt : (pX L 2 : Int) < nh (c0 zc p) 2 := hlt
    omega
  · have hlt : (pX L 3 : Int) < nh (c0 zc p) 3 := hlt
    omega
  · have hlt : (pX L 4 : Int) < nh (c0 zc p) 4 := hlt
    omega
  · have hlt : (pX L 5 : Int) < nh (c0 zc p) 5 := hlt
    omega
  · have hlt : (pX L 6 : Int) < nh (c0 zc p) 6 := hlt
    omega
theorem takeQ {zc : CfgZ} {p : Nat} {h : Heap} {w : PoolP} {z : PoolZ} {L : List (Int × Int)} (pin : PoolIn h w z) (v : InvQ zc p L z) (po : PartOk zc p) (qo : QuotaOk zc p) (wi : WithinQ zc p L) {u : Nat} (hu : 2 ≤ u ∧ u ≤ 6) (hlt : (pX L u : Int) < nh (c0 zc p) u) {f e : Int} {h' : Heap} (ht : aqF h w z u f e h') :
    e = 0 ∧ ∃ w' z', w'.p = w.p ∧ z'.mine = z.mine ∧ PoolIn h' w' z' ∧ InvQ zc p (L ++ [(f, (u : Int))]) z' ∧ (∀ d, fpP w' z.mine.length d → fpP w z.mine.length d ∨ h.nx ≤ d) ∧ Chg (fpP w z.mine.length) h h' := by
  have hroom := (wi.room qo v.rng).2 u hu.1 hu.2 hlt
  have hs := v.sum
  rcases ht with ⟨h1, _⟩ | ⟨_, best, r, hbest, hT, _, hf⟩
  · exfalso
    rw [v.quota, v.cnt u (by omega)] at h1
    omega
  · rcases hT with ⟨_, _, _, hemp⟩ | ⟨rfl, k, a, rest, bv', h1, hk, hx, hemp, _, _, hp, hsub, c⟩
    · exfalso
      obtain ⟨j, hj, hj2⟩ := apq z.mine.length (show 0 < Et (sV z) z.mine.length by omega)
      have hmax := hbest.2.1 j hj
      have h0 : sV z best = 0 := by
        have : ∀ n, n ≤ 7 → lf (z.buds best) n = 0 := by
          intro n
          induction n with
          | zero => intro _; rfl
          | succ n ih =>
            intro hn
            rw [lf, ih (by omega), hemp n (Nat.zero_le _) (by omega)]
            simp
        exact this 7 (Nat.le_refl _)
      omega
    · refine ⟨rfl, { w with bv := bv' }, aei z best 0 u k a rest, rfl, rfl, hp, ?_, hsub, c⟩
      have hs' := v.step po (u := u) ⟨by omega, hu.2⟩ hbest.1 (by omega) h1 hk hx hemp
      have hf' := hf rfl k a rest hemp hx
      have : ld z.colours (nz z.mine best) a (2 ^ 0) = [f] := by simp [ld, hf']
      rw [this] at hs'
      exact hs'
theorem InvQ.own {zc : CfgZ} {p : Nat} {L : List (Int × Int)} {z : PoolZ} (v : InvQ zc p L z) (po : PartOk zc p) {e : Int × Int} (he : e ∈ L) : 0 ≤ e.1 ∧ e.1 < zc.frames ∧ e.1 % zc.colours ∈ (c0 zc p).cols := by
  have hm : e.1 ∈ L.map (·.1) := List.mem_map.2 ⟨e, he, rfl⟩
  obtain ⟨i, hi, x, hx⟩ := v.inv.form _ hm
  have hmine := v.inv.mine
  have hi' : i < (c0 zc p).cols.length := by rw [hmine] at hi; exact hi
  obtain ⟨n1, n2⟩ := po.nz hi'
  rw [← hmine] at n1 n2
  have hl := v.inv.law i hi x
  have hc : 1 ≤ (L.map (·.1)).count (x * zc.colours + nz z.mine i) := by
    rw [← hx]; exact List.count_pos_iff.2 hm
  have hin : 0 ≤ x ∧ x < (Dh zc (nz z.mine i) : Int) := by
    by_cases hh : 0 ≤ x ∧ x < (Dh zc (nz z.mine i) : Int)
    · exact hh
    · rw [if_neg hh] at hl; omega
  have hr := adO po.fr po.co n1 n2 hin.2
  have hco := po.co
  simp [db] at hco
  have h0 : 0 ≤ x * zc.colours := Int.mul_nonneg hin.1 (by omega)
  obtain ⟨o1, _, o3⟩ := v.inv.own po hm
  exact ⟨o1, by rw [hx]; omega, o3⟩
def mv (z : PoolZ) (L : List (Int × Int)) (u : Nat) : Int := if u = 0 then z.total - L.length else z.counts u
def akj (f : Nat → Int) : Nat → Int
  | 0 => 0
  | n + 1 => akj f n + f n
theorem ar3 {h : Heap} {pp : AV} {n : Nat} {f : Nat → PartZ} {S : Nat → AV} (s : SlAt h pp 8 n fun i => yW (f i) (S i)) {p : Nat} (hp : p < n) (K : AV → AV → CRes) : SM 8 pp (p : Int) (fun x => fld 0 h x 1 false K) = K (elP pp 8 (p : Int)) (S p) := by
  rw [s.ia (by omega) (by omega)]
  obtain ⟨b, off, l, d1, d2, d3, d4⟩ := s.at_ (i := (p : Int)) (by omega) (by omega)
  rw [Int.toNat_natCast] at d4
  rw [d1]
  have d5 : l[off + 0]? = some (S p) := by
    have := congrArg (·[0]?) d4
    simp only [List.getElem?_take, List.getElem?_drop] at this
    simpa [yW] using this
  rw [fld_of d2 d5, Nat.add_zero]
def prF (R : List (Int × Int)) (i : Nat) : List AV := [.int .i64 (R.getD i (0, 0)).1, .int .u8 (R.getD i (0, 0)).2]
theorem App.prs {h : Heap} {v : AV} {R : List (Int × Int)} (a : App h v 2 R.length (prs R)) (hl : R.length ≤ 1048576) : SlAt h v 2 R.length (prF R) := by
  refine ⟨by omega, ?_⟩
  rcases a with ⟨rfl, h0, _⟩ | ⟨b, rfl, o, hlen, _⟩
  · exact .inl ⟨rfl, h0⟩
  · refine .inr ⟨b, 0, 0, true, rfl, fun _ => ⟨_, o.cl, fun i hi => ⟨by rw [alf]; omega, ?_⟩⟩⟩
    rw [Nat.zero_add, prs_at R i hi]
    unfold prF
    rw [List.getD_eq_getElem?_getD, List.getElem?_eq_getElem hi]
    rfl
theorem aj3 {h : Heap} {v : AV} {R : List (Int × Int)} (s : SlAt h v 2 R.length (prF R)) {i : Nat} (hi : i < R.length) (K : AV → Int → CRes) : SM 2 v (i : Int) (fun x => jO .i64 0 h x K) = K (elP v 2 (i : Int)) (R.getD i (0, 0)).1 := by
  rw [s.ia (by omega) (by omega)]
  obtain ⟨b, off, l, d1, d2, d3, d4⟩ := s.at_ (i := (i : Int)) (by omega) (by omega)
  rw [Int.toNat_natCast] at d4
  rw [d1]
  have d5 : l[off + 0]? = some (.int .i64 (R.getD i (0, 0)).1) := by
    have := congrArg (·[0]?) d4
    simp only [List.getElem?_take, List.getElem?_drop] at this
    simpa [prF] using this
  rw [arL d2 d5, Nat.add_zero]
theorem own_use {h : Heap} {v : AV} {R : List (Int × Int)} (s : SlAt h v 2 R.length (prF R)) {i : Nat} (hi : i < R.length) : ∃ a, ∀ K : AV → Int → CRes, SM 2 v (i : Int) (fun x => jO .u8 1 h x K) = K a (R.getD i (0, 0)).2 := by
  obtain ⟨b, off, l, d1, d2, d3, d4⟩ := s.at_ (i := (i : Int)) (by omega) (by omega)
  rw [Int.toNat_natCast] at d4
  have d5 : l[off + 1]? = some (.int .u8 (R.getD i (0, 0)).2) := by
    have := congrArg (·[1]?) d4
    simp only [List.getElem?_take, List.getElem?_drop] at this
    simpa [prF] using this
  exact ⟨_, fun K => by rw [s.ia (by omega) (by omega), d1, arL d2 d5]⟩
end Go.Proofs.YtnlbfbiogfilfaaGreat.Sh
