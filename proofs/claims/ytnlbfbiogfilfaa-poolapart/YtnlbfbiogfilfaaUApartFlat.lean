/- Two partitions' pools have no frame together: the code. -/
import Derived.Test.YtnlbfbiogfilfaaUPoolNewUInv
import Derived.Test.YtnlbfbiogfilfaaUColLst
import Derived.ChangeArms
set_option linter.all false
namespace Go.Proofs.Ytnlbfbiogfilfaa.Sh
open Go.Ai
def DoL (h : Heap) (v : AV) (us : List Int) : Prop := (∃ A B : Nat → AV, SlAt h v 3 us.length fun i => [A i, B i, .int .u8 (nz us i)]) ∧ ∀ i, i < us.length → 0 ≤ nz us i ∧ nz us i < 256
theorem DoL.grow {h h' : Heap} {v : AV} {us : List Int} (d : DoL h v us) (g : Grow h h') : DoL h' v us := by
  obtain ⟨⟨A, B, h1⟩, h2⟩ := d
  exact ⟨⟨A, B, h1.grow g⟩, h2⟩
theorem wrap_u8 {n : Int} (h0 : 0 ≤ n) (h1 : n < 256) : IntKind.u8.wrap n = n := by
  simp only [IntKind.wrap, IntKind.signed, IntKind.bits]; simp; omega
structure Works (zc : CfgZ) (p : Nat) (hb h : Heap) (w : PoolP) (z : PoolZ) (v : AV) (T : List Int) : Prop where
  pool : PoolIn h w z
  inv : Inv zc p T z
  row : Lst h v T
  off : ∀ c, v.blk = some c → ¬ fpP w z.mine.length c ∧ hb.nx ≤ c
  low : ∀ c, fpP w z.mine.length c → hb.nx ≤ c
  g : Grow hb h
theorem Works.take {zc : CfgZ} {p : Nat} {hb h : Heap} {w : PoolP} {z : PoolZ} {v : AV} {T : List Int} (W : Works zc p hb h w z v T) (po : PartOk zc p) {u : Nat} {f e : Int} {h' : Heap} (ht : PTakes h w z u f e h') :
    (e ≠ 0 ∧ h' = h) ∨ (e = 0 ∧ ∃ w' z', w'.p = w.p ∧ z'.mine = z.mine ∧ PoolIn h' w' z' ∧ Inv zc p (T ++ [f]) z' ∧ Lst h' v T ∧ (∀ c, v.blk = some c → ¬ fpP w' z.mine.length c) ∧ (∀ c, fpP w' z.mine.length c → hb.nx ≤ c) ∧ Grow hb h') := by
  rcases ht with ⟨_, _, rfl, rfl⟩ | ⟨_, best, r, hbest, hT, _, hf⟩
  · exact .inl ⟨by decide, rfl⟩
  · rcases hT with ⟨rfl, _, rfl, _⟩ | ⟨rfl, k, a, rest, bv', h1, hk, hx, hemp, _, _, hp, hsub, c⟩
    · exact .inl ⟨by decide, rfl⟩
    · refine .inr ⟨rfl, { w with bv := bv' }, alS z best 0 u k a rest, rfl, rfl, hp, ?_, W.row.chg c fun d e1 e2 => (W.off d e1).1 e2, fun d e1 e2 => ?_, fun d e1 => ?_, c.grow W.g W.low⟩
      · have hs := W.inv.step po (u := u) hbest.1 (by omega) h1 hk hx hemp
        have hf' := hf rfl k a rest hemp hx
        have : ma z.colours (nz z.mine best) a (2 ^ 0) = [f] := by simp [ma, hf']
        rw [this] at hs
        exact hs
      · rcases hsub d e2 with e3 | e3
        · exact (W.off d e1).1 e3
        · have := (W.row.lt e1).1; omega
      · rcases hsub d e1 with e3 | e3
        · exact W.low d e3
        · exact Nat.le_trans W.g.nx e3
theorem amM {R : Type} {ap : cD → R → CRes} {Q : R → Prop} {n : Nat} (hn : 100 < n) {zc : CfgZ} {p : Nat} (po : PartOk zc p) {hb : Heap} (hro : hb.ro ≤ hb.nx) {v1 v2 v5 : AV} {P : Nat} {us : List Int} (hd : DoL hb v1 us)
    (f1 f2 f3 f4) {J : cD → AV → AV → AV → Int → Heap → CRes}
    (hJ : ∀ h w z v T, Works zc p hb h w z v T → T.length ≤ 100 → RunG ap (fun k => iO n f1 f2 f3 f4 (eE n) k (J k) v1 v2 v5 (p : Int) v h) Q) :
    ∀ (q i : Nat) (h : Heap) (w : PoolP) (z : PoolZ) (v : AV) (T : List Int), Works zc p hb h w z v T → w.p = P → T.length ≤ 10 + i → i ≤ us.length → i ≤ 40 → min us.length 40 - i < q →
    RunG ap (fun k => eA n f1 f2 f3 f4 (eE n) k (J k) q v1 v2 v5 (p : Int) (.ptr P 0) v (i : Int) h) Q := by
  intro q
  induction q with
  | zero => omega
  | succ q ih =>
    intro i h w z v T W hP hT hi hi40 hq
    simp only [FQ]
    unfold l9 jX oR lS pl
    obtain ⟨⟨A, B, hs⟩, hr⟩ := hd.grow W.g
    simp only [hs.len]
    have stop : RunG ap (fun k => iO n f1 f2 f3 f4 (eE n) k (J k) v1 v2 v5 (p : Int) v h) Q := hJ h w z v T W (by omega)
    refine RunG.ifB (fun e => RunG.ifB (fun e2 => ?_) fun _ => stop) fun _ => by simp only [aK, bf, bh, bk, b9, bW, b8, cb, bC, cd, ca, cc, cu, cx, bB, bo, bV, bZ, bG, bb, bl, aM, br, bq, aW, aH, be, ce, cA, bK, ba, bc, ci, cg, bJ, bO, bL, bM, bu, bt, bN, List.getElem?_cons_zero, List.getElem?_cons_succ, Nat.zero_add, Nat.reduceAdd, Nat.add_zero]; exact stop
    simp at e e2
    subst hP
    obtain ⟨b, off, cl, d1, d2, d3, d4⟩ := hs.at_ (i := (i : Int)) (by omega) (by omega)
    rw [Int.toNat_natCast] at d4
    have d5 : cl[off + 2]? = some (.int .u8 (nz us i)) := by
      have := congrArg (·[2]?) d4
      simp only [List.getElem?_take, List.getElem?_drop] at this
      simpa using this
    obtain ⟨r1, r2⟩ := hr i e
    have m1 : (nz us i).tmod 5 = nz us i % 5 := by rw [Int.tmod_eq_emod_of_nonneg r1]
    have m2 : IntKind.u8.wrap (2 + nz us i % 5) = ((2 + (nz us i % 5).toNat : Nat) : Int) := by rw [wrap_u8 (by omega) (by omega)]; omega
    simp only [aK, bf, bh, bk, b9, bW, b8, cb, bC, cd, ca, cc, cu, cx, bB, bo, bV, bZ, bG, bb, bl, aM, br, bq, aW, aH, be, ce, cA, bK, ba, bc, ci, cg, bJ, bO, bL, bM, bu, bt, bN, List.getElem?_cons_zero, List.getElem?_cons_succ, Nat.zero_add, Nat.reduceAdd, Nat.add_zero, hs.ia (show (0 : Int) ≤ (i : Int) by omega) (show (i : Int) < _ by omega), d1, bI d2, d5, ame (show (5 : Int) ≠ 0 by decide), m1, m2]
    refine Run2.bind (v_PTake (by omega) (W.g.le hro) W.pool (W.inv.ok po (by omega)) (u := 2 + (nz us i % 5).toNat) (by omega) (by omega)) ?_
    rintro f er h' ht
    rcases W.take po ht with ⟨h0, rfl⟩ | ⟨rfl, w', z', e3, e4, hp, hinv, hrow, hoff, hlow, hg⟩
    · have : (er == 0) = false := by simpa using h0
      rw [this]
      simp only [aK, bf, bh, bk, b9, bW, b8, cb, bC, cd, ca, cc, cu, cx, bB, bo, bV, bZ, bG, bb, bl, aM, br, bq, aW, aH, be, ce, cA, bK, ba, bc, ci, cg, bJ, bO, bL, bM, bu, bt, bN, List.getElem?_cons_zero, List.getElem?_cons_succ, Nat.zero_add, Nat.reduceAdd, Nat.add_zero, jv (show i ≤ 9223372036854775806 by omega)]
      exact ih (i + 1) h' w z v T W rfl (by omega) (by omega) (by omega) (by omega)
    · rw [show ((0 : Int) == 0) = true from rfl]
      simp only [aK, bf, bh, bk, b9, bW, b8, cb, bC, cd, ca, cc, cu, cx, bB, bo, bV, bZ, bG, bb, bl, aM, br, bq, aW, aH, be, ce, cA, bK, ba, bc, ci, cg, bJ, bO, bL, bM, bu, bt, bN, List.getElem?_cons_zero, List.getElem?_cons_succ, Nat.zero_add, Nat.reduceAdd, Nat.add_zero, jv (show i ≤ 9223372036854775806 by omega)]
      refine Run1.bind (Ih (fun k => by rfl)) ?_
      rintro _ h2 ⟨rfl, c2, g2⟩
      have hro2 := (hg.trans g2).le hro
      refine Run1.bind (aaz hro2 (hrow.grow g2) c2 (by omega)) ?_
      rintro v' h3 ⟨l3, b3, c3⟩
      have hm : z'.mine.length = z.mine.length := by rw [e4]
      have n2 := g2.nx
      refine ih (i + 1) h3 w' z' v' (T ++ [f]) ⟨(hp.grow g2).chg c3 fun d x1 x2 => hoff d x2 (by rw [← hm]; exact x1), hinv, l3, fun d x1 => ?_, fun d x1 => hlow d (by rw [← hm]; exact x1), c3.grow (hg.trans g2) fun d x1 => (W.off d x1).2⟩ e3 (by simp; omega) (by omega) (by omega) (by omega)
      rcases b3 d x1 with x2 | x2
      · exact ⟨fun x3 => hoff d x2 (by rw [← hm]; exact x3), (W.off d x2).2⟩
      · refine ⟨fun x3 => ?_, ?_⟩
        · have := hp.lt x3
          omega
        · have := (hg.trans g2).nx
          omega
structure OwnR (h : Heap) (b : Nat) (ow : List Int) : Prop where
  own : Own h b (kD ow) 0
  len : ow.length = 4096
theorem OwnR.ints {h : Heap} {b : Nat} {ow : List Int} (o : OwnR h b ow) : Ints h .i64 (.slice b 0 4096 0 false) ow := by
  have := adn (q := .i64) (l := ow) o.own.cl (by rw [o.len]; decide) 0 false
  rw [o.len] at this
  exact this
theorem nz_set {l : List Int} {i j : Nat} {x : Int} (hi : i < l.length) : nz (l.set i x) j = if i = j then x else nz l j := by
  unfold nz
  rw [List.getD_eq_getElem?_getD, List.getD_eq_getElem?_getD, List.getElem?_set]
  by_cases h : i = j
  · rw [if_pos h, if_pos h, if_pos hi]; rfl
  · rw [if_neg h, if_neg h]
theorem amO {R : Type} {ap : cD → R → CRes} {Q : R → Prop} {n : Nat} {p : Nat} (hp : p < 1000) {h00 : Heap} {b : Nat} (hb : h00.nx ≤ b) {v1 v2 v9 : AV} {T : List Int} (hnd : T.Nodup) (hT : ∀ f ∈ T, 0 ≤ f ∧ f < 4096) (hv9 : ∀ c, v9.blk = some c → c ≠ b) {ow0 : List Int}
    (f1 f2 f3 f4 f5) {J : cD → AV → AV → AV → Int → Heap → CRes}
    (hJ : ∀ h ow, Grow h00 h → OwnR h b ow → (∀ f : Nat, nz ow f ≠ 0 → nz ow0 f ≠ 0 ∨ (f : Int) ∈ T) → RunG ap (fun k => J k v1 v2 (.slice b 0 4096 0 false) ((p + 1 : Nat) : Int) h) Q) :
    ∀ (q i : Nat) (h : Heap) (ow : List Int), Grow h00 h → OwnR h b ow → Lst h v9 T → i ≤ T.length → T.length - i < q → (∀ j, i ≤ j → j < T.length → nz ow (nz T j).toNat = 0) → (∀ f : Nat, nz ow f ≠ 0 → nz ow0 f ≠ 0 ∨ (f : Int) ∈ T) →
    RunG ap (fun k => gR n f1 f2 f3 f4 f5 k (J k) q v1 v2 (.slice b 0 4096 0 false) (p : Int) v9 (i : Int) h) Q := by
  intro q
  induction q with
  | zero => omega
  | succ q ih =>
    intro i h ow g ho hv hi hq hz hin
    simp only [GO]
    unfold lT kh oT
    simp only [hv.len]
    refine RunG.ifB (fun e => ?_) fun e => ?_
    · simp at e
      have hs := hv.small
      have hf := hT (nz T i) (by rw [pU e]; exact List.getElem_mem e)
      obtain ⟨fn, hfn⟩ := Int.eq_ofNat_of_zero_le hf.1
      have hfn' : nz T i = (fn : Int) := hfn
      have hfl : fn < ow.length := by rw [ho.len]; omega
      have h0 := hz i (Nat.le_refl _) e
      rw [hfn', Int.toNat_natCast] at h0
      have t0 : ∀ (A B : CRes), ifB (!((0 : Int) == 0)) A B = B := fun _ _ => rfl
      have w1 : IntKind.i64.wrap (1 + (p : Int)) = ((p + 1 : Nat) : Int) := by rw [qH (by omega) (by omega)]; omega
      simp only [aK, bf, bh, bk, b9, bW, b8, cb, bC, cd, ca, cc, cu, cx, bB, bo, bV, bZ, bG, bb, bl, aM, br, bq, aW, aH, be, ce, cA, bK, ba, bc, ci, cg, bJ, bO, bL, bM, bu, bt, bN, List.getElem?_cons_zero, List.getElem?_cons_succ, Nat.zero_add, Nat.reduceAdd, Nat.add_zero, hv.ints.elN e, hfn', ho.ints.elN hfl, h0, t0, w1, jv (show i ≤ 9223372036854775806 by omega)]
      have est1 : ∀ (u : AV) (K : AV → Heap → CRes), est 1 h (.slice b 0 4096 0 false) (fn : Int) 1 u K = mT h (.ptr b fn) 1 u fun H => K (.ptr b fn) H := by
        intro u K
        unfold est
        rw [SlAt.ia ho.ints (by omega) (by rw [ho.len]; omega)]
        simp [elP]
      simp only [aK, bf, bh, bk, b9, bW, b8, cb, bC, cd, ca, cc, cu, cx, bB, bo, bV, bZ, bG, bb, bl, aM, br, bq, aW, aH, be, ce, cA, bK, ba, bc, ci, cg, bJ, bO, bL, bM, bu, bt, bN, List.getElem?_cons_zero, List.getElem?_cons_succ, Nat.zero_add, Nat.reduceAdd, Nat.add_zero, est1]
      refine Run0.bind (Ft ho.own (by rw [lz]; exact hfl) rfl) ?_
      intro h2 p2
      have ho2 : OwnR h2 b (ow.set fn ((p + 1 : Nat) : Int)) := by
        refine ⟨?_, by rw [List.length_set]; exact ho.len⟩
        have := p2.own
        have e1 : (kD ow).set fn (.int .i64 ((p + 1 : Nat) : Int)) = kD (ow.set fn ((p + 1 : Nat) : Int)) := by simp [kD, List.map_set]
        rw [e1] at this
        exact this
      refine ih (i + 1) h2 _ (p2.grow g hb) ho2 (hv.chg p2.chg fun d x1 x2 => hv9 d x1 x2) (by omega) (by omega) (fun j hj hj' => ?_) (fun f hf0 => ?_)
      · rw [nz_set hfl]
        have hne : fn ≠ (nz T j).toNat := by
          intro e1
          have hfj := hT (nz T j) (by rw [pU hj']; exact List.getElem_mem hj')
          have e2 : nz T i = nz T j := by rw [hfn']; omega
          rw [pU e, pU hj'] at e2
          have := List.pairwise_iff_getElem.1 hnd i j e hj' (by omega)
          exact this e2
        rw [if_neg hne]
        exact hz j (by omega) hj'
      · rw [nz_set hfl] at hf0
        by_cases e1 : fn = f
        · subst e1
          exact .inr (by rw [← hfn', pU e]; exact List.getElem_mem e)
        · rw [if_neg e1] at hf0
          exact hin f hf0
    · simp at e
      have w2 : IntKind.i64.wrap ((p : Int) + 1) = ((p + 1 : Nat) : Int) := jv (by omega)
      simp only [aK, bf, bh, bk, b9, bW, b8, cb, bC, cd, ca, cc, cu, cx, bB, bo, bV, bZ, bG, bb, bl, aM, br, bq, aW, aH, be, ce, cA, bK, ba, bc, ci, cg, bJ, bO, bL, bM, bu, bt, bN, List.getElem?_cons_zero, List.getElem?_cons_succ, Nat.zero_add, Nat.reduceAdd, Nat.add_zero, w2]
      exact hJ h ow g ho hin
theorem OwnR.grow {h h' : Heap} {b : Nat} {ow : List Int} (o : OwnR h b ow) (g : Grow h h') : OwnR h' b ow := ⟨o.own.grow g, o.len⟩
theorem am5 {n : Nat} (hn : 5000 < n) {zc : CfgZ} (hfit : Fits n zc) {t pp v1 : AV} {x b : Nat} {us : List Int} {h00 : Heap} (hro : h00.ro ≤ h00.nx) (hx : h00.cl x (yD zc t pp)) (ht : Ints h00 .i64 t zc.turns) (hpp : Parts h00 pp zc.parts) (hd : DoL h00 v1 us) (hb : h00.nx ≤ b) (f1) :
    ∀ (m p : Nat) (h : Heap) (ow : List Int), Grow h00 h → OwnR h b ow → (∀ f : Nat, nz ow f ≠ 0 → ∃ q, q < p ∧ (f : Int) % zc.colours ∈ (d9 zc q).cols) → p ≤ 8 → 8 - p < m →
    Run1 (fun k => dC n f1 (ob n) (k8 n) (gk n) (eE n) k m v1 (.ptr x 0) (.slice b 0 4096 0 false) (p : Int) h) fun r h' => r = true ∧ Grow h00 h' := by
  intro m
  induction m with
  | zero => omega
  | succ m ih =>
    intro p h ow g ho hin hp hm
    simp only [FK]
    unfold lZ ki oV lR ph mc pq
    have hro1 := g.le hro
    have hx1 := g.cl hx
    simp only [aK, bf, bh, bk, b9, bW, b8, cb, bC, cd, ca, cc, cu, cx, bB, bo, bV, bZ, bG, bb, bl, aM, br, bq, aW, aH, be, ce, cA, bK, ba, bc, ci, cg, bJ, bO, bL, bM, bu, bt, bN, List.getElem?_cons_zero, List.getElem?_cons_succ, Nat.zero_add, Nat.reduceAdd, Nat.add_zero, bI hx1, i8, i7, i9, iY, i6, iW, iX, iZ, ja, i5, fW, fM, fQ, fS, fI, fF, fP, fR, fK, fG, fV, fZ, fO, fX, fY, dK, cZ, cP, fJ, fN, fE, fT, fH, fU, dJ, dL, dP, dM, cO, (hpp.grow g).2.choose_spec.1.len]
    refine RunG.ifB (fun e => RunG.ifB (fun e2 => ?_) fun _ => lf ⟨rfl, g⟩) fun _ => by exact lf ⟨rfl, g⟩
    simp at e e2
    refine Run2.bind (v_PNew hn hfit hro1 (Cfg.mk' (ht.grow g) (hpp.grow g)) (p : Int)) ?_
    rintro _ er h13 ⟨g13, ⟨h0, rfl, rfl⟩ | ⟨rfl, hth, w, bs, rfl, mk, hmk⟩⟩
    · have hth : De zc (p : Int) = 5 ∧ XY zc = false := by
        unfold De at h0 ⊢
        cases hmay : XY zc with
        | true => rw [hmay] at h0; simp at h0; omega
        | false => simp
      rw [hth.1]
      have t5 : ∀ (A B : CRes), ifB (!((5 : Int) == 0)) A B = A := fun _ _ => rfl
      have t6 : ∀ (A B : CRes), ifB ((5 : Int) == 5) A B = A := fun _ _ => rfl
      have gg := g.trans g13
      simp only [aK, bf, bh, bk, b9, bW, b8, cb, bC, cd, ca, cc, cu, cx, bB, bo, bV, bZ, bG, bb, bl, aM, br, bq, aW, aH, be, ce, cA, bK, ba, bc, ci, cg, bJ, bO, bL, bM, bu, bt, bN, List.getElem?_cons_zero, List.getElem?_cons_succ, Nat.zero_add, Nat.reduceAdd, Nat.add_zero, t5, t6, bI (gg.cl hx), i8, i7, i9, iY, i6, iW, iX, iZ, ja, i5, fW, fM, fQ, fS, fI, fF, fP, fR, fK, fG, fV, fZ, fO, fX, fY, dK, cZ, cP, fJ, fN, fE, fT, fH, fU, dJ, dL, dP, dM, cO]
      refine Run1.bind (v_May hfit (gg.le hro) (Cfg.mk' (ht.grow gg) (hpp.grow gg))) ?_
      rintro _ h16 ⟨rfl, g16⟩
      rw [hth.2]
      exact lf ⟨rfl, gg.trans g16⟩
    · have hm1 : XY zc = true := by
        unfold De at hth
        cases hmay : XY zc with
        | true => rfl
        | false => rw [hmay] at hth; simp at hth
      rw [Int.toNat_natCast] at mk hmk
      have po := aku hm1 (show p < zc.parts.length by omega)
      have inv0 := Inv.new (zc := zc) (p := p) hmk
      have pin : PoolIn h13 w (newP zc p bs) := mk.pool
      have ok0 := inv0.ok po (by simp)
      have hq := po.quota
      simp only [qa, Bool.and_eq_true] at hq
      have hord := hq.1
      simp [cM] at hord
      have t0 : ∀ (A B : CRes), ifB (!((0 : Int) == 0)) A B = B := fun _ _ => rfl
      simp only [show ((0 : Int) == 0) = true from rfl, Bool.not_true, bo]
      have hgo : ∀ h19 w' z' r T, w'.p = w.p → Works zc p h h19 w' z' r T → T.length ≤ 10 → RunG ap1 (fun k => eA n f1 (ob n) (k8 n) (gk n) (eE n) k
          (dC n f1 (ob n) (k8 n) (gk n) (eE n) k m) n v1 (.ptr x 0) (.slice b 0 4096 0 false) (p : Int) (.ptr w.p 0) r ((0 : Nat) : Int) h19) (fun r => r.1 = true ∧ Grow h00 r.2) := by
        intro h19 w' z' r T hwp W hT
        refine amM (by omega) po hro1 (hd.grow g) f1 _ _ _ (J := fun k => dC n f1 (ob n) (k8 n) (gk n) (eE n) k m) (fun h2 w2 z2 v2 T2 W2 hT2 => ?_) n 0 h19 w' z' r T W hwp (by omega) (by omega) (by omega) (by omega)
        unfold iO py
        have hT' : ∀ f ∈ T2, 0 ≤ f ∧ f < 4096 := fun f hf => ⟨(W2.inv.own po hf).1, (W2.inv.own po hf).2.1⟩
        refine amO (n := n) (h00 := h00) (T := T2) (ow0 := ow) (by omega) hb W2.inv.nodup hT' (fun c hc => ?_) f1 _ _ _ _ (J := fun k => dC n f1 (ob n) (k8 n) (gk n) (eE n) k m) (fun h3 ow3 g3 o3 i3 => ?_) n 0 h2 ow (g.trans W2.g) (ho.grow W2.g) W2.row (by omega) (by omega) (fun j _ hj => ?_) (fun f hf => .inl hf)
        · have h1 := (W2.off c hc).2
          have h2 := ho.own.lt
          omega
        · refine ih (p + 1) h3 ow3 g3 o3 (fun f hf => ?_) (by omega) (by omega)
          rcases i3 f hf with h1 | h1
          · obtain ⟨q, h2, h3⟩ := hin f h1
            exact ⟨q, by omega, h3⟩
          · exact ⟨p, by omega, (W2.inv.own po h1).2.2⟩
        · have hmem : nz T2 j ∈ T2 := by rw [pU hj]; exact List.getElem_mem hj
          have hown := W2.inv.own po hmem
          by_cases hz : nz ow (nz T2 j).toNat = 0
          · exact hz
          · obtain ⟨q, h2, h3⟩ := hin _ hz
            rw [Int.toNat_of_nonneg hown.1] at h3
            exact (po.other q h2 _ hown.2.2 h3).elim
      refine Run2.bind (v_Image (o := (d9 zc p).order.toNat) (by omega) (g13.le hro1) pin ok0 (by omega) (by show (d9 zc p).order = _; omega) rfl) ?_
      rintro r er h19 (⟨rfl, rfl, rfl, _⟩ | ⟨rfl, k, a, rest, bv', h1, hk, hxx, hemp, hl, hoff, hpin, hsub, c⟩)
      · exact hgo h19 w _ .nilslice [] rfl ⟨pin, inv0, .nil, fun c e => (nomatch e), mk.low, g13⟩ (by simp)
      · have hs := inv0.step po (u := 1) (ok0.ne) (by omega) h1 hk hxx hemp
        rw [List.nil_append] at hs
        have hpow : 2 ^ (d9 zc p).order.toNat ≤ 2 ^ 3 := Nat.pow_le_pow_right (by omega) (by omega)
        refine hgo h19 { w with bv := bv' } _ r _ rfl ⟨hpin, hs, hl, fun d e1 => ⟨(hoff d e1).2, Nat.le_trans g13.nx (hoff d e1).1⟩, fun d e1 => ?_, c.grow g13 mk.low⟩ (by rw [wF]; omega)
        rcases hsub d e1 with e3 | e3
        · exact mk.low d e3
        · exact Nat.le_trans g13.nx e3
theorem ahs : ∀ n : Nat, CT [AV.int .i64 0] n = kD (List.replicate n 0)
  | 0 => rfl
  | n + 1 => by rw [Mw, ahs n, List.replicate_succ]; rfl
theorem r_mk {h : Heap} (hro : h.ro ≤ h.nx) {n : Nat} (hn : n ≤ 1048576) : Run1 (mkK h [.int .i64 0] (n : Int) (n : Int)) fun v h' => v = .slice h.nx 0 n 0 false ∧ Own h' h.nx (kD (List.replicate n 0)) 0 ∧ Grow h h' := by
  refine ⟨(.slice h.nx 0 n 0 false, h.add (.cells (kD (List.replicate n 0)) true 0)), ⟨rfl, ⟨by simp, by simpa using hro, by rw [Heap.get_add, if_pos rfl]⟩, Grow.add⟩, fun k => ?_⟩
  unfold mkK
  rw [bZ, bZ]
  have : andB (Nat.ble n n) (Nat.ble n wD) = true := by
    rw [bW, Nat.ble_eq_true_of_le (Nat.le_refl n), Nat.ble_eq_true_of_le (by unfold wD; exact hn)]; rfl
  rw [this, bB, xm, aK, ahs]
  show k (.slice h.nx 0 n (Nat.sub n n) false) _ = _
  rw [show Nat.sub n n = 0 from Nat.sub_self n]; rfl
theorem v_Apart {n : Nat} (hn : 5000 < n) {zc : CfgZ} (hfit : Fits n zc) {h : Heap} (hro : h.ro ≤ h.nx) {c : List AV} (hc : Cfg h zc c) {v1 : AV} {us : List Int} (hd : DoL h v1 us) :
    Run1 (mU n (.agg c) v1 h) fun r h' => r = true ∧ Grow h h' := by
  unfold mU qA qL
  obtain ⟨t, pp, rfl, ht, hp⟩ := hc
  refine Run1.bind (w6 ..) ?_
  rintro x h1 ⟨hb, g⟩
  have hw : ∀ K : AV → Heap → CRes, Hn lq [] h1 K = K (.bool true) h1 := fun K => rfl
  have t1 : ∀ A B : CRes, ifB (!true) A B = B := fun _ _ => rfl
  simp only [aK, bf, bh, bk, b9, bW, b8, cb, bC, cd, ca, cc, cu, cx, bB, bo, bV, bZ, bG, bb, bl, aM, br, bq, aW, aH, be, ce, cA, bK, ba, bc, ci, cg, bJ, bO, bL, bM, bu, bt, bN, List.getElem?_cons_zero, List.getElem?_cons_succ, Nat.zero_add, Nat.reduceAdd, Nat.add_zero, hw, t1]
  refine Run1.bind (r_mk (n := 4096) (g.le hro) (by decide)) ?_
  rintro _ h6 ⟨rfl, o6, g6⟩
  refine RunG.mono (am5 hn hfit (g.le hro) hb (ht.grow g) (hp.grow g) (hd.grow g) (Nat.le_refl _) _ n 0 h6 (List.replicate 4096 0) g6 ⟨o6, by rw [List.length_replicate]⟩ (fun f hf => ?_) (by omega) (by omega)) ?_
  · exfalso
    apply hf
    unfold nz
    rw [List.getD_eq_getElem?_getD, List.getElem?_replicate]
    split <;> rfl
  · rintro ⟨r, h'⟩ ⟨e1, e2⟩
    exact ⟨e1, g.trans e2⟩
end Go.Proofs.Ytnlbfbiogfilfaa.Sh
/- What the input's data is, cell by cell: numbers, bools, slices of such; out of what a row's reading says. -/
namespace Go.Ai
inductive Kds where
  | nil
  | bool (r : Kds)
  | int (k : IntKind) (r : Kds)
  | slice (e r : Kds)
def Kds.len : Kds → Nat
  | .nil => 0
  | .bool r => r.len + 1
  | .int _ r => r.len + 1
  | .slice _ r => r.len + 1
def Kds.app : Kds → Kds → Kds
  | .nil, s => s
  | .bool r, s => .bool (r.app s)
  | .int k r, s => .int k (r.app s)
  | .slice e r, s => .slice e (r.app s)
theorem Kds.len_app : ∀ a b : Kds, (a.app b).len = a.len + b.len
  | .nil, b => by simp [Kds.app, Kds.len]
  | .bool r, b => by simp [Kds.app, Kds.len, Kds.len_app r b]; omega
  | .int _ r, b => by simp [Kds.app, Kds.len, Kds.len_app r b]; omega
  | .slice _ r, b => by simp [Kds.app, Kds.len, Kds.len_app r b]; omega
structure Wd where
  K : Nat
  N : Nat
  odds : List Addr
structure Wd.Le (a b : Wd) : Prop where
  K : a.K ≤ b.K
  N : a.N ≤ b.N
  odds : ∀ x ∈ a.odds, x ∈ b.odds
theorem Wd.Le.refl (a : Wd) : Wd.Le a a := ⟨Nat.le_refl _, Nat.le_refl _, fun _ h => h⟩
theorem Wd.Le.trans {a b c : Wd} (h : Wd.Le a b) (g : Wd.Le b c) : Wd.Le a c := ⟨Nat.le_trans h.K g.K, Nat.le_trans h.N g.N, fun x hx => g.odds x (h.odds x hx)⟩
def Wd.join (a b : Wd) : Wd := ⟨a.K + b.K, a.N + b.N, a.odds ++ b.odds⟩
theorem Wd.le_l (a b : Wd) : Wd.Le a (a.join b) := ⟨Nat.le_add_right _ _, Nat.le_add_right _ _, fun _ h => List.mem_append_left _ h⟩
theorem Wd.le_r (a b : Wd) : Wd.Le b (a.join b) := ⟨Nat.le_add_left _ _, Nat.le_add_left _ _, fun _ h => List.mem_append_right _ h⟩
theorem Wd.range {Q : Nat → Wd → Prop} (mono : ∀ i D D', Wd.Le D D' → Q i D → Q i D') : ∀ n, (∀ i, i < n → ∃ D, Q i D) → ∃ D, ∀ i, i < n → Q i D
  | 0, _ => ⟨⟨0, 0, []⟩, fun i h => by omega⟩
  | n + 1, h => by
    obtain ⟨D1, h1⟩ := Wd.range mono n fun i hi => h i (by omega)
    obtain ⟨D2, h2⟩ := h n (by omega)
    refine ⟨D1.join D2, fun i hi => ?_⟩
    by_cases e : i = n
    · subst e; exact mono _ _ _ (Wd.le_r D1 D2) h2
    · exact mono _ _ _ (Wd.le_l D1 D2) (h1 i (by omega))
def HasL (w : World) (D : Wd) : Kds → List Value → Prop
  | .nil, [] => True
  | .bool r, v :: t => (∃ b, v = .bool b) ∧ HasL w D r t
  | .int k r, v :: t => (∃ n, v = .int k n ∧ k.min ≤ n ∧ n ≤ k.max) ∧ HasL w D r t
  | .slice e r, v :: t => (v = .slice none 0 0 ∨ (∃ a, a ∈ D.odds ∧ v = .slice (some a) 0 0) ∨
      ∃ b off len cap, v = .slice (some ⟨b, off, none⟩) len cap ∧ len ≤ cap ∧ cap ≤ 9223372036854775807 ∧ (0 < cap ∧ 0 < e.len) ∧ off < D.K ∧ b < D.N ∧ cap < D.K ∧
        ∀ i, i < cap → ∃ cs, (∀ j, j < e.len → w.cell? ⟨b, off + i * e.len + j, none⟩ = cs[j]?) ∧ HasL w D e cs) ∧ HasL w D r t
  | _, _ => False
theorem HasL.length {w : World} {D : Wd} : ∀ {k : Kds} {l : List Value}, HasL w D k l → l.length = k.len
  | .nil, [], _ => rfl
  | .bool r, v :: t, h => by rw [List.length_cons, Kds.len, HasL.length (k := r) h.2]
  | .int _ r, v :: t, h => by rw [List.length_cons, Kds.len, HasL.length (k := r) h.2]
  | .slice _ r, v :: t, h => by rw [List.length_cons, Kds.len, HasL.length (k := r) h.2]
  | .nil, _ :: _, h => h.elim
  | .bool _, [], h => h.elim
  | .int _ _, [], h => h.elim
  | .slice _ _, [], h => h.elim
theorem HasL.mono {w : World} {D D' : Wd} (d : Wd.Le D D') : ∀ {k : Kds} {l : List Value}, HasL w D k l → HasL w D' k l
  | .nil, [], _ => trivial
  | .bool r, v :: t, h => ⟨h.1, HasL.mono d (k := r) h.2⟩
  | .int _ r, v :: t, h => ⟨h.1, HasL.mono d (k := r) h.2⟩
  | .slice e r, v :: t, h => by
    refine ⟨?_, HasL.mono d (k := r) h.2⟩
    rcases h.1 with h1 | ⟨a, h1, h2⟩ | ⟨b, off, len, cap, h1, h2, h3, h4, h5, h6, h7, h8⟩
    · exact .inl h1
    · exact .inr (.inl ⟨a, d.odds a h1, h2⟩)
    · refine .inr (.inr ⟨b, off, len, cap, h1, h2, h3, h4, Nat.lt_of_lt_of_le h5 d.K, Nat.lt_of_lt_of_le h6 d.N, Nat.lt_of_lt_of_le h7 d.K, fun i hi => ?_⟩)
      obtain ⟨cs, h9, h10⟩ := h8 i hi
      exact ⟨cs, h9, HasL.mono d (k := e) h10⟩
  | .nil, _ :: _, h => h.elim
  | .bool _, [], h => h.elim
  | .int _ _, [], h => h.elim
  | .slice _ _, [], h => h.elim
theorem HasL.app {w : World} {D : Wd} {s : Kds} {m : List Value} (g : HasL w D s m) : ∀ {k : Kds} {l : List Value}, HasL w D k l → HasL w D (k.app s) (l ++ m)
  | .nil, [], _ => g
  | .bool r, v :: t, h => ⟨h.1, HasL.app g (k := r) h.2⟩
  | .int _ r, v :: t, h => ⟨h.1, HasL.app g (k := r) h.2⟩
  | .slice e r, v :: t, h => ⟨h.1, HasL.app g (k := r) h.2⟩
  | .nil, _ :: _, h => h.elim
  | .bool _, [], h => h.elim
  | .int _ _, [], h => h.elim
  | .slice _ _, [], h => h.elim
def aek (g : TypeId → Option Kds) (sz : TypeId → Nat) : Nat → List Field → Option Kds
  | _, [] => some .nil
  | o, f :: fs => if f.offset = o then (g f.type).bind fun l => if l.len = sz f.type then (aek g sz (o + l.len) fs).map fun r => l.app r else none else none
def ae3 (P : Program) : Nat → TypeId → Option Kds
  | 0, _ => none
  | n + 1, t => match P.underlying t with
    | some .bool => some (.bool .nil)
    | some (.int k) => some (.int k .nil)
    | some (.slice e) => (ae3 P n e).bind fun l => if l.len = P.cellsOf e ∧ l.len ≠ 0 then some (.slice l .nil) else none
    | some (.struct fs) => (aek (ae3 P n) P.cellsOf 0 fs.toList).bind fun r => if r.len = P.cellsOf t then some r else none
    | _ => none
theorem has_fs {w : World} {g : TypeId → Option Kds} {sz : TypeId → Nat} {cs : List Value} : ∀ (fs : List Field) (o : Nat) (r : Kds), aek g sz o fs = some r → o + r.len ≤ cs.length →
    (∀ f ∈ fs, ∀ l, g f.type = some l → ∃ D, HasL w D l ((cs.drop f.offset).take (sz f.type))) → ∃ D, HasL w D r ((cs.drop o).take r.len)
  | [], o, r, h, _, _ => by
    cases h
    exact ⟨⟨0, 0, []⟩, by simp [Kds.len, HasL]⟩
  | f :: fs, o, r, h, hl, hall => by
    unfold aek at h
    split at h
    · rename_i ho
      subst ho
      cases hg : g f.type with
      | none => rw [hg] at h; cases h
      | some l =>
        rw [hg, Option.bind_some] at h
        split at h
        · rename_i hsz
          simp only [Option.map_eq_some_iff] at h
          obtain ⟨r', hr', rfl⟩ := h
          rw [Kds.len_app] at hl
          obtain ⟨D1, h1⟩ := hall f (List.mem_cons_self ..) l hg
          obtain ⟨D2, h2⟩ := has_fs (w := w) (cs := cs) fs _ _ hr' (by omega) fun f' hf' => hall f' (List.mem_cons_of_mem _ hf')
          refine ⟨D1.join D2, ?_⟩
          have := HasL.app (h2.mono (Wd.le_r D1 D2)) (h1.mono (Wd.le_l D1 D2))
          rw [← hsz] at this
          rw [Kds.len_app, List.take_add, List.drop_drop]
          exact this
        · cases h
    · cases h
theorem abN {H : Type} {enc : TypeId × Value → H} {P : Program} {w : World} : ∀ (m : Nat) (t : TypeId) (k : Kds), ae3 P m t = some k → ∀ (fuel : Nat) (cs : List Value) (x : DataW H × List MemPlace),
    DataW.trod enc P w 0 (fun _ => true) true fuel t cs = some x → ∃ D, HasL w D k cs := by
  intro m
  induction m with
  | zero => intro t k h; cases h
  | succ m ih =>
    intro t k h fuel cs x hx
    unfold ae3 at h
    split at h
    · rename_i ht
      cases h
      obtain ⟨b, rfl, _⟩ := DataW.trod_bool ht hx
      exact ⟨⟨0, 0, []⟩, ⟨b, rfl⟩, trivial⟩
    · rename_i q ht
      cases h
      obtain ⟨n, rfl, _, hw⟩ := DataW.trod_int ht hx
      simp only [Lit.wf, Bool.and_eq_true, decide_eq_true_eq] at hw
      exact ⟨⟨0, 0, []⟩, ⟨n, rfl, hw⟩, trivial⟩
    · rename_i e ht
      cases hf : ae3 P m e with
      | none => rw [hf] at h; cases h
      | some l =>
        rw [hf, Option.bind_some] at h
        split at h
        · rename_i hl
          obtain ⟨hl, hl0⟩ := hl
          cases h
          rcases DataW.trod_slice ht hx with ⟨rfl, _⟩ | ⟨a, len, cap, elems, rest, n, _, rfl, _, _, hlc, hcm, hel, hat, hrest, _⟩
          · exact ⟨⟨0, 0, []⟩, .inl rfl, trivial⟩
          · by_cases h0 : cap = 0
            · subst h0
              obtain rfl : len = 0 := by omega
              exact ⟨⟨0, 0, [a]⟩, .inr (.inl ⟨a, by simp, rfl⟩), trivial⟩
            · obtain ⟨hrl, hrat⟩ := hrest rfl
              have hall : ∀ i, i < cap → ∃ cs x, w.cells? 0 (a.add (i * P.cellsOf e)) (P.cellsOf e) = some cs ∧ DataW.trod enc P w 0 (fun _ => true) true n e cs = some x := by
                intro i hi
                by_cases hlt : i < len
                · have h1 := hat i hlt
                  have hlt' : i < elems.length := by omega
                  rw [List.getElem?_eq_getElem hlt', Option.bind_eq_some_iff] at h1
                  obtain ⟨cs, h2, h3⟩ := h1
                  exact ⟨cs, _, h2, h3⟩
                · have h1 := hrat (i - len) (by omega)
                  have hlt' : i - len < rest.length := by omega
                  rw [List.getElem?_eq_getElem hlt', Option.bind_eq_some_iff] at h1
                  obtain ⟨cs, h2, h3⟩ := h1
                  rw [show len + (i - len) = i by omega] at h2
                  exact ⟨cs, _, h2, h3⟩
              obtain ⟨b, off, spot⟩ := a
              have hspot : spot = none := by
                obtain ⟨cs, _, h2, _⟩ := hall 0 (by omega)
                obtain ⟨_, h3, h4⟩ := World.cells?_some h2
                have h5 := h4 0 (by omega)
                rw [List.getElem?_eq_getElem (by omega)] at h5
                rw [Nat.zero_mul] at h5
                simpa [Addr.add] using World.cell?_spot h5
              subst hspot
              have hcs : ∀ i, i < cap → ∃ D, ∃ cs, (∀ j, j < l.len → w.cell? ⟨b, off + i * l.len + j, none⟩ = cs[j]?) ∧ HasL w D l cs := by
                intro i hi
                obtain ⟨cs, y, h2, h3⟩ := hall i hi
                obtain ⟨_, h4, h5⟩ := World.cells?_some h2
                obtain ⟨D, h6⟩ := ih e l hf n cs y h3
                refine ⟨D, cs, fun j hj => ?_, h6⟩
                have := h5 j (by omega)
                rw [Addr.add_lit, Addr.add_lit] at this
                rw [hl]
                exact this
              obtain ⟨D, hD⟩ := Wd.range (Q := fun i D => ∃ cs, (∀ j, j < l.len → w.cell? ⟨b, off + i * l.len + j, none⟩ = cs[j]?) ∧ HasL w D l cs)
                (fun i D D' d ⟨cs, h1, h2⟩ => ⟨cs, h1, h2.mono d⟩) cap hcs
              refine ⟨D.join ⟨off + cap + 1, b + 1, []⟩, .inr (.inr ⟨b, off, len, cap, rfl, hlc, by unfold maxLen at hcm; omega, ⟨by omega, by omega⟩, ?_, ?_, ?_, fun i hi => ?_⟩), trivial⟩
              · show off < D.K + (off + cap + 1); omega
              · show b < D.N + (b + 1); omega
              · show cap < D.K + (off + cap + 1); omega
              · obtain ⟨cs, h1, h2⟩ := hD i hi
                exact ⟨cs, h1, h2.mono (Wd.le_l _ _)⟩
        · cases h
    · rename_i fs ht
      cases hf : aek (ae3 P m) P.cellsOf 0 fs.toList with
      | none => rw [hf] at h; cases h
      | some r =>
        rw [hf, Option.bind_some] at h
        split at h
        · rename_i hr
          cases h
          obtain ⟨xs, n, _, _, hl, hxs, hat⟩ := DataW.trod_struct ht hx
          obtain ⟨D, hD⟩ := has_fs (w := w) (cs := cs) _ _ _ hf (by omega) (fun f hf' l hg => by
            obtain ⟨i, hi, rfl⟩ := List.mem_iff_getElem.1 hf'
            have h1 := hat i fs.toList[i] (by simp)
            have : i < xs.length := by simpa [hxs] using hi
            rw [List.getElem?_eq_getElem this] at h1
            exact ih _ _ hg n _ _ h1)
          refine ⟨D, ?_⟩
          rw [List.drop_zero, List.take_of_length_le (by omega)] at hD
          exact hD
        · cases h
    · cases h
end Go.Ai
