/- slab.least at this program: the least key of a map of which a function says yes, in whatever order the keys come. -/
import Derived.Test.YtphpkpemamccnaaGreatAiLeast
import Derived.WalkKit
import Derived.OwnWalk
import Derived.Test.YtphpkpemamccnaaGreatProg
namespace Go.Proofs.YtphpkpemamccnaaGreat.least
open Go.RowKit Go.Maps Go.Sort Go.Shelf Go.Ai Go.Proofs

theorem law3 : Keyed Tryz.prog 3 := int_keyed Tryz.underlying3
def heldR : Value → Option (DataW Value × List MemPlace) := fun v => some (.held v, [])
theorem key3 {z : Int} (h : in64 z) : keyOf Tryz.prog 3 (encZ z) = some (.int .i64 z) := by
  have hw : (Lit.int .i64 z).wf = true := by
    unfold in64 at h
    simp only [Lit.wf, Bool.and_eq_true, decide_eq_true_eq]
    exact ⟨h.1, h.2⟩
  simp [keyOf, Tryz.underlying3, mapKey, hw]
theorem ent_keys {M : Mp} {D : Nat → Prop} : ∀ {es : List (AV × AV)} {ms : List MapEntry}, EntOk M D es ms → ms.map (·.key) = es.map fun e => conc M e.1
  | [], [], _ => rfl
  | e :: es, m :: ms, h => by simp [h.1.1, ent_keys h.2]
  | [], _ :: _, h => h.elim
  | _ :: _, [], h => h.elim
theorem ent_at {M : Mp} {D : Nat → Prop} : ∀ {es : List (AV × AV)} {ms : List MapEntry}, EntOk M D es ms → ∀ (i : Nat) (m : MapEntry), ms[i]? = some m → ∃ e, es[i]? = some e ∧ m.key = conc M e.1 ∧ m.val = conc M e.2 ∧ okv D e.2
  | [], [], _, i, m, h => by simp at h
  | e :: es, m' :: ms, h, i, m, hm => by
    cases i with
    | zero => simp at hm; subst hm; exact ⟨e, rfl, h.1.1, h.1.2.1, h.1.2.2.2⟩
    | succ i => simpa using ent_at h.2 i m (by simpa using hm)
  | [], _ :: _, h, _, _, _ => h.elim
  | _ :: _, [], h, _, _, _ => h.elim

theorem owns {M : Mp} {D : Nat → Prop} {w : World} {L : Ai.Loc} {es : List (AV × AV)} {zs : List Int} (h : MapOk M D w L es) (hz : keysZ es = some zs) (hn : zs.Nodup) (h12 : zs.length ≤ 1000000) :
    ∃ nn D0, w.ownsMap Tryz.prog 3 heldR L.blk nn D0 ∧ (∀ x ∈ zs, Maps.has D0 (.int .i64 x) = true) ∧
      ∀ x c, (∀ zd, D0.atKey (.int .i64 x) zd = .held c) → ∃ (i : Nat) (e : AV × AV), es[i]? = some e ∧ zs[i]? = some x ∧ conc M e.2 = c ∧ okv D e.2 := by
  obtain ⟨⟨ms, clock, hms, hent, hb1, hb2⟩⟩ := h
  obtain ⟨k1, k2⟩ := keysZ_some hz
  have k3 : ms.toList.map (·.key) = zs.map encZ := by
    rw [ent_keys hent]
    have : es.map (fun e => conc M e.1) = (es.map (·.1)).map (conc M) := by simp
    rw [this, k1]; simp [conc]
  have hlen : ms.toList.length = zs.length := by have := congrArg List.length k3; simpa using this
  have hrd : ∀ x ∈ ms.toList, ∃ z, z ∈ zs ∧ x.key = encZ z ∧ WideElems.rd Tryz.prog 3 heldR x = some (.int .i64 z, .held x.val) := by
    intro x hx
    have : x.key ∈ zs.map encZ := by rw [← k3]; exact List.mem_map.2 ⟨x, hx, rfl⟩
    obtain ⟨z, hz, e⟩ := List.mem_map.1 this
    refine ⟨z, hz, e.symm, ?_⟩
    unfold WideElems.rd
    rw [← e, key3 (k2 z hz)]
    rfl
  have hmem : ∀ p, p ∈ (ms.toList.map (WideElems.rg Tryz.prog 3 heldR)).foldr DataW.insert [] ↔ p ∈ ms.toList.map (WideElems.rg Tryz.prog 3 heldR) := fun p => (WideShapes.sorted_perm _).mem_iff
  refine ⟨ms.size, _, ⟨ms, clock, hms, ⟨?_, ⟨fun x hx => hb2 x hx, ?_, ?_⟩, fun x hx => let ⟨z, _, _, e⟩ := hrd x hx; ⟨_, e⟩⟩, Nat.le_refl _, rfl⟩, ?_, ?_⟩
  · rw [Array.length_toList] at hlen; unfold maxLen; omega
  · exact List.Pairwise.map _ (fun a b h => Nat.ne_of_lt h) hb1
  · rw [k3]; exact List.Pairwise.map _ (fun a b h e => h (encZ_inj e)) hn
  · intro x hx
    have : encZ x ∈ ms.toList.map (·.key) := by rw [k3]; exact List.mem_map.2 ⟨x, hx, rfl⟩
    obtain ⟨m, hm, e⟩ := List.mem_map.1 this
    obtain ⟨z, _, e1, e2⟩ := hrd m hm
    have : x = z := encZ_inj (e.symm.trans e1)
    subst this
    have hp : (Lit.int .i64 x, DataW.held m.val) ∈ (ms.toList.map (WideElems.rg Tryz.prog 3 heldR)).foldr DataW.insert [] := (hmem _).2 (List.mem_map.2 ⟨m, hm, by simp [WideElems.rg, e2]⟩)
    simp only [Maps.has]
    exact List.any_eq_true.2 ⟨_, hp, by simp [Lit.sameKey]⟩
  · intro x c hat
    have h1 := hat .nil
    simp only [DataW.atKey] at h1
    split at h1
    · rename_i p hp
      have hpm := (hmem p).1 (List.mem_of_find?_eq_some hp)
      have hpk := List.find?_some hp
      obtain ⟨m, hm, hpe⟩ := List.mem_map.1 hpm
      obtain ⟨i, hi⟩ := List.mem_iff_getElem?.1 hm
      obtain ⟨z, _, e1, e2⟩ := hrd m hm
      have hpe : p = (.int .i64 z, .held m.val) := by rw [← hpe]; simp [WideElems.rg, e2]
      subst hpe
      have hzx : z = x := by simpa [Lit.sameKey] using hpk
      subst hzx
      cases h1
      obtain ⟨e, h3, _, h5, h6⟩ := ent_at hent i m hi
      refine ⟨i, e, h3, ?_, h5.symm, h6⟩
      have : (ms.toList.map (·.key))[i]? = some (encZ z) := by rw [List.getElem?_map, hi]; simp [e1]
      rw [k3, List.getElem?_map] at this
      obtain ⟨y, hy, hye⟩ := Option.map_eq_some_iff.1 this
      rw [hy, encZ_inj hye]
    · cases h1

/-- a call of a function value -/
theorem wpList_callv {P : Program} {ops : Array Oper} {Q : Exit → Act → World → Prop} {o : Oper} {rest : List Oper} {a : Act} {w : World} (hg : o.guard = none) {f : Operand} {args : Array Operand} {tys : Array TypeId}
    (hop : o.op = Op.call { callee := Callee.value f, args := args, argTypes := tys }) {g : FuncId} (hf : a.eval f = .func (.func g) #[] #[]) (hent : Ai.Enters P g)
    (hc : Calls P g (args.map a.eval) w fun e w' => ∃ v, e = .returned v ∧ wpList P ops Q rest (a.put o.dst v) w') : wpList P ops Q (o :: rest) a w := by
  refine wpList_plain hg fun K' hK' => ?_
  unfold Oper.wp
  have hrun : (execOp a.eval o).run P w = .ok (.enter g (args.map a.eval)) w := by
    simp only [execOp, hop, resolve, hf, Deferred.ofValue, pure_bind, invoke]
    have := run_callFunc (P := P) (w := w) (f := g) (args := #[] ++ args.map a.eval ++ #[]) hent
    rw [this]
    simp
  rw [hrun]
  refine Calls.mono hc fun e w' ⟨v, he, hw⟩ => ?_
  subst he
  exact hK' _ _ hw

/-- what has come so far: the least of those that the function said yes of -/
structure Mid (M : Mp) (D : Nat → Prop) (H : Ai.Heap) (w : World) (zs : List Int) (ts : List Bool) (left : Lit → Bool) (best : Int) (some_ : Bool) (wr : World) : Prop where
  rel : Rel M D H wr
  ext : Ext M D H w M D H wr
  least : Least (fun x => left (.int .i64 x) = false ∧ (x, true) ∈ zs.zip ts) best some_

theorem zip_at {zs : List Int} {ts : List Bool} {i : Nat} {x : Int} {t : Bool} (hnd : zs.Nodup) (h1 : zs[i]? = some x) (h2 : ts[i]? = some t) : (x, true) ∈ zs.zip ts ↔ t = true := by
  constructor
  · intro h
    obtain ⟨j, hj⟩ := List.mem_iff_getElem?.1 h
    rw [List.getElem?_zip_eq_some] at hj
    have : i = j := by
      obtain ⟨hi, e1⟩ := List.getElem?_eq_some_iff.1 h1
      obtain ⟨hj', e2⟩ := List.getElem?_eq_some_iff.1 hj.1
      exact (List.getElem_inj hnd).1 (e1.trans e2.symm)
    subst this
    rw [h2] at hj
    simpa using hj.2
  · intro h
    subst h
    exact List.mem_iff_getElem?.2 ⟨i, by rw [List.getElem?_zip_eq_some]; exact ⟨h1, h2⟩⟩

theorem Mid.next {M : Mp} {D : Nat → Prop} {H : Ai.Heap} {w wr w3 : World} {zs : List Int} {ts : List Bool} {left : Lit → Bool} {best x : Int} {s t : Bool} {i : Nat} (h : Mid M D H w zs ts left best s wr) (hnd : zs.Nodup) (h1 : zs[i]? = some x) (h2 : ts[i]? = some t)
    (hl : left (.int .i64 x) = true) (hr : Rel M D H w3) (hx : Ext M D H w M D H w3) :
    Mid M D H w zs ts (fun z => left z && !z.sameKey (.int .i64 x)) (if t && (!s || decide (x < best)) then x else best) (if t && (!s || decide (x < best)) then true else s) w3 := by
  refine ⟨hr, hx, h.least.step fun y => ?_⟩
  have e : (left (.int .i64 y) && !(Lit.int .i64 y).sameKey (.int .i64 x)) = false ↔ left (.int .i64 y) = false ∨ y = x := by
    rw [Bool.and_eq_false_iff]
    simp [Lit.sameKey]
  rw [e]
  constructor
  · rintro ⟨h3 | rfl, h4⟩
    · exact .inl ⟨h3, h4⟩
    · exact .inr ⟨rfl, (zip_at hnd h1 h2).1 h4⟩
  · rintro (⟨h3, h4⟩ | ⟨rfl, h4⟩)
    · exact ⟨.inl h3, h4⟩
    · exact ⟨.inr rfl, (zip_at hnd h1 h2).2 h4⟩

/-- an iterator's step leaves all that was there -/
theorem rel_grown {M : Mp} {D : Nat → Prop} {H : Ai.Heap} {w wr w2 : World} {row : Option Nat} (h0 : Rel M D H w) (h : Rel M D H wr) (hx : Ext M D H w M D H wr) (hg : wr.grownBy w2 row) (hrow : ∀ k, k < w.heap.size → some k ≠ row) :
    Rel M D H w2 ∧ Ext M D H w M D H w2 := by
  obtain ⟨g1, g2, g3, g4, g5⟩ := hg
  have hb : ∀ c, c < w.heap.size → w2.heap[c]? = wr.heap[c]? := fun c hc => g5 c (Nat.lt_of_lt_of_le hc hx.size) (hrow c hc)
  refine ⟨⟨h.dom, fun b hD => (h.blk b hD).keep (fun _ h => h) (fun _ _ => rfl) (fun hl => hb _ ((h0.blk b hD).lt hl)) g4, h.inj⟩, ?_⟩
  exact { hx with
    frame := fun c hc hn => (hb c hc).trans (hx.frame c hc hn)
    size := Nat.le_trans hx.size g4
    os := g1.trans hx.os
    tape := g2.trans hx.tape
    output := g3.trans hx.output }

set_option maxRecDepth 100000 in
set_option maxHeartbeats 2000000 in
theorem least_ok {cf : ACalls} (hk : CallsOk Tryz.prog cf) (hm : CallsMono cf) : PrimOk Tryz.prog 45 (leastG cf) := by
  intro vs H v H' h M D w hp hr hok
  obtain ⟨rfl, m, f, es, zs, ts, rfl, hes, hzs, hnd, hbig, hts, rfl⟩ := leastG_inv h
  have hDm : D m := by
    have := (okL_iff _ _).1 hok (.map m) (by simp)
    simpa [okv] using this
  have hmap : MapOk M D w (M m) es := by have := hr.blk m hDm; rwa [mapAt_some hes] at this
  obtain ⟨hl1, hsu⟩ := suchL_at hts
  have hzl : zs.length = es.length := by have := congrArg List.length (keysZ_some hzs).1; simpa using this.symm
  obtain ⟨nn, D0, hown, hhas, hat0⟩ := owns hmap hzs hnd hbig
  have hfin : ∀ best s, Least (fun x => (x, true) ∈ zs.zip ts) best s → best = (leastZ zs ts 0 false).1 ∧ s = (leastZ zs ts 0 false).2 := fun best s hL => by
    have h0 : Least (fun _ => False) 0 false := .inl ⟨rfl, rfl, fun _ h => h⟩
    have h1 := leastZ_ok zs ts _ 0 false (by omega) h0
    have e : (fun y => False ∨ (y, true) ∈ zs.zip ts) = fun x => (x, true) ∈ zs.zip ts := by funext y; simp
    rw [e] at h1
    exact hL.eq h1
  have hargs : (List.map (conc M) [AV.map m, AV.func f [] []]).toArray = #[.map (some (M m).blk), .func (.func f) #[] #[]] := by simp [conc, concL]
  rw [hargs]
  go_enter Tryz.func45, Tryz.ntmps45
  go_wp2_with (first
    | (at_range; refine wpList_range_own _ rfl _ 111 rfl 3 110 law3 Tryz.underlying111 _ (M m).blk nn _ rfl hown ?_; intro w0 hrg0 hg0 hs0)
    | go_in)
  go_frame
  go_loopw [6, 7] (fun v6 v7 wr => ∃ (left : Lit → Bool) (cnt : Nat) (best : Int) (s : Bool), wr.ranges Tryz.prog 3 heldR (M m).blk w.heap.size nn D0 left cnt ∧ Mid M D H' w zs ts left best s wr ∧ v6 = .int .i64 best ∧ v7 = .bool s)
    (fun _ _ wr => wr.rangeLeft (M m).blk w.heap.size)
  case atStart =>
    obtain ⟨r1, r2⟩ := rel_grown hr hr .refl hg0 (fun k _ => by simp)
    refine ⟨_, _, 0, false, hrg0, ⟨r1, r2, .inl ⟨rfl, rfl, fun x hx => ?_⟩⟩, rfl, rfl⟩
    have hxz : x ∈ zs := (List.of_mem_zip hx.2).1
    have hx1 : has D0 (.int .i64 x) = false := hx.1
    rw [hhas x hxz] at hx1
    cases hx1
  case round =>
    obtain ⟨left, cnt, best, s, hrg, hmid, rfl, rfl⟩ := hrel
    go_wp2_with (first
      | (at_next; refine wpList_next_ranges _ rfl _ rfl 3 law3 heldR encZ id (fun key kl hk => by obtain ⟨x, hx, _⟩ := Maps.keyOf_i64 Tryz.underlying3 hk; exact ⟨x, hx⟩) (fun v _ _ => ⟨v, rfl⟩) (M m).blk w.heap.size nn _ _ _ rfl hrg ?_ ?_)
      | go_in)
    · intro hc0 hl0
      go_wp2
      go_ret2
      have e : (fun x => left (.int .i64 x) = false ∧ (x, true) ∈ zs.zip ts) = fun x => (x, true) ∈ zs.zip ts := by
        funext x; simp [hl0]
      have hL := hmid.least
      rw [e] at hL
      obtain ⟨rfl, rfl⟩ := hfin _ _ hL
      exact ⟨M, D, by simp [conc, concL], hmid.rel, hmid.ext, by simp [okv, okL]⟩
    · intro x c kl yd yp w2 cnt2 hkey hlk hv hat hrg2 hlt hg2 hs2 hen
      obtain ⟨x', ex, rfl, _⟩ := Maps.keyOf_i64 Tryz.underlying3 hkey
      obtain rfl : x = x' := encZ_inj ex
      cases hv
      obtain ⟨i, e, hei, hzi, hce, hoke⟩ := hat0 x c hat
      obtain ⟨t, hti, hsv⟩ := hsu i e hei
      obtain ⟨q1, q2⟩ := rel_grown hr hmid.rel hmid.ext hg2 (fun k hk e => by cases e; omega)
      obtain ⟨hent, hcall⟩ := such_calls hk hm hsv hp q1 hoke
      have hrc := run_callFunc (P := Tryz.prog) (w := w2) (f := f) (args := #[c]) hent
      rw [hce] at hcall
      go_wp2
      refine hcall.mono ?_
      rintro e3 w3 ⟨rfl, r3, x3, k3⟩
      have hrg3 := hrg2.of_walks k3
      have hmid3 := hmid.next hnd hzi hti hlk r3 (q2.trans x3)
      go_wp2
      all_goals refine ⟨⟨_, cnt2, _, _, hrg3, hmid3, ?_, ?_⟩, by rw [hrg3.left_eq, hrg.left_eq]; exact hlt⟩
      all_goals (have hle := fun (h : best ≤ x) => Int.not_lt.2 h; simp [*, encZ])
end Go.Proofs.YtphpkpemamccnaaGreat.least
