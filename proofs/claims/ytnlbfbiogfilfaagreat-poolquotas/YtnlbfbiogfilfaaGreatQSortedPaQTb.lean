/- slices.Sorted of maps.Keys at this program, however many keys: the library's text, with the shelf's contract of its sort. -/
import Derived.Test.YtnlbfbiogfilfaaGreatQInsPQSort
import Derived.Test.YtnlbfbiogfilfaaGreatAiTblPaQPrims
import Derived.Shelf.Slices.In.SortNone
import Derived.Test.YtnlbfbiogfilfaaGreatAiShCfg
import Derived.KernelRfl
set_option linter.all false
namespace Go.Proofs
open Go.RowKit Go.Maps Go.Sort Go.Shelf Go.Ai
theorem Qk.enters76 : Ai.Enters Tryz.prog 76 := ⟨Tryz.f76, Tryz.func76, by kernel_rfl, by kernel_rfl⟩
theorem Qk.enters60 : Ai.Enters Tryz.prog 60 := ⟨Tryz.f60, Tryz.func60, by kernel_rfl, by kernel_rfl⟩
theorem Qk.collect_keys {H : Type} {R : Value → Option (DataW H × List MemPlace)} (w : World) (Bm Bo b nn : Nat) (D0 : DataW H) (hBm : Bm < w.heap.size) (hm : w.cell? ⟨Bm, Bo, none⟩ = some (.map (some b)))
    (hown : w.ownsMap Tryz.prog 3 R b nn D0) (hsz : Maps.size D0 ≤ 1000000) :
    Calls Tryz.prog 74 #[.func (.func 76) #[] #[.pointer (some ⟨Bm, Bo, none⟩)]] w fun e w' => ∃ (v : Value) (ss : List Int), e = .returned v ∧ ss.Perm (intKeys D0) ∧ w'.ownsRow w.heap.size 3 1 v ss.length (ss.map encZ) ∧ (v = .slice none 0 0 ↔ ss = []) ∧ Below w.heap.size w w' :=
  (callsIn_wide (n := 3)).1 (Qk.collect_in Fence.wide 3 trivial trivial rfl (Nat.le_refl _) 76 _ trivial (fun _ _ => aeX Qk.enters76) _ (Maps.size D0) (by unfold maxLen; omega) (by omega) w
    (Qk.keys_gives Fence.wide 1 trivial rfl (Nat.le_refl _) Bm Bo b nn D0 w hBm hm hown))
theorem amO {M : Mp} {D : Nat → Prop} : ∀ {es : List (AV × AV)} {ms : List MapEntry}, EntOk M D es ms → ms.map (·.key) = es.map fun e => bw M e.1
  | [], [], _ => rfl
  | e :: es, m :: ms, h => by simp [h.1.1, amO h.2]
  | [], _ :: _, h => h.elim
  | _ :: _, [], h => h.elim
def aii : Value → Option (DataW Unit × List MemPlace) := fun _ => some (.lit (.bool true), [])
theorem Qk.key3 {z : Int} (h : acQ z) : keyOf Tryz.prog 3 (encZ z) = some (.int .i64 z) := by
  have hw : (Lit.int .i64 z).wf = true := by
    unfold acQ at h
    simp only [Lit.wf, Bool.and_eq_true, decide_eq_true_eq]
    exact ⟨h.1, h.2⟩
  simp [keyOf, Tryz.underlying3, mapKey, hw]
theorem Qk.owns {M : Mp} {D : Nat → Prop} {w : World} {L : Ai.Loc} {es : List (AV × AV)} {zs : List Int} (h : MapOk M D w L es) (hz : aaa es = some zs) (hn : zs.Nodup) (h12 : zs.length ≤ 1000000) :
    ∃ nn D0, w.ownsMap Tryz.prog 3 aii L.blk nn D0 ∧ (intKeys D0).Perm zs ∧ Maps.size D0 = zs.length := by
  obtain ⟨⟨ms, clock, hms, hent, hb1, hb2⟩⟩ := h
  obtain ⟨k1, k2⟩ := ah9 hz
  have k3 : ms.toList.map (·.key) = zs.map encZ := by
    rw [amO hent]
    have : es.map (fun e => bw M e.1) = (es.map (·.1)).map (bw M) := by simp
    rw [this, k1]; simp [bw]
  have hlen : ms.toList.length = zs.length := by have := congrArg List.length k3; simpa using this
  have hrd : ∀ x ∈ ms.toList, ∃ z, z ∈ zs ∧ x.key = encZ z ∧ WideElems.rd Tryz.prog 3 aii x = some (.int .i64 z, .lit (.bool true)) := by
    intro x hx
    have : x.key ∈ zs.map encZ := by rw [← k3]; exact List.mem_map.2 ⟨x, hx, rfl⟩
    obtain ⟨z, hz, e⟩ := List.mem_map.1 this
    refine ⟨z, hz, e.symm, ?_⟩
    unfold WideElems.rd
    rw [← e, Qk.key3 (k2 z hz)]
    rfl
  have hrg : (ms.toList.map (WideElems.rg Tryz.prog 3 aii)).map (fun p => _root_.Go.intOf p.1) = zs := by
    have : ∀ (l : List MapEntry) (zs : List Int), (∀ x ∈ l, ∃ z, x.key = encZ z ∧ WideElems.rd Tryz.prog 3 aii x = some (.int .i64 z, .lit (.bool true))) → l.map (·.key) = zs.map encZ → (l.map (WideElems.rg Tryz.prog 3 aii)).map (fun p => _root_.Go.intOf p.1) = zs := by
      intro l
      induction l with
      | nil => intro zs _ h; cases zs with
        | nil => rfl
        | cons z zs => cases h
      | cons x l ih =>
        intro zs hx h
        cases zs with
        | nil => cases h
        | cons z zs =>
          simp only [List.map_cons, List.cons.injEq] at h
          obtain ⟨y, e1, e2⟩ := hx x (by simp)
          have : y = z := encZ_inj (by rw [← e1, h.1])
          subst this
          simp only [List.map_cons, WideElems.rg, e2, Option.getD_some, _root_.Go.intOf]
          exact congrArg (y :: ·) (ih zs (fun x' hx' => hx x' (List.mem_cons_of_mem _ hx')) h.2)
    exact this _ _ (fun x hx => let ⟨z, _, e1, e2⟩ := hrd x hx; ⟨z, e1, e2⟩) k3
  refine ⟨ms.size, _, ⟨ms, clock, hms, ⟨?_, ⟨fun x hx => hb2 x hx, ?_, ?_⟩, fun x hx => let ⟨z, _, _, e⟩ := hrd x hx; ⟨_, e⟩⟩, Nat.le_refl _, rfl⟩, ?_, ?_⟩
  · rw [Array.length_toList] at hlen; unfold maxLen; omega
  · exact List.Pairwise.map _ (fun a b h => Nat.ne_of_lt h) hb1
  · rw [k3]; exact List.Pairwise.map _ (fun a b h e => h (encZ_inj e)) hn
  · show ((ms.toList.map (WideElems.rg Tryz.prog 3 aii)).foldr DataW.insert [] |>.map fun p => _root_.Go.intOf p.1).Perm zs
    have := (WideShapes.sorted_perm (ms.toList.map (WideElems.rg Tryz.prog 3 aii))).map (fun p => _root_.Go.intOf p.1)
    rwa [hrg] at this
  · show ((ms.toList.map (WideElems.rg Tryz.prog 3 aii)).foldr DataW.insert []).length = zs.length
    rw [(WideShapes.sorted_perm _).length_eq, List.length_map, hlen]
theorem aln {l l' : List Int} (hp : l.Perm l') (h : l.Pairwise (· ≤ ·)) (h' : l'.Pairwise (· ≤ ·)) : l = l' :=
  List.Perm.eq_of_pairwise (le := fun a b => a ≤ b) (fun _ _ _ _ h1 h2 => Int.le_antisymm h1 h2) h h' hp
theorem Qk.sort_calls {M : Mp} {D : Nat → Prop} {K : Heap} {w W : World} (hr : Rel M D K w) (hb : Below w.heap.size w W) (gb cap : Nat) (cur : Array Value) (ss zs : List Int) (hbase : w.heap.size ≤ gb)
    (hgb : W.heap[gb]? = some (.cells cur 3 (0, 0))) (r1 : ss.length ≤ cap) (r2 : cap ≤ maxLen) (r3 : cur.size = cap * 1) (r4 : cur.toList.take (ss.length * 1) = ss.map encZ) (h12 : ss.length ≤ 1000000) (hper : ss.Perm zs) (hs : zs.Pairwise (· ≤ ·)) :
    Calls Tryz.prog 75 #[.slice (some ⟨gb, 0, none⟩) ss.length cap] W fun e w' => e = .returned (.tuple #[]) ∧
      OK M D K w (.slice K.nx 0 ss.length 0 true) (K.add (.cells (zs.map I64N) true 1)) (.returned (.slice (some ⟨gb, 0, none⟩) ss.length cap)) w' := by
  have hcap : cap ≤ 9223372036854775807 := by unfold maxLen at r2; omega
  have hgl : gb < W.heap.size := (Array.getElem?_eq_some_iff.1 hgb).1
  have hss : ∀ j, j < ss.length → cur[j]? = some (encZ ss[j]!) := fun j hj => by
    have hc : (cur.toList.take (ss.length * 1))[j]? = (ss.map encZ)[j]? := by rw [r4]
    rw [List.getElem?_take_of_lt (by omega), List.getElem?_map, List.getElem?_eq_getElem hj, Array.getElem?_toList] at hc
    rw [hc, getElem!_pos ss j hj]; rfl
  have hH : Holds (Value.int .i64) W gb 0 ss.toArray := by
    intro j hj
    have hj : j < ss.length := by simpa using hj
    refine ⟨?_, by simp [World.frozen?, hgb]⟩
    simp only [World.cell?, hgb, Nat.zero_add, Option.isSome_none, Bool.false_eq_true, if_false]
    rw [hss j hj]
    simp [encZ]
  have cS := Any.slices_Sort_int Tryz.laysSort gb 0 cap ss W hH hgl (by omega)
  refine Calls.mono cS fun e w' he => ?_
  obtain ⟨rfl, n, os, rfl⟩ := he
  refine ⟨rfl, ?_⟩
  have hms : ss.mergeSort (fun x y => decide (x ≤ y)) = zs := by
    refine aln ((List.mergeSort_perm _ _).trans hper) ?_ hs
    have := List.pairwise_mergeSort (le := fun x y : Int => decide (x ≤ y)) (fun a b c h1 h2 => by simp at *; omega) (fun a b => by simp; omega) ss
    exact this.imp fun h => by simpa using h
  rw [hms]
  have hzl : zs.length = ss.length := hper.length_eq.symm
  obtain ⟨W', hW'⟩ : ∃ W', grow (putRow (Value.int .i64) (Go.Sort.ahead W n) gb 0 zs.toArray) os = W' := ⟨_, rfl⟩
  rw [hW']
  have hsz : W.heap.size ≤ W'.heap.size := by rw [← hW']; simp
  have hold : ∀ c, c < W.heap.size → c ≠ gb → W'.heap[c]? = W.heap[c]? := fun c hc hne => by
    rw [← hW', heap_grow_old _ _ (by simpa using hc)]
    simp only [putRow, mapBlock, heap_ahead]
    rw [Array.getElem?_modify]
    rw [if_neg (fun h => hne h.symm)]
  have hrow : W'.heap[gb]? = some (.cells (putCells (Value.int .i64) 0 zs.toArray cur) 3 (0, 0)) := by
    rw [← hW', heap_grow_old _ _ (by simpa using hgl)]
    simp only [putRow, mapBlock, heap_ahead]
    rw [Array.getElem?_modify, if_pos rfl, hgb]
    rfl
  have hcs : ∀ j, j < cap → (W'.cell? ⟨gb, 0 + j, none⟩).isSome = true ∧ W'.frozen? ⟨gb, 0 + j, none⟩ = false := fun j hj => by
    refine ⟨?_, by simp [World.frozen?, hrow]⟩
    have : j < (putCells (Value.int .i64) 0 zs.toArray cur).size := by simp [putCells]; omega
    simp [World.cell?, hrow, this]
  have hx : BlkOk (M.put K.nx ⟨gb, 0, cap - ss.length, none⟩) (fun b => D b ∨ b = K.nx) W' ⟨gb, 0, cap - ss.length, none⟩ (some (.cells (zs.map I64N) true 1)) := by
    refine ⟨fun i v hv => ?_, fun _ i hi => hcs i ?_, Nat.lt_of_lt_of_le hgl hsz, fun _ => ⟨_, 3, hrow⟩, fun _ => ?_, rfl⟩
    · obtain ⟨x, hx, rfl⟩ := List.mem_map.1 (List.mem_of_getElem? hv)
      have hlt : i < zs.length := by have := (List.getElem?_eq_some_iff.1 hv).1; simpa using this
      refine ⟨?_, rfl, trivial⟩
      rw [List.getElem?_map, List.getElem?_eq_getElem hlt] at hv
      have hxi : zs[i] = x := by simpa using hv
      have hi' : i < cur.size := by omega
      simp only [bw, World.cell?, hrow, Nat.zero_add, Option.isSome_none, Bool.false_eq_true, if_false]
      simp only [putCells, Array.getElem?_mapIdx, Array.getElem?_eq_getElem hi', Option.map_some]
      rw [if_pos ⟨Nat.zero_le _, by simpa using hlt⟩]
      simp [hlt, hxi]
    · have hi' : i < (zs.map I64N).length + (cap - ss.length) * 1 := hi
      simp at hi'; omega
    · show (zs.map I64N).length + (cap - ss.length) * 1 ≤ _
      simp; omega
  obtain ⟨h1, h2⟩ := hr.made (w' := W') (.cells (zs.map I64N) true 1) ⟨gb, 0, cap - ss.length, none⟩ hbase (fun c hc => (hold c (Nat.lt_of_lt_of_le hc hb.size) (by omega)).trans (hb.block c hc)) (Nat.le_trans hb.size hsz) (by rw [← hW']; exact hb.os) (by rw [← hW']; exact hb.tape) (by rw [← hW']; exact hb.output) hx
  refine ⟨_, _, ?_, h1, h2, by simp [okv]⟩
  simp only [bw, Mp.put_same, Loc.at_mk, if_true, Nat.add_zero]
  rw [show ss.length + (cap - ss.length) = cap by omega]
theorem Ext.of_belowQ {M : Mp} {D : Nat → Prop} {K : Heap} {w W : World} (hb : Below w.heap.size w W) : Ext M D K w M D K W := by
  have h0 : Ext M D K w M D K w := .refl
  exact { h0 with
    frame := fun c hc _ => hb.block c hc
    size := hb.size
    os := hb.os
    tape := hb.tape
    output := hb.output }
theorem Rel.of_belowQ {M : Mp} {D : Nat → Prop} {K : Heap} {w W : World} (hr : Rel M D K w) (hb : Below w.heap.size w W) : Rel M D K W :=
  ⟨hr.dom, fun b hb' => (hr.blk b hb').keep (fun _ h => h) (fun _ _ => rfl) (fun hl => hb.block _ ((hr.blk b hb').lt hl)) hb.size, hr.inj⟩
theorem Qk.sorted_ok : alo Tryz.prog 60 (N0 76) := by
  intro vs K v K' h M D w hp hr hok
  obtain ⟨b, off, l, m, es, zs, rfl, hl, hlm, hm, hzs, hor⟩ := adm h
  have hDb : D b := by simpa [okL, okv] using hok
  obtain ⟨rw_, g, hg⟩ := FT hl
  have hrow := xw hr hDb hg
  obtain ⟨c1, _, c3⟩ := hrow.at_ off _ hlm
  simp only [okv] at c3
  have hmap : MapOk M D w (M m) es := by have := hr.blk m c3; rwa [N6 hm] at this
  have hnd : zs.Nodup := by
    rcases hor with ⟨rfl, _⟩ | ⟨hinc, _⟩
    · exact List.nodup_nil
    · exact (zV zs).nodup_iff.1 (hinc.imp fun h => Int.ne_of_lt h)
  have h12 : zs.length ≤ 1000000 := by
    rcases hor with ⟨rfl, _⟩ | ⟨_, h12, _⟩
    · simp
    · exact h12
  obtain ⟨nn, D0, hown, hper, hsize⟩ := Qk.owns hmap hzs hnd h12
  have cK := Qk.collect_keys w (M b).blk ((M b).base + off) (M m).blk nn D0 hrow.lt c1 hown (by omega)
  have hargs : (List.map (bw M) [AV.func 76 [] [AV.ptr b off]]).toArray = #[.func (.func 76) #[] #[.pointer (some ⟨(M b).blk, (M b).base + off, none⟩)]] := by simp [bw, tw, hrow.at_at]
  rw [hargs]
  go_enter Tryz.func60, Tryz.ntmps60
  go_wp2_with (go_at_call 74; refine cK.mono ?_; rintro e W ⟨v, ss, rfl, hS, hrow', hnil, hb⟩)
  have hss : ss.Perm zs := hS.trans hper
  have hsl : ss.length = zs.length := hss.length_eq
  rcases hor with ⟨hz, rfl, rfl⟩ | ⟨hinc, _, h1, rfl, rfl⟩
  · subst hz
    have hss0 : ss = [] := List.eq_nil_of_length_eq_zero (by simpa using hsl)
    have hv := hnil.2 hss0
    subst hv
    have cN := Any.slices_Sort_int_none Tryz.laysSort none 0 W
    go_wp2_with (go_at_call 75; refine cN.mono ?_; rintro e w2 ⟨rfl, rfl⟩)
    go_ret
    exact ⟨M, D, rfl, Rel.of_belowQ hr hb, Ext.of_belowQ hb, trivial⟩
  · have hle : (zA zs).Pairwise (· ≤ ·) := hinc.imp fun h => Int.le_of_lt h
    rcases hrow'.2 with ⟨rfl, h0⟩ | ⟨gb, cap, cur, rfl, hbase, hgb, r1, r2, r3, r4⟩
    · omega
    have cS := Qk.sort_calls hr hb gb cap cur ss (zA zs) hbase hgb r1 r2 r3 r4 (by omega) (hss.trans (zV zs).symm) hle
    go_wp2_with (go_at_call 75; refine cS.mono ?_; rintro e w2 ⟨rfl, hpost⟩)
    go_ret
    rw [← hsl]; exact hpost
end Go.Proofs
/- The table of the program's functions, with the library's own where the shelf has them, and the answer of the chapter's example. -/
namespace Go.Proofs.YtnlbfbiogfilfaaGreat.Sh
open Go.Ai Go.Proofs
noncomputable def findS (P : Program) (f : Nat) (k : AFn → CRes) : CRes := oC (aeO P f) k
theorem findS_ok (P : Program) : agA (tblS P) (findS P) := fun f k r H' h => by
  obtain ⟨x, h1, h2⟩ := la h
  exact ⟨x, by rw [Sq]; exact h1, h2⟩
noncomputable def tb0 : Tr AFn := (tblS Tryz.prog).set (key 81) (.prim Jr)
theorem enters81 : Ai.Enters Tryz.prog 81 := ⟨Tryz.f81, Tryz.func81, by kernel_rfl, by kernel_rfl⟩
theorem tb0_ok : TblOk Tryz.prog tb0 := (tblS_ok (by kernel_rfl)).prim_set (f := 81) (asP Tryz.laysIns) (fun _ _ _ _ hr h => anQ hr h) enters81
noncomputable def fd0 : Nat → (AFn → CRes) → CRes := alC 81 Jr (findS Tryz.prog)
theorem fd0_ok : agA tb0 fd0 := apa (findS_ok Tryz.prog)
set_option maxRecDepth 1000000 in
set_option maxHeartbeats 1000000000 in
theorem works (J : AV → CRes) : callX fd0 100000 1000 (.func 6 [] []) [] ⟨.leaf, 0, 0⟩ (fun v _ => J v) = J (.bool true) := by kernel_rfl
theorem enters6 : Ai.Enters Tryz.prog 6 := ⟨Tryz.f6, Tryz.func6, by kernel_rfl, by kernel_rfl⟩
noncomputable def tb : Tr AFn := (tb0.set (key 60) (.prim (N0 76))).set (key 6) (.prim (amK [] (.bool true)))
theorem tb_ok : TblOk Tryz.prog tb := (tb0_ok.prim_set (f := 60) Qk.sorted_ok (fun _ _ _ _ hr h => al7 hr h) Qk.enters60).prim_set (f := 6) (memo_ok tb0_ok fd0_ok rfl rfl works) (fun _ _ _ _ _ h => ars h) enters6
theorem eP {f : Nat} {x : AFn} (e : (Nat.beq 81 f || (Nat.beq 60 f || Nat.beq 6 f)) = false) (h : aeO Tryz.prog f = some x) : tb.get (key f) = some x := by
  rw [Bool.or_eq_false_iff, Bool.or_eq_false_iff] at e
  exact DM e.2.2 (DM e.2.1 (DM e.1 ((Sq ..).trans h)))
theorem NA : Sound tb lE (B5 nM) := Zr (DM (by kernel_rfl) (DM (by kernel_rfl) (Tr.get_set_same ..)))
theorem Yj : Sound tb pG (B5 lq) := Zr (DM (by kernel_rfl) (Tr.get_set_same ..))
theorem RU : Sound tb nw (B5 nD) := Zr (Tr.get_set_same ..)
end Go.Proofs.YtnlbfbiogfilfaaGreat.Sh
