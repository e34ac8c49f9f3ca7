/- slices.Sorted of maps.Keys at this program: the library's text, its sort by the interpreter. -/
import Derived.Test.YtphpkpemamccnabGreatTb0
import Derived.Test.YtphpkpemamccnabGreatKeys
import Derived.Test.YtphpkpemamccnabGreatAiKeys
namespace Go.Proofs.YtphpkpemamccnabGreat.slabKnown
open Go.Proofs Go.RowKit Go.Maps Go.Sort Go.Shelf Go.Ai

/-- what stands behind the first test -/
def restOf : AC → AC
  | .seq _ (.seq _ (.block _ (.loop (.block _ (.seq _ (.seq _ r)))))) => r
  | _ => .skip

theorem Try.enters46 : Ai.Enters Tryz.prog 46 := ⟨Tryz.f46, Tryz.func46, by kernel_rfl, by kernel_rfl⟩
theorem Try.enters30 : Ai.Enters Tryz.prog 30 := ⟨Tryz.f30, Tryz.func30, by kernel_rfl, by kernel_rfl⟩

theorem Try.collect_keys {H : Type} {R : Value → Option (DataW H × List MemPlace)} (w : World) (Bm Bo b nn : Nat) (D0 : DataW H) (hBm : Bm < w.heap.size) (hm : w.cell? ⟨Bm, Bo, none⟩ = some (.map (some b)))
    (hown : w.ownsMap Tryz.prog 3 R b nn D0) (hsz : Maps.size D0 ≤ 1000000) :
    Calls Tryz.prog 44 #[.func (.func 46) #[] #[.pointer (some ⟨Bm, Bo, none⟩)]] w fun e w' => ∃ (v : Value) (ss : List Int), e = .returned v ∧ ss.Perm (intKeys D0) ∧ w'.ownsRow w.heap.size 3 1 v ss.length (ss.map encZ) ∧ (v = .slice none 0 0 ↔ ss = []) ∧ Below w.heap.size w w' :=
  (callsIn_wide (n := 3)).1 (Try.collect_in Fence.wide 3 trivial trivial rfl (Nat.le_refl _) 46 _ trivial (fun _ _ => run_callFunc Try.enters46) _ (Maps.size D0) (by unfold maxLen; omega) (by omega) w
    (Try.keys_gives Fence.wide 1 trivial rfl (Nat.le_refl _) Bm Bo b nn D0 w hBm hm hown))

noncomputable def pdqBody : AC := match codeOf Tryz.prog 54 with
  | some (.code _ b _) => b
  | _ => .skip
noncomputable def lenA : AFn := (codeOf Tryz.prog 55).getD (.code [] .skip [])
noncomputable def lenB : AFn := (codeOf Tryz.prog 69).getD (.code [] .skip [])
theorem lenA_eq : codeOf Tryz.prog 55 = some lenA := by kernel_rfl
theorem lenB_eq : codeOf Tryz.prog 69 = some lenB := by kernel_rfl
noncomputable def tbS : Tr AFn := ((Tr.leaf : Tr AFn).set (key 55) lenA).set (key 69) lenB
theorem tbS_le : TblLe tbS tb0 := by
  intro f x h
  unfold tbS at h
  by_cases e : key 69 = key f
  · have := key_inj e
    subst this
    rw [Tr.get_set_same] at h
    rw [← h]
    exact tb0_get (by decide) lenB_eq
  · rw [Tr.get_set_other e] at h
    by_cases e' : key 55 = key f
    · have := key_inj e'
      subst this
      rw [Tr.get_set_same] at h
      rw [← h]
      exact tb0_get (by decide) lenA_eq
    · rw [Tr.get_set_other e', Tr.get_leaf] at h
      cases h
/-- bits.Len of a small number -/
theorem Try.len_small (n : Nat) (H : Heap) (hn : n ≤ 12) : WpC tb0 (.func 55 [] []) [.int .u64 n] H fun v H' => (∃ k, v = I64 k) ∧ H' = H := by
  have : ∀ n : Nat, n ≤ 12 → ∃ k, ∀ t nx ro, Ai.call tbS 20 (.func 55 [] []) [.int .u64 n] ⟨t, nx, ro⟩ = .ret (I64 k) ⟨t, nx, ro⟩ := by
    intro n hn
    match n with
    | 0 => exact ⟨0, fun t nx ro => by kernel_rfl⟩
    | 1 => exact ⟨1, fun t nx ro => by kernel_rfl⟩
    | 2 => exact ⟨2, fun t nx ro => by kernel_rfl⟩
    | 3 => exact ⟨2, fun t nx ro => by kernel_rfl⟩
    | 4 => exact ⟨3, fun t nx ro => by kernel_rfl⟩
    | 5 => exact ⟨3, fun t nx ro => by kernel_rfl⟩
    | 6 => exact ⟨3, fun t nx ro => by kernel_rfl⟩
    | 7 => exact ⟨3, fun t nx ro => by kernel_rfl⟩
    | 8 => exact ⟨4, fun t nx ro => by kernel_rfl⟩
    | 9 => exact ⟨4, fun t nx ro => by kernel_rfl⟩
    | 10 => exact ⟨4, fun t nx ro => by kernel_rfl⟩
    | 11 => exact ⟨4, fun t nx ro => by kernel_rfl⟩
    | 12 => exact ⟨4, fun t nx ro => by kernel_rfl⟩
    | n + 13 => omega
  obtain ⟨k, h⟩ := this n hn
  exact ⟨20, _, _, call_leT tbS_le 20 _ _ _ _ _ (h H.t H.nx H.ro), ⟨k, rfl⟩, rfl⟩

theorem Try.sort_rows (b n ext : Nat) (opn : Bool) (g : Nat) (xs : List Int) (tl : List AV) (H : Heap) (hx : xs.length = n) (hn' : n ≤ 12) (hH : H.get b = some (.cells (rowZ xs tl) true g)) (hr : H.ro ≤ b) :
    WpC tb0 (.func 45 [] []) [.slice b 0 n ext opn] H fun v H' => v = .undef ∧ ∃ zs : List Int, zs.Perm xs ∧ zs.Pairwise (· ≤ ·) ∧ H' = H.set b (.cells (rowZ zs tl) true g) :=
  sort_run (nan := 78) (less := 58) (ins := 60) (len := 55) (pdq := 54) (sort := 45) (tb0_get (by decide) (by kernel_rfl)) (tb0_get (by decide) (by kernel_rfl)) (tb0_get (by decide) (by kernel_rfl)) (rest := restOf pdqBody) (tb0_get (by decide) (by kernel_rfl)) (tb0_get (by decide) (by kernel_rfl)) Try.len_small b n ext opn g xs tl H hx hn' hH hr

theorem ent_keys {M : Mp} {D : Nat → Prop} : ∀ {es : List (AV × AV)} {ms : List MapEntry}, EntOk M D es ms → ms.map (·.key) = es.map fun e => conc M e.1
  | [], [], _ => rfl
  | e :: es, m :: ms, h => by simp [h.1.1, ent_keys h.2]
  | [], _ :: _, h => h.elim
  | _ :: _, [], h => h.elim

/-- a relation that lets a map's values be what they are -/
def anyR : Value → Option (DataW Unit × List MemPlace) := fun _ => some (.lit (.bool true), [])

theorem Try.key3 {z : Int} (h : in64 z) : keyOf Tryz.prog 3 (encZ z) = some (.int .i64 z) := by
  have hw : (Lit.int .i64 z).wf = true := by
    unfold in64 at h
    simp only [Lit.wf, Bool.and_eq_true, decide_eq_true_eq]
    exact ⟨h.1, h.2⟩
  simp [keyOf, Tryz.underlying3, mapKey, hw]

theorem Try.owns {M : Mp} {D : Nat → Prop} {w : World} {L : Ai.Loc} {es : List (AV × AV)} {zs : List Int} (h : MapOk M D w L es) (hz : keysZ es = some zs) (hn : zs.Nodup) (h12 : zs.length ≤ 12) :
    ∃ nn D0, w.ownsMap Tryz.prog 3 anyR L.blk nn D0 ∧ (intKeys D0).Perm zs ∧ Maps.size D0 = zs.length := by
  obtain ⟨⟨ms, clock, hms, hent, hb1, hb2⟩⟩ := h
  obtain ⟨k1, k2⟩ := keysZ_some hz
  have k3 : ms.toList.map (·.key) = zs.map encZ := by
    rw [ent_keys hent]
    have : es.map (fun e => conc M e.1) = (es.map (·.1)).map (conc M) := by simp
    rw [this, k1]; simp [conc]
  have hlen : ms.toList.length = zs.length := by have := congrArg List.length k3; simpa using this
  have hrd : ∀ x ∈ ms.toList, ∃ z, z ∈ zs ∧ x.key = encZ z ∧ WideElems.rd Tryz.prog 3 anyR x = some (.int .i64 z, .lit (.bool true)) := by
    intro x hx
    have : x.key ∈ zs.map encZ := by rw [← k3]; exact List.mem_map.2 ⟨x, hx, rfl⟩
    obtain ⟨z, hz, e⟩ := List.mem_map.1 this
    refine ⟨z, hz, e.symm, ?_⟩
    unfold WideElems.rd
    rw [← e, Try.key3 (k2 z hz)]
    rfl
  have hrg : (ms.toList.map (WideElems.rg Tryz.prog 3 anyR)).map (fun p => intOf p.1) = zs := by
    have : ∀ (l : List MapEntry) (zs : List Int), (∀ x ∈ l, ∃ z, x.key = encZ z ∧ WideElems.rd Tryz.prog 3 anyR x = some (.int .i64 z, .lit (.bool true))) → l.map (·.key) = zs.map encZ → (l.map (WideElems.rg Tryz.prog 3 anyR)).map (fun p => intOf p.1) = zs := by
      intro l
      induction l with
      | nil => intro zs _ h; cases zs with
        | nil => rfl
        | cons z zs => cases h
      | cons x l ih =>
        intro zs hx h
        cases zs with
        | nil => cases h
        | cons z zs =>
          simp only [List.map_cons, List.cons.injEq] at h
          obtain ⟨y, e1, e2⟩ := hx x (by simp)
          have : y = z := encZ_inj (by rw [← e1, h.1])
          subst this
          simp only [List.map_cons, WideElems.rg, e2, Option.getD_some, intOf]
          exact congrArg (y :: ·) (ih zs (fun x' hx' => hx x' (List.mem_cons_of_mem _ hx')) h.2)
    exact this _ _ (fun x hx => let ⟨z, _, e1, e2⟩ := hrd x hx; ⟨z, e1, e2⟩) k3
  refine ⟨ms.size, _, ⟨ms, clock, hms, ⟨?_, ⟨fun x hx => hb2 x hx, ?_, ?_⟩, fun x hx => let ⟨z, _, _, e⟩ := hrd x hx; ⟨_, e⟩⟩, Nat.le_refl _, rfl⟩, ?_, ?_⟩
  · rw [Array.length_toList] at hlen; unfold maxLen; omega
  · exact List.Pairwise.map _ (fun a b h => Nat.ne_of_lt h) hb1
  · rw [k3]; exact List.Pairwise.map _ (fun a b h e => h (encZ_inj e)) hn
  · show ((ms.toList.map (WideElems.rg Tryz.prog 3 anyR)).foldr DataW.insert [] |>.map fun p => intOf p.1).Perm zs
    have := (WideShapes.sorted_perm (ms.toList.map (WideElems.rg Tryz.prog 3 anyR))).map (fun p => intOf p.1)
    rwa [hrg] at this
  · show ((ms.toList.map (WideElems.rg Tryz.prog 3 anyR)).foldr DataW.insert []).length = zs.length
    rw [(WideShapes.sorted_perm _).length_eq, List.length_map, hlen]

theorem sorted_unique {l l' : List Int} (hp : l.Perm l') (h : l.Pairwise (· ≤ ·)) (h' : l'.Pairwise (· ≤ ·)) : l = l' :=
  List.Perm.eq_of_pairwise (le := fun a b => a ≤ b) (fun _ _ _ _ h1 h2 => Int.le_antisymm h1 h2) h h' hp

/-- the sort of a row that the call has made, as a call of the model -/
theorem Try.sort_calls {M : Mp} {D : Nat → Prop} {K : Heap} {w W : World} (hp : HpOk K) (hr : Rel M D K w) (hb : Below w.heap.size w W) (gb cap : Nat) (cur : Array Value) (ss zs : List Int) (hbase : w.heap.size ≤ gb)
    (hgb : W.heap[gb]? = some (.cells cur 3 (0, 0))) (r1 : ss.length ≤ cap) (r2 : cap ≤ maxLen) (r3 : cur.size = cap * 1) (r4 : cur.toList.take (ss.length * 1) = ss.map encZ) (h12 : ss.length ≤ 12) (hper : ss.Perm zs) (hs : zs.Pairwise (· ≤ ·)) :
    Calls Tryz.prog 45 #[.slice (some ⟨gb, 0, none⟩) ss.length cap] W fun e w' => e = .returned (.tuple #[]) ∧
      CallPost M D K w (.slice K.nx 0 ss.length 0 true) (K.add (.cells (zs.map I64) true 1)) (.returned (.slice (some ⟨gb, 0, none⟩) ss.length cap)) w' := by
  have hcap : cap ≤ 9223372036854775807 := by unfold maxLen at r2; omega
  have hcell : ∀ j, j < cap → (W.cell? ⟨gb, 0 + j, none⟩).isSome = true ∧ W.frozen? ⟨gb, 0 + j, none⟩ = false := fun j hj => by
    have : j < cur.size := by omega
    refine ⟨?_, by simp [World.frozen?, hgb]⟩
    simp [World.cell?, hgb, this]
  have hx : BlkOk (M.put K.nx ⟨gb, 0, cap - ss.length⟩) (fun b => D b ∨ b = K.nx) W ⟨gb, 0, cap - ss.length⟩ (some (.cells (rowZ ss []) true 1)) := by
    refine ⟨fun i v hv => ?_, fun _ i hi => hcell i ?_, (Array.getElem?_eq_some_iff.1 hgb).1, fun _ => ⟨cur, 3, hgb⟩, fun _ => ?_⟩
    · have hv' : (ss.map I64)[i]? = some v := by simpa using hv
      obtain ⟨x, hx, rfl⟩ := List.mem_map.1 (List.mem_of_getElem? hv')
      have hlt : i < ss.length := by have := (List.getElem?_eq_some_iff.1 hv').1; simpa using this
      refine ⟨?_, rfl, trivial⟩
      have hc : (cur.toList.take (ss.length * 1))[i]? = (ss.map encZ)[i]? := by rw [r4]
      rw [List.getElem?_take_of_lt (by omega)] at hc
      rw [List.getElem?_map] at hc hv'
      cases hsi : ss[i]? with
      | none => rw [hsi] at hv'; cases hv'
      | some y =>
        rw [hsi] at hv' hc
        have : I64 y = I64 x := by simpa using hv'
        cases this
        simp only [conc, World.cell?, hgb, Nat.zero_add, Option.isSome_none, Bool.false_eq_true, if_false]
        rw [← Array.getElem?_toList, hc]; rfl
    · have hi' : i < (rowZ ss []).length + (cap - ss.length) * 1 := hi
      simp at hi'; omega
    · show (rowZ ss []).length + (cap - ss.length) * 1 ≤ _
      simp; omega
  obtain ⟨h1, h2⟩ := hr.made (w' := W) (.cells (rowZ ss []) true 1) ⟨gb, 0, cap - ss.length⟩ hbase (fun c hc => hb.block c hc) hb.size hb.os hb.tape hb.output hx
  have hget : (K.add (.cells (rowZ ss []) true 1)).get K.nx = some (.cells (rowZ ss []) true 1) := by rw [Heap.get_add, if_pos rfl]
  obtain ⟨N, v, Hf, hcall, rfl, us, hperm, hsort, rfl⟩ := Try.sort_rows K.nx ss.length 0 true 1 ss [] (K.add (.cells (rowZ ss []) true 1)) rfl h12 hget (by simpa using hp.ro)
  obtain ⟨f, first, capt, hfv, hc⟩ := call_ok tb0_ok N _ _ _ _ _ hcall
  cases hfv
  have hmono := Mono.add (x := .cells (rowZ ss []) true 1) hp.ro (roB_cells _ _)
  obtain ⟨_, hcalls⟩ := hc _ _ W (hp.mono hmono) h1 (by simp [okL, okv])
  have hargs : (List.map (conc (M.put K.nx ⟨gb, 0, cap - ss.length⟩)) ([] ++ ([AV.slice K.nx 0 ss.length 0 true] ++ []))).toArray = #[.slice (some ⟨gb, 0, none⟩) ss.length cap] := by
    simp only [List.nil_append, List.append_nil, List.map_cons, List.map_nil, conc, Mp.put_same, if_true, Nat.add_zero]
    rw [show ss.length + (cap - ss.length) = cap by omega]
  rw [hargs] at hcalls
  refine hcalls.mono fun e w' hpost => ?_
  obtain ⟨M2, D2, rfl, g1, g2, _⟩ := hpost
  refine ⟨by simp [AV.undef, conc, concL], M2, D2, ?_, ?_, ?_, ?_⟩
  · have := g2.agree K.nx (.inr rfl)
    simp only [conc, this, Mp.put_same, if_true, Nat.add_zero]
    rw [show ss.length + (cap - ss.length) = cap by omega]
  · have hus : us = zs := sorted_unique (hperm.trans hper) hsort hs
    subst hus
    rw [Heap.add_set] at g1
    simpa using g1
  · have hus : us = zs := sorted_unique (hperm.trans hper) hsort hs
    subst hus
    rw [Heap.add_set] at g2
    have := h2.trans g2
    simpa using this
  · exact g2.keep _ (.inr rfl)

/-- .. and of the nil slice -/
theorem Try.sort_nil_calls {M : Mp} {D : Nat → Prop} {K : Heap} {w W : World} (hp : HpOk K) (hr : Rel M D K w) (hx : Ext M D K w M D K W) (hr' : Rel M D K W) :
    Calls Tryz.prog 45 #[.slice none 0 0] W fun e w' => e = .returned (.tuple #[]) ∧ CallPost M D K w .nilslice K (.returned (.slice none 0 0)) w' := by
  have _ := hr
  obtain ⟨N, v, Hf, hcall, rfl, rfl⟩ := sort_nil (tbl := tb0) (less := 58) (ins := 60) (len := 55) (pdq := 54) (sort := 45) (rest := restOf pdqBody) (tb0_get (by decide) (by kernel_rfl)) (tb0_get (by decide) (by kernel_rfl)) (by kernel_rfl) Try.len_small K
  obtain ⟨f, first, capt, hfv, hc⟩ := call_ok tb0_ok N _ _ _ _ _ hcall
  cases hfv
  obtain ⟨_, hcalls⟩ := hc M D W hp hr' (by simp [okL, okv])
  have hargs : (List.map (conc M) ([] ++ ([AV.nilslice] ++ []))).toArray = #[.slice none 0 0] := by simp [conc]
  rw [hargs] at hcalls
  refine hcalls.mono fun e w' hpost => ?_
  obtain ⟨M2, D2, rfl, g1, g2, _⟩ := hpost
  exact ⟨by simp [AV.undef, conc, concL], M2, D2, rfl, g1, hx.trans g2, trivial⟩

/-- what lies below is as it was -/
theorem Ext.of_below {M : Mp} {D : Nat → Prop} {K : Heap} {w W : World} (hb : Below w.heap.size w W) : Ext M D K w M D K W := by
  have h0 : Ext M D K w M D K w := .refl
  exact { h0 with
    frame := fun c hc _ => hb.block c hc
    size := hb.size
    os := hb.os
    tape := hb.tape
    output := hb.output }
theorem Rel.of_below {M : Mp} {D : Nat → Prop} {K : Heap} {w W : World} (hr : Rel M D K w) (hb : Below w.heap.size w W) : Rel M D K W :=
  ⟨hr.dom, fun b hb' => (hr.blk b hb').keep (fun _ h => h) (fun _ _ => rfl) (fun hl => hb.block _ ((hr.blk b hb').lt hl)) hb.size, hr.inj⟩

theorem Try.sorted_ok : PrimOk Tryz.prog 30 (sortedG 46) := by
  intro vs K v K' h M D w hp hr hok
  obtain ⟨b, off, l, m, es, zs, rfl, hl, hlm, hm, hzs, hor⟩ := sortedG_some h
  have hDb : D b := by simpa [okL, okv] using hok
  obtain ⟨rw_, g, hg⟩ := cellsAt_some hl
  have hrow := row_of hr hDb hg
  obtain ⟨c1, _, c3⟩ := hrow.at_ off _ hlm
  simp only [okv] at c3
  have hmap : MapOk M D w (M m) es := by have := hr.blk m c3; rwa [mapAt_some hm] at this
  have hnd : zs.Nodup := by
    rcases hor with ⟨rfl, _⟩ | ⟨hinc, _⟩
    · exact List.nodup_nil
    · exact (sortZ_perm zs).nodup_iff.1 (hinc.imp fun h => Int.ne_of_lt h)
  have h12 : zs.length ≤ 12 := by
    rcases hor with ⟨rfl, _⟩ | ⟨_, h12, _⟩
    · simp
    · exact h12
  obtain ⟨nn, D0, hown, hper, hsize⟩ := Try.owns hmap hzs hnd h12
  have cK := Try.collect_keys w (M b).blk ((M b).base + off) (M m).blk nn D0 hrow.lt c1 hown (by omega)
  have hargs : (List.map (conc M) [AV.func 46 [] [AV.ptr b off]]).toArray = #[.func (.func 46) #[] #[.pointer (some ⟨(M b).blk, (M b).base + off, none⟩)]] := by simp [conc, concL]
  rw [hargs]
  go_enter Tryz.func30, Tryz.ntmps30
  go_wp2_with (go_at_call 44; refine cK.mono ?_; rintro e W ⟨v, ss, rfl, hS, hrow', hnil, hb⟩)
  have hss : ss.Perm zs := hS.trans hper
  have hsl : ss.length = zs.length := hss.length_eq
  rcases hor with ⟨hz, rfl, rfl⟩ | ⟨hinc, _, h1, rfl, rfl⟩
  · subst hz
    have hss0 : ss = [] := List.eq_nil_of_length_eq_zero (by simpa using hsl)
    have hv := hnil.2 hss0
    subst hv
    have cN := Try.sort_nil_calls hp hr (Ext.of_below hb) (Rel.of_below hr hb)
    go_wp2_with (go_at_call 45; refine cN.mono ?_; rintro e w2 ⟨rfl, hpost⟩)
    go_ret
    exact hpost
  · have hle : (sortZ zs).Pairwise (· ≤ ·) := hinc.imp fun h => Int.le_of_lt h
    rcases hrow'.2 with ⟨rfl, h0⟩ | ⟨gb, cap, cur, rfl, hbase, hgb, r1, r2, r3, r4⟩
    · omega
    have cS := Try.sort_calls hp hr hb gb cap cur ss (sortZ zs) hbase hgb r1 r2 r3 r4 (by omega) (hss.trans (sortZ_perm zs).symm) hle
    go_wp2_with (go_at_call 45; refine cS.mono ?_; rintro e w2 ⟨rfl, hpost⟩)
    go_ret
    rw [← hsl]; exact hpost
end Go.Proofs.YtphpkpemamccnabGreat.slabKnown
