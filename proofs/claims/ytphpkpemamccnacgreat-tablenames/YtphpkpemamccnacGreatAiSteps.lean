/- What a new block, a store, an append in place, a map's update do to the relation. -/
import Derived.Test.YtphpkpemamccnacGreatAiRel
import Derived.RowKit3
namespace Go.Ai
open Go.RowKit

theorem EntOk.keep {M M' : Mp} {D D' : Nat → Prop} (hd : ∀ b, D b → D' b) (ha : ∀ b, D b → M' b = M b) : ∀ {es : List (AV × AV)} {ms : List MapEntry}, EntOk M D es ms → EntOk M' D' es ms
  | [], [], _ => trivial
  | e :: es, m :: ms, h => by
    obtain ⟨⟨a, b, c, d⟩, h2⟩ := h
    exact ⟨⟨by rw [conc_agree ha _ c]; exact a, by rw [conc_agree ha _ d]; exact b, okv_mono hd _ c, okv_mono hd _ d⟩, EntOk.keep hd ha h2⟩
  | [], _ :: _, h => h.elim
  | _ :: _, [], h => h.elim

theorem BlkOk.keep {M M' : Mp} {D D' : Nat → Prop} {w w' : World} {L : Loc} {x : Option Blk} (hd : ∀ b, D b → D' b) (ha : ∀ b, D b → M' b = M b)
    (hh : live x → w'.heap[L.blk]? = w.heap[L.blk]?) (hs : w.heap.size ≤ w'.heap.size) (h : BlkOk M D w L x) : BlkOk M' D' w' L x := by
  cases x with
  | none => trivial
  | some x =>
    cases x with
    | dead => trivial
    | mp es =>
      obtain ⟨⟨ms, clock, h1, h2, h3⟩⟩ := h
      exact ⟨⟨ms, clock, by rw [hh trivial]; exact h1, h2.keep hd ha, h3⟩⟩
    | cells l rw g =>
      have hb : w'.heap[L.blk]? = w.heap[L.blk]? := hh trivial
      refine ⟨fun i v hv => ?_, fun hr i hi => ?_, Nat.lt_of_lt_of_le h.lt hs, fun hr => by rw [hb]; exact h.fz hr, h.sl⟩
      · obtain ⟨a, b, c⟩ := h.at_ i v hv
        refine ⟨?_, b, okv_mono hd _ c⟩
        rw [World.cell?_of_block (w := w) (w' := w') (a := ⟨L.blk, L.base + i, none⟩) hb, conc_agree ha _ c]; exact a
      · obtain ⟨a, b⟩ := h.own hr i hi
        rw [World.cell?_of_block (w := w) (w' := w') (a := ⟨L.blk, L.base + i, none⟩) hb, World.frozen?_of_block (w := w) (w' := w') (a := ⟨L.blk, L.base + i, none⟩) hb]
        exact ⟨a, b⟩

theorem BlkOk.lt {M : Mp} {D : Nat → Prop} {w : World} {L : Loc} {x : Option Blk} (h : BlkOk M D w L x) (hl : live x) : L.blk < w.heap.size := by
  cases x with
  | none => exact hl.elim
  | some x =>
    cases x with
    | dead => exact hl.elim
    | mp es =>
      obtain ⟨⟨ms, clock, h1, _⟩⟩ := h
      rcases Nat.lt_or_ge L.blk w.heap.size with h' | h'
      · exact h'
      · rw [Array.getElem?_eq_none h'] at h1; cases h1
    | cells l rw g => exact RowOk.lt h

theorem Rel.same {M : Mp} {D : Nat → Prop} {H : Heap} {w w' : World} (h : Rel M D H w) (e : w'.heap = w.heap) : Rel M D H w' :=
  ⟨h.dom, fun b hb => (h.blk b hb).keep (fun _ h => h) (fun _ _ => rfl) (fun _ => by rw [e]) (by rw [e]; exact Nat.le_refl _), h.inj⟩

theorem Ext.drew {M : Mp} {D : Nat → Prop} {H : Heap} {w : World} : Ext M D H w M D H w.drew :=
  ⟨fun _ h => h, fun _ _ => rfl, fun _ h _ => h, Nat.le_refl _, fun _ _ h => h, fun _ h hn => (hn h).elim, fun _ _ _ => rfl, fun _ _ _ => rfl, Nat.le_refl _, rfl, rfl, rfl⟩

/-- one block more -/
def Mp.put (M : Mp) (b : Nat) (L : Loc) : Mp := fun c => if c = b then L else M c
theorem Mp.put_same (M : Mp) (b : Nat) (L : Loc) : M.put b L b = L := by simp [Mp.put]
theorem Mp.put_other (M : Mp) {b c : Nat} (L : Loc) (h : c ≠ b) : M.put b L c = M c := by simp [Mp.put, h]

theorem heap_alloc_old (w : World) (o : Obj) {c : Nat} (h : c < w.heap.size) : (w.alloc o).heap[c]? = w.heap[c]? := by
  show (w.heap.push o)[c]? = _
  rw [Array.getElem?_push, if_neg (by omega)]
theorem heap_alloc_new (w : World) (o : Obj) : (w.alloc o).heap[w.heap.size]? = some o := by
  show (w.heap.push o)[w.heap.size]? = _
  rw [Array.getElem?_push, if_pos rfl]

/-- A block is made: whatever object, in whatever way it stands. -/
theorem Rel.alloc {M : Mp} {D : Nat → Prop} {H : Heap} {w : World} (h : Rel M D H w) (o : Obj) (x : Blk) (L : Loc) (hL : L.blk = w.heap.size)
    (hx : BlkOk (M.put H.nx L) (fun b => D b ∨ b = H.nx) (w.alloc o) L (some x)) :
    Rel (M.put H.nx L) (fun b => D b ∨ b = H.nx) (H.add x) (w.alloc o) ∧ Ext M D H w (M.put H.nx L) (fun b => D b ∨ b = H.nx) (H.add x) (w.alloc o) := by
  have hne : ∀ b, D b → b ≠ H.nx := fun b hb => Nat.ne_of_lt (h.dom b hb)
  have hag : ∀ b, D b → M.put H.nx L b = M b := fun b hb => Mp.put_other _ _ (hne b hb)
  have hget : ∀ b, D b → (H.add x).get b = H.get b := fun b hb => by rw [Heap.get_add, if_neg (hne b hb)]
  have hsz : w.heap.size ≤ (w.alloc o).heap.size := by simp
  refine ⟨⟨?_, ?_, ?_⟩, ⟨fun _ hb => .inl hb, hag, ?_, ?_, ?_, ?_, ?_, ?_, hsz, rfl, rfl, rfl⟩⟩
  · rintro b (hb | rfl)
    · have := h.dom b hb; simp; omega
    · simp
  · rintro b (hb | rfl)
    · rw [hget b hb, hag b hb]
      exact (h.blk b hb).keep (fun _ h => .inl h) hag (fun hl => heap_alloc_old _ _ ((h.blk b hb).lt hl)) hsz
    · rw [Heap.get_add, if_pos rfl, Mp.put_same]; exact hx
  · rintro b c (hb | rfl) (hc | rfl) hbc hw hl
    · rw [hget b hb] at hw; rw [hget c hc] at hl; rw [hag b hb, hag c hc]; exact h.inj b c hb hc hbc hw hl
    · rw [hget b hb] at hw; rw [hag b hb, Mp.put_same, hL]
      exact Nat.ne_of_lt ((h.blk b hb).lt (live_of_wr hw))
    · rw [hget c hc] at hl; rw [hag c hc, Mp.put_same, hL]
      exact Nat.ne_of_gt ((h.blk c hc).lt hl)
    · exact (hbc rfl).elim
  · rintro b (hb | rfl) hlt
    · exact hb
    · omega
  · simp
  · intro b hb hw; rw [hget b hb] at hw; exact hw
  · rintro b (hb | rfl) hnb _
    · exact (hnb hb).elim
    · exact .inl (by rw [Mp.put_same, hL]; exact Nat.le_refl _)
  · intro c hc _; exact heap_alloc_old _ _ hc
  · intro b hb _; rw [Heap.get_add, if_neg (by omega)]

theorem setCells_heap_other (b : Nat) : ∀ (vs : List Value) (o : Nat) (w : World) (c : Nat), c ≠ b → (w.setCells b o vs).heap[c]? = w.heap[c]?
  | [], _, _, _, _ => rfl
  | v :: r, o, w, c, h => by
    rw [World.setCells, setCells_heap_other b r (o + 1) _ c h]
    simp only [World.setCell, Array.getElem?_modify]
    rw [if_neg (fun e => h e.symm)]
theorem setCells_size (b : Nat) : ∀ (vs : List Value) (o : Nat) (w : World), (w.setCells b o vs).heap.size = w.heap.size
  | [], _, _ => rfl
  | v :: r, o, w => by rw [World.setCells, setCells_size b r]; simp
theorem setCells_os (b : Nat) : ∀ (vs : List Value) (o : Nat) (w : World), (w.setCells b o vs).os = w.os ∧ (w.setCells b o vs).tape = w.tape ∧ (w.setCells b o vs).output = w.output
  | [], _, _ => ⟨rfl, rfl, rfl⟩
  | v :: r, o, w => by rw [World.setCells]; exact setCells_os b r (o + 1) _

theorem setCells_fz (b : Nat) : ∀ (vs : List Value) (o : Nat) (w : World), (∃ c e, w.heap[b]? = some (.cells c e (0, 0))) → ∃ c e, (w.setCells b o vs).heap[b]? = some (.cells c e (0, 0))
  | [], _, _, h => h
  | v :: r, o, w, ⟨c, e, h⟩ => by
    rw [World.setCells]
    refine setCells_fz b r (o + 1) _ ⟨c.setIfInBounds o v, e, ?_⟩
    simp [World.setCell, Array.getElem?_modify, h]

/-- the cells of a block, some written over -/
theorem RowOk.write {M : Mp} {D : Nat → Prop} {w : World} {L : Loc} {l : List AV} {g : Nat} (h : RowOk M D w L l true g) (new : List AV) (off : Nat) (hb : off + new.length ≤ l.length)
    (hn : ∀ v ∈ new, okv D v ∧ v.isCell = true) :
    RowOk M D (w.setCells L.blk (L.base + off) (new.map (conc M))) L (over new l off) true g := by
  have hsome : ∀ j, j < (new.map (conc M)).length → (w.cell? ⟨L.blk, (L.base + off) + j, none⟩).isSome = true := fun j hj => by
    have := (h.own rfl (off + j) (by simp at hj; omega)).1
    rwa [show L.base + off + j = L.base + (off + j) by omega]
  refine ⟨fun i v hv => ?_, fun _ i hi => ?_, by rw [setCells_size]; exact h.lt, fun _ => setCells_fz _ _ _ _ (h.fz rfl), by rw [over_length]; exact h.sl⟩
  · rw [over_get _ _ _ _ hb] at hv
    split at hv
    · rename_i hin
      have hm := List.mem_of_getElem? hv
      refine ⟨?_, (hn v hm).2, (hn v hm).1⟩
      have hlt : i - off < (new.map (conc M)).length := by simp; omega
      have := World.cell?_setCells_in L.blk (new.map (conc M)) (L.base + off) w hsome (i - off) hlt
      rw [show L.base + i = L.base + off + (i - off) by omega, this]
      simp only [List.getElem_map]
      congr 2
      exact (List.getElem?_eq_some_iff.1 hv).2
    · rename_i hout
      obtain ⟨a, b, c⟩ := h.at_ i v hv
      refine ⟨?_, b, c⟩
      rw [World.cell?_setCells_out _ _ _ _ _ (fun _ _ => by simp; omega)]
      exact a
  · rw [over_length] at hi
    obtain ⟨a, b⟩ := h.own rfl i hi
    rw [World.frozen?_setCells]
    refine ⟨?_, b⟩
    by_cases hin : off ≤ i ∧ i < off + new.length
    · have hlt : i - off < (new.map (conc M)).length := by simp; omega
      have := World.cell?_setCells_in L.blk (new.map (conc M)) (L.base + off) w hsome (i - off) hlt
      rw [show L.base + i = L.base + off + (i - off) by omega, this]; rfl
    · rw [World.cell?_setCells_out _ _ _ _ _ (fun _ _ => by simp; omega)]; exact a

/-- one block of the interpreter's own is turned, in place -/
theorem Rel.turn {M : Mp} {D : Nat → Prop} {H : Heap} {w w' : World} (h : Rel M D H w) {b : Nat} (hb : D b) (hw : wr (H.get b)) (x : Blk)
    (hx : BlkOk M D w' (M b) (some x)) (hother : ∀ c, c ≠ (M b).blk → w'.heap[c]? = w.heap[c]?) (hsize : w'.heap.size = w.heap.size)
    (hos : w'.os = w.os) (htape : w'.tape = w.tape) (hout : w'.output = w.output) :
    Rel M D (H.set b x) w' ∧ Ext M D H w M D (H.set b x) w' := by
  refine ⟨⟨fun c hc => by simpa using h.dom c hc, fun c hc => ?_, fun c d hc hd hcd hcw hdl => ?_⟩,
    ⟨fun _ h => h, fun _ _ => rfl, fun _ h _ => h, by simp, fun c hc hcw => ?_, fun _ h hn => (hn h).elim, fun c _ hn => ?_, fun c _ hn => ?_, by rw [hsize]; exact Nat.le_refl _, hos, htape, hout⟩⟩
  · by_cases e : b = c
    · subst e; rw [Heap.get_set_same]; exact hx
    · rw [Heap.get_set_other _ e]
      exact (h.blk c hc).keep (fun _ h => h) (fun _ _ => rfl) (fun hl => hother _ (fun ee => h.inj b c hb hc e hw hl ee.symm)) (by rw [hsize]; exact Nat.le_refl _)
  · have hcw' : wr (H.get c) := by
      by_cases e : b = c
      · subst e; exact hw
      · rwa [Heap.get_set_other _ e] at hcw
    have hdl' : live (H.get d) := by
      by_cases e : b = d
      · subst e; exact live_of_wr hw
      · rwa [Heap.get_set_other _ e] at hdl
    exact h.inj c d hc hd hcd hcw' hdl'
  · by_cases e : b = c
    · subst e; exact hw
    · rwa [Heap.get_set_other _ e] at hcw
  · exact hother c (fun e => hn b hb hw e.symm)
  · rw [Heap.get_set_other _ (fun e => hn (by rw [← e]; exact hb))]

theorem Rel.write {M : Mp} {D : Nat → Prop} {H : Heap} {w : World} (h : Rel M D H w) {b : Nat} (hb : D b) {l : List AV} {g : Nat} (hg : H.get b = some (.cells l true g))
    (new : List AV) (off : Nat) (hlen : off + new.length ≤ l.length) (hn : ∀ v ∈ new, okv D v ∧ v.isCell = true) :
    Rel M D (H.set b (.cells (over new l off) true g)) (w.setCells (M b).blk ((M b).base + off) (new.map (conc M))) ∧
    Ext M D H w M D (H.set b (.cells (over new l off) true g)) (w.setCells (M b).blk ((M b).base + off) (new.map (conc M))) := by
  have hrow : RowOk M D w (M b) l true g := by have := h.blk b hb; rwa [hg] at this
  exact h.turn hb (by rw [hg]; rfl) _ (hrow.write new off hlen hn) (fun c hc => setCells_heap_other _ _ _ _ _ hc) (setCells_size _ _ _ _)
    (setCells_os _ _ _ _).1 (setCells_os _ _ _ _).2.1 (setCells_os _ _ _ _).2.2

/-- A row that grows where it stands: its block goes on under a new name; the old name is dead. -/
theorem Rel.move {M : Mp} {D : Nat → Prop} {H : Heap} {w w' : World} (h : Rel M D H w) {b : Nat} (hb : D b) (hw : wr (H.get b)) (x : Blk) (L : Loc) (hL : L.blk = (M b).blk)
    (hx : BlkOk (M.put H.nx L) (fun c => D c ∨ c = H.nx) w' L (some x)) (hother : ∀ c, c ≠ (M b).blk → w'.heap[c]? = w.heap[c]?) (hsize : w'.heap.size = w.heap.size)
    (hos : w'.os = w.os) (htape : w'.tape = w.tape) (hout : w'.output = w.output) :
    Rel (M.put H.nx L) (fun c => D c ∨ c = H.nx) ((H.set b .dead).add x) w' ∧ Ext M D H w (M.put H.nx L) (fun c => D c ∨ c = H.nx) ((H.set b .dead).add x) w' := by
  have hne : ∀ c, D c → c ≠ H.nx := fun c hc => Nat.ne_of_lt (h.dom c hc)
  have hag : ∀ c, D c → M.put H.nx L c = M c := fun c hc => Mp.put_other _ _ (hne c hc)
  have hgetb : ((H.set b .dead).add x).get b = some .dead := by rw [Heap.get_add, if_neg (by simpa using hne b hb), Heap.get_set_same]
  have hget : ∀ c, D c → c ≠ b → ((H.set b .dead).add x).get c = H.get c := fun c hc hcb => by
    rw [Heap.get_add, if_neg (by simpa using hne c hc), Heap.get_set_other _ (fun e => hcb e.symm)]
  have hgetn : ((H.set b .dead).add x).get H.nx = some x := by rw [Heap.get_add, if_pos (by simp)]
  refine ⟨⟨?_, ?_, ?_⟩, ⟨fun _ hc => .inl hc, hag, ?_, by simp, ?_, ?_, ?_, ?_, by rw [hsize]; exact Nat.le_refl _, hos, htape, hout⟩⟩
  · rintro c (hc | rfl)
    · have := h.dom c hc; simp; omega
    · simp
  · rintro c (hc | rfl)
    · by_cases e : c = b
      · subst e; rw [hgetb]; trivial
      · rw [hget c hc e, hag c hc]
        exact (h.blk c hc).keep (fun _ h => .inl h) hag (fun hl => hother _ (fun ee => h.inj b c hb hc (fun e' => e e'.symm) hw hl ee.symm)) (by rw [hsize]; exact Nat.le_refl _)
    · rw [hgetn, Mp.put_same]; exact hx
  · rintro c d (hc | rfl) (hd | rfl) hcd hcw hdl
    · by_cases e : c = b
      · subst e; rw [hgetb] at hcw; exact hcw.elim
      · by_cases e' : d = b
        · subst e'; rw [hgetb] at hdl; exact hdl.elim
        · rw [hget c hc e] at hcw; rw [hget d hd e'] at hdl; rw [hag c hc, hag d hd]; exact h.inj c d hc hd hcd hcw hdl
    · by_cases e : c = b
      · subst e; rw [hgetb] at hcw; exact hcw.elim
      · rw [hget c hc e] at hcw; rw [hag c hc, Mp.put_same, hL]
        exact h.inj c b hc hb e hcw (live_of_wr hw)
    · by_cases e' : d = b
      · subst e'; rw [hgetb] at hdl; exact hdl.elim
      · rw [hget d hd e'] at hdl; rw [hag d hd, Mp.put_same, hL]
        exact h.inj b d hb hd (fun ee => e' ee.symm) hw hdl
    · exact (hcd rfl).elim
  · rintro c (hc | rfl) hlt
    · exact hc
    · omega
  · intro c hc hcw
    by_cases e : c = b
    · subst e; exact hw
    · rwa [hget c hc e] at hcw
  · rintro c (hc | rfl) hnc _
    · exact (hnc hc).elim
    · exact .inr ⟨b, hb, hw, by rw [Mp.put_same]; exact hL⟩
  · intro c _ hn; exact hother c (fun e => hn b hb hw e.symm)
  · intro c hc hn; rw [Heap.get_add, if_neg (by simp; omega), Heap.get_set_other _ (fun e => hn (by rw [← e]; exact hb))]

end Go.Ai
