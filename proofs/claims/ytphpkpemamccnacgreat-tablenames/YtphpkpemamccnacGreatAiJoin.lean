/- A step that knew only part of a heap, told of the whole. -/
import Derived.Test.YtphpkpemamccnacGreatAiIns
namespace Go.Ai

theorem Rel.sub {M : Mp} {D D₁ : Nat → Prop} {H : Heap} {w : World} (h : Rel M D H w) (hd : ∀ b, D₁ b → D b)
    (hc : ∀ b, D₁ b → BlkOk M D₁ w (M b) (H.get b)) : Rel M D₁ H w :=
  ⟨fun b hb => h.dom b (hd b hb), hc, fun b c hb hc => h.inj b c (hd b hb) (hd c hc)⟩

/-- as seen from a later heap -/
theorem Rel.later {M : Mp} {D : Nat → Prop} {H H' : Heap} {w : World} (h : Rel M D H w) (hn : H.nx ≤ H'.nx) (hg : ∀ b, b < H.nx → H'.get b = H.get b) : Rel M D H' w :=
  ⟨fun b hb => Nat.lt_of_lt_of_le (h.dom b hb) hn, fun b hb => by rw [hg b (h.dom b hb)]; exact h.blk b hb,
   fun b c hb hc e hw hl => h.inj b c hb hc e (by rw [← hg b (h.dom b hb)]; exact hw) (by rw [← hg c (h.dom c hc)]; exact hl)⟩

theorem Ext.later {M : Mp} {D : Nat → Prop} {H : Heap} {w : World} {M' : Mp} {D' : Nat → Prop} {H' H'' : Heap} {w' : World} (hk : Ext M D H w M' D' H' w')
    (hd : ∀ b, D' b → b < H'.nx) (hn : H'.nx ≤ H''.nx) (hg : ∀ b, b < H'.nx → H''.get b = H'.get b) : Ext M D H w M' D' H'' w' := {
  keep := hk.keep
  agree := hk.agree
  old := hk.old
  nx := Nat.le_trans hk.nx hn
  wrm b hb hw := hk.wrm b hb (by rw [← hg b (hd b (hk.keep b hb))]; exact hw)
  newb b hb hn hw := hk.newb b hb hn (by rw [← hg b (hd b hb)]; exact hw)
  frame := hk.frame
  unm b hb hn := by rw [hg b (Nat.lt_of_lt_of_le hb hk.nx)]; exact hk.unm b hb hn
  size := hk.size
  os := hk.os
  tape := hk.tape
  output := hk.output }

open Classical in
/-- the blocks of a part that took a step, the rest as they were -/
noncomputable def Mp.join (M M' : Mp) (D' : Nat → Prop) : Mp := fun b => if D' b then M' b else M b

section
variable {M M' M₀ : Mp} {D D₁ D' D₀ : Nat → Prop} {H Ha Hb H₀ : Heap} {w w' w₀ : World}

theorem Mp.join_in {b : Nat} (h : D' b) : Mp.join M M' D' b = M' b := by unfold Mp.join; rw [if_pos h]
theorem Mp.join_out {b : Nat} (h : ¬ D' b) : Mp.join M M' D' b = M b := by unfold Mp.join; rw [if_neg h]

structure Part (M M' : Mp) (D D₁ D' : Nat → Prop) (H Ha Hb : Heap) (w w' : World) : Prop where
  hr : Rel M D H w
  hx : Ext M D₁ Ha w M' D' Hb w'
  hr' : Rel M' D' Hb w'
  sub : ∀ b, D₁ b → D b
  g1 : ∀ b, D₁ b → H.get b = Ha.get b
  g2 : ∀ b, D' b → H.get b = Hb.get b
  back : ∀ b, D b → D' b → D₁ b
  nx : ∀ b, D' b → b < H.nx
  rd : ∀ b, D' b → ¬ D₁ b → ¬ roB (Hb.get b)

theorem Part.agree (p : Part M M' D D₁ D' H Ha Hb w w') {b : Nat} (hb : D b) : Mp.join M M' D' b = M b := by
  by_cases h : D' b
  · rw [Mp.join_in h]; exact p.hx.agree b (p.back b hb h)
  · exact Mp.join_out h

/-- a block of the part that is new to it, as against one of the rest -/
theorem Part.apart (p : Part M M' D D₁ D' H Ha Hb w w') {b c : Nat} (hb : D' b) (hn : ¬ D₁ b) (hc : D c) (hc' : ¬ D' c) (hl : live (Hb.get b)) (hlc : live (H.get c)) : (M' b).blk ≠ (M c).blk := by
  have hw : wr (Hb.get b) := Classical.byContradiction fun h => p.rd b hb hn ⟨hl, h⟩
  rcases p.hx.newb b hb hn hw with h | ⟨d, hd, hdw, he⟩
  · have := (p.hr.blk c hc).lt hlc
    omega
  · rw [he]
    refine p.hr.inj d c (p.sub d hd) hc ?_ (by rw [p.g1 d hd]; exact hdw) hlc
    intro e; subst e; exact hc' (p.hx.keep d hd)

theorem Part.rel (p : Part M M' D D₁ D' H Ha Hb w w') : Rel (Mp.join M M' D') (fun b => D b ∨ D' b) H w' := {
  dom b hb := hb.elim (p.hr.dom b) (p.nx b)
  blk b hb := by
    by_cases h : D' b
    · rw [p.g2 b h, Mp.join_in h]
      exact (p.hr'.blk b h).keep (fun b h => .inr h) (fun b h => Mp.join_in h) (fun _ => rfl) (Nat.le_refl _)
    · have hD : D b := hb.resolve_right h
      rw [Mp.join_out h]
      refine (p.hr.blk b hD).keep (fun b h => .inl h) (fun b h => p.agree h) (fun hl => ?_) p.hx.size
      refine p.hx.frame _ ((p.hr.blk b hD).lt hl) fun c hc hw => p.hr.inj c b (p.sub c hc) hD ?_ (by rw [p.g1 c hc]; exact hw) hl
      intro e; subst e; exact h (p.hx.keep c hc)
  inj b c hb hc e hw hl := by
    by_cases h : D' b
    · rw [Mp.join_in h]
      by_cases h' : D' c
      · rw [Mp.join_in h']
        exact p.hr'.inj b c h h' e (by rw [← p.g2 b h]; exact hw) (by rw [← p.g2 c h']; exact hl)
      · have hD : D c := hc.resolve_right h'
        rw [Mp.join_out h']
        by_cases h1 : D₁ b
        · rw [p.hx.agree b h1]; exact p.hr.inj b c (p.sub b h1) hD e hw hl
        · exact p.apart h h1 hD h' (by rw [← p.g2 b h]; exact live_of_wr hw) hl
    · have hDb : D b := hb.resolve_right h
      rw [Mp.join_out h]
      by_cases h' : D' c
      · rw [Mp.join_in h']
        by_cases h1 : D₁ c
        · rw [p.hx.agree c h1]; exact p.hr.inj b c hDb (p.sub c h1) e hw hl
        · exact fun e' => p.apart h' h1 hDb h (by rw [← p.g2 c h']; exact hl) (live_of_wr hw) e'.symm
      · rw [Mp.join_out h']
        exact p.hr.inj b c hDb (hc.resolve_right h') e hw hl }

theorem Part.ext (p : Part M M' D D₁ D' H Ha Hb w w') (k : Ext M₀ D₀ H₀ w₀ M D H w) (hn : H₀.nx ≤ Ha.nx) : Ext M₀ D₀ H₀ w₀ (Mp.join M M' D') (fun b => D b ∨ D' b) H w' := {
  keep b hb := .inl (k.keep b hb)
  agree b hb := (p.agree (k.keep b hb)).trans (k.agree b hb)
  old b hb hl := hb.elim (fun h => k.old b h hl) fun h => k.old b (p.sub b (p.hx.old b h (Nat.lt_of_lt_of_le hl hn))) hl
  nx := k.nx
  wrm := k.wrm
  newb b hb hn' hw := by
    by_cases hD : D b
    · rw [p.agree hD]; exact k.newb b hD hn' hw
    · have h : D' b := hb.resolve_left hD
      have h1 : ¬ D₁ b := fun h1 => hD (p.sub b h1)
      rw [Mp.join_in h]
      rcases p.hx.newb b h h1 (by rw [← p.g2 b h]; exact hw) with hs | ⟨d, hd, hdw, he⟩
      · exact .inl (Nat.le_trans k.size hs)
      · rw [he]
        have hdD := p.sub d hd
        have hdw' : wr (H.get d) := by rw [p.g1 d hd]; exact hdw
        by_cases h0 : D₀ d
        · exact .inr ⟨d, h0, k.wrm d h0 hdw', by rw [k.agree d h0]⟩
        · exact k.newb d hdD h0 hdw'
  frame c hc hb := by
    rw [p.hx.frame c (Nat.lt_of_lt_of_le hc k.size) ?_, k.frame c hc hb]
    intro d hd hdw he
    have hdD := p.sub d hd
    have hdw' : wr (H.get d) := by rw [p.g1 d hd]; exact hdw
    by_cases h0 : D₀ d
    · exact hb d h0 (k.wrm d h0 hdw') (by rw [← k.agree d h0]; exact he)
    · rcases k.newb d hdD h0 hdw' with hs | ⟨c', hc', hcw, he'⟩
      · omega
      · exact hb c' hc' hcw (by rw [← he']; exact he)
  unm := k.unm
  size := Nat.le_trans k.size p.hx.size
  os := p.hx.os.trans k.os
  tape := p.hx.tape.trans k.tape
  output := p.hx.output.trans k.output }

/-- a block that was made with no heap in sight -/
structure Fresh (M M' : Mp) (D D₁ D' : Nat → Prop) (H Hd Hb : Heap) (w w' : World) (n : Nat) : Prop where
  hr : Rel M D H w
  hx : Ext M D₁ Hd w M' D' Hb w'
  hr' : Rel M' D' Hb w'
  dead : ∀ b, ¬ wr (Hd.get b)
  sub : ∀ b, D₁ b → D b
  new : ∀ b, D' b → D₁ b ∨ b = n
  out : ¬ D n
  lt : n < H.nx
  at_ : H.get n = Hb.get n
  rd : ¬ roB (Hb.get n)

variable {Hd : Heap} {n : Nat}
theorem Fresh.agree (p : Fresh M M' D D₁ D' H Hd Hb w w' n) {b : Nat} (hb : D b) : Mp.join M M' D' b = M b := by
  by_cases h : D' b
  · rw [Mp.join_in h]
    rcases p.new b h with h1 | rfl
    · exact p.hx.agree b h1
    · exact (p.out hb).elim
  · exact Mp.join_out h
theorem Fresh.same (p : Fresh M M' D D₁ D' H Hd Hb w w' n) {c : Nat} (hc : c < w.heap.size) : w'.heap[c]? = w.heap[c]? := p.hx.frame c hc fun b _ hw => (p.dead b hw).elim
theorem Fresh.is (p : Fresh M M' D D₁ D' H Hd Hb w w' n) {b : Nat} (hb : D b ∨ D' b) (hn : ¬ D b) : b = n ∧ D' n := by
  have h := hb.resolve_left hn
  rcases p.new b h with h1 | rfl
  · exact (hn (p.sub b h1)).elim
  · exact ⟨rfl, h⟩
theorem Fresh.high (p : Fresh M M' D D₁ D' H Hd Hb w w' n) (h : D' n) (hl : live (Hb.get n)) : w.heap.size ≤ (M' n).blk := by
  have hw : wr (Hb.get n) := Classical.byContradiction fun hw => p.rd ⟨hl, hw⟩
  rcases p.hx.newb n h (fun h1 => p.out (p.sub n h1)) hw with h1 | ⟨d, _, hd, _⟩
  · exact h1
  · exact (p.dead d hd).elim

theorem Fresh.rel (p : Fresh M M' D D₁ D' H Hd Hb w w' n) : Rel (Mp.join M M' D') (fun b => D b ∨ D' b) H w' := {
  dom b hb := by
    by_cases h : D b
    · exact p.hr.dom b h
    · rw [(p.is hb h).1]; exact p.lt
  blk b hb := by
    by_cases h : D b
    · rw [p.agree h]
      exact (p.hr.blk b h).keep (fun b h => .inl h) (fun b h => p.agree h) (fun hl => p.same ((p.hr.blk b h).lt hl)) p.hx.size
    · obtain ⟨rfl, h'⟩ := p.is hb h
      rw [p.at_, Mp.join_in h']
      exact (p.hr'.blk b h').keep (fun b h => .inr h) (fun b h => Mp.join_in h) (fun _ => rfl) (Nat.le_refl _)
  inj b c hb hc e hw hl := by
    by_cases h : D b
    · rw [p.agree h]
      by_cases h' : D c
      · rw [p.agree h']; exact p.hr.inj b c h h' e hw hl
      · obtain ⟨rfl, h2⟩ := p.is hc h'
        rw [Mp.join_in h2]
        have h3 := p.high h2 (by rw [← p.at_]; exact hl)
        have h4 := (p.hr.blk b h).lt (live_of_wr hw)
        omega
    · obtain ⟨rfl, h2⟩ := p.is hb h
      rw [Mp.join_in h2]
      by_cases h' : D c
      · rw [p.agree h']
        have h3 := p.high h2 (by rw [← p.at_]; exact live_of_wr hw)
        have h4 := (p.hr.blk c h').lt hl
        omega
      · obtain ⟨rfl, _⟩ := p.is hc h'
        exact (e rfl).elim }

theorem Fresh.ext (p : Fresh M M' D D₁ D' H Hd Hb w w' n) (k : Ext M₀ D₀ H₀ w₀ M D H w) (hn : H₀.nx ≤ n) : Ext M₀ D₀ H₀ w₀ (Mp.join M M' D') (fun b => D b ∨ D' b) H w' := {
  keep b hb := .inl (k.keep b hb)
  agree b hb := (p.agree (k.keep b hb)).trans (k.agree b hb)
  old b hb hl := by
    by_cases h : D b
    · exact k.old b h hl
    · obtain ⟨rfl, _⟩ := p.is hb h
      omega
  nx := k.nx
  wrm := k.wrm
  newb b hb hn' hw := by
    by_cases h : D b
    · rw [p.agree h]; exact k.newb b h hn' hw
    · obtain ⟨rfl, h2⟩ := p.is hb h
      rw [Mp.join_in h2]
      exact .inl (Nat.le_trans k.size (p.high h2 (by rw [← p.at_]; exact live_of_wr hw)))
  frame c hc hb := by rw [p.same (Nat.lt_of_lt_of_le hc k.size)]; exact k.frame c hc hb
  unm := k.unm
  size := Nat.le_trans k.size p.hx.size
  os := p.hx.os.trans k.os
  tape := p.hx.tape.trans k.tape
  output := p.hx.output.trans k.output }
end
end Go.Ai
