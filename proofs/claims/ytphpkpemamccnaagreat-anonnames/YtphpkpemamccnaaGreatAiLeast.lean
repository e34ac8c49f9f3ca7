/- The least key of a map of rows of bools of which a function says yes: what the interpreter does for it, and what its proof at a program needs. -/
import Derived.Test.YtphpkpemamccnaaGreatAiKeys
import Derived.Test.YtphpkpemamccnaaGreatAiMemo
import Derived.RangeFuncSeq
import Derived.Maps.RangeWalk
namespace Go.Ai

/-! ### Calls without fuel -/
open Classical in
noncomputable def callW (tbl : Tr AFn) : ACalls := fun fv vs H => if h : ∃ n v H', call tbl n fv vs H = .ret v H' then call tbl (Classical.choose h) fv vs H else .err
theorem callW_of {tbl : Tr AFn} {n : Nat} {fv : AV} {vs : List AV} {H H' : Heap} {v : AV} (h : call tbl n fv vs H = .ret v H') : callW tbl fv vs H = .ret v H' := by
  have he : ∃ n v H', call tbl n fv vs H = .ret v H' := ⟨n, v, H', h⟩
  unfold callW
  rw [dif_pos he]
  obtain ⟨u, K, hu⟩ := Classical.choose_spec he
  have h1 := call_le (tbl := tbl) (Nat.le_max_left n (Classical.choose he)) _ _ _ _ _ h
  have h2 := call_le (tbl := tbl) (Nat.le_max_right n (Classical.choose he)) _ _ _ _ _ hu
  rw [h1] at h2
  cases h2
  exact hu
theorem callW_inv {tbl : Tr AFn} {fv : AV} {vs : List AV} {H H' : Heap} {v : AV} (h : callW tbl fv vs H = .ret v H') : ∃ n, call tbl n fv vs H = .ret v H' := by
  unfold callW at h
  split at h
  · exact ⟨_, h⟩
  · cases h
theorem callW_ok {P : Program} {tbl : Tr AFn} (T : TblOk P tbl) : CallsOk P (callW tbl) := fun fv args H v H' h => by
  obtain ⟨n, h⟩ := callW_inv h
  exact call_ok T n fv args H v H' h
theorem callW_mono {P : Program} {tbl : Tr AFn} (T : TblOk P tbl) : CallsMono (callW tbl) := fun fv args H v H' hr h => by
  obtain ⟨n, h⟩ := callW_inv h
  exact call_mono T.mono n fv args H v H' hr h

/-! ### The least of some -/
noncomputable def leastZ : List Int → List Bool → Int → Bool → Int × Bool
  | x :: xs, t :: ts, b, s => match t && (!s || ltF x b) with
    | true => leastZ xs ts x true
    | false => leastZ xs ts b s
  | _, _, b, s => (b, s)

/-- nothing of these yet, or the least of them -/
def Least (S : Int → Prop) (b : Int) (s : Bool) : Prop := (s = false ∧ b = 0 ∧ ∀ x, ¬ S x) ∨ (s = true ∧ S b ∧ ∀ x, S x → b ≤ x)
theorem Least.eq {S : Int → Prop} {b b' : Int} {s s' : Bool} (h : Least S b s) (h' : Least S b' s') : b = b' ∧ s = s' := by
  rcases h with ⟨rfl, rfl, h⟩ | ⟨rfl, h1, h2⟩ <;> rcases h' with ⟨rfl, rfl, h'⟩ | ⟨rfl, h3, h4⟩
  · exact ⟨rfl, rfl⟩
  · exact (h _ h3).elim
  · exact (h' _ h1).elim
  · exact ⟨Int.le_antisymm (h2 _ h3) (h4 _ h1), rfl⟩
theorem Least.step {S S' : Int → Prop} {b x : Int} {s t : Bool} (h : Least S b s) (hS : ∀ y, S' y ↔ S y ∨ (y = x ∧ t = true)) : Least S' (if t && (!s || decide (x < b)) then x else b) (if t && (!s || decide (x < b)) then true else s) := by
  cases t with
  | false =>
    simp only [Bool.false_and, Bool.false_eq_true, if_false]
    have e : ∀ y, S' y ↔ S y := fun y => by rw [hS]; simp
    rcases h with ⟨rfl, rfl, h⟩ | ⟨rfl, h1, h2⟩
    · exact .inl ⟨rfl, rfl, fun y hy => h y ((e y).1 hy)⟩
    · exact .inr ⟨rfl, (e b).2 h1, fun y hy => h2 y ((e y).1 hy)⟩
  | true =>
    simp only [Bool.true_and]
    rcases h with ⟨rfl, rfl, h⟩ | ⟨rfl, h1, h2⟩
    · simp only [Bool.not_false, Bool.true_or, if_true]
      refine .inr ⟨rfl, (hS x).2 (.inr ⟨rfl, rfl⟩), fun y hy => ?_⟩
      rcases (hS y).1 hy with h3 | ⟨rfl, _⟩
      · exact (h y h3).elim
      · exact Int.le_refl _
    · simp only [Bool.not_true, Bool.false_or, decide_eq_true_eq]
      by_cases hxb : x < b
      · simp only [hxb, if_true]
        refine .inr ⟨rfl, (hS x).2 (.inr ⟨rfl, rfl⟩), fun y hy => ?_⟩
        rcases (hS y).1 hy with h3 | ⟨rfl, _⟩
        · have := h2 y h3; omega
        · exact Int.le_refl _
      · simp only [hxb, if_false]
        refine .inr ⟨rfl, (hS b).2 (.inl h1), fun y hy => ?_⟩
        rcases (hS y).1 hy with h3 | ⟨rfl, _⟩
        · exact h2 y h3
        · omega
theorem leastZ_ok : ∀ (xs : List Int) (ts : List Bool) (S : Int → Prop) (b : Int) (s : Bool), xs.length = ts.length → Least S b s → Least (fun y => S y ∨ (y, true) ∈ xs.zip ts) (leastZ xs ts b s).1 (leastZ xs ts b s).2
  | [], [], S, b, s, _, h => by
    have : (fun y => S y ∨ (y, true) ∈ ([] : List Int).zip ([] : List Bool)) = S := by funext y; simp
    rw [this]; exact h
  | x :: xs, t :: ts, S, b, s, hl, h => by
    have h1 := h.step (x := x) (t := t) (S' := fun y => S y ∨ (y = x ∧ t = true)) fun y => .rfl
    have h2 := leastZ_ok xs ts _ _ _ (by simpa using hl) h1
    have e : (fun y => (S y ∨ (y = x ∧ t = true)) ∨ (y, true) ∈ xs.zip ts) = fun y => S y ∨ (y, true) ∈ (x :: xs).zip (t :: ts) := by
      funext y
      simp only [List.zip_cons_cons, List.mem_cons, Prod.mk.injEq, eq_iff_iff, or_assoc]
      constructor
      · rintro (h | ⟨h, h'⟩ | h)
        · exact .inl h
        · exact .inr (.inl ⟨h, h'.symm⟩)
        · exact .inr (.inr h)
      · rintro (h | ⟨h, h'⟩ | h)
        · exact .inl h
        · exact .inr (.inl ⟨h, h'.symm⟩)
        · exact .inr (.inr h)
    rw [e] at h2
    have e3 : leastZ (x :: xs) (t :: ts) b s = leastZ xs ts (if t && (!s || decide (x < b)) then x else b) (if t && (!s || decide (x < b)) then true else s) := by
      simp only [leastZ, ltF_eq]
      cases hc : (t && (!s || decide (x < b))) <;> rfl
    rw [e3]; exact h2
  | [], _ :: _, _, _, _, hl, _ => by simp at hl
  | _ :: _, [], _, _, _, hl, _ => by simp at hl

/-! ### What a function without captured values says of a row of bools -/
noncomputable def suchV (cf : ACalls) (f : Nat) (H : Heap) (v : AV) : Option Bool := match v with
  | .slice b off len ext opn => Option.casesOn (H.get b) none fun x => Blk.casesOn x (fun l _ _ => match allB plainV l with
      | true => (match cf (.func f [] []) [.slice b off len ext opn] (H.shut true) with
        | .ret (.bool t) _ => some t
        | _ => none)
      | false => none) (fun _ => none) none
  | _ => none
noncomputable def suchL (cf : ACalls) (f : Nat) (H : Heap) : List (AV × AV) → Option (List Bool)
  | [] => some []
  | e :: es => match suchV cf f H e.2 with
    | some t => (match suchL cf f H es with
      | some ts => some (t :: ts)
      | none => none)
    | none => none
noncomputable def leastO (cf : ACalls) (args : List AV) (H : Heap) : Option AV := match args with
  | [.map m, .func f [] []] => match mapAt H m with
    | some es => (match keysZ es with
      | some zs => (match incrZ (sortZ zs) && Nat.ble (lenN zs) 1000000 with
        | true => (match suchL cf f H es with
          | some ts => some (.tuple [.int .i64 (leastZ zs ts 0 false).1, .bool (leastZ zs ts 0 false).2])
          | none => none)
        | false => none)
      | none => none)
    | none => none
  | _ => none
noncomputable def leastG (cf : ACalls) (args : List AV) (H : Heap) : CRes := match leastO cf args H with
  | some v => .ret v H
  | none => .err
theorem leastG_inv {cf : ACalls} {args : List AV} {H H' : Heap} {v : AV} (h : leastG cf args H = .ret v H') : H' = H ∧ ∃ m f es zs ts, args = [.map m, .func f [] []] ∧ mapAt H m = some es ∧ keysZ es = some zs ∧ zs.Nodup ∧ zs.length ≤ 1000000 ∧
    suchL cf f H es = some ts ∧ v = .tuple [.int .i64 (leastZ zs ts 0 false).1, .bool (leastZ zs ts 0 false).2] := by
  unfold leastG at h
  split at h
  · rename_i u hu
    cases h
    refine ⟨rfl, ?_⟩
    unfold leastO at hu
    split at hu
    · rename_i m f
      split at hu
      · rename_i es hes
        split at hu
        · rename_i zs hzs
          split at hu
          · rename_i hi
            split at hu
            · rename_i ts hts
              cases hu
              rw [Bool.and_eq_true, lenN_eq] at hi
              exact ⟨m, f, es, zs, ts, rfl, hes, hzs, (sortZ_perm zs).nodup_iff.1 ((incrZ_pairwise hi.1).imp fun h => Int.ne_of_lt h), Nat.le_of_ble_eq_true hi.2, hts, rfl⟩
            · cases hu
          · cases hu
        · cases hu
      · cases hu
    · cases hu
  · cases h
theorem leastG_mono {cf : ACalls} {args : List AV} {H H' : Heap} {v : AV} (h : leastG cf args H = .ret v H') : Mono H H' := by
  rw [(leastG_inv h).1]; exact .refl
theorem suchL_at {cf : ACalls} {f : Nat} {H : Heap} : ∀ {es : List (AV × AV)} {ts : List Bool}, suchL cf f H es = some ts → ts.length = es.length ∧ ∀ (i : Nat) (e : AV × AV), es[i]? = some e → ∃ t, ts[i]? = some t ∧ suchV cf f H e.2 = some t
  | [], ts, h => by cases h; exact ⟨rfl, fun i e he => by simp at he⟩
  | e :: es, ts, h => by
    simp only [suchL] at h
    split at h
    · rename_i t ht
      split at h
      · rename_i ts' hts
        cases h
        obtain ⟨h1, h2⟩ := suchL_at hts
        refine ⟨by simp [h1], fun i x hx => ?_⟩
        cases i with
        | zero => simp at hx; subst hx; exact ⟨t, rfl, ht⟩
        | succ i => simpa using h2 i x (by simpa using hx)
      · cases h
    · cases h

/-! ### In the model -/
theorem OkB.plain {D : Nat → Prop} {l : List AV} {rw_ : Bool} {g : Nat} (h : allB plainV l = true) : OkB D (some (.cells l rw_ g)) := fun v hv => plainV_ok (allB_ok h v hv) D

/-- a function upon one row of plain cells, the heap shut: what it makes is forgotten -/
theorem such_calls {P : Program} {cf : ACalls} (hk : CallsOk P cf) (hm : CallsMono cf) {f : Nat} {H : Heap} {v : AV} {t : Bool} (h : suchV cf f H v = some t) {M : Mp} {D : Nat → Prop} {w : World} (hp : HpOk H) (hr : Rel M D H w) (hv : okv D v) :
    Enters P f ∧ Calls P f #[conc M v] w fun e w' => e = .returned (.bool t) ∧ Rel M D H w' ∧ Ext M D H w M D H w' ∧ KeepsWalks w w' := by
  unfold suchV at h
  split at h
  · rename_i b off len ext opn
    obtain ⟨x, hg, h1⟩ := ocase h
    cases x with
    | mp es => cases h1
    | dead => cases h1
    | cells l rw_ g =>
      dsimp only at h1
      split at h1
      · rename_i hpl
        split at h1
        · rename_i u H' hcall
          cases h1
          have hb : D b := by simpa [okv] using hv
          have hlt := hr.dom b hb
          have hr1 : Rel M (fun c => c = b) (H.shut true) w := by
            refine ⟨fun c hc => by rw [hc]; exact hlt, fun c hc => ?_, fun c d hc hd e => (e (hc.trans hd.symm)).elim⟩
            rw [hc]
            show BlkOk M _ w (M b) (H.get b)
            have := hr.blk b hb
            rw [hg] at this ⊢
            exact this.cut (OkB.plain hpl)
          obtain ⟨f', first, cap, hfv, hc⟩ := hk _ _ _ _ _ hcall
          cases hfv
          have hblk := hr.blk b hb
          rw [hg] at hblk
          have hmono := hm _ _ _ _ _ (by simp [Heap.shut]) hcall
          obtain ⟨he, hcalls⟩ := hc M _ w ⟨by simp [Heap.shut], fun c hc => hp.wf c hc⟩ hr1 (by simp [okL, okv])
          refine ⟨he, Calls.mono (by simpa using hcalls) fun e w' hpost => ?_⟩
          obtain ⟨M', D', he', hr', hx', _⟩ := hpost
          have hlow : ∀ c, c < H.nx → H'.get c = H.get c := fun c hc => hmono.low c hc
          have hag : M' b = M b := hx'.agree b rfl
          have hfr : ∀ c, c < w.heap.size → (wr (H.get b) → (M b).blk ≠ c) → w'.heap[c]? = w.heap[c]? := fun c hc hn => hx'.frame c hc fun d hd hw => by
            rw [hd] at hw ⊢; exact hn hw
          have hDb' : D' b := hx'.keep b rfl
          have hnew : BlkOk M D w' (M b) (H.get b) := by
            have h2 := hr'.blk b hDb'
            rw [hlow b hlt, hag] at h2
            rw [hg] at h2 ⊢
            have h3 : BlkOk M' (fun _ => False) w' (M b) (some (.cells l rw_ g)) := h2.cut (OkB.plain hpl)
            exact h3.keep (fun _ h => h.elim) (fun _ h => h.elim) (fun _ => rfl) (Nat.le_refl _)
          have hsame : ∀ c, D c → c ≠ b → live (H.get c) → w'.heap[(M c).blk]? = w.heap[(M c).blk]? := fun c hc hne hl =>
            hfr _ ((hr.blk c hc).lt hl) fun hw => hr.inj b c hb hc (fun e => hne e.symm) hw hl
          have hrel : Rel M D H w' := ⟨hr.dom, fun c hc => by
            by_cases e : c = b
            · subst e; exact hnew
            · exact (hr.blk c hc).keep (fun _ h => h) (fun _ _ => rfl) (hsame c hc e) hx'.size, hr.inj⟩
          refine ⟨by rw [he']; rfl, hrel, ?_, hx'.size, fun c o hc ho => ?_⟩
          · have h0 : Ext M D H w M D H w := .refl
            exact { h0 with
              frame := fun c hc hn => hfr c hc fun hw => hn b hb hw
              size := hx'.size
              os := hx'.os
              tape := hx'.tape
              output := hx'.output }
          · have hclt : c < w.heap.size := (Array.getElem?_eq_some_iff.1 hc).1
            rw [hfr c hclt fun hw e => ?_]
            · exact hc
            · have hrow := hr.blk b hb
              rw [hg] at hrow hw
              obtain ⟨cs, ty, hcs⟩ := hrow.fz hw
              rw [e, hc] at hcs
              cases hcs
              cases ho
        · cases h1
      · cases h1
  · cases h
end Go.Ai
