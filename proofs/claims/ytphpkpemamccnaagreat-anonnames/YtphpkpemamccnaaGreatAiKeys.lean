/- The sorted keys of a map, for the interpreter: what the library's slices.Sorted makes of what maps.Keys hands back. -/
import Derived.Test.YtphpkpemamccnaaGreatAiInsert
import Derived.Test.YtphpkpemamccnaaGreatAiSort
import Derived.Lib.SlKeysI
namespace Go.Ai

/-! ### Numbers sorted -/
noncomputable def insZ (x : Int) (l : List Int) : List Int := List.rec (motive := fun _ => List Int) [x] (fun a t ih => Bool.casesOn (ltF a x) (x :: a :: t) (a :: ih)) l
noncomputable def sortZ (l : List Int) : List Int := List.rec (motive := fun _ => List Int) [] (fun a _ ih => insZ a ih) l
noncomputable def incrZ (l : List Int) : Bool := List.rec (motive := fun _ => Bool) true (fun a t ih => List.casesOn t true fun b _ => Bool.casesOn (ltF a b) false ih) l

theorem insZ_perm (x : Int) (l : List Int) : (insZ x l).Perm (x :: l) := by
  induction l with
  | nil => exact .refl _
  | cons a t ih =>
    show (Bool.casesOn (ltF a x) (x :: a :: t) (a :: insZ x t) : List Int).Perm _
    cases ltF a x
    · exact .refl _
    · exact (List.Perm.cons a ih).trans (List.Perm.swap x a t)
theorem sortZ_perm (l : List Int) : (sortZ l).Perm l := by
  induction l with
  | nil => exact .refl _
  | cons a t ih => exact (insZ_perm a (sortZ t)).trans (List.Perm.cons a ih)
theorem incrZ_pairwise : ∀ {l : List Int}, incrZ l = true → l.Pairwise (· < ·)
  | [], _ => .nil
  | [a], _ => by simp
  | a :: b :: t, h => by
    have h' : (Bool.casesOn (ltF a b) false (incrZ (b :: t)) : Bool) = true := h
    rw [ltF_eq] at h'
    by_cases hab : a < b
    · rw [show decide (a < b) = true by simpa using hab] at h'
      have ih := incrZ_pairwise (l := b :: t) h'
      refine List.pairwise_cons.2 ⟨fun c hc => ?_, ih⟩
      rcases List.mem_cons.1 hc with rfl | hc
      · exact hab
      · exact Int.lt_trans hab ((List.pairwise_cons.1 ih).1 c hc)
    · rw [show decide (a < b) = false by simpa using hab] at h'
      cases h'

/-- keys that are ints -/
noncomputable def keysZ (es : List (AV × AV)) : Option (List Int) := List.rec (motive := fun _ => Option (List Int)) (some [])
  (fun e _ ih => match e.1 with
    | .int .i64 x => match ltF x (-9223372036854775808), ltF 9223372036854775807 x with
      | false, false => Option.casesOn ih none fun l => some (x :: l)
      | _, _ => none
    | _ => none) es
theorem keysZ_some : ∀ {es : List (AV × AV)} {zs : List Int}, keysZ es = some zs → es.map (·.1) = zs.map I64 ∧ ∀ x ∈ zs, in64 x
  | [], zs, h => by
    have h' : some [] = some zs := h
    cases h'; simp
  | e :: es, zs, h => by
    have h' : (match e.1 with
      | .int .i64 x => match ltF x (-9223372036854775808), ltF 9223372036854775807 x with
        | false, false => Option.casesOn (keysZ es) none fun l => some (x :: l)
        | _, _ => none
      | _ => none : Option (List Int)) = some zs := h
    split at h'
    · rename_i x hx
      split at h'
      · rename_i h1 h2
        obtain ⟨l, hl, h3⟩ := ocase h'
        cases h3
        obtain ⟨i1, i2⟩ := keysZ_some hl
        rw [ltF_eq] at h1 h2
        refine ⟨by simp [hx, i1], fun y hy => ?_⟩
        rcases List.mem_cons.1 hy with rfl | hy
        · unfold in64; simp at h1 h2; omega
        · exact i2 y hy
      · cases h'
    · cases h'

/-- slices.Sorted upon the iterator that maps.Keys handed back: at most twelve keys -/
noncomputable def sortedO (keysF : Nat) (args : List AV) (H : Heap) : Option (AV × Heap) := match args with
  | [.func f [] [.ptr b off]] => Bool.casesOn (Nat.beq f keysF) none
    (Option.casesOn (cellsAt H b) none fun l => Option.casesOn (nth l off) none fun v => match v with
      | .map m => Option.casesOn (mapAt H m) none fun es => Option.casesOn (keysZ es) none fun zs =>
        Bool.casesOn (Nat.beq (lenN zs) 0) (Bool.casesOn (incrZ (sortZ zs) && Nat.ble (lenN zs) 12) none
          (H.newK (.cells (mapK I64 (sortZ zs)) true 1) fun c H' => some (.slice c 0 (lenN zs) 0 true, H'))) (some (.nilslice, H))
      | _ => none)
  | _ => none
noncomputable def sortedG (keysF : Nat) (args : List AV) (H : Heap) : CRes := match sortedO keysF args H with
  | some r => .ret r.1 r.2
  | none => .err

theorem sortedG_some {keysF : Nat} {args : List AV} {H H' : Heap} {v : AV} (h : sortedG keysF args H = .ret v H') : ∃ b off l m es zs, args = [.func keysF [] [.ptr b off]] ∧ cellsAt H b = some l ∧ l[off]? = some (.map m) ∧ mapAt H m = some es ∧ keysZ es = some zs ∧
    ((zs = [] ∧ v = .nilslice ∧ H' = H) ∨ ((sortZ zs).Pairwise (· < ·) ∧ zs.length ≤ 12 ∧ 1 ≤ zs.length ∧ v = .slice H.nx 0 zs.length 0 true ∧ H' = H.add (.cells ((sortZ zs).map I64) true 1))) := by
  unfold sortedG at h
  split at h
  · rename_i r hr
    cases h
    unfold sortedO at hr
    split at hr
    · rename_i f b off
      obtain ⟨hf, h1⟩ := bcaseT hr
      obtain ⟨l, hl, h2⟩ := ocase h1
      obtain ⟨u, hu, h3⟩ := ocase h2
      clear hr h1 h2
      split at h3
      · rename_i m
        obtain ⟨es, hes, h4⟩ := ocase h3
        obtain ⟨zs, hzs, h5⟩ := ocase h4
        rw [nth_eq] at hu
        have hf := Nat.eq_of_beq_eq_true hf
        subst hf
        refine ⟨b, off, l, m, es, zs, rfl, hl, hu, hes, hzs, ?_⟩
        cases h0 : Nat.beq (lenN zs) 0 with
        | true =>
          rw [h0] at h5
          cases h5
          have := Nat.eq_of_beq_eq_true h0
          rw [lenN_eq] at this
          exact .inl ⟨List.eq_nil_of_length_eq_zero this, rfl, rfl⟩
        | false =>
          rw [h0] at h5
          obtain ⟨hb, h6⟩ := bcaseT h5
          rw [Heap.newK_eq, mapK_eq, lenN_eq] at h6
          cases h6
          simp only [Bool.and_eq_true, Nat.ble_eq, lenN_eq] at hb
          refine .inr ⟨incrZ_pairwise hb.1, hb.2, ?_, rfl, rfl⟩
          cases zs with
          | nil => cases h0
          | cons z zs => simp
      · cases h3
    · cases hr
  · cases h

theorem sortedG_mono {keysF : Nat} {args : List AV} {H H' : Heap} {v : AV} (hr : H.ro ≤ H.nx) (h : sortedG keysF args H = .ret v H') : Mono H H' := by
  obtain ⟨b, off, l, m, es, zs, _, _, _, _, _, hor⟩ := sortedG_some h
  rcases hor with ⟨_, _, rfl⟩ | ⟨_, _, _, _, rfl⟩
  · exact .refl
  · exact Mono.add hr (roB_cells _ _)

/-! ### A part of a table -/
def TblLe (t t' : Tr AFn) : Prop := ∀ f x, t.get (key f) = some x → t'.get (key f) = some x
theorem callF_leT {t t' : Tr AFn} {ih ih' : AC → St → Out} (ht : TblLe t t') (h : IhLe ih ih') : CfLe (callF t ih) (callF t' ih') := by
  intro fv args H v H' hc
  obtain ⟨f, first, cap, rfl, hor⟩ := callF_inv hc
  rcases hor with ⟨g, hg, hh⟩ | ⟨ps, body, res, tm, e, s, vs, hf, hb, hx, he, hres, rfl, rfl⟩
  · simp only [callF, ht _ _ hg, appK_eq, id]; exact hh
  · exact callF_code (ht _ _ hf) hb (h _ _ _ _ hx) he hres
theorem exec_leT {t t' : Tr AFn} (ht : TblLe t t') : ∀ n, IhLe (exec t n) (exec t' n)
  | 0 => fun c s e s' h => by cases h
  | n + 1 => step_le (callF_leT ht (exec_leT ht n)) (exec_leT ht n)
theorem call_leT {t t' : Tr AFn} (ht : TblLe t t') (n : Nat) : CfLe (call t n) (call t' n) := callF_leT ht (exec_leT ht n)

theorem Heap.add_set (H : Heap) (x y : Blk) : (H.add x).set H.nx y = H.add y := by
  unfold Heap.add
  simp only [Heap.set_eq, Tr.set_set]
end Go.Ai
