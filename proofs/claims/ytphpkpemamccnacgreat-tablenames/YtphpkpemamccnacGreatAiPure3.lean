/- The last operations that leave memory alone. -/
import Derived.Test.YtphpkpemamccnacGreatAiPure2
namespace Go.Ai
section
variable {P : Program} {nt : Nat} {M : Mp} {D : Nat → Prop} {tm : Tr AV} {a : Act} {w : World} {H H' : Heap} {v : AV} {o : Oper}

theorem partsS_ok (ps : List (Nat × Nat)) : ∀ {l : List (Nat × Operand)} {L : List (Nat × Nat × Opd)}, partsS nt ps l = some L →
    l.length = L.length ∧ ∀ (i : Nat) (p : Nat × Operand) (q : Nat × Nat × Opd), l[i]? = some p → L[i]? = some q → ps[p.1]? = some (q.1, q.2.1) ∧ opd nt p.2 = some q.2.2
  | [], L, h => by cases h; simp
  | (j, x) :: l, L, h => by
    simp only [partsS, Option.bind_eq_some_iff, Option.map_eq_some_iff] at h
    obtain ⟨p, hp, A, hA, L', hL, rfl⟩ := h
    obtain ⟨h1, h2⟩ := partsS_ok ps hL
    refine ⟨by simp [h1], fun i p' q' e1 e2 => ?_⟩
    cases i with
    | zero => simp at e1 e2; subst e1; subst e2; exact ⟨hp, hA⟩
    | succ i => exact h2 i p' q' (by simpa using e1) (by simpa using e2)
theorem partsA_ok (s : Nat) : ∀ {l : List (Nat × Operand)} {L : List (Nat × Nat × Opd)}, partsA nt s l = some L →
    l.length = L.length ∧ ∀ (i : Nat) (p : Nat × Operand) (q : Nat × Nat × Opd), l[i]? = some p → L[i]? = some q → some (p.1 * s, s) = some (q.1, q.2.1) ∧ opd nt p.2 = some q.2.2
  | [], L, h => by cases h; simp
  | (j, x) :: l, L, h => by
    simp only [partsA, Option.bind_eq_some_iff, Option.map_eq_some_iff] at h
    obtain ⟨A, hA, L', hL, rfl⟩ := h
    obtain ⟨h1, h2⟩ := partsA_ok s hL
    refine ⟨by simp [h1], fun i p' q' e1 e2 => ?_⟩
    cases i with
    | zero => simp at e1 e2; subst e1; subst e2; exact ⟨rfl, hA⟩
    | succ i => exact h2 i p' q' (by simpa using e1) (by simpa using e2)

theorem placesT_ok : ∀ {fs : List Field} {ps : List (Nat × Nat)}, placesT P fs = some ps → (fs.mapM fun f => (do pure (f.offset, ← sizeOf f.type) : Sem (Nat × Nat))).run P w = .ok ps w
  | [], ps, h => by cases h; simp
  | f :: fs, ps, h => by
    simp only [placesT, Option.bind_eq_some_iff, Option.map_eq_some_iff] at h
    obtain ⟨s, hs, qs, hq, rfl⟩ := h
    simp only [List.mapM_cons, Sem.run_bind, run_size hs, Result.andThen_ok, Sem.run_pure, placesT_ok hq]

theorem build_sound_struct {t : TypeId} {parts : Array (Nat × Operand)} {fs : Array Field} {z : List AV} {ps : List (Nat × Nat)} {L : List (Nat × Nat × Opd)} (ho : o.op = .build t parts)
    (hz : zeroT P t = some (.agg z)) (hu : P.underlying t = some (.struct fs)) (hp : placesT P fs.toList = some ps) (hl : partsS nt ps parts.toList = some L)
    (ht : TmRel M D nt tm a) (hr : Rel M D H w) (h : opF (.build z L) tm H = some (v, H')) : Sound1 P w M D H (execOp a.eval o) v H' := by
  obtain ⟨r, hr', h⟩ := ocase h
  cases h
  obtain ⟨h1, h2⟩ := partsS_ok ps hl
  obtain ⟨zc, zo, ze⟩ := zero_cells (M := M) (D := D) hz
  obtain ⟨f1, f2⟩ := fill_run (M := M) (D := D) (fun i => ps[i]?) parts.toList L z r h1 h2 ht zc hr'
  refine Sound1.same hr ?_ (by simp only [okv]; exact ⟨(okL_iff D r).2 fun u hu => (f2 u hu).1, fun u hu => (f2 u hu).2⟩)
  have hm : (fs.mapM fun f => (do pure (f.offset, ← sizeOf f.type) : Sem (Nat × Nat))).run P w = .ok ps.toArray w := by
    rw [Array.mapM_eq_mapM_toList]
    simp only [Sem.run_map, placesT_ok hp, Result.andThen_ok]
  have ze' : (conc M (.agg z)).cells = (z.map (conc M)).toArray := ze
  have hpl : (fun (i : Nat) => ps.toArray[i]?) = fun (i : Nat) => ps[i]? := by funext i; simp
  simp only [execOp, ho, Instr.build, Sem.run_bind, run_zero (M := M) hz, Result.andThen_ok, run_underlying hu, hm, ze']
  have f1' : Instr.fill (fun (i : Nat) => ps.toArray[i]?) (z.map (conc M)).toArray (parts.map fun p => (p.1, a.eval p.2)).toList = some (r.map (conc M)).toArray := by rw [hpl, Array.toList_map]; exact f1
  rw [f1']
  simp [conc, concL_map]

theorem build_sound_array {t e : TypeId} {n s : Nat} {parts : Array (Nat × Operand)} {z : List AV} {L : List (Nat × Nat × Opd)} (ho : o.op = .build t parts)
    (hz : zeroT P t = some (.agg z)) (hu : P.underlying t = some (.array n e)) (hs : szT P e = some s) (hl : partsA nt s parts.toList = some L)
    (ht : TmRel M D nt tm a) (hr : Rel M D H w) (h : opF (.build z L) tm H = some (v, H')) : Sound1 P w M D H (execOp a.eval o) v H' := by
  obtain ⟨r, hr', h⟩ := ocase h
  cases h
  obtain ⟨h1, h2⟩ := partsA_ok s hl
  obtain ⟨zc, zo, ze⟩ := zero_cells (M := M) (D := D) hz
  obtain ⟨f1, f2⟩ := fill_run (M := M) (D := D) (fun i => some (i * s, s)) parts.toList L z r h1 h2 ht zc hr'
  refine Sound1.same hr ?_ (by simp only [okv]; exact ⟨(okL_iff D r).2 fun u hu => (f2 u hu).1, fun u hu => (f2 u hu).2⟩)
  have ze' : (conc M (.agg z)).cells = (z.map (conc M)).toArray := ze
  simp only [execOp, ho, Instr.build, Sem.run_bind, run_zero (M := M) hz, Result.andThen_ok, run_underlying hu, run_size hs, ze']
  have f1' : Instr.fill (fun i => some (i * s, s)) (z.map (conc M)).toArray (parts.map fun p => (p.1, a.eval p.2)).toList = some (r.map (conc M)).toArray := by rw [Array.toList_map]; exact f1
  rw [f1']
  simp [conc, concL_map]

theorem shapeT_ok {t : TypeId} {s : Nat × Bool} (h : shapeT P t = some s) : szT P t = some s.1 ∧ aggT P t = some s.2 ∧ (s.2 = false → s.1 = 1) := by
  simp only [shapeT, Option.bind_eq_some_iff] at h
  obtain ⟨n, hn, g, hg, h⟩ := h
  split at h
  · rename_i hb
    cases h
    refine ⟨hn, hg, fun e => ?_⟩
    have e : g = false := e
    subst e
    simpa using hb
  · cases h

theorem idxA_sound {t e : TypeId} {nn : Nat} {s : Nat × Bool} {x i : Operand} {X I : Opd} (ho : o.op = .index t x i) (hu : P.underlying t = some (.array nn e)) (hs : shapeT P e = some s)
    (hx : opd nt x = some X) (hi : opd nt i = some I) (ht : TmRel M D nt tm a) (hr : Rel M D H w)
    (h : opF (.idxA s.1 nn s.2 X I) tm H = some (v, H')) : Sound1 P w M D H (execOp a.eval o) v H' := by
  obtain ⟨s1, s2, s3⟩ := shapeT_ok hs
  obtain ⟨u, hu', h1⟩ := ocase h
  clear h
  obtain ⟨z, hz', h⟩ := ocase h1
  clear h1
  obtain ⟨e1, k⟩ := ev_ok hx ht hu'
  obtain ⟨e2, k2⟩ := ev_ok hi ht hz'
  split at h
  · rename_i cs kk n
    obtain ⟨h0, h⟩ := natF_some h
    obtain ⟨hb, h⟩ := bcaseT h
    rw [blt_eq] at hb
    have hb : n.toNat < nn := by simpa using hb
    obtain ⟨l, hl, h⟩ := ocase h
    obtain ⟨r, hr', h⟩ := ocase h
    cases h
    obtain ⟨p1, p2⟩ := packF_valOf (M := M) hr'
    obtain ⟨q1, q2, q3⟩ := sub_some hl
    simp only [okv] at k
    refine Sound1.same hr ?_ (p2 D fun u hu => ?_)
    · rw [sub_eq] at hl
      split at hl
      · rename_i hlen
        have hl' : (cs.drop (n.toNat * s.1)).take s.1 = l := by simpa using hl
        have hp := run_part (M := M) (w := w) s2 s1 s3 cs (n.toNat * s.1) (by simp at hlen; omega)
        rw [hl'] at hp
        simp only [execOp, ho, e1, e2, conc, Instr.index, asIntOf, Sem.run_bind, run_underlying hu, Result.andThen_ok, Sem.run_pure, Sem.run_ite, concL_map]
        rw [if_pos ⟨h0, by omega⟩]
        simp only [run_size s1, Result.andThen_ok, hp, p1]
      · cases hl
    · obtain ⟨j, hj⟩ := List.getElem?_of_mem hu
      have hm := List.mem_of_getElem? (q3 j u hj)
      exact ⟨(okL_iff D cs).1 k.1 u hm, k.2 u hm⟩
  · cases h

theorem bytes_size (s : List UInt8) : (⟨s.toArray⟩ : ByteArray).size = s.length := by show s.toArray.size = _; simp

theorem idxS_sound {t : TypeId} {x i : Operand} {X I : Opd} (ho : o.op = .index t x i) (hu : P.underlying t = some .string)
    (hx : opd nt x = some X) (hi : opd nt i = some I) (ht : TmRel M D nt tm a) (hr : Rel M D H w)
    (h : opF (.idxS X I) tm H = some (v, H')) : Sound1 P w M D H (execOp a.eval o) v H' := by
  obtain ⟨u, hu', h1⟩ := ocase h
  clear h
  obtain ⟨z, hz', h⟩ := ocase h1
  clear h1
  obtain ⟨e1, k⟩ := ev_ok hx ht hu'
  obtain ⟨e2, k2⟩ := ev_ok hi ht hz'
  split at h
  · rename_i s kk n
    obtain ⟨h0, h⟩ := natF_some h
    obtain ⟨c, hc, h⟩ := ocase h
    cases h
    rw [nth_eq] at hc
    refine Sound1.same hr ?_ (by simp [okv])
    have hg : (⟨s.toArray⟩ : ByteArray)[n.toNat]? = some c := by
      obtain ⟨hlt, hge⟩ := List.getElem?_eq_some_iff.1 hc
      have hlt' : n.toNat < (⟨s.toArray⟩ : ByteArray).size := by rw [bytes_size]; exact hlt
      rw [getElem?_pos (⟨s.toArray⟩ : ByteArray) n.toNat hlt']
      show some (s.toArray[n.toNat]) = some c
      simp [hge]
    simp [execOp, ho, e1, e2, conc, Instr.index, asIntOf, run_underlying hu, h0, hg]
  · cases h

theorem exec_builtin {ρ : Operand → Value} {o : Oper} {b : Builtin} {ats : Array TypeId} {args : Array Operand} (ho : o.op = .call { callee := .builtin b, args, argTypes := ats }) :
    execOp ρ o = builtin b ats o.type (args.map fun | .const _ => true | _ => false) (args.map ρ) := by
  obtain ⟨dst, op, type, pos, after, guard⟩ := o
  subst ho
  rfl

theorem len_sound_pure {t : TypeId} {d : TypeDesc} {k : LenK} {x : Operand} {X : Opd} {ats : Array TypeId} {args : Array Operand} (ho : o.op = .call { callee := .builtin .len, args, argTypes := ats })
    (hats : ats.toList = [t]) (hargs : args.toList = [x]) (hu : P.underlying t = some d) (hk : (d = .string ∧ k = .str) ∨ (∃ n e, d = .array n e ∧ k = .arr n) ∨ (∃ e, d = .slice e ∧ k = .sl))
    (hx : opd nt x = some X) (ht : TmRel M D nt tm a) (hr : Rel M D H w)
    (h : opF (.len k X) tm H = some (v, H')) : Sound1 P w M D H (execOp a.eval o) v H' := by
  obtain ⟨u, hu', h1⟩ := ocase h
  clear h
  obtain ⟨e1, k1⟩ := ev_ok hx ht hu'
  have hats' : ats = #[t] := by rw [← Array.toArray_toList (xs := ats), hats]
  have hargs' : args = #[x] := by rw [← Array.toArray_toList (xs := args), hargs]
  subst hats'; subst hargs'
  have hrun : (execOp a.eval o).run P w = ((Builtin.len_ #[t] o.type #[a.eval x]).run P w).andThen fun v w' => .ok (.value v) w' := by
    rw [exec_builtin ho]
    show ((do pure (.value (← Builtin.len_ #[t] o.type (#[x].map a.eval))) : Sem Next)).run P w = _
    simp
  rw [e1] at hrun
  rcases hk with ⟨rfl, rfl⟩ | ⟨n, e, rfl, rfl⟩ | ⟨e, rfl, rfl⟩
  · cases u <;> first | (cases h1; done) | skip
    rename_i s
    cases h1
    refine Sound1.same hr ?_ (by simp [okv])
    rw [hrun]
    simp [Builtin.len_, conc, run_underlying hu, goInt, lenN_eq, bytes_size]
  · cases u <;> (cases h1; refine Sound1.same hr ?_ (by simp [okv]); rw [hrun]; simp [Builtin.len_, run_underlying hu, goInt, conc])
  · cases u <;> first | (cases h1; done) | skip
    all_goals (cases h1; refine Sound1.same hr ?_ (by simp [okv]); rw [hrun]; simp [Builtin.len_, run_underlying hu, goInt, conc])

end
end Go.Ai
