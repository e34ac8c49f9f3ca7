/- Operations that leave memory alone. -/
import Derived.Test.YtphpkpemamccnacGreatAiOps
namespace Go.Ai
section
variable {P : Program} {nt : Nat} {M : Mp} {D : Nat → Prop} {tm : Tr AV} {a : Act} {w : World} {H H' : Heap} {v : AV} {o : Oper}

theorem mov_sound {x : Operand} {X : Opd} (ho : o.op = .move x ∨ o.op = .assign x) (hx : opd nt x = some X) (ht : TmRel M D nt tm a) (hr : Rel M D H w)
    (h : opF (.mov X) tm H = some (v, H')) : Sound1 P w M D H (execOp a.eval o) v H' := by
  obtain ⟨u, hu, h⟩ := ocase h
  cases h
  obtain ⟨e, k⟩ := ev_ok hx ht hu
  refine Sound1.same hr ?_ k
  rcases ho with ho | ho <;> simp [execOp, ho, e]

theorem pick_sound {c x y : Operand} {C X Y : Opd} (ho : o.op = .pick c x y) (hc : opd nt c = some C) (hx : opd nt x = some X) (hy : opd nt y = some Y) (ht : TmRel M D nt tm a) (hr : Rel M D H w)
    (h : opF (.pick C X Y) tm H = some (v, H')) : Sound1 P w M D H (execOp a.eval o) v H' := by
  obtain ⟨u, hu, h⟩ := ocase h
  obtain ⟨e, k⟩ := ev_ok hc ht hu
  split at h
  · obtain ⟨z, hz, h⟩ := ocase h
    cases h
    obtain ⟨e', k'⟩ := ev_ok hx ht hz
    exact Sound1.same hr (by simp [execOp, ho, e, e', conc, asBool]) k'
  · obtain ⟨z, hz, h⟩ := ocase h
    cases h
    obtain ⟨e', k'⟩ := ev_ok hy ht hz
    exact Sound1.same hr (by simp [execOp, ho, e, e', conc, asBool]) k'
  · cases h

theorem not_sound {t : TypeId} {x : Operand} {X : Opd} (ho : o.op = .unOp .not t x) (hx : opd nt x = some X) (ht : TmRel M D nt tm a) (hr : Rel M D H w)
    (h : opF (.not X) tm H = some (v, H')) : Sound1 P w M D H (execOp a.eval o) v H' := by
  obtain ⟨u, hu, h⟩ := ocase h
  obtain ⟨e, k⟩ := ev_ok hx ht hu
  split at h
  · cases h; exact Sound1.same hr (by simp [execOp, ho, e, conc, Op.unary]) (by simp [okv])
  · cases h; exact Sound1.same hr (by simp [execOp, ho, e, conc, Op.unary]) (by simp [okv])
  · cases h

theorem conv_sound {s d : TypeId} {ds : TypeDesc} {k : IntKind} {x : Operand} {X : Opd} (ho : o.op = .convert s d x) (hs : P.underlying s = some ds) (hd : P.underlying d = some (.int k))
    (hx : opd nt x = some X) (ht : TmRel M D nt tm a) (hr : Rel M D H w)
    (h : opF (.conv k X) tm H = some (v, H')) : Sound1 P w M D H (execOp a.eval o) v H' := by
  obtain ⟨u, hu, h⟩ := ocase h
  obtain ⟨e, _⟩ := ev_ok hx ht hu
  split at h
  · rename_i k' n
    rw [wrapK_eq] at h
    cases h
    refine Sound1.same hr ?_ (by simp [okv])
    simp [execOp, ho, e, conc, convert, run_underlying hs, run_underlying hd, Conv.intToInt]
  · cases h

theorem nilchk_sound {x : Operand} {X : Opd} (ho : o.op = .nilCheck x) (hx : opd nt x = some X) (ht : TmRel M D nt tm a) (hr : Rel M D H w)
    (h : opF (.nilchk X) tm H = some (v, H')) : Sound1 P w M D H (execOp a.eval o) v H' := by
  obtain ⟨u, hu, h⟩ := ocase h
  obtain ⟨e, k⟩ := ev_ok hx ht hu
  split at h
  · cases h; exact Sound1.same hr (by simp [execOp, ho, e, conc]) k
  · cases h; exact Sound1.same hr (by simp [execOp, ho, e, conc]) k
  · cases h

theorem addr_add (b o n : Nat) : Addr.add ⟨b, o, none⟩ n = ⟨b, o + n, none⟩ := Addr.add_lit b o n

theorem fa_sound {t : TypeId} {x : Operand} {X : Opd} {i s : Nat} {fs : Array Field} {f : Field} (ho : o.op = .fieldAddr t x i) (hu : P.underlying t = some (.struct fs)) (hf : fs[i]? = some f)
    (hs : szT P f.type = some s) (hs0 : 0 < s) (hx : opd nt x = some X) (ht : TmRel M D nt tm a) (hr : Rel M D H w)
    (h : opF (.fa f.offset X) tm H = some (v, H')) : Sound1 P w M D H (execOp a.eval o) v H' := by
  obtain ⟨u, hu', h⟩ := ocase h
  obtain ⟨e, k⟩ := ev_ok hx ht hu'
  split at h
  · rename_i b off
    cases h
    refine Sound1.same hr ?_ (by simpa [okv] using k)
    simp only [execOp, ho, e, conc, Instr.fieldAt, Sem.run_bind, run_underlying hu, Result.andThen_ok, hf, Instr.sureAddr, fieldPlace, run_size hs, Sem.run_pure, Sem.run_ite]
    rw [if_neg (by omega)]
    simp [addr_add, Nat.add_assoc]
  · cases h

theorem iaS_sound {t e : TypeId} {x i : Operand} {X I : Opd} {s : Nat} (ho : o.op = .indexAddr t x i) (hu : P.underlying t = some (.slice e)) (hs : szT P e = some s)
    (hx : opd nt x = some X) (hi : opd nt i = some I) (ht : TmRel M D nt tm a) (hr : Rel M D H w)
    (h : opF (.iaS s X I) tm H = some (v, H')) : Sound1 P w M D H (execOp a.eval o) v H' := by
  obtain ⟨u, hu', h1⟩ := ocase h
  clear h
  obtain ⟨z, hz', h⟩ := ocase h1
  clear h1
  obtain ⟨e1, k⟩ := ev_ok hx ht hu'
  obtain ⟨e2, k2⟩ := ev_ok hi ht hz'
  split at h
  · rename_i b off len ext opn kk n
    obtain ⟨h0, h⟩ := natF_some h
    obtain ⟨hb, h⟩ := bcaseT h
    rw [blt_eq] at hb
    have hb : n.toNat < len := by simpa using hb
    cases h
    refine Sound1.same hr ?_ (by simpa [okv] using k)
    simp only [execOp, ho, e1, e2, conc, Instr.indexAt, asIntOf, Sem.run_bind, run_underlying hu, Result.andThen_ok, Sem.run_pure, run_size hs, Sem.run_ite]
    rw [if_pos ⟨h0, by omega⟩]
    simp [addr_add, Nat.add_assoc]
  · cases h

theorem iaA_sound {t e : TypeId} {nn : Nat} {x i : Operand} {X I : Opd} {s : Nat} (ho : o.op = .indexAddr t x i) (hu : P.underlying t = some (.array nn e)) (hs : szT P e = some s)
    (hx : opd nt x = some X) (hi : opd nt i = some I) (ht : TmRel M D nt tm a) (hr : Rel M D H w)
    (h : opF (.iaA s nn X I) tm H = some (v, H')) : Sound1 P w M D H (execOp a.eval o) v H' := by
  obtain ⟨u, hu', h1⟩ := ocase h
  clear h
  obtain ⟨z, hz', h⟩ := ocase h1
  clear h1
  obtain ⟨e1, k⟩ := ev_ok hx ht hu'
  obtain ⟨e2, k2⟩ := ev_ok hi ht hz'
  split at h
  · rename_i b off kk n
    obtain ⟨h0, h⟩ := natF_some h
    obtain ⟨hb, h⟩ := bcaseT h
    rw [blt_eq] at hb
    have hb : n.toNat < nn := by simpa using hb
    cases h
    refine Sound1.same hr ?_ (by simpa [okv] using k)
    simp only [execOp, ho, e1, e2, conc, Instr.indexAt, Instr.sureAddr, asIntOf, Sem.run_bind, run_underlying hu, Result.andThen_ok, Sem.run_pure, run_size hs, Sem.run_ite]
    rw [if_pos ⟨h0, by omega⟩]
    simp [addr_add, Nat.add_assoc]
  · cases h

theorem ext_sound {x : Operand} {X : Opd} {i : Nat} (ho : o.op = .extract x i) (hx : opd nt x = some X) (ht : TmRel M D nt tm a) (hr : Rel M D H w)
    (h : opF (.ext i X) tm H = some (v, H')) : Sound1 P w M D H (execOp a.eval o) v H' := by
  obtain ⟨u, hu, h⟩ := ocase h
  obtain ⟨e, k⟩ := ev_ok hx ht hu
  split at h
  · rename_i vs
    obtain ⟨r, hr', h⟩ := ocase h
    cases h
    rw [nth_eq] at hr'
    simp only [okv] at k
    refine Sound1.same hr ?_ ((okL_iff D vs).1 k _ (List.mem_of_getElem? hr'))
    simp [execOp, ho, e, conc, Instr.extract, concL_map, hr']
  · cases h

theorem mkfunc_sound {f : Nat} {first cap : Array Operand} {A C : List Opd} (ho : o.op = .makeFunc (.func f) first cap) (ha : opds nt first.toList = some A) (hc : opds nt cap.toList = some C)
    (ht : TmRel M D nt tm a) (hr : Rel M D H w) (h : opF (.mkfunc f A C) tm H = some (v, H')) : Sound1 P w M D H (execOp a.eval o) v H' := by
  obtain ⟨as, has, h⟩ := ocase h
  obtain ⟨cs, hcs, h⟩ := ocase h
  cases h
  obtain ⟨e1, k1⟩ := evs_ok ha ht has
  obtain ⟨e2, k2⟩ := evs_ok hc ht hcs
  refine Sound1.same hr ?_ (by simp [okv, k1, k2])
  have f1 : first.map a.eval = (concL M as).toArray := by rw [← e1, ← Array.toList_map, Array.toArray_toList]
  have f2 : cap.map a.eval = (concL M cs).toArray := by rw [← e2, ← Array.toList_map, Array.toArray_toList]
  simp [execOp, ho, Instr.makeFunc, conc, f1, f2]

/-! ### Sums, comparisons -/
theorem str_toList (s : List UInt8) : (⟨s.toArray⟩ : ByteArray).toList = s := ByteArray.toList_mk s

theorem int_run {k : IntKind} {op : BinOp} {x y : Int} {t : TypeId} (hop : op ≠ .shl ∧ op ≠ .shr) (h : intOp op k x y none some = some v) :
    (binOp op t (.int k x) (.int k y)).run P w = .ok (conc M v) w ∧ okv D v := by
  have hz : ∀ c : AV, Bool.casesOn (motive := fun _ => Option AV) (isZ y) (some c) none = some v → y ≠ 0 ∧ c = v := fun c hc => by
    obtain ⟨h1, h2⟩ := bcaseF hc
    rw [isZ_eq] at h1
    exact ⟨by simpa using h1, by simpa using h2⟩
  cases op with
  | shl => exact (hop.1 rfl).elim
  | shr => exact (hop.2 rfl).elim
  | add => rw [intOp] at h; simp only [wrapK_eq, addF_eq] at h; cases h; simp [binOp, Op.intArith, conc, okv]
  | sub => rw [intOp] at h; simp only [wrapK_eq, subF_eq] at h; cases h; simp [binOp, Op.intArith, conc, okv]
  | mul => rw [intOp] at h; simp only [wrapK_eq, mulF_eq] at h; cases h; simp [binOp, Op.intArith, conc, okv]
  | quo =>
    rw [intOp] at h; simp only [wrapK_eq, divF_eq] at h
    obtain ⟨h0, rfl⟩ := hz _ h
    simp [binOp, Op.intDiv, h0, conc, okv]
  | rem =>
    rw [intOp] at h; simp only [modF_eq] at h
    obtain ⟨h0, rfl⟩ := hz _ h
    simp [binOp, Op.intDiv, h0, conc, okv]
  | and => cases h; simp [binOp, Op.intBits, conc, okv]
  | or => cases h; simp [binOp, Op.intBits, conc, okv]
  | xor => cases h; simp [binOp, Op.intBits, conc, okv]
  | andNot => cases h; simp [binOp, Op.intBits, conc, okv]
  | eql => rw [intOp] at h; simp only [eqF_eq] at h; cases h; simp [binOp, Op.intCmp, conc, okv]
  | neq =>
    rw [intOp] at h; simp only [eqF_eq] at h
    cases hb : (x == y) with
    | true => rw [hb] at h; cases h; have : x = y := by simpa using hb
              simp [binOp, Op.intCmp, conc, okv, this]
    | false => rw [hb] at h; cases h; have : x ≠ y := by simpa using hb
               simp [binOp, Op.intCmp, conc, okv, this]
  | lss => rw [intOp] at h; simp only [ltF_eq] at h; cases h; simp [binOp, Op.intCmp, conc, okv]
  | leq =>
    rw [intOp] at h; simp only [ltF_eq] at h
    cases hb : decide (y < x) with
    | true => rw [hb] at h; cases h; have := of_decide_eq_true hb; simp [binOp, Op.intCmp, conc, okv, this]
    | false => rw [hb] at h; cases h; have := of_decide_eq_false hb; simp [binOp, Op.intCmp, conc, okv]; omega
  | gtr => rw [intOp] at h; simp only [ltF_eq] at h; cases h; simp [binOp, Op.intCmp, conc, okv]
  | geq =>
    rw [intOp] at h; simp only [ltF_eq] at h
    cases hb : decide (x < y) with
    | true => rw [hb] at h; cases h; have := of_decide_eq_true hb; simp [binOp, Op.intCmp, conc, okv, this]
    | false => rw [hb] at h; cases h; have := of_decide_eq_false hb; simp [binOp, Op.intCmp, conc, okv]; omega

theorem bin_run {op : BinOp} {x y : AV} {t : TypeId} (h : binF op x y = some v) :
    (binOp op t (conc M x) (conc M y)).run P w = .ok (conc M v) w ∧ okv D v := by
  unfold binF at h
  split at h
  · rename_i k n k' m
    split at h
    · obtain ⟨h0, h⟩ := natF_some h
      rw [wrapK_eq] at h; cases h
      simp [conc, binOp, Op.shift, okv, shlF]
      omega
    · obtain ⟨h0, h⟩ := natF_some h
      cases h
      simp [conc, binOp, Op.shift, okv, shrF_eq]
      omega
    · rename_i op' h1 h2
      split at h
      · rename_i hk; subst hk
        exact int_run ⟨fun e => h1 e, fun e => h2 e⟩ h
      · cases h
  · rename_i s u
    unfold strOp at h
    split at h
    · obtain ⟨hb, h⟩ := bcaseT h
      have hb := Nat.le_of_ble_eq_true hb
      rw [lenN_eq, lenN_eq] at hb
      have hb : s.length + u.length ≤ 1099511627776 := hb
      cases h
      simp only [conc, binOp, Op.stringOp, okv, and_true]
      rw [if_neg (by simp [ByteArray.size]; omega), appK_eq]
      simp only [Sem.run_pure, id]
      congr 2
    · cases h
      simp [conc, binOp, Op.stringOp, okv, eqBytes_eq]
    · cases h
      simp [conc, binOp, Op.stringOp, okv, eqBytes_eq]
    · cases h
  · cases h

theorem bin_sound {op : BinOp} {t u : TypeId} {x y : Operand} {X Y : Opd} (ho : o.op = .binOp op t x y u) (hx : opd nt x = some X) (hy : opd nt y = some Y)
    (ht : TmRel M D nt tm a) (hr : Rel M D H w) (h : opF (.bin op X Y) tm H = some (v, H')) : Sound1 P w M D H (execOp a.eval o) v H' := by
  obtain ⟨u, hu, h⟩ := ocase h
  obtain ⟨z, hz, h⟩ := ocase h
  obtain ⟨r, hr', h⟩ := ocase h
  cases h
  obtain ⟨e1, k1⟩ := ev_ok hx ht hu
  obtain ⟨e2, k2⟩ := ev_ok hy ht hz
  obtain ⟨h1, h2⟩ := bin_run (P := P) (w := w) (M := M) (D := D) (t := t) hr'
  refine Sound1.same hr ?_ h2
  have hg : eqGuard op t x y (conc M u) (conc M z) = pure () := by
    unfold binF at hr'
    split at hr'
    · simp only [conc]; cases op <;> rfl
    · simp only [conc]; cases op <;> rfl
    · cases hr'
  simp [execOp, ho, e1, e2, hg, h1]
end
end Go.Ai
