/- From what a row says of its input to the interpreter's heap; from a sound function to the model's call. -/
import Derived.Test.YtnlbfbiogfilfaaAiFlatIn
import Derived.Test.YtnlbfbiogfilfaaAiCpsRun
import Derived.WalkKit
import Derived.ProofKit
import Derived.OpenShut
import Derived.JoinedCond
import Derived.WideKeyArgs
import Derived.Shelf.Lays2
import Derived.Shelf.Spec.SlicesInsert
import Derived.Shelf.Spec.SlicesInsertGrow
import Derived.Test.YtnlbfbiogfilfaaProg
import Derived.Test.YtnlbfbiogfilfaaAiYRunSh
import Derived.Test.YtnlbfbiogfilfaaAiXPaSPrims
import Derived.KernelRfl
import Derived.Test.YtnlbfbiogfilfaaPaSText
set_option linter.all false
namespace Go.Ai
open Go.Proofs Go.ChangeShapes Go.WideShapes Go.ChangeAt Go.RowKit
theorem agt {D : Wd} : ∀ {l : List Value} {us : List AV}, l.map (Us D) = us.map some → us.map (bh (aby D)) = l ∧ ∀ u ∈ us, u.isCell = true ∧ okv (· < D.top) u
  | [], [], _ => ⟨rfl, fun u hu => by simp at hu⟩
  | v :: t, u :: us, h => by
    simp only [List.map_cons, List.cons.injEq] at h
    obtain ⟨h1, h2⟩ := agt h.2
    obtain ⟨h3, h4, h5⟩ := aoS h.1
    refine ⟨by rw [List.map_cons, h1, h3], fun x hx => ?_⟩
    rcases List.mem_cons.1 hx with rfl | hx
    · exact ⟨h4, h5⟩
    · exact h2 x hx
  | [], _ :: _, h => by simp at h
  | _ :: _, [], h => by simp at h
section
variable {H : Type} {enc : TypeId × Value → H} {P : Program} {W : World} {base : Nat} {t : TypeId} {v : Value} {d : DataW H} {p : List MemPlace}
theorem ap4 {fs : Array Field} {m : Nat} {k : Kds} (ht : P.underlying t = some (.struct fs)) (hk : adD P m t = some k) (hval : Value.okWide P W .any base t v) (hd : DataW.Trod enc P W 0 (fun _ => true) true t v d p) :
    ∃ D, ∀ D', Wd.Le D D' → ∃ us, Ro (xf D' W) D'.K k us ∧ bh (aby D') (.agg us) = v ∧ okv (· < D'.top) (.agg us) := by
  obtain ⟨fuel, hd⟩ := hd
  obtain ⟨D, hD⟩ := aeh m t k hk fuel _ _ hd
  refine ⟨D, fun D' hle => ?_⟩
  obtain ⟨us, h1, h2⟩ := WU (hD.mono hle)
  obtain ⟨h3, h4⟩ := agt h1
  obtain ⟨cs, rfl, _⟩ := okWide_struct ht hval
  refine ⟨us, h2, ?_, ?_⟩
  · simp only [bh, mb, h3, Value.cells]
  · exact ⟨(oP _ _).2 fun u hu => (h4 u hu).2, fun u hu => (h4 u hu).1⟩
theorem aoT {m : Nat} {k : Kds} (hc : v.cells.toList = [v]) (hk : adD P m t = some k) (hd : DataW.Trod enc P W 0 (fun _ => true) true t v d p) :
    ∃ D, ∀ D', Wd.Le D D' → ∃ u, Ro (xf D' W) D'.K k [u] ∧ bh (aby D') u = v ∧ okv (· < D'.top) u := by
  obtain ⟨fuel, hd⟩ := hd
  obtain ⟨D, hD⟩ := aeh m t k hk fuel _ _ hd
  refine ⟨D, fun D' hle => ?_⟩
  obtain ⟨us, h1, h2⟩ := WU (hD.mono hle)
  obtain ⟨h3, h4⟩ := agt h1
  rw [hc] at h3
  match us, h3 with
  | [u], h3 =>
    simp at h3
    exact ⟨u, h2, h3, (h4 u (by simp)).2⟩
theorem in_slice {e : TypeId} {m : Nat} {k : Kds} (ht : P.underlying t = some (.slice e)) (hk : adD P m t = some k) (hval : Value.okWide P W .any base t v) (hd : DataW.Trod enc P W 0 (fun _ => true) true t v d p) :
    ∃ D, ∀ D', Wd.Le D D' → ∃ u, Ro (xf D' W) D'.K k [u] ∧ bh (aby D') u = v ∧ okv (· < D'.top) u := by
  obtain ⟨a, len, cap, rfl⟩ := okWide_slice ht hval
  exact aoT rfl hk hd
theorem in_int {q : IntKind} {m : Nat} {k : Kds} (ht : P.underlying t = some (.int q)) (hk : adD P m t = some k) (hval : Value.okWide P W .any base t v) (hd : DataW.Trod enc P W 0 (fun _ => true) true t v d p) :
    ∃ D, ∀ D', Wd.Le D D' → ∃ u, Ro (xf D' W) D'.K k [u] ∧ bh (aby D') u = v ∧ okv (· < D'.top) u := by
  obtain ⟨n, rfl⟩ := okWide_int ht hval
  exact aoT rfl hk hd
end
theorem amu {P : Program} {tbl : Tr AFn} (T : TblOk P tbl) {f : Nat} {w : Wr} (S : Sound tbl f w) {D : Wd} {W : World} {args : List AV} (hargs : okL (· < D.top) args) {v : AV} {h' : Heap} (run : ∀ k, w args (xf D W) k = k v h') :
    Calls P f (args.map (bh (aby D))).toArray W fun e W' => (∃ M', e = .returned (bh M' v)) ∧ Below W.heap.size W W' := by
  obtain ⟨n, v1, H1, hcall, he⟩ := S [] [] args (xf D W) (fun v h => .ret v h) v h' (ajV D W) (by simpa using run _)
  cases he
  obtain ⟨f', first, cap, hfv, hc⟩ := api T n _ _ _ _ _ hcall
  cases hfv
  obtain ⟨_, hcalls⟩ := hc _ _ W (apz D W) (aot D W) (by simpa using hargs)
  refine Calls.mono (by simpa using hcalls) fun e w' hpost => ?_
  obtain ⟨M', D', rfl, _, hx, _⟩ := hpost
  refine ⟨⟨M', rfl⟩, hx.os, hx.tape, hx.output, hx.size, fun k hk => hx.frame k hk fun b _ hw => ?_⟩
  exfalso
  cases hg : (xf D W).get b with
  | none => rw [hg] at hw; exact hw
  | some x =>
    obtain ⟨_, _, _, _, _, rfl⟩ := Z1 hg
    rw [hg] at hw
    cases hw
section
variable {H : Type} {enc : TypeId × Value → H} {P : Program}
theorem post_old {f : Func} {s : ChangeSpec} {apart fresh handsOn again : Bool} {W W' : World} {args : Array Value} {v : Value} {ds gs : List (DataW H)} {before pa pv : List MemPlace}
    (hW : DataW.Whole enc P f.params.toList s.vars apart W args.toList ds gs before)
    (hres : ∀ (b : Nat) (sp : Nat → Bool) (hd : Bool), DataW.TrodAll enc P W' b sp hd f.resultTypes.toList (v.resultList f.resultTypes.size) (s.fn H (ds ++ gs)).results [])
    (hargs : ∀ sp : Nat → Bool, (∀ p ∈ before, sp p.block = true) → DataW.TrodAll enc P W' 0 sp true f.params.toList args.toList (s.fn H (ds ++ gs)).args pa)
    (hvars : ∀ sp : Nat → Bool, (∀ p ∈ before, sp p.block = true) → DataW.TrodVars enc P W' sp s.vars (s.fn H (ds ++ gs)).vars pv)
    (hps : before = pa ++ pv) (hb : Below W.heap.size W W')
    (hok : ∀ (j : Nat) (t : TypeId) (r : Value), f.resultTypes[j]? = some t → (v.resultList f.resultTypes.size)[j]? = some r → Value.okWide P W' .any 0 t r) :
    s.post enc P f apart fresh handsOn again W args v W' := by
  have hold : ∀ p ∈ before, (fun b => decide (b < W.heap.size)) p.block = true := fun p hp => by simpa using hW.lt p hp
  have hlt := hW.lt
  refine ⟨ds, gs, before, [], pa, pv, hW, hres _ _ _, hargs _ hold, hvars _ hold, hb.frame _, fun _ => ?_⟩
  obtain ⟨_, _, _, _, _, hz, hn⟩ := hW
  refine ⟨hok, _, _, ([] ++ pa) ++ pv, ⟨[] ++ pa, pv, trodAll_append (hargs _ (fun _ _ => rfl)) (hres _ _ _), hvars _ (fun _ _ => rfl), rfl, ?_, ?_⟩, ?_⟩
  · intro b off hp
    have hp' : MemPlace.cell b off ∈ before := by rw [hps]; simpa using hp
    rw [hb.frozen (p := ⟨b, off, none⟩) (hlt _ hp')]
    exact hz b off hp'
  · intro ha
    have := hn ha
    rw [hps] at this
    simpa using this
  · intro p hp _
    rw [hps]
    simpa using hp
theorem ajJ (hl : laidOutB P = true) {W W' : World} (hb : Below W.heap.size W W') {sp : Nat → Bool} : ∀ {ts : List TypeId} {vs : List Value} {ds : List (DataW H)} {ps : List MemPlace}, (ts.all fun t => P.readableRec t && decide (t < P.types.size)) = true →
    DataW.TrodAll enc P W 0 (fun _ => true) true ts vs ds ps → (∀ p ∈ ps, sp p.block = true) → DataW.TrodAll enc P W' 0 sp true ts vs ds ps
  | [], _, _, _, _, h, _ => by
    obtain ⟨rfl, rfl, rfl⟩ := trodAll_nil h
    exact trodAll_mk0
  | t :: ts, _, _, _, hts, h, hs => by
    simp only [List.all_cons, Bool.and_eq_true, decide_eq_true_eq] at hts
    have hlt := h.lt
    obtain ⟨v, vs', d, ds', p, q, rfl, rfl, rfl, h1, h2⟩ := trodAll_cons h
    refine ⟨p, q, Go.WideElems.Trod_stays hl hts.1.1 hts.1.2 h1 (fun x hx => ?_) fun x hx => hs x (List.mem_append_left _ hx), ajJ hl hb (by simpa using hts.2) h2 fun x hx => hs x (List.mem_append_right _ hx), rfl⟩
    have h3 := hlt x (List.mem_append_left _ hx)
    have h4 := hb.block x.block h3
    cases x with
    | cell b off =>
      show W'.cell? _ = W.cell? _
      unfold World.cell?
      dsimp only [MemPlace.block] at h4 ⊢
      rw [h4]
    | map b => exact h4
end
end Go.Ai
/-
  DERIVED: THE SHELF's CONTRACTS AT THIS DUMP, IN PLAIN WORDS (tools/lay-plain.mjs out of 'TryIns.lean', which tools/lay-shelf.mjs wrote): THE SAME DECLARATIONS UNDER THE SAME NAMES: 'import', 'namespace', 'open', 'def', 'theorem' AND NOTHING ELSE: no command of the shelf's: FOR A HAND-IN. Each laying: the table of numbers ('.._ren') and one theorem, a field a fact of the dump's own or the kernel's comparison; each contract: ONE APPLICATION.
-/
namespace Go.Proofs
open Go.Shelf
def Try.laysIns_ren : Go.Shelf.Ren := ⟨fun | 21 => 67 | 27 => 84 | 28 => 85 | 35 => 101 | 39 => 103 | n => n, fun | 22 => 25 | 3 => 3 | 4 => 4 | 0 => 0 | n => n, fun | n => n⟩
theorem Try.laysIns : Go.Proofs.Lays2.n21 Try.prog Try.laysIns_ren := {
  mixed := by kernel_rfl
  f21 := Try.func67.trans (congrArg some (by kernel_rfl))
  f27 := Try.func84.trans (congrArg some (by kernel_rfl))
  f28 := Try.func85.trans (congrArg some (by kernel_rfl))
  f35 := Try.func101.trans (congrArg some (by kernel_rfl))
  f39 := Try.func103.trans (congrArg some (by kernel_rfl))
  t0 := Try.underlying0
  a0 := Try.isAgg0
  z0 := Try.sizeOf0
  v0 := Try.zeroValue0
  t3 := Try.underlying3
  a3 := Try.isAgg3
  z3 := Try.sizeOf3
  v3 := Try.zeroValue3
  t4 := Try.underlying4
  a4 := Try.isAgg4
  z4 := Try.sizeOf4
  v4 := Try.zeroValue4
  t22 := Try.underlying25
  a22 := Try.isAgg25
  z22 := Try.sizeOf25
  v22 := Try.zeroValue25
  i3 := by kernel_rfl }
end Go.Proofs
/- The table of the program's functions, with slices.Insert from the library's shelf, and the answer of the chapter's example. -/
namespace Go.Proofs.Ytnlbfbiogfilfaa.Sh
open Go.Ai Go.Proofs
noncomputable def tb0 : Tr AFn := (tblP Try.prog).set (key 67) (.prim y9)
theorem amT : Ai.Enters Try.prog 67 := ⟨Try.f67, Try.func67, by kernel_rfl, by kernel_rfl⟩
theorem tb0_ok : TblOk Try.prog tb0 := (tblP_ok (by kernel_rfl)).prim_set (f := 67) (aj2 Try.laysIns) (fun _ _ _ _ hr h => abw hr h) amT
noncomputable def fd0 : Nat → (YFn → CRes) → CRes := anT 67 alt (findYP Try.prog)
theorem fd0_ok : agY tb0 fd0 := aqd aoH (apZ Try.prog)
set_option maxRecDepth 1000000 in
set_option maxHeartbeats 1000000000 in
theorem works (J : AV → CRes) : callY fd0 100000 1000 (.func 6 [] []) [] ⟨.leaf, 0, 0⟩ (fun v _ => J v) = J (.bool true) := by kernel_rfl
theorem enters6 : Ai.Enters Try.prog 6 := ⟨Try.f6, Try.func6, by kernel_rfl, by kernel_rfl⟩
noncomputable def tb : Tr AFn := ((tblS Try.prog).set (key 67) (.prim y9)).set (key 6) (.prim (akl [] (.bool true)))
theorem tb_ok : TblOk Try.prog tb := ((tblS_ok (by kernel_rfl)).prim_set (f := 67) (aj2 Try.laysIns) (fun _ _ _ _ hr h => abw hr h) amT).prim_set (f := 6) (aoB tb0_ok fd0_ok rfl rfl works) (fun _ _ _ _ _ h => aoL h) enters6
theorem fx {f : Nat} {x : AFn} (e : (Nat.beq 67 f || Nat.beq 6 f) = false) (h : aeg Try.prog f = some x) : tb.get (key f) = some x := by
  rw [Bool.or_eq_false_iff] at e
  exact Vh e.2 (Vh e.1 ((Vr ..).trans h))
theorem KP : Sound tb jU (JB lP) := aeC (Vh (by kernel_rfl) (Tr.get_set_same ..))
theorem P5 : Sound tb ma (JB l6) := aeC (Tr.get_set_same ..)
end Go.Proofs.Ytnlbfbiogfilfaa.Sh
/- The printed functions at the program's table: each is sound. -/
namespace Go.Proofs.Ytnlbfbiogfilfaa.Sh
open Go.Ai Go.Proofs
set_option maxRecDepth 100000
theorem afN : tb.get (key kI) = some To := fx (by kernel_rfl) (by kernel_rfl)
theorem afM (n : Nat) : Sound tb kI (ot (kJ n)) := afm tb_ok.mono afN n
theorem aju : tb.get (key dm) = some XY := fx (by kernel_rfl) (by kernel_rfl)
theorem A3 (n : Nat) : Sound tb dm (dE (dX n)) := ajD tb_ok.mono aju n
theorem alc : tb.get (key qD) = some aa5 := fx (by kernel_rfl) (by kernel_rfl)
theorem alb (n : Nat) : Sound tb qD (te (tw n)) := alG tb_ok.mono alc n (A3 n)
theorem ahE : tb.get (key f8) = some Vb := fx (by kernel_rfl) (by kernel_rfl)
theorem K1 (n : Nat) : Sound tb f8 (gy (eK n)) := ah1 tb_ok.mono ahE n (alb n) (A3 n)
theorem ald : tb.get (key fh) = some aa9 := fx (by kernel_rfl) (by kernel_rfl)
theorem Ku (n : Nat) : Sound tb fh (fO (eO n)) := aln tb_ok.mono ald n
theorem MK : tb.get (key gw) = some Aa := fx (by kernel_rfl) (by kernel_rfl)
theorem MZ (n : Nat) : Sound tb gw (iv (io n)) := MH tb_ok.mono MK n
theorem IK : tb.get (key eN) = some vM := fx (by kernel_rfl) (by kernel_rfl)
theorem Is (n : Nat) : Sound tb eN (gp (cI n)) := Iu tb_ok.mono IK n (MZ n)
theorem ais : tb.get (key ob) = some Wj := fx (by kernel_rfl) (by kernel_rfl)
theorem aib (n : Nat) : Sound tb ob (pL (pP n)) := agQ tb_ok.mono ais n (Is n)
theorem amq : tb.get (key mq) = some aeo := fx (by kernel_rfl) (by kernel_rfl)
theorem aez (n : Nat) : Sound tb mq (m9 (mX n)) := amO tb_ok.mono amq n
theorem akZ : tb.get (key lA) = some aal := fx (by kernel_rfl) (by kernel_rfl)
theorem abn (n : Nat) : Sound tb lA (lW (lZ n)) := alF tb_ok.mono akZ n (aez n)
theorem ajp : tb.get (key pu) = some Yo := fx (by kernel_rfl) (by kernel_rfl)
theorem aiS (n : Nat) : Sound tb pu (ru (rr n)) := ajt tb_ok.mono ajp n (abn n) (K1 n) (aez n) (A3 n)
theorem anL : tb.get (key mj) = some aeB := fx (by kernel_rfl) (by kernel_rfl)
theorem aey (n : Nat) : Sound tb mj (nc (kY n)) := amN tb_ok.mono anL n (aib n) (aiS n)
theorem ai5 : tb.get (key kd) = some Yc := fx (by kernel_rfl) (by kernel_rfl)
theorem X3 (n : Nat) : Sound tb kd (kR (kl n)) := ai4 tb_ok.mono ai5 n
theorem ajz : tb.get (key px) = some Y2 := fx (by kernel_rfl) (by kernel_rfl)
theorem aiC (n : Nat) : Sound tb px (rm (nJ n)) := ajm tb_ok.mono ajz n (Ku n) (X3 n)
theorem alX : tb.get (key rk) = some aa6 := fx (by kernel_rfl) (by kernel_rfl)
theorem amd (n : Nat) : Sound tb rk (tt (pE n)) := akO tb_ok.mono alX n (Ku n) (X3 n)
theorem ajc : tb.get (key pA) = some XT := fx (by kernel_rfl) (by kernel_rfl)
theorem aiG (n : Nat) : Sound tb pA (rq (nK n)) := aiT tb_ok.mono ajc n
theorem ab7 : tb.get (key d6) = some Rc := fx (by kernel_rfl) (by kernel_rfl)
theorem Pi (n : Nat) : Sound tb d6 (iL (eY n)) := acI tb_ok.mono ab7 n
theorem acU : tb.get (key dZ) = some P4 := fx (by kernel_rfl) (by kernel_rfl)
theorem P2 (n : Nat) : Sound tb dZ (iI (eZ n)) := adm tb_ok.mono acU n
theorem acs : tb.get (key gf) = some PZ := fx (by kernel_rfl) (by kernel_rfl)
theorem PQ (n : Nat) : Sound tb gf (iH (g0 n)) := ack tb_ok.mono acs n
theorem acl : tb.get (key gG) = some O9 := fx (by kernel_rfl) (by kernel_rfl)
theorem PY (n : Nat) : Sound tb gG (iO (ge n)) := aca tb_ok.mono acl n
theorem acN : tb.get (key gK) = some Pd := fx (by kernel_rfl) (by kernel_rfl)
theorem PG (n : Nat) : Sound tb gK (iK (gn n)) := aci tb_ok.mono acN n
theorem adI : tb.get (key gI) = some Pf := fx (by kernel_rfl) (by kernel_rfl)
theorem O7 (n : Nat) : Sound tb gI (iJ (gl n)) := ada tb_ok.mono adI n
theorem adi : tb.get (key gE) = some QG := fx (by kernel_rfl) (by kernel_rfl)
theorem Q4 (n : Nat) : Sound tb gE (iM (gm n)) := adY tb_ok.mono adi n
theorem ady : tb.get (key gJ) = some Qm := fx (by kernel_rfl) (by kernel_rfl)
theorem PO (n : Nat) : Sound tb gJ (iQ (gi n)) := adw tb_ok.mono ady n
theorem aba : tb.get (key fB) = some Nj := fx (by kernel_rfl) (by kernel_rfl)
theorem Nw (n : Nat) : Sound tb fB (ig (eS n)) := aas tb_ok.mono aba n
theorem acS : tb.get (key kP) = some Pc := fx (by kernel_rfl) (by kernel_rfl)
theorem acZ (n : Nat) : Sound tb kP (nb (kS n)) := ads tb_ok.mono acS n (Pi n) (P2 n) (PQ n) (PY n) (PG n) (O7 n) (Q4 n) (PO n) (Nw n)
theorem amA : tb.get (key tl) = some aev := fx (by kernel_rfl) (by kernel_rfl)
theorem am3 (n : Nat) : Sound tb tl (vn (rn n)) := ano tb_ok.mono amA n (amd n) (aiG n) (Pi n) (P2 n) (PQ n) (PY n) (PG n) (O7 n) (Q4 n) (acZ n) (PO n) (Nw n)
theorem akq : tb.get (key re) = some abk := fx (by kernel_rfl) (by kernel_rfl)
theorem ak2 (n : Nat) : Sound tb re (tq (pz n)) := aky tb_ok.mono akq n
theorem aix : tb.get (key pF) = some YC := fx (by kernel_rfl) (by kernel_rfl)
theorem ajg (n : Nat) : Sound tb pF (rl (nG n)) := aiu tb_ok.mono aix n (K1 n) (Ku n) (aey n) (aiC n) (am3 n) (ak2 n)
theorem aea : tb.get (key jX) = some Pu := fx (by kernel_rfl) (by kernel_rfl)
theorem ab5 (n : Nat) : Sound tb jX (nd (jS n)) := acp tb_ok.mono aea n (A3 n)
theorem Hr : tb.get (key eH) = some vp := fx (by kernel_rfl) (by kernel_rfl)
theorem G3 (n : Nat) : Sound tb eH (fA (gV n)) := Ho tb_ok.mono Hr n (ab5 n)
theorem Dt : tb.get (key dM) = some tK := fx (by kernel_rfl) (by kernel_rfl)
theorem Dj (n : Nat) : Sound tb dM (eC (fM n)) := CD tb_ok.mono Dt n (G3 n)
theorem ajx : tb.get (key pt) = some YG := fx (by kernel_rfl) (by kernel_rfl)
theorem aiD (n : Nat) : Sound tb pt (rv (nH n)) := ajB tb_ok.mono ajx n (A3 n) (Dj n)
theorem alz : tb.get (key qY) = some aaH := fx (by kernel_rfl) (by kernel_rfl)
theorem ame (n : Nat) : Sound tb qY (tE (tD n)) := akF tb_ok.mono alz n (afM n) (K1 n) (Ku n) (ajg n) (aiD n) (aey n)
theorem an3 : tb.get (key nL) = some ahm := fx (by kernel_rfl) (by kernel_rfl)
theorem ahv (n : Nat) : Sound tb nL (oZ (qk n)) := aoc tb_ok.mono an3 n (ame n)
theorem akA : tb.get (key ra) = some abX := fx (by kernel_rfl) (by kernel_rfl)
theorem al0 (n : Nat) : Sound tb ra (tr (tM n)) := akt tb_ok.mono akA n (ahv n)
theorem alY : tb.get (key ri) = some abO := fx (by kernel_rfl) (by kernel_rfl)
theorem akT (n : Nat) : Sound tb ri (ti (tf n)) := ak3 tb_ok.mono alY n (al0 n) (abn n)
theorem MS : tb.get (key gu) = some Al := fx (by kernel_rfl) (by kernel_rfl)
theorem M2 (n : Nat) : Sound tb gu (im (ir n)) := MJ tb_ok.mono MS n
theorem aeY : tb.get (key eP) = some TV := fx (by kernel_rfl) (by kernel_rfl)
theorem Im (n : Nat) : Sound tb eP (fu (gM n)) := ae1 tb_ok.mono aeY n
theorem akH : tb.get (key lq) = some aaI := fx (by kernel_rfl) (by kernel_rfl)
theorem aaC (n : Nat) : Sound tb lq (l7 (mz n)) := alN tb_ok.mono akH n (Im n)
theorem agq : tb.get (key nV) = some Uv := fx (by kernel_rfl) (by kernel_rfl)
theorem agz (n : Nat) : Sound tb nV (pO (nX n)) := ahy tb_ok.mono agq n (Im n) (aaC n)
theorem amK : tb.get (key tu) = some aer := fx (by kernel_rfl) (by kernel_rfl)
theorem amR (n : Nat) : Sound tb tu (vd (tP n)) := anG tb_ok.mono amK n
theorem an0 : tb.get (key vA) = some agM := fx (by kernel_rfl) (by kernel_rfl)
theorem aoy (n : Nat) : Sound tb vA (yy (yS n)) := aoO tb_ok.mono an0 n (akT n) (M2 n) (agz n) (amR n)
theorem Zy : tb.get (key dC) = some Mg := fx (by kernel_rfl) (by kernel_rfl)
theorem BX (n : Nat) : Sound tb dC (dL (eB n)) := Zi tb_ok.mono Zy n
theorem XL : tb.get (key eU) = some JA := fx (by kernel_rfl) (by kernel_rfl)
theorem Jw (n : Nat) : Sound tb eU (gk (gN n)) := Xq tb_ok.mono XL n
theorem Mx : tb.get (key fS) = some yJ := fx (by kernel_rfl) (by kernel_rfl)
theorem KZ (n : Nat) : Sound tb fS (gW (eJ n)) := LF tb_ok.mono Mx n
theorem ad0 : tb.get (key lV) = some OY := fx (by kernel_rfl) (by kernel_rfl)
theorem ac3 (n : Nat) : Sound tb lV (na (o0 n)) := adC tb_ok.mono ad0 n
theorem afi : tb.get (key mJ) = some Ti := fx (by kernel_rfl) (by kernel_rfl)
theorem afZ (n : Nat) : Sound tb mJ (ou (mG n)) := afW tb_ok.mono afi n (ac3 n)
theorem Xe : tb.get (key jM) = some I4 := fx (by kernel_rfl) (by kernel_rfl)
theorem Xj (n : Nat) : Sound tb jM (kX (jO n)) := Xp tb_ok.mono Xe n
theorem C8 : tb.get (key dN) = some s9 := fx (by kernel_rfl) (by kernel_rfl)
theorem De (n : Nat) : Sound tb dN (eI (eE n)) := CU tb_ok.mono C8 n (afZ n) (Xj n)
theorem Zd : tb.get (key kD) = some MC := fx (by kernel_rfl) (by kernel_rfl)
theorem Zw (n : Nat) : Sound tb kD (lO (jy n)) := ZN tb_ok.mono Zd n (De n) KP
theorem XE : tb.get (key jP) = some I8 := fx (by kernel_rfl) (by kernel_rfl)
theorem Xu (n : Nat) : Sound tb jP (kV (jQ n)) := Xv tb_ok.mono XE n (Jw n) (KZ n) (Zw n)
theorem ahQ : tb.get (key nW) = some Ve := fx (by kernel_rfl) (by kernel_rfl)
theorem agA (n : Nat) : Sound tb nW (pJ (nM n)) := agj tb_ok.mono ahQ n (Im n) (aaC n)
theorem Za : tb.get (key fP) = some KV := fx (by kernel_rfl) (by kernel_rfl)
theorem Lw (n : Nat) : Sound tb fP (gH (il n)) := ZZ tb_ok.mono Za n (Xu n) (agA n)
theorem Zt : tb.get (key kw) = some L5 := fx (by kernel_rfl) (by kernel_rfl)
theorem ZF (n : Nat) : Sound tb kw (lM (lS n)) := Zj tb_ok.mono Zt n (BX n) (Lw n)
theorem Xs : tb.get (key eV) = some Jr := fx (by kernel_rfl) (by kernel_rfl)
theorem Jk (n : Nat) : Sound tb eV (gh (ez n)) := XJ tb_ok.mono Xs n (Jw n)
theorem abC : tb.get (key lj) = some Od := fx (by kernel_rfl) (by kernel_rfl)
theorem aaR (n : Nat) : Sound tb lj (ml (ib n)) := aaE tb_ok.mono abC n (BX n) (Lw n) (Jk n)
theorem abW : tb.get (key lm) = some Of := fx (by kernel_rfl) (by kernel_rfl)
theorem aap (n : Nat) : Sound tb lm (mi (ij n)) := aaP tb_ok.mono abW n (BX n) (Jk n)
theorem Pv : tb.get (key gZ) = some Ch := fx (by kernel_rfl) (by kernel_rfl)
theorem Qz (n : Nat) : Sound tb gZ (iX (d7 n)) := QY tb_ok.mono Pv n
theorem M8 : tb.get (key oJ) = some Ab := fx (by kernel_rfl) (by kernel_rfl)
theorem M5 (n : Nat) : Sound tb oJ (sI (oR n)) := MN tb_ok.mono M8 n P5 (aoy n) (ahv n) (ZF n) (aaR n) (aap n) (Qz n)
end Go.Proofs.Ytnlbfbiogfilfaa.Sh
