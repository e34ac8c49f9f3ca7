/- The continuation style over a heap whose blocks are tries: for long runs by the kernel over long blocks. -/
import Derived.Test.YtnlbfbiogfilfaaAiXPaSPrims
set_option linter.all false
namespace Go.Ai
inductive YBlk where
  | arr (t : Tr AV) (z : List AV) (zl n g : Nat)
  | mp (es : List (AV × AV))
  | dead
structure YHeap where
  t : Tr YBlk
  nx : Nat
  ro : Nat
def YHeap.shut (H : YHeap) (q : Bool) : YHeap := ⟨H.t, H.nx, Bool.casesOn q H.ro H.nx⟩
def YHeap.back (H : YHeap) (ro : Nat) : YHeap := ⟨H.t, H.nx, ro⟩
noncomputable def OL (t : Tr AV) (z : List AV) (zl i : Nat) : AV := (t.get (key i)).getD ((z[i % zl]?).getD .undef)
noncomputable def cellsOf (t : Tr AV) (z : List AV) (zl n : Nat) : List AV := (List.range n).map (OL t z zl)
noncomputable def QS : YBlk → Blk
  | .arr t z zl n g => .cells (cellsOf t z zl n) true g
  | .mp es => .mp es
  | .dead => .dead
noncomputable def Q7 : Tr YBlk → Tr Blk
  | .leaf => .leaf
  | .node l v r => .node (Q7 l) (v.map QS) (Q7 r)
noncomputable def YHeap.abs (H : YHeap) : Heap := ⟨Q7 H.t, H.nx, H.ro⟩
noncomputable def getYB : P → Tr YBlk → (YBlk → CRes) → CRes := P.rec (motive := fun _ => Tr YBlk → (YBlk → CRes) → CRes)
  (Tr.rec (motive := fun _ => (YBlk → CRes) → CRes) (fun _ => .err) (fun _ v _ _ _ k => oC v k))
  (fun _ ih => Tr.rec (motive := fun _ => (YBlk → CRes) → CRes) (fun _ => .err) (fun l _ _ _ _ k => ih l k))
  (fun _ ih => Tr.rec (motive := fun _ => (YBlk → CRes) → CRes) (fun _ => .err) (fun _ _ r _ _ k => ih r k))
noncomputable def am7 : P → YBlk → Tr YBlk → (Tr YBlk → CRes) → CRes := P.rec (motive := fun _ => YBlk → Tr YBlk → (Tr YBlk → CRes) → CRes)
  (fun x => Tr.rec (motive := fun _ => (Tr YBlk → CRes) → CRes) (fun k => k (.node .leaf (some x) .leaf)) (fun l _ r _ _ k => k (.node l (some x) r)))
  (fun _ ih x => Tr.rec (motive := fun _ => (Tr YBlk → CRes) → CRes) (fun k => ih x .leaf fun l => k (.node l none .leaf)) (fun l v r _ _ k => ih x l fun l => k (.node l v r)))
  (fun _ ih x => Tr.rec (motive := fun _ => (Tr YBlk → CRes) → CRes) (fun k => ih x .leaf fun r => k (.node .leaf none r)) (fun l v r _ _ k => ih x r fun r => k (.node l v r)))
noncomputable def getO : P → Tr AV → (AV → CRes) → CRes → CRes := P.rec (motive := fun _ => Tr AV → (AV → CRes) → CRes → CRes)
  (Tr.rec (motive := fun _ => (AV → CRes) → CRes → CRes) (fun _ e => e) (fun _ v _ _ _ k e => Option.rec (motive := fun _ => (AV → CRes) → CRes → CRes) (fun _ e => e) (fun a k _ => k a) v k e))
  (fun _ ih => Tr.rec (motive := fun _ => (AV → CRes) → CRes → CRes) (fun _ e => e) (fun l _ _ _ _ k e => ih l k e))
  (fun _ ih => Tr.rec (motive := fun _ => (AV → CRes) → CRes → CRes) (fun _ e => e) (fun _ _ r _ _ k e => ih r k e))
noncomputable def arrC : YBlk → (Tr AV → List AV → Nat → Nat → Nat → CRes) → CRes := YBlk.rec (motive := fun _ => (Tr AV → List AV → Nat → Nat → Nat → CRes) → CRes) (fun t z zl n g k => k t z zl n g) (fun _ _ => .err) (fun _ => .err)
noncomputable def mpC : YBlk → (List (AV × AV) → CRes) → CRes := YBlk.rec (motive := fun _ => (List (AV × AV) → CRes) → CRes) (fun _ _ _ _ _ _ => .err) (fun es k => k es) (fun _ => .err)
noncomputable def Ur : YHeap → YBlk → (Nat → YHeap → CRes) → CRes := YHeap.rec (motive := fun _ => YBlk → (Nat → YHeap → CRes) → CRes)
  (fun t nx ro x c => am7 (key nx) x t fun t => eA (Nat.succ nx) fun nx' => c nx ⟨t, nx', ro⟩)
noncomputable def Zf : YHeap → Nat → YBlk → (YHeap → CRes) → CRes := YHeap.rec (motive := fun _ => Nat → YBlk → (YHeap → CRes) → CRes)
  (fun t nx ro b x c => am7 (key b) x t fun t => c ⟨t, nx, ro⟩)
noncomputable def arrY (H : YHeap) (b : Nat) (c : Tr AV → List AV → Nat → Nat → Nat → CRes) : CRes := getYB (key b) H.t fun x => arrC x c
noncomputable def ahs (H : YHeap) (b : Nat) (c : Tr AV → List AV → Nat → Nat → Nat → CRes) : CRes := ifB (Nat.blt b H.ro) .err (arrY H b c)
noncomputable def mapY (H : YHeap) (b : Nat) (c : List (AV × AV) → CRes) : CRes := getYB (key b) H.t fun x => mpC x c
noncomputable def ajP (t : Tr AV) (z : List AV) (zl i : Nat) (k : AV → CRes) : CRes := getO (key i) t k (nthX z (Nat.mod i zl) k)
noncomputable def Y3 (t : Tr AV) (z : List AV) (zl : Nat) : Nat → Nat → (List AV → CRes) → CRes := Nat.rec (motive := fun _ => Nat → (List AV → CRes) → CRes) (fun _ k => k [])
  (fun _ ih off k => ajP t z zl off fun v => eA (Nat.succ off) fun o => ih o fun l => k (v :: l))
noncomputable def OI : List AV → Nat → Tr AV → (Tr AV → CRes) → CRes := List.rec (motive := fun _ => Nat → Tr AV → (Tr AV → CRes) → CRes) (fun _ t k => k t)
  (fun x _ ih off t k => setV (key off) x t fun t => eA (Nat.succ off) fun o => ih o t k)
noncomputable def boxY (H : YHeap) (v : AV) (c : Nat → YHeap → CRes) : CRes := aes v (fun l => eA (lF l) fun n => Ur H (.arr .leaf l n n 0) c) (Ur H (.arr .leaf [v] 1 1 0) c)
noncomputable def buildSlY (H : YHeap) (len : Nat) (z : List AV) (parts : List (Nat × Nat × AV)) (c : AV → YHeap → CRes) : CRes :=
  aao parts z fun l => eA (lF l) fun n => Ur H (.arr .leaf l n n 0) fun b H' => c (.slice b 0 len 0 false) H'
noncomputable def loadY (H : YHeap) (v : AV) (n : Nat) (agg : Bool) (c : AV → CRes) : CRes :=
  aeH v fun b off => arrY H b fun t z zl m _ => ifB (Nat.ble (Nat.add off n) m) (ifB agg (Y3 t z zl n off fun cs => c (.agg cs)) (ifB (Nat.beq n 1) (ajP t z zl off c) .err)) .err
noncomputable def storeY (H : YHeap) (a : AV) (n : Nat) (u : AV) (c : YHeap → CRes) : CRes :=
  aeH a fun b off => ahs H b fun t z zl m g => ifB (Nat.ble (Nat.add off n) m)
    (aes u (fun cs => ifB (Nat.beq (lF cs) n) (OI cs off t fun t => Zf H b (.arr t z zl m g) c) .err) (ifB (Nat.beq 1 n) (setV (key off) u t fun t => Zf H b (.arr t z zl m g) c) .err)) .err
noncomputable def mkY (H : YHeap) (z : List AV) (l n : Int) (c : AV → YHeap → CRes) : CRes := Y7 l fun l => Y7 n fun n =>
  ifB (andB (Nat.ble l n) (Nat.ble n zH)) (eA (lF z) fun zl => eA (Nat.mul n zl) fun m => Ur H (.arr .leaf z zl m 0) fun b H' => eA (Nat.sub n l) fun e => c (.slice b 0 l e false) H') .err
noncomputable def alO (H : YHeap) (v : AV) (c : List (AV × AV) → CRes) : CRes := AV.rec (motive_1 := fun _ => CRes) (motive_2 := fun _ => Unit) (fun _ => .err) (fun _ _ => .err) (fun _ => .err) (fun _ _ => .err) (.err) (fun _ _ _ _ _ => .err) (fun _ _ _ => .err) (.err) (fun b => mapY H b c) (c []) (fun _ _ _ _ _ => .err) (.err) (fun _ _ _ => .err) (.err) (fun _ _ => .err) (fun _ _ => .err) () (fun _ _ _ _ => ()) v
noncomputable def lookupY (H : YHeap) (kk : KeyK) (z m u : AV) (c : AV → Bool → CRes) : CRes :=
  alO H m fun es => oC (qv kk u u) fun _ => oC (aew kk u es) fun r => Option.rec (motive := fun _ => CRes) (c z false) (fun x => c x true) r
noncomputable def mapsetY (H : YHeap) (kk : KeyK) (m u y : AV) (c : YHeap → CRes) : CRes :=
  asMap m fun b => ifB (Nat.blt b H.ro) .err (mapY H b fun es => oC (qv kk u u) fun _ => oC (putF kk u y es) fun es' => Zf H b (.mp es') c)
noncomputable def mapdelY (H : YHeap) (kk : KeyK) (m u : AV) (c : YHeap → CRes) : CRes := oC (qv kk u u) fun _ => AV.rec (motive_1 := fun _ => CRes) (motive_2 := fun _ => Unit) (fun _ => .err) (fun _ _ => .err) (fun _ => .err) (fun _ _ => .err) (.err) (fun _ _ _ _ _ => .err) (fun _ _ _ => .err) (.err) (fun b => ifB (Nat.blt b H.ro) .err (mapY H b fun es => oC (delF kk u es) fun es' => Zf H b (.mp es') c)) (c H) (fun _ _ _ _ _ => .err) (.err) (fun _ _ _ => .err) (.err) (fun _ _ => .err) (fun _ _ => .err) () (fun _ _ _ _ => ()) m
noncomputable def lenMpY (H : YHeap) (v : AV) (c : Int → CRes) : CRes := alO H v fun es => eA (lF es) fun n => c (.ofNat n)
noncomputable def UM (H : YHeap) (sz n : Nat) (x : AV) (c : List AV → CRes) : CRes := AV.rec (motive_1 := fun _ => CRes) (motive_2 := fun _ => Unit) (fun _ => .err) (fun _ _ => .err) (fun s => ifB (Nat.beq sz 1) (c (mapK (fun ch => AV.int .u8 ch.toNat) (s.take n))) .err) (fun _ _ => .err) (.err) (fun b off _ _ _ => arrY H b fun t z zl m _ => eA (Nat.mul n sz) fun q => ifB (Nat.ble (Nat.add off q) m) (Y3 t z zl q off c) .err) (fun _ _ _ => ifB (Nat.beq n 0) (c []) .err) (c []) (fun _ => .err) (.err) (fun _ _ _ _ _ => .err) (.err) (fun _ _ _ => .err) (.err) (fun _ _ => .err) (fun _ _ => .err) () (fun _ _ _ _ => ()) x
noncomputable def rowY (t : Tr AV) (z : List AV) (zl off q : Nat) (new : List AV) (k : Tr AV → List AV → Nat → Nat → CRes) : CRes :=
  ifB (Nat.beq off 0) (OI new q t fun t => eA (Nat.add q (lF new)) fun m => k t z zl m)
    (Y3 t z zl q off fun old => DZ old new fun l => eA (lF l) fun m => k .leaf l m m)
noncomputable def ao8 (H : YHeap) (sz : Nat) (s x : AV) (c : AV → YHeap → CRes) : CRes := oC (Uo x) fun n => AV.rec (motive_1 := fun _ => CRes) (motive_2 := fun _ => Unit) (fun _ => .err) (fun _ _ => .err) (fun _ => .err) (fun _ _ => .err) (.err) (fun b off len ext opn => ifB (Nat.beq n 0) (c s H)
    (ifB (Nat.ble n ext)
      (UM H sz n x fun new => ahs H b fun t z zl m g => ifB (Nat.ble (off + (len + n) * sz) m) (eA (off + len * sz) fun o => OI new o t fun t => Zf H b (.arr t z zl m g) fun H => eA (len + n) fun l => eA (ext - n) fun e => c (.slice b off l e opn) H) .err)
      (ifB (Nat.ble (len + n) zH)
        (eA (len * sz) fun q => UM H sz n x fun new =>
          ifB opn
            (ahs H b fun t z zl m g => ifB (andB (Nat.beq g sz) (Nat.ble (off + (len + ext) * sz) m)) (rowY t z zl off q new fun t z zl m => Zf H b .dead fun H => Ur H (.arr t z zl m sz) fun d H => eA (len + n) fun l => c (.slice d 0 l 0 true) H) .err)
            (arrY H b fun t z zl m _ => ifB (Nat.ble (off + q) m) (rowY t z zl off q new fun t z zl m => Ur H (.arr t z zl m sz) fun d H => eA (len + n) fun l => c (.slice d 0 l 0 true) H) .err)) .err))) (fun _ _ _ => ifB (Nat.beq n 0) (c s H) .err) (ifB (Nat.beq n 0) (c .nilslice H) (ifB (Nat.ble n zH) (UM H sz n x fun new => eA (lF new) fun m => Ur H (.arr .leaf new m m sz) fun d H => c (.slice d 0 n 0 true) H) .err)) (fun _ => .err) (.err) (fun _ _ _ _ _ => .err) (.err) (fun _ _ _ => .err) (.err) (fun _ _ => .err) (fun _ _ => .err) () (fun _ _ _ _ => ()) s
noncomputable def copyY (H : YHeap) (sz : Nat) (d x : AV) (c : AV → YHeap → CRes) : CRes := oC (Uo d) fun m => oC (Uo x) fun n' => eA (min n' m) fun n => UM H sz n x fun new => AV.rec (motive_1 := fun _ => CRes) (motive_2 := fun _ => Unit) (fun _ => .err) (fun _ _ => .err) (fun _ => .err) (fun _ _ => .err) (.err) (fun b off _ _ _ => ifB (Nat.beq n 0) (c (.int .i64 0) H) (ahs H b fun t z zl q g => ifB (Nat.ble (off + n * sz) q) (OI new off t fun t => Zf H b (.arr t z zl q g) fun H => c (.int .i64 (.ofNat n)) H) .err)) (fun _ _ _ => c (.int .i64 0) H) (c (.int .i64 0) H) (fun _ => .err) (.err) (fun _ _ _ _ _ => .err) (.err) (fun _ _ _ => .err) (.err) (fun _ _ => .err) (fun _ _ => .err) () (fun _ _ _ _ => ()) d
noncomputable def clearY (H : YHeap) (z : List AV) (x : AV) (c : YHeap → CRes) : CRes := AV.rec (motive_1 := fun _ => CRes) (motive_2 := fun _ => Unit) (fun _ => .err) (fun _ _ => .err) (fun _ => .err) (fun _ _ => .err) (.err) (fun b off len _ _ => ifB (Nat.beq len 0) (c H) (ahs H b fun t z' zl q g => ifB (Nat.ble (off + len * lF z) q) (OI (GW z len) off t fun t => Zf H b (.arr t z' zl q g) c) .err)) (fun _ _ _ => c H) (c H) (fun _ => .err) (c H) (fun _ _ _ _ _ => .err) (.err) (fun _ _ _ => .err) (.err) (fun _ _ => .err) (fun _ _ => .err) () (fun _ _ _ _ => ()) x
noncomputable def opY : AOp → Tr AV → YHeap → (AV → YHeap → CRes) → CRes := AOp.rec (motive := fun _ => Tr AV → YHeap → (AV → YHeap → CRes) → CRes)
  (fun x tm H k => evX tm x fun v => k v H)
  (fun c a b tm H k => evX tm c fun v => I6 v fun t => ifB t (evX tm a fun v => k v H) (evX tm b fun v => k v H))
  (fun x tm H k => evX tm x fun v => I6 v fun t => fbX (jK t) fun r => k r H)
  (fun op x y tm H k => evX tm x fun u => evX tm y fun v => binX op u v fun r => k r H)
  (fun e neg x y tm H k => evX tm x fun u => evX tm y fun v => EqK.casesOn e (fun n => Xz (.nil n) u v fun r => fbX (Vz neg r) fun r => k r H)
      (I6 u fun a => I6 v fun b => fbX (Vz neg (eqBB a b)) fun r => k r H) (fun ks => Xz (.plain ks) u v fun r => fbX (Vz neg r) fun r => k r H))
  (fun q x tm H k => evX tm x fun u => aa4 u fun _ n => A5 q n fun r => k (.int q r) H)
  (fun z tm H k => eA (lF z) fun n => Ur H (.arr .leaf z n n 0) fun b H' => k (.ptr b 0) H')
  (fun x tm H k => evX tm x fun u => boxY H u fun b H' => k (.ptr b 0) H')
  (fun z parts tm H k => evPX tm parts fun ps => BZ z ps fun r => k r H)
  (fun len z parts tm H k => evPX tm parts fun ps => buildSlY H len z ps k)
  (fun n agg x tm H k => evX tm x fun u => loadY H u n agg fun r => k r H)
  (fun n a x tm H k => evX tm a fun a => evX tm x fun u => storeY H a n u fun H' => k .undef H')
  (fun x tm H k => evX tm x fun u => Ko u (k u H))
  (fun d x tm H k => evX tm x fun u => faK d u fun r => k r H)
  (fun sz x i tm H k => evX tm x fun u => evX tm i fun i => aa4 i fun _ i => iaSK sz u i fun r => k r H)
  (fun sz len x i tm H k => evX tm x fun u => evX tm i fun i => aa4 i fun _ i => R0 sz len u i fun r => k r H)
  (fun sz len agg x i tm H k => evX tm x fun u => evX tm i fun i => aa4 i fun _ i => Yn sz len agg u i fun r => k r H)
  (fun x i tm H k => evX tm x fun u => evX tm i fun i => vStr u fun s => aa4 i fun _ i => idxSK s i fun n => k (.int .u8 n) H)
  (fun sk x lo hi mx tm H k => evX tm x fun u => evOX tm lo fun lo => evOX tm hi fun hi => evOX tm mx fun mx => slK sk u lo hi mx fun r => k r H)
  (fun ix x tm H k => evX tm x fun u => extK ix u fun r => k r H)
  (fun f a c tm H k => evsX tm a fun va => evsX tm c fun cs => k (.func f va cs) H)
  (fun tm H k => Ur H (.mp []) fun b H' => k (.map b) H')
  (fun z len cap tm H k => evX tm len fun u => evX tm cap fun v => aa4 u fun _ l => aa4 v fun _ c => mkY H z l c k)
  (fun kk z ok m key tm H k => evX tm m fun m => evX tm key fun u => lookupY H kk z m u fun r b => ifB ok (k (.tuple [r, .bool b]) H) (k r H))
  (fun kk m key x tm H k => evX tm m fun m => evX tm key fun u => evX tm x fun y => mapsetY H kk m u y fun H' => k .undef H')
  (fun kk m key tm H k => evX tm m fun m => evX tm key fun u => mapdelY H kk m u fun H' => k .undef H')
  (fun lk x tm H k => evX tm x fun u => LenK.casesOn lk (vStr u fun s => ao9 s fun n => k (.int .i64 n) H) (fun n => k (.int .i64 (.ofNat n)) H)
      (iP u fun n => k (.int .i64 n) H) (lenMpY H u fun n => k (.int .i64 n) H))
  (fun mx xs tm H k => evsX tm xs fun vs => NH mx vs fun r => k r H)
  (fun sz s x tm H k => evX tm s fun s => evX tm x fun x => ao8 H sz s x k)
  (fun sz d x tm H k => evX tm d fun d => evX tm x fun x => copyY H sz d x k)
  (fun z x tm H k => evX tm x fun x => clearY H z x fun H' => k .undef H')
abbrev Oi := AV → List AV → YHeap → (AV → YHeap → CRes) → CRes
abbrev YS := Tr AV → YHeap → CRes
noncomputable def insY (cf : Oi) : Ins → Tr AV → YHeap → YS → CRes := Ins.rec (motive := fun _ => Tr AV → YHeap → YS → CRes)
  (fun g d o tm H k => ab9 g tm (opY o tm H fun v H => adc d v tm fun tm => k tm H) (adc d .undef tm fun tm => k tm H))
  (fun g d q f args tm H k => ab9 g tm (evX tm f fun fv => evsX tm args fun vs =>
      ifB q (cf fv vs (H.shut true) fun v H' => adc d v tm fun tm => k tm (H'.back H.ro)) (cf fv vs H fun v H' => adc d v tm fun tm => k tm H'))
    (adc d .undef tm fun tm => k tm H))
noncomputable def regY (cf : Oi) : List Ins → Tr AV → YHeap → YS → CRes := List.rec (motive := fun _ => Tr AV → YHeap → YS → CRes) (fun tm H k => k tm H)
  (fun x _ ih tm H k => insY cf x tm H fun tm H => ih tm H k)
noncomputable def insYV (cf : Oi) : Ins → Tr AV → YHeap → (AV → YHeap → CRes) → CRes := Ins.rec (motive := fun _ => Tr AV → YHeap → (AV → YHeap → CRes) → CRes)
  (fun g _ o tm H k => ab9 g tm (opY o tm H k) (k .undef H))
  (fun g _ q f args tm H k => ab9 g tm (evX tm f fun fv => evsX tm args fun vs =>
      ifB q (cf fv vs (H.shut true) fun v H' => k v (H'.back H.ro)) (cf fv vs H k)) (k .undef H))
noncomputable def amr (v : AV) (c : CRes) : Ins → Tr AV → YHeap → CRes := Ins.rec (motive := fun _ => Tr AV → YHeap → CRes)
  (fun g _ o tm H => ab9 g tm (opY o tm H fun u _ => ifB (agD v u) c .err) (ifB (agD v .undef) c .err)) (fun _ _ _ _ _ _ _ => .err)
noncomputable def backY (x : Ins) (tm : Tr AV) (v : AV) (sn : List (Nat × YHeap)) (c : CRes) : List Nat → CRes := List.rec (motive := fun _ => CRes) c
  (fun k _ ih => oC (JF k sn) fun H => amr v ih x tm H)
noncomputable def alj (H : YHeap) (sv : List (Nat × Sv)) (c : CRes) : List Nat → CRes := List.rec (motive := fun _ => CRes) c
  (fun i _ ih => oC (JF i sv) fun s => Sv.rec (motive := fun _ => CRes) (fun x tm v nx => ifB (lowA nx v) (amr v ih x tm H) .err) s)
noncomputable def regUY (cf : Oi) : List UI → Nat → List (Nat × YHeap) → List (Nat × Sv) → Tr AV → YHeap → YS → CRes :=
  List.rec (motive := fun _ => Nat → List (Nat × YHeap) → List (Nat × Sv) → Tr AV → YHeap → YS → CRes) (fun _ _ _ tm H k => k tm H)
  (fun u _ ih j sn sv tm H k => UI.rec (motive := fun _ => CRes) (fun x snap keep back again => insYV cf x tm H fun v H' => backY x tm v sn (alj H' sv
    (adc x.dst v tm fun tm' => eA (Nat.succ j) fun j' => ih j' (Bool.rec sn ((j, H) :: sn) snap) (Bool.rec sv ((j, ⟨x, tm, v, H.nx⟩) :: sv) keep) tm' H' k) again) back) u)
noncomputable def loopY (body : YS → YS) : Nat → YS := Nat.rec (motive := fun _ => YS) (fun _ _ => .err) (fun _ F => body F)
noncomputable def aj1 (cf : Oi) (n : Nat) : AC → YS → (Nat → YS) → YS → YS := AC.rec (motive := fun _ => YS → (Nat → YS) → YS → YS)
  (fun kn _ _ tm H => kn tm H)
  (fun l kn _ _ tm H => regY cf l tm H kn)
  (fun l kn _ _ tm H => regUY cf l 0 [] [] tm H kn)
  (fun _ _ iha ihb kn ke kr tm H => iha (ihb kn ke kr) ke kr tm H)
  (fun c _ _ iha ihb kn ke kr tm H => evX tm c fun v => I6 v fun b => ifB b (iha kn ke kr tm H) (ihb kn ke kr tm H))
  (fun id _ ih kn ke kr tm H => ih kn (fun i tm H => ifB (Nat.beq i id) (kn tm H) (ke i tm H)) kr tm H)
  (fun _ ih _ ke kr tm H => loopY (fun F => ih F ke kr) n tm H)
  (fun id _ ke _ tm H => ke id tm H)
  (fun _ _ kr tm H => kr tm H)
noncomputable def resY (tm : Tr AV) (H : YHeap) : List Rv → (List AV → CRes) → CRes := List.rec (motive := fun _ => (List AV → CRes) → CRes) (fun k => k [])
  (fun r _ ih k => Rv.rec (motive := fun _ => (AV → CRes) → CRes) (fun p k => getV p tm k) (fun p n agg k => getV p tm fun v => loadY H v n agg k) r fun v => ih fun vs => k (v :: vs))
noncomputable def finY (rs : List Rv) (k : AV → YHeap → CRes) (tm : Tr AV) (H : YHeap) : CRes := resY tm H rs fun vs => k (oneX vs) H
abbrev YW := List AV → YHeap → (AV → YHeap → CRes) → CRes
inductive YFn where
  | code (ps : List P) (body : AC) (res : List Rv)
  | prim (w : YW)
noncomputable def appY (cf : Oi) (n : Nat) : YFn → YW := YFn.rec (motive := fun _ => YW)
  (fun ps body res args H k => bindX ps args .leaf fun tm => aj1 cf n body (finY res k) (fun _ _ _ => .err) (finY res k) tm H)
  (fun w => w)
noncomputable def callY (find : Nat → (YFn → CRes) → CRes) (n : Nat) : Nat → Oi := Nat.rec (motive := fun _ => Oi) (fun _ _ _ _ => .err)
  (fun _ cf fv vs H k => funC fv fun f first cap => find f fun fn => appY cf n fn (DZ first (DZ vs cap id) id) H k)
end Go.Ai
