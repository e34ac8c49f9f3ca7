/- The keys of a map, collected in whatever order they come: turned from the guide's worked proofs (GgKeysAtTheDump, GgCollectAtTheDump) to this program. -/
import Derived.RangeFuncSeq
import Derived.RangeFuncGives
import Derived.Maps.AppendAt
import Derived.Sort.MapsRangeIn
import Derived.Lib.SlKeysI
import Derived.WalkKit
import Derived.OwnWalkIn
import Derived.TacticsInMore
import Derived.RegionIn
import Derived.LoopNIn
import Derived.LoopIn
import Derived.Shelf.Abstract
import Derived.Test.YtlgbmkemfinogaaGreatProg
import Derived.Shelf.Sort.Plain
import Derived.Test.YtlgbmkemfinogaaGreatAiSortedPaLPrims
import Derived.Shelf.Slices.In.SortNone
set_option linter.all false
namespace Go.Proofs
open Go.RowKit Go.Maps Go.Sort Go.Shelf
theorem Qk.law3:Keyed Tryz.prog 3:=int_keyed Tryz.underlying3
def T1:Code→Code × Code
  | .rangeFunc _ _ a b=>(a,b)
  | .seq a b=>match T1 a with | (.skip,.skip)=>T1 b | r=>r
  | .block _ a=>T1 a
  | _=>(.skip,.skip)
set_option maxRecDepth 100000 in
set_option maxHeartbeats 1000000 in
theorem Qk.keys1N_in {H:Type} {R:Value→Option (DataW H × List MemPlace)} (F:Fence) (n:Nat) (h10:F.fn 89) (hro:F.round=none) (hn:1≤n) (l Bm Bo b nn:Nat) (D0:DataW H) (J:List Int→World→Prop)
    (hY:∀ pre x W,J pre W→pre.length<Maps.size D0→YieldAt F (n-1) Tryz.prog l #[encZ x] W fun e W'=>e = .returned (.bool true)∧J (pre++[x]) W'∧KeepsWalks W W')
    (W:World) (hJ:AbidesFrom W.heap.size J) (hm:W.cell? ⟨Bm,Bo,none⟩=some (.map (some b))) (hown:W.ownsMap Tryz.prog 3 R b nn D0) (h0:J [] W) :
    CallsIn F n Tryz.prog 89 #[.func (.yield l) #[] #[],.pointer (some ⟨Bm,Bo,none⟩)] W fun e W'=>(∃ v,e = .returned v)∧∃ ss:List Int,ss.Perm (intKeys D0)∧J ss W':=by
  refine callsIn_of_wp Tryz.func89 rfl h10 ?_ hro
  simp only [Tryz.ntmps89,List.size_toArray,List.length_cons,List.length_nil,Nat.reduceAdd,Nat.reduceSub,Array.replicate_succ,Array.replicate_zero,List.push_toArray,List.append_toArray,List.nil_append,List.cons_append]
  gi_wp2_with (first
    | (gi_at_range; refine wpListIn_range_own _ rfl _ 77 rfl 3 5 Qk.law3 Tryz.underlying77 _ b nn _ rfl hown ?_; intro w0 hrg0 hg0 hs0)
    | gi_in)
  go_frame
  gi_loopw [3] (fun _ wr=>∃ (left:Lit→Bool) (cnt:Nat) (ss:List Int),wr.ranges Tryz.prog 3 R b W.heap.size nn D0 left cnt∧ss.length+cnt≤Maps.size D0∧CollectedI D0 left ss∧J ss wr)
    (fun _ wr=>wr.rangeLeft b W.heap.size)
  case atStart=>
    exact ⟨_,_,[],hrg0,by simp,CollectedI.start D0,hJ [] W w0 none h0 hg0 (fun r e=>by cases e)⟩
  case round=>
    obtain ⟨left,cnt,ss,hrg,hcs,hC,hJs⟩:=hrel
    gi_wp2_with (first
      | (gi_at_next; refine wpListIn_next_ranges _ rfl _ rfl 3 Qk.law3 R encZ id (fun key kl hk=>by obtain ⟨x,hx,_⟩:=Maps.keyOf_i64 Tryz.underlying3 hk; exact ⟨x,hx⟩) (fun v _ _=>⟨v,rfl⟩) b W.heap.size nn _ _ _ rfl hrg ?_ ?_)
      | gi_in)
    ·
      intro hc0 hl0
      gi_wp2
      go_end0
      exact ⟨⟨_,rfl⟩,ss,hC.perm hown Qk.law3 Tryz.underlying3 hl0,hJs⟩
    ·
      intro x c kl yd yp w2 cnt2 hkey hlk hv hat hrg2 hlt hg2 hs2 hen
      obtain ⟨x',ex,rfl,_⟩:=Maps.keyOf_i64 Tryz.underlying3 hkey
      obtain rfl:x=x':=encZ_inj ex
      have hJ2:J ss w2:=hJ ss wr w2 (some W.heap.size) hJs hg2 (fun r e=>by cases e; exact ⟨Nat.le_refl _,hrg.iter_walk⟩)
      obtain ⟨fn,tmps,assign,body,hy,hR⟩:=hY ss x w2 hJ2 (by omega)
      clear hs2
      gi_wp2
      refine hR.mono ?_
      rintro e W3 ⟨rfl,hJ3,hk3⟩
      gi_wp2
      have hrg3:=hrg2.of_walks hk3
      go_roundw
      case rel=>exact ⟨_,cnt2,ss++[x],hrg3,by simp; omega,hC.step hlk hat,hJ3⟩
      case measure=>rw [hrg3.left_eq,hrg.left_eq]; exact hlt
theorem Qk.keys_gives {H:Type} {R:Value→Option (DataW H × List MemPlace)} (F:Fence) (n:Nat) (h10:F.fn 89) (hro:F.round=none) (hn:1≤n) (Bm Bo b nn:Nat) (D0:DataW H) (w:World) (hBm:Bm<w.heap.size)
    (hm:w.cell? ⟨Bm,Bo,none⟩=some (.map (some b))) (hown:w.ownsMap Tryz.prog 3 R b nn D0) :
    SeqGives F n Tryz.prog 89 #[.pointer (some ⟨Bm,Bo,none⟩)] encZ (fun ss=>ss.Perm (intKeys D0)) (Maps.size D0) w:=fun l J W hW hJ hY h0=>by
  have hown':W.ownsMap Tryz.prog 3 R b nn D0:=by
    have hbl:=hown.lt
    obtain ⟨es,clock,hb,Ft,hs,hD⟩:=hown
    exact ⟨es,clock,(hW.block b hbl).trans hb,Ft,hs,hD⟩
  exact Qk.keys1N_in F n h10 hro hn l Bm Bo b nn D0 J hY W hJ ((hW.cell (p:=⟨Bm,Bo,none⟩) hBm).trans hm) hown' h0
noncomputable def Qk.apAssign:Code:=(T1 (Tryz.f93.body.getD .skip)).1
noncomputable def Qk.apBody:Code:=(T1 (Tryz.f93.body.getD .skip)).2
noncomputable def Qk.apRec (fn:FuncId) (sv:Value) (Bs D:Nat) (st:LoopState) (pend:Option Code):Loop:=
  { state:=st,pending:=pend,fn,tmps := #[.slice none 0 0,sv,.pointer (some ⟨Bs,0,none⟩),undef,.slice none 0 0,undef,sv,undef,undef,undef,undef,undef,undef],params := #[7],assign:=Qk.apAssign,body:=Qk.apBody,defers:=D }
structure Qk.ApAt (w0:World) (fn:FuncId) (sv:Value) (Bs l D:Nat) (ss:List Int) (W:World):Prop where
  box:∃ v,W.heap[Bs]?=some (.cells #[v] 25 (0,0))∧W.ownsRow w0.heap.size 3 1 v ss.length (ss.map encZ)∧(v = .slice none 0 0↔ss = [])
  L:W.heap[l]?=some (.loop (Qk.apRec fn sv Bs D .ready none))
  K:W.heap[D]?=some (.deferred (some []))
  below:Below w0.heap.size w0 W
theorem ahb {W W':World} {row:Option Nat} {base:Nat} {e:TypeId} {size:Nat} {v:Value} {k:Nat} {xs:List Value} (h:W.ownsRow base e size v k xs) (hg:W.grownBy W' row)
    (hrow:∀ r,row=some r→∃ o:Obj,W.heap[r]?=some o∧o.isWalk=true):W'.ownsRow base e size v k xs:=by
  refine h.kept hg ?_
  rcases h.2 with ⟨rfl,_⟩ | ⟨g,cap,cur,rfl,_,hgb,_⟩
  · exact .inl rfl
  · refine .inr fun e'=>?_
    obtain ⟨o,ho,hw⟩:=hrow g (by simpa [Value.ownBlock] using e'.symm)
    rw [hgb] at ho; cases ho; cases hw
theorem Qk.ap_abides (w0:World) (fn:FuncId) (sv:Value) (Bs l D B:Nat) (hB:w0.heap.size≤B):AbidesFrom B (Qk.ApAt w0 fn sv Bs l D):=fun s W W' row h hg hrow=>by
  have hrow':∀ r,row=some r→∃ o:Obj,W.heap[r]?=some o∧o.isWalk=true:=fun r e=>(hrow r e).2
  obtain ⟨v,hv,hr,hn⟩:=h.box
  exact ⟨⟨v,(grownBy_keeps hg hrow' hv rfl).trans hv,ahb hr hg hrow',hn⟩,(grownBy_keeps hg hrow' h.L rfl).trans h.L,(grownBy_keeps hg hrow' h.K rfl).trans h.K,
    h.below.grown hg h.below.size (fun k e=>Nat.le_trans hB (hrow k e).1)⟩
theorem xu (W:World) (l:Nat) (o:Obj):W.grownBy (W.putObj l o) (some l):=
  ⟨rfl,rfl,rfl,by simp,fun k _ hk=>World.putObj_heap_other (fun e=>hk (by rw [e]))⟩
theorem adK (W:World) (b:Nat) (v:Value):W.grownBy (W.setCell ⟨b,0,none⟩ v) (some b):=
  ⟨rfl,rfl,rfl,(KeepsWalks.setCell W _ v).size,fun k _ hk=>Below.heap_setCell _ _ _ k (fun e=>hk (by rw [e]))⟩
theorem I5 {W:World} {base:Nat} {e:TypeId} {size:Nat} {v:Value} {k:Nat} {xs:List Value} (h:W.ownsRow base e size v k xs) {j:Nat} {o:Obj} (hj:W.heap[j]?=some o) (hno:∀ cur,o≠.cells cur e (0,0)) :
    v.ownBlock=none∨v.ownBlock≠some j:=by
  rcases h.2 with ⟨rfl,_⟩ | ⟨g,cap,cur,rfl,_,hgb,_⟩
  · exact .inl rfl
  · refine .inr fun e'=>?_
    have:g=j:=by simpa [Value.ownBlock] using e'
    subst this; rw [hgb] at hj; cases hj; exact hno cur rfl
theorem VY {W:World} {B:Nat} {v:Value} {t:TypeId} (h:W.heap[B]?=some (.cells #[v] t (0,0))):W.cell? ⟨B,0,none⟩=some v∧W.frozen? ⟨B,0,none⟩=false:=by
  constructor<;>simp [World.cell?,World.frozen?,h]
theorem adO {W:World} {B:Nat} {v:Value} {t:TypeId} (v':Value) (h:W.heap[B]?=some (.cells #[v] t (0,0))):(W.setCell ⟨B,0,none⟩ v').heap[B]?=some (.cells #[v'] t (0,0)):=by
  obtain ⟨hlt,hk⟩:=Array.getElem?_eq_some_iff.1 h
  show (W.heap.modify B _)[B]?=_
  rw [Array.getElem?_eq_getElem (by rw [Array.size_modify]; exact hlt),Array.getElem_modify_self,hk]
  rfl
theorem aey {W:World} {base:Nat} {e:TypeId} {size:Nat} {v:Value} {k:Nat} {xs:List Value} (h:W.ownsRow base e size v k xs):∀ (j:Nat) (o:Obj),v.ownBlock=some j→W.heap[j]?=some o→o.isWalk=false:=by
  intro j o hj ho
  rcases h.2 with ⟨rfl,_⟩ | ⟨g,cap,cur,rfl,_,hgb,_⟩
  · simp [Value.ownBlock] at hj
  · have:g=j:=by simpa [Value.ownBlock] using hj
    subst this; rw [hgb] at ho; cases ho; rfl
theorem Qk.info3:(Tryz.prog.info? 3).map (fun i=>(i.zero,i.size,i.bytes))=some (some (.int .i64 0),1,8):=by kernel_rfl
set_option maxRecDepth 100000 in
set_option maxHeartbeats 2000000 in
theorem Qk.apYield (F:Fence) (m:Nat) (w0:World) (fn:FuncId) (hfn:F.fn fn) (sv:Value) (Bs l D:Nat) (hBl:Bs≠l) (hDl:D≠l) (hDB:D≠Bs) (h0B:w0.heap.size≤Bs) (h0l:w0.heap.size≤l)
    (N:Nat) (hN:N≤maxLen) (hNb:N*8≤140737488355328) (ss:List Int) (x:Int) (W:World) (h:Qk.ApAt w0 fn sv Bs l D ss W) (hlen:ss.length<N) :
    YieldAt F m Tryz.prog l #[encZ x] W fun e W'=>e = .returned (.bool true)∧Qk.ApAt w0 fn sv Bs l D (ss++[x]) W'∧KeepsWalks W W':=by
  obtain ⟨i0,hi,hz0,hz1,hz2⟩:=info_parts Qk.info3
  obtain ⟨v,hv,hrow,_⟩:=h.box
  refine ⟨fn, #[.slice none 0 0,sv,.pointer (some ⟨Bs,0,none⟩),undef,.slice none 0 0,undef,sv,encZ x,undef,undef,undef,undef,undef],Qk.apAssign,Qk.apBody,by simpa [Qk.apRec] using run_yield (P:=Tryz.prog) (args := #[encZ x]) h.L rfl,roundIn_of_wpIn hfn ?_⟩
  have hl:l<W.heap.size:=(Array.getElem?_eq_some_iff.1 h.L).1
  have hbr:=run_beginRound (P:=Tryz.prog) h.L rfl
  obtain ⟨W2,hW2⟩:∃ W2,W.putObj l (.loop { Qk.apRec fn sv Bs D .ready none with state:=.busy })=W2:=⟨_,rfl⟩
  rw [hW2] at hbr
  have hg2:W.grownBy W2 (some l):=by rw [← hW2]; exact xu _ _ _
  have hk2:KeepsWalks W W2:=by rw [← hW2]; exact KeepsWalks.putObj _ h.L rfl
  have hv2:W2.heap[Bs]?=some (.cells #[v] 25 (0,0)):=by rw [← hW2]; exact (World.putObj_heap_other hBl).trans hv
  have hK2:W2.heap[D]?=some (.deferred (some [])):=by rw [← hW2]; exact (World.putObj_heap_other hDl).trans h.K
  have hL2:W2.heap[l]?=some (.loop { Qk.apRec fn sv Bs D .ready none with state:=.busy }):=by rw [← hW2]; exact World.putObj_heap_same hl
  have hrow2:W2.ownsRow w0.heap.size 3 1 v ss.length (ss.map encZ):=hrow.kept hg2 (I5 hrow h.L (fun cur e=>by cases e))
  have hb2:Below w0.heap.size w0 W2:=h.below.grown hg2 h.below.size (fun k e=>by cases e; exact h0l)
  obtain ⟨hc2,hf2⟩:=VY hv2
  have hBlt:Bs<W2.heap.size:=(Array.getElem?_eq_some_iff.1 hv2).1
  have hl2:l<W2.heap.size:=(Array.getElem?_eq_some_iff.1 hL2).1
  have hDlt:D<W2.heap.size:=(Array.getElem?_eq_some_iff.1 hK2).1
  have ne_of:∀ {j:Nat} {o:Obj},W2.heap[j]?=some o→(∀ cur,o≠.cells cur 3 (0,0))→some j≠v.ownBlock:=fun hj hno=>by
    rcases I5 hrow2 hj hno with e | e
    · rw [e]; simp
    · exact fun e'=>e e'.symm
  clear hW2
  simp only [Qk.apAssign,T1,Tryz.f93,Option.getD_some]
  gi_wp2_with (rw [Oper.semAt_eq _ _ _ (fun c h=>by cases h)]; go_simp; try go_bits)
  simp only [Qk.apBody,T1,Tryz.f93,Option.getD_some]
  gi_wp2_with (first
    | (gi_at_builtin; refine wpListIn_append_own _ rfl _ _ 25 rfl w0.heap.size 3 i0 (.int .i64 0) 1 8 Tryz.underlying25 hi hz0 hz1 hz2 rfl (by decide) _ _ _ rfl (hrow2.alloc _) ⟨W2.heap.size,0,none⟩ 1 1 [encZ x] rfl rfl (cell_one_new _ _ _) (by simp [Value.oneCell',encZ]) (by omega) (by omega) (by have:=hb2.size; simp; omega) ?_; intro v' w3 hown' hg3 hnil3
       have hv3:w3.heap[Bs]?=some (.cells #[v] 25 (0,0)):=(hg3.block Bs (by simp; omega) (ne_of hv2 (fun cur e=>by cases e))).trans ((Below.heap_alloc _ _ Bs hBlt).trans hv2)
       obtain ⟨hc3,hf3⟩:=VY hv3
       obtain ⟨g',cap',cur',rfl,hbase',hgb',hr1,hr2,hr3,hr4⟩:∃ g' cap' cur',v' = .slice (some ⟨g',0,none⟩) (ss.length+1) cap'∧w0.heap.size≤g'∧w3.heap[g']?=some (.cells cur' 3 (0,0))∧ss.length+1≤cap'∧cap'≤maxLen∧cur'.size=cap'*1∧cur'.toList.take ((ss.length+1)*1)=ss.map encZ++[encZ x]:=by
         rcases hown'.2 with ⟨_,h0⟩ | h'
         · exact absurd h0 (by omega)
         · exact h'
       go_frame)
    | (rw [Oper.semAt_eq _ _ _ (fun c h=>by cases h)]; go_simp; try go_bits))
  have hg3':(W2.alloc (.cells #[encZ x] 3)).grownBy w3 v.ownBlock:=hg3
  have hL3:w3.heap[l]?=some (.loop { Qk.apRec fn sv Bs D .ready none with state:=.busy }):=(hg3'.block l (by simp; omega) (ne_of hL2 (fun cur e=>by cases e))).trans ((Below.heap_alloc _ _ l hl2).trans hL2)
  have hK3:w3.heap[D]?=some (.deferred (some [])):=(hg3'.block D (by simp; omega) (ne_of hK2 (fun cur e=>by cases e))).trans ((Below.heap_alloc _ _ D hDlt).trans hK2)
  obtain ⟨w4,hw4⟩:∃ w4,w3.setCell ⟨Bs,0,none⟩ (.slice (some ⟨g',0,none⟩) (ss.length+1) cap')=w4:=⟨_,rfl⟩
  rw [hw4]
  have hg4:w3.grownBy w4 (some Bs):=by rw [← hw4]; exact adK _ _ _
  have hv4:w4.heap[Bs]?=some (.cells #[.slice (some ⟨g',0,none⟩) (ss.length+1) cap'] 25 (0,0)):=by rw [← hw4]; exact adO _ hv3
  have hL4:w4.heap[l]?=some (.loop { Qk.apRec fn sv Bs D .ready none with state:=.busy }):=(hg4.block l (Array.getElem?_eq_some_iff.1 hL3).1 (fun e=>hBl (by cases e; rfl))).trans hL3
  have hK4:w4.heap[D]?=some (.deferred (some [])):=(hg4.block D (Array.getElem?_eq_some_iff.1 hK3).1 (fun e=>hDB (by cases e; rfl))).trans hK3
  have hrow4:=hown'.kept hg4 (I5 hown' hv3 (fun cur e=>by cases e))
  have hl4:l<w4.heap.size:=(Array.getElem?_eq_some_iff.1 hL4).1
  have hb3:Below w0.heap.size w0 w3:=(hb2.alloc hb2.size _).grown hg3' (by have:=hb2.size; simp; omega) (fun k e=>(hrow2.lt k e).1)
  have hb4:Below w0.heap.size w0 w4:=hb3.grown hg4 hb3.size (fun k e=>by cases e; exact h0B)
  have hk4:KeepsWalks W w4:=((hk2.trans (KeepsWalks.alloc _ _)).trans (KeepsWalks.of_grownBy hg3' (aey (hrow2.alloc _)))).trans (by rw [← hw4]; exact KeepsWalks.setCell _ _ _)
  clear hw4
  refine ⟨_,_,run_endRound none hL4,rfl,⟨⟨_,(World.putObj_heap_other hBl).trans hv4,?_,by simp⟩,World.putObj_heap_same hl4,(World.putObj_heap_other hDl).trans hK4,hb4.grown (xu _ _ _) hb4.size (fun k e=>by cases e; exact h0l)⟩,hk4.trans (KeepsWalks.putObj _ hL4 rfl)⟩
  have:=hrow4.kept (xu w4 l (.loop { { Qk.apRec fn sv Bs D .ready none with state:=.busy } with state:=if (none:Option Code).isNone then .ready else .done,pending:=none })) (I5 hrow4 hL4 (fun cur e=>by cases e))
  simpa using this
set_option maxRecDepth 100000 in
set_option maxHeartbeats 2000000 in
theorem Qk.appendSeq_in (F:Fence) (n:Nat) (h11:F.fn 93) (hro:F.round=none) (hn:2≤n) (g:Nat) (lb:Array Value) (hFg:F.fn g) (eg:∀ args w,(callFunc g args).run Tryz.prog w = .ok (.enter g args) w)
    (S:List Int→Prop) (N:Nat) (hN:N≤maxLen) (hNb:N*8≤140737488355328) (w:World) (hseq:SeqGives F (n-1) Tryz.prog g lb encZ S N w) :
    CallsIn F n Tryz.prog 93 #[.slice none 0 0,.func (.func g) #[] lb] w fun e w'=>∃ (v:Value) (ss:List Int),e = .returned v∧S ss∧w'.ownsRow w.heap.size 3 1 v ss.length (ss.map encZ)∧(v = .slice none 0 0↔ss = [])∧Below w.heap.size w w':=by
  have h1:1≤n:=by omega
  refine callsIn_of_wp_marks Tryz.func93 rfl h11 ?_ hro
  simp only [Tryz.ntmps93,List.size_toArray,List.length_cons,List.length_nil,Nat.reduceAdd,Nat.reduceSub,Array.replicate_succ,Array.replicate_zero,List.push_toArray,List.append_toArray,List.nil_append,List.cons_append]
  gi_wp2
  refine wpIn_rangeFunc ?_
  intro fn hfn
  rw [hro]
  obtain ⟨W0,hW0⟩:∃ W0,w.alloc (.cells #[.slice none 0 0] 25)=W0:=⟨_,rfl⟩
  have hs0:W0.heap.size=w.heap.size+1:=by rw [← hW0]; simp
  have hv0:W0.heap[w.heap.size]?=some (.cells #[.slice none 0 0] 25 (0,0)):=by rw [← hW0]; exact World.alloc_heap_new w _
  have hb0:Below w.heap.size w W0:=by rw [← hW0]; exact (Below.refl _ w).alloc (Nat.le_refl _) _
  rw [hW0]
  obtain ⟨W1,hW1⟩:∃ W1,(W0.alloc (.deferred (some []))).alloc (.loop (Qk.apRec fn (.func (.func g) #[] lb) w.heap.size W0.heap.size .ready none))=W1:=⟨_,rfl⟩
  have hold:∀ k,k<W0.heap.size→W1.heap[k]?=W0.heap[k]?:=fun k hk=>by
    rw [← hW1]; exact (Below.heap_alloc _ _ k (by simp; omega)).trans (Below.heap_alloc _ _ k hk)
  have hb1:Below w.heap.size w W1:=by rw [← hW1]; exact (hb0.alloc hb0.size _).alloc (by have:=hb0.size; simp; omega) _
  have hs1:W1.heap.size=W0.heap.size+2:=by rw [← hW1]; simp
  have hM:Qk.ApAt w fn (.func (.func g) #[] lb) w.heap.size (W0.heap.size+1) W0.heap.size [] W1:=
    ⟨⟨_,(hold w.heap.size (by omega)).trans hv0,⟨rfl,.inl ⟨rfl,rfl⟩⟩,by simp⟩,
     by rw [← hW1]; have:=World.alloc_heap_new (W0.alloc (.deferred (some []))) (.loop (Qk.apRec fn (.func (.func g) #[] lb) w.heap.size W0.heap.size .ready none)); rwa [World.size_alloc] at this,
     by rw [← hW1]; exact (Below.heap_alloc _ _ _ (by simp)).trans (World.alloc_heap_new W0 _),hb1⟩
  refine ⟨W0.heap.size+1,[{ target:=.collected W0.heap.size,args := #[] }],W1,{ target:=.fn (.func g) lb,args := #[.func (.yield (W0.heap.size+1)) #[] #[]] },W1,g,
    #[.func (.yield (W0.heap.size+1)) #[] #[]]++lb,W1,?_,?_,?_,?_,fun _=>h1,?_⟩
  · rw [← hW1]; exact run_enterLoop_outer _ _ _ _ _
  · simp [resolve,go_sem]
  · intro f' hf'; simp [Target.leads] at hf'; subst hf'; exact hFg
  · simp [invoke,go_sem,eg]
  · refine (hseq (W0.heap.size+1) (Qk.ApAt w fn (.func (.func g) #[] lb) w.heap.size (W0.heap.size+1) W0.heap.size) W1 hb1 (Qk.ap_abides _ _ _ _ _ _ _ hb1.size)
      (fun pre x W hJ hl=>Qk.apYield F (n-1-1) w fn hfn _ w.heap.size (W0.heap.size+1) W0.heap.size (by omega) (by omega) (by omega) (Nat.le_refl _) (by omega) N hN hNb pre x W hJ hl) hM).mono ?_
    rintro e W2 ⟨⟨v0,rfl⟩,ss,hS,h2⟩
    obtain ⟨v,hv,hrow,hnil⟩:=h2.box
    have hend:=run_endLoop (P:=Tryz.prog) h2.L (by simp [Qk.apRec])
    obtain ⟨W3,hW3⟩:∃ W3,W2.putObj (W0.heap.size+1) (.loop { Qk.apRec fn (.func (.func g) #[] lb) w.heap.size W0.heap.size .ready none with state:=.exhausted })=W3:=⟨_,rfl⟩
    rw [hW3] at hend
    have hg3:W2.grownBy W3 (some (W0.heap.size+1)):=by rw [← hW3]; exact xu _ _ _
    have hv3:W3.heap[w.heap.size]?=some (.cells #[v] 25 (0,0)):=by rw [← hW3]; exact (World.putObj_heap_other (by omega)).trans hv
    have hK3:W3.heap[W0.heap.size]?=some (.deferred (some [])):=by rw [← hW3]; exact (World.putObj_heap_other (by omega)).trans h2.K
    have hrow3:=hrow.kept hg3 (I5 hrow h2.L (fun cur e=>by cases e))
    have hb3:Below w.heap.size w W3:=h2.below.grown hg3 h2.below.size (fun k e=>by cases e; omega)
    obtain ⟨hc3,hf3⟩:=VY hv3
    clear hW3
    refine ⟨none,W3,hend,?_⟩
    gi_wp2
    rw [← hs0]
    refine ⟨by simp,.inl ⟨_,_,rfl,run_takeDeferred hK3,?_⟩⟩
    exact ⟨_,results_tmp rfl _ _ _,v,ss,rfl,hS,hrow3.kept (xu _ _ _) (I5 hrow3 hK3 (fun cur e=>by cases e)),hnil,hb3.grown (xu _ _ _) hb3.size (fun k e=>by cases e; omega)⟩
set_option maxHeartbeats 1000000 in
theorem Qk.collect_in (F:Fence) (n:Nat) (h8:F.fn 81) (h11:F.fn 93) (hro:F.round=none) (hn:3≤n) (g:Nat) (lb:Array Value) (hFg:F.fn g) (eg:∀ args w,(callFunc g args).run Tryz.prog w = .ok (.enter g args) w)
    (S:List Int→Prop) (N:Nat) (hN:N≤maxLen) (hNb:N*8≤140737488355328) (w:World) (hseq:SeqGives F (n-1-1) Tryz.prog g lb encZ S N w) :
    CallsIn F n Tryz.prog 81 #[.func (.func g) #[] lb] w fun e w'=>∃ (v:Value) (ss:List Int),e = .returned v∧S ss∧w'.ownsRow w.heap.size 3 1 v ss.length (ss.map encZ)∧(v = .slice none 0 0↔ss = [])∧Below w.heap.size w w':=by
  have h1:1≤n:=by omega
  refine callsIn_of_wp Tryz.func81 rfl h8 ?_ hro
  simp only [Tryz.ntmps81,List.size_toArray,List.length_cons,List.length_nil,Nat.reduceAdd,Nat.reduceSub,Array.replicate_succ,Array.replicate_zero,List.push_toArray,List.append_toArray,List.nil_append,List.cons_append]
  gi_wp2_with (gi_at_call 93; refine (Qk.appendSeq_in F (n-1) h11 hro (by omega) g lb hFg eg S N hN hNb _ hseq).mono ?_; rintro e w' ⟨v,ss,rfl,hS,hrow,hnil,hb⟩)
  go_ret
  exact ⟨v,ss,rfl,hS,hrow,hnil,hb⟩
end Go.Proofs
/- The shelf's numbers at this program. -/
namespace Go.Proofs
open Go.Shelf
def Tryz.laysSort_ren:Go.Shelf.Ren:=⟨fun | 125=>95 | 128=>111 | 129=>112 | 189=>82 | 215=>122 | 216=>101 | 257=>94 | 294=>103 | 295=>104 | 296=>105 | 297=>106 | 298=>107 | 299=>108 | 300=>109 | 301=>110 | 328=>123 | 329=>124 | 330=>125 | 331=>126 | 332=>127 | 343=>143 | n=>n,fun | 0=>0 | 3=>3 | 4=>4 | 5=>5 | 9=>9 | 28=>25 | 46=>141 | 51=>171 | 53=>22 | 131=>98 | 182=>164 | 183=>165 | 218=>178 | 222=>182 | 228=>191 | 229=>136 | n=>n,fun | n=>n⟩
theorem Tryz.laysSort:Lays.n189 Tryz.prog Tryz.laysSort_ren:={
  mixed:=by kernel_rfl
  f125:=Tryz.func95.trans (congrArg some (by kernel_rfl))
  f128:=Tryz.func111.trans (congrArg some (by kernel_rfl))
  f129:=Tryz.func112.trans (congrArg some (by kernel_rfl))
  f189:=Tryz.func82.trans (congrArg some (by kernel_rfl))
  f215:=Tryz.func122.trans (congrArg some (by kernel_rfl))
  f216:=Tryz.func101.trans (congrArg some (by kernel_rfl))
  f257:=Tryz.func94.trans (congrArg some (by kernel_rfl))
  f294:=Tryz.func103.trans (congrArg some (by kernel_rfl))
  f295:=Tryz.func104.trans (congrArg some (by kernel_rfl))
  f296:=Tryz.func105.trans (congrArg some (by kernel_rfl))
  f297:=Tryz.func106.trans (congrArg some (by kernel_rfl))
  f298:=Tryz.func107.trans (congrArg some (by kernel_rfl))
  f299:=Tryz.func108.trans (congrArg some (by kernel_rfl))
  f300:=Tryz.func109.trans (congrArg some (by kernel_rfl))
  f301:=Tryz.func110.trans (congrArg some (by kernel_rfl))
  f328:=Tryz.func123.trans (congrArg some (by kernel_rfl))
  f329:=Tryz.func124.trans (congrArg some (by kernel_rfl))
  f330:=Tryz.func125.trans (congrArg some (by kernel_rfl))
  f331:=Tryz.func126.trans (congrArg some (by kernel_rfl))
  f332:=Tryz.func127.trans (congrArg some (by kernel_rfl))
  f343:=Tryz.func143.trans (congrArg some (by kernel_rfl))
  t0:=Tryz.underlying0
  a0:=Tryz.isAgg0
  z0:=Tryz.sizeOf0
  v0:=Tryz.zeroValue0
  t3:=Tryz.underlying3
  a3:=Tryz.isAgg3
  z3:=Tryz.sizeOf3
  v3:=Tryz.zeroValue3
  t4:=Tryz.underlying4
  a4:=Tryz.isAgg4
  z4:=Tryz.sizeOf4
  v4:=Tryz.zeroValue4
  t5:=Tryz.underlying5
  a5:=Tryz.isAgg5
  z5:=Tryz.sizeOf5
  v5:=Tryz.zeroValue5
  t9:=Tryz.underlying9
  a9:=Tryz.isAgg9
  z9:=Tryz.sizeOf9
  v9:=Tryz.zeroValue9
  t28:=Tryz.underlying25
  a28:=Tryz.isAgg25
  z28:=Tryz.sizeOf25
  v28:=Tryz.zeroValue25
  t46:=Tryz.underlying141
  a46:=Tryz.isAgg141
  z46:=Tryz.sizeOf141
  v46:=Tryz.zeroValue141
  t51:=Tryz.underlying171
  a51:=Tryz.isAgg171
  z51:=Tryz.sizeOf171
  v51:=Tryz.zeroValue171
  t53:=Tryz.underlying22
  a53:=Tryz.isAgg22
  z53:=Tryz.sizeOf22
  v53:=Tryz.zeroValue22
  t131:=Tryz.underlying98
  a131:=Tryz.isAgg98
  z131:=Tryz.sizeOf98
  v131:=Tryz.zeroValue98
  t182:=Tryz.underlying164
  a182:=Tryz.isAgg164
  z182:=Tryz.sizeOf164
  v182:=Tryz.zeroValue164
  t183:=Tryz.underlying165
  a183:=Tryz.isAgg165
  z183:=Tryz.sizeOf165
  v183:=Tryz.zeroValue165
  t218:=Tryz.underlying178
  a218:=Tryz.isAgg178
  z218:=Tryz.sizeOf178
  v218:=Tryz.zeroValue178
  t222:=Tryz.underlying182
  a222:=Tryz.isAgg182
  z222:=Tryz.sizeOf182
  v222:=Tryz.zeroValue182
  t228:=Tryz.underlying191
  a228:=Tryz.isAgg191
  z228:=Tryz.sizeOf191
  v228:=Tryz.zeroValue191
  t229:=Tryz.underlying136
  a229:=Tryz.isAgg136
  z229:=Tryz.sizeOf136
  v229:=Tryz.zeroValue136
}
end Go.Proofs
/- slices.Sorted of maps.Keys at this program, however many keys: the library's text, with the shelf's contract of its sort. -/
namespace Go.Proofs
open Go.RowKit Go.Maps Go.Sort Go.Shelf Go.Ai
theorem Qk.enters89:Ai.Enters Tryz.prog 89:=⟨Tryz.f89,Tryz.func89,by kernel_rfl,by kernel_rfl⟩
theorem Qk.enters53:Ai.Enters Tryz.prog 53:=⟨Tryz.f53,Tryz.func53,by kernel_rfl,by kernel_rfl⟩
theorem Qk.collect_keys {H:Type} {R:Value→Option (DataW H × List MemPlace)} (w:World) (Bm Bo b nn:Nat) (D0:DataW H) (hBm:Bm<w.heap.size) (hm:w.cell? ⟨Bm,Bo,none⟩=some (.map (some b)))
    (hown:w.ownsMap Tryz.prog 3 R b nn D0) (hsz:Maps.size D0≤1000000) :
    Calls Tryz.prog 81 #[.func (.func 89) #[] #[.pointer (some ⟨Bm,Bo,none⟩)]] w fun e w'=>∃ (v:Value) (ss:List Int),e = .returned v∧ss.Perm (intKeys D0)∧w'.ownsRow w.heap.size 3 1 v ss.length (ss.map encZ)∧(v = .slice none 0 0↔ss = [])∧Below w.heap.size w w':=
  (callsIn_wide (n:=3)).1 (Qk.collect_in Fence.wide 3 trivial trivial rfl (gp _) 89 _ trivial (fun _ _=>NS Qk.enters89) _ (Maps.size D0) (by unfold maxLen; omega) (by omega) w
    (Qk.keys_gives Fence.wide 1 trivial rfl (gp _) Bm Bo b nn D0 w hBm hm hown))
theorem ajI {M:Mp} {D:Nat→Prop}:∀ {es:List (AV × AV)} {ms:List MapEntry},dS M D es ms→ms.map (·.key)=es.map fun e=>iP M e.1
  | [],[],_=>rfl
  | e::es,m::ms,h=>by simp [h.1.1,ajI h.2]
  | [],_::_,h=>h.elim
  | _::_,[],h=>h.elim
def afp:Value→Option (DataW Unit × List MemPlace):=fun _=>some (.lit (.bool true),[])
theorem Qk.key3 {z:Int} (h:Kg z):keyOf Tryz.prog 3 (encZ z)=some (.int .i64 z):=by
  have hw:(Lit.int .i64 z).wf=true:=by
    unfold Kg at h
    simp only [Lit.wf,gl,gn]
    exact ⟨h.1,h.2⟩
  simp [keyOf,Tryz.underlying3,mapKey,hw]
theorem Qk.owns {M:Mp} {D:Nat→Prop} {w:World} {L:Ai.Loc} {es:List (AV × AV)} {zs:List Int} (h:MapOk M D w L es) (hz:L1 es=some zs) (hn:zs.Nodup) (h12:zs.length≤1000000) :
    ∃ nn D0,w.ownsMap Tryz.prog 3 afp L.blk nn D0∧(intKeys D0).Perm zs∧Maps.size D0=zs.length:=by
  obtain ⟨⟨ms,clock,hms,hent,hb1,hb2⟩⟩:=h
  obtain ⟨k1,k2⟩:=aeW hz
  have k3:ms.toList.map (·.key)=zs.map encZ:=by
    rw [ajI hent]
    have:es.map (fun e=>iP M e.1)=(es.map (·.1)).map (iP M):=by simp
    rw [this,k1]; simp [iP]
  have hlen:ms.toList.length=zs.length:=by have:=congrArg List.length k3; simpa using this
  have hrd:∀ x∈ms.toList,∃ z,z∈zs∧x.key=encZ z∧WideElems.rd Tryz.prog 3 afp x=some (.int .i64 z,.lit (.bool true)):=by
    intro x hx
    have:x.key∈zs.map encZ:=by rw [← k3]; exact fY.2 ⟨x,hx,rfl⟩
    obtain ⟨z,hz,e⟩:=fY.1 this
    refine ⟨z,hz,e.symm,?_⟩
    unfold WideElems.rd
    rw [← e,Qk.key3 (k2 z hz)]
    rfl
  have hrg:(ms.toList.map (WideElems.rg Tryz.prog 3 afp)).map (fun p=>_root_.Go.intOf p.1)=zs:=by
    have:∀ (l:List MapEntry) (zs:List Int),(∀ x∈l,∃ z,x.key=encZ z∧WideElems.rd Tryz.prog 3 afp x=some (.int .i64 z,.lit (.bool true)))→l.map (·.key)=zs.map encZ→(l.map (WideElems.rg Tryz.prog 3 afp)).map (fun p=>_root_.Go.intOf p.1)=zs:=by
      intro l
      induction l with
      | nil=>intro zs _ h; cases zs with
        | nil=>rfl
        | cons z zs=>cases h
      | cons x l ih=>
        intro zs hx h
        cases zs with
        | nil=>cases h
        | cons z zs=>
          simp only [List.map_cons,List.cons.injEq] at h
          obtain ⟨y,e1,e2⟩:=hx x (by simp)
          have:y=z:=encZ_inj (by rw [← e1,h.1])
          subst this
          simp only [List.map_cons,WideElems.rg,e2,Option.getD_some,_root_.Go.intOf]
          exact congrArg (y::·) (ih zs (fun x' hx'=>hx x' (f0 _ hx')) h.2)
    exact this _ _ (fun x hx=>let ⟨z,_,e1,e2⟩:=hrd x hx; ⟨z,e1,e2⟩) k3
  refine ⟨ms.size,_,⟨ms,clock,hms,⟨?_,⟨fun x hx=>hb2 x hx,?_,?_⟩,fun x hx=>let ⟨z,_,_,e⟩:=hrd x hx; ⟨_,e⟩⟩,gp _,rfl⟩,?_,?_⟩
  · rw [Array.length_toList] at hlen; unfold maxLen; omega
  · exact List.Pairwise.map _ (fun a b h=>Nat.ne_of_lt h) hb1
  · rw [k3]; exact List.Pairwise.map _ (fun a b h e=>h (encZ_inj e)) hn
  · show ((ms.toList.map (WideElems.rg Tryz.prog 3 afp)).foldr DataW.insert [] |>.map fun p=>_root_.Go.intOf p.1).Perm zs
    have:=(WideShapes.sorted_perm (ms.toList.map (WideElems.rg Tryz.prog 3 afp))).map (fun p=>_root_.Go.intOf p.1)
    rwa [hrg] at this
  · show ((ms.toList.map (WideElems.rg Tryz.prog 3 afp)).foldr DataW.insert []).length=zs.length
    rw [(WideShapes.sorted_perm _).length_eq,gR,hlen]
theorem ahP {l l':List Int} (hp:l.Perm l') (h:l.Pairwise (· ≤ ·)) (h':l'.Pairwise (· ≤ ·)):l=l':=
  List.Perm.eq_of_pairwise (le:=fun a b=>a≤b) (fun _ _ _ _ h1 h2=>Int.le_antisymm h1 h2) h h' hp
theorem Qk.sort_calls {M:Mp} {D:Nat→Prop} {K:Heap} {w W:World} (hr:Rel M D K w) (hb:Below w.heap.size w W) (gb cap:Nat) (cur:Array Value) (ss zs:List Int) (hbase:w.heap.size≤gb)
    (hgb:W.heap[gb]?=some (.cells cur 3 (0,0))) (r1:ss.length≤cap) (r2:cap≤maxLen) (r3:cur.size=cap*1) (r4:cur.toList.take (ss.length*1)=ss.map encZ) (h12:ss.length≤1000000) (hper:ss.Perm zs) (hs:zs.Pairwise (· ≤ ·)) :
    Calls Tryz.prog 82 #[.slice (some ⟨gb,0,none⟩) ss.length cap] W fun e w'=>e = .returned (.tuple #[])∧
      fh M D K w (.slice K.nx 0 ss.length 0 true) (K.add (.cells (zs.map ahK) true 1)) (.returned (.slice (some ⟨gb,0,none⟩) ss.length cap)) w':=by
  have hcap:cap≤9223372036854775807:=by unfold maxLen at r2; omega
  have hgl:gb<W.heap.size:=(f8.1 hgb).1
  have hss:∀ j,j<ss.length→cur[j]?=some (encZ ss[j]!):=fun j hj=>by
    have hc:(cur.toList.take (ss.length*1))[j]?=(ss.map encZ)[j]?:=by rw [r4]
    rw [List.getElem?_take_of_lt (by omega),gV,gk hj,Array.getElem?_toList] at hc
    rw [hc,getElem!_pos ss j hj]; rfl
  have hH:Holds (Value.int .i64) W gb 0 ss.toArray:=by
    intro j hj
    have hj:j<ss.length:=by simpa using hj
    refine ⟨?_,by simp [World.frozen?,hgb]⟩
    simp only [World.cell?,hgb,Nat.zero_add,Option.isSome_none,fZ,if_false]
    rw [hss j hj]
    simp [encZ]
  have cS:=Any.slices_Sort_int Tryz.laysSort gb 0 cap ss W hH hgl (by omega)
  refine Calls.mono cS fun e w' he=>?_
  obtain ⟨rfl,n,os,rfl⟩:=he
  refine ⟨rfl,?_⟩
  have hms:ss.mergeSort (fun x y=>decide (x≤y))=zs:=by
    refine ahP ((List.mergeSort_perm _ _).trans hper) ?_ hs
    have:=List.pairwise_mergeSort (le:=fun x y:Int=>decide (x≤y)) (fun a b c h1 h2=>by simp at *; omega) (fun a b=>by simp; omega) ss
    exact this.imp fun h=>by simpa using h
  rw [hms]
  have hzl:zs.length=ss.length:=hper.length_eq.symm
  obtain ⟨W',hW'⟩:∃ W',grow (putRow (Value.int .i64) (Go.Sort.ahead W n) gb 0 zs.toArray) os=W':=⟨_,rfl⟩
  rw [hW']
  have hsz:W.heap.size≤W'.heap.size:=by rw [← hW']; simp
  have hold:∀ c,c<W.heap.size→c≠gb→W'.heap[c]?=W.heap[c]?:=fun c hc hne=>by
    rw [← hW',heap_grow_old _ _ (by simpa using hc)]
    simp only [putRow,mapBlock,heap_ahead]
    rw [Array.getElem?_modify]
    rw [if_neg (fun h=>hne h.symm)]
  have hrow:W'.heap[gb]?=some (.cells (putCells (Value.int .i64) 0 zs.toArray cur) 3 (0,0)):=by
    rw [← hW',heap_grow_old _ _ (by simpa using hgl)]
    simp only [putRow,mapBlock,heap_ahead]
    rw [Array.getElem?_modify,if_pos rfl,hgb]
    rfl
  have hcs:∀ j,j<cap→(W'.cell? ⟨gb,0+j,none⟩).isSome=true∧W'.frozen? ⟨gb,0+j,none⟩=false:=fun j hj=>by
    refine ⟨?_,by simp [World.frozen?,hrow]⟩
    have:j<(putCells (Value.int .i64) 0 zs.toArray cur).size:=by simp [putCells]; omega
    simp [World.cell?,hrow,this]
  have hx:eE (M.put K.nx ⟨gb,0,cap-ss.length,none⟩) (fun b=>D b∨b=K.nx) W' ⟨gb,0,cap-ss.length,none⟩ (some (.cells (zs.map ahK) true 1)):=by
    refine ⟨fun i v hv=>?_,fun _ i hi=>hcs i ?_,gm hgl hsz,fun _=>⟨_,3,hrow⟩,fun _=>?_,rfl⟩
    · obtain ⟨x,hx,rfl⟩:=fY.1 (gi hv)
      have hlt:i<zs.length:=by have:=(gr.1 hv).1; simpa using this
      refine ⟨?_,rfl,trivial⟩
      rw [gV,gk hlt] at hv
      have hxi:zs[i]=x:=by simpa using hv
      have hi':i<cur.size:=by omega
      simp only [iP,World.cell?,hrow,Nat.zero_add,Option.isSome_none,fZ,if_false]
      simp only [putCells,Array.getElem?_mapIdx,Array.getElem?_eq_getElem hi',Option.map_some]
      rw [if_pos ⟨Nat.zero_le _,by simpa using hlt⟩]
      simp [hlt,hxi]
    · have hi':i<(zs.map ahK).length+(cap-ss.length)*1:=hi
      simp at hi'; omega
    · show (zs.map ahK).length+(cap-ss.length)*1≤_
      simp; omega
  obtain ⟨h1,h2⟩:=hr.made (w':=W') (.cells (zs.map ahK) true 1) ⟨gb,0,cap-ss.length,none⟩ hbase (fun c hc=>(hold c (gm hc hb.size) (by omega)).trans (hb.block c hc)) (gu hb.size hsz) (by rw [← hW']; exact hb.os) (by rw [← hW']; exact hb.tape) (by rw [← hW']; exact hb.output) hx
  refine ⟨_,_,?_,h1,h2,by simp [okv]⟩
  simp only [iP,Mp.fR,Loc.at_mk,if_true,Nat.add_zero]
  rw [show ss.length+(cap-ss.length)=cap by omega]
theorem Ext.of_belowQ {M:Mp} {D:Nat→Prop} {K:Heap} {w W:World} (hb:Below w.heap.size w W):Ext M D K w M D K W:=by
  have h0:Ext M D K w M D K w:=.refl
  exact { h0 with
    frame:=fun c hc _=>hb.block c hc
    size:=hb.size
    os:=hb.os
    tape:=hb.tape
    output:=hb.output }
theorem Rel.of_belowQ {M:Mp} {D:Nat→Prop} {K:Heap} {w W:World} (hr:Rel M D K w) (hb:Below w.heap.size w W):Rel M D K W:=
  ⟨hr.dom,fun b hb'=>(hr.blk b hb').keep (fun _ h=>h) (fun _ _=>rfl) (fun hl=>hb.block _ ((hr.blk b hb').lt hl)) hb.size,hr.inj⟩
theorem Qk.sorted_ok:fx Tryz.prog 53 (D7 89):=by
  intro vs K v K' h M D w hp hr hok
  obtain ⟨b,off,l,m,es,zs,rfl,hl,hlm,hm,hzs,hor⟩:=QW h
  have hDb:D b:=by simpa [okL,okv] using hok
  obtain ⟨rw_,g,hg⟩:=zk hl
  have hrow:=xE hr hDb hg
  obtain ⟨c1,_,c3⟩:=hrow.at_ off _ hlm
  simp only [okv] at c3
  have hmap:MapOk M D w (M m) es:=by have:=hr.blk m c3; rwa [Fu hm] at this
  have hnd:zs.Nodup:=by
    rcases hor with ⟨rfl,_⟩ | ⟨hinc,_⟩
    · exact List.nodup_nil
    · exact (qv zs).nodup_iff.1 (hinc.imp fun h=>Int.ne_of_lt h)
  have h12:zs.length≤1000000:=by
    rcases hor with ⟨rfl,_⟩ | ⟨_,h12,_⟩
    · simp
    · exact h12
  obtain ⟨nn,D0,hown,hper,hsize⟩:=Qk.owns hmap hzs hnd h12
  have cK:=Qk.collect_keys w (M b).blk ((M b).base+off) (M m).blk nn D0 hrow.lt c1 hown (by omega)
  have hargs:(List.map (iP M) [AV.func 89 [] [AV.ptr b off]]).toArray = #[.func (.func 89) #[] #[.pointer (some ⟨(M b).blk,(M b).base+off,none⟩)]]:=by simp [iP,ut,hrow.at_at]
  rw [hargs]
  go_enter Tryz.func53,Tryz.ntmps53
  go_wp2_with (go_at_call 81; refine cK.mono ?_; rintro e W ⟨v,ss,rfl,hS,hrow',hnil,hb⟩)
  have hss:ss.Perm zs:=hS.trans hper
  have hsl:ss.length=zs.length:=hss.length_eq
  rcases hor with ⟨hz,rfl,rfl⟩ | ⟨hinc,_,h1,rfl,rfl⟩
  · subst hz
    have hss0:ss = []:=gh (by simpa using hsl)
    have hv:=hnil.2 hss0
    subst hv
    have cN:=Any.slices_Sort_int_none Tryz.laysSort none 0 W
    go_wp2_with (go_at_call 82; refine cN.mono ?_; rintro e w2 ⟨rfl,rfl⟩)
    go_ret
    exact ⟨M,D,rfl,Rel.of_belowQ hr hb,Ext.of_belowQ hb,trivial⟩
  · have hle:(om zs).Pairwise (· ≤ ·):=hinc.imp fun h=>Int.le_of_lt h
    rcases hrow'.2 with ⟨rfl,h0⟩ | ⟨gb,cap,cur,rfl,hbase,hgb,r1,r2,r3,r4⟩
    · omega
    have cS:=Qk.sort_calls hr hb gb cap cur ss (om zs) hbase hgb r1 r2 r3 r4 (by omega) (hss.trans (qv zs).symm) hle
    go_wp2_with (go_at_call 82; refine cS.mono ?_; rintro e w2 ⟨rfl,hpost⟩)
    go_ret
    rw [← hsl]; exact hpost
end Go.Proofs
