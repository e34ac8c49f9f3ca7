/- slices.Sorted of maps.Keys of a map of rows. -/
import Derived.Test.YtlgbmkemfinogaaGreatLKKeysLKSorted
import Derived.Test.YtlgbmkemfinogaaGreatAiSortedPaLPrims
import Derived.WalkKit
import Derived.OwnWalk
import Derived.Test.YtlgbmkemfinogaaGreatProg
import Derived.Test.YtlgbmkemfinogaaGreatAiMirrorLKInsP
import Derived.Test.YtlgbmkemfinogaaGreatLAPoolLS4
import Derived.Test.YtlgbmkemfinogaaGreatAiTblKs
import Derived.KernelRfl
import Derived.Test.YtlgbmkemfinogaaGreatPaLText
set_option linter.all false
namespace Go.Proofs
open Go.RowKit Go.Maps Go.Sort Go.Shelf Go.Ai
set_option maxRecDepth 100000 in
set_option maxHeartbeats 1000000 in
theorem Qb.keys1N_in {H:Type} {R:Value→Option (DataW H × List MemPlace)} (F:Fence) (n:Nat) (h10:F.fn 83) (hro:F.round=none) (hn:1≤n) (l Bm Bo b nn:Nat) (D0:DataW H) (J:List Int→World→Prop)
    (hY:∀ pre x W,J pre W→pre.length<Maps.size D0→YieldAt F (n-1) Tryz.prog l #[encZ x] W fun e W'=>e = .returned (.bool true)∧J (pre++[x]) W'∧KeepsWalks W W')
    (W:World) (hJ:AbidesFrom W.heap.size J) (hm:W.cell? ⟨Bm,Bo,none⟩=some (.map (some b))) (hown:W.ownsMap Tryz.prog 3 R b nn D0) (h0:J [] W) :
    CallsIn F n Tryz.prog 83 #[.func (.yield l) #[] #[],.pointer (some ⟨Bm,Bo,none⟩)] W fun e W'=>(∃ v,e = .returned v)∧∃ ss:List Int,ss.Perm (intKeys D0)∧J ss W':=by
  refine callsIn_of_wp Tryz.func83 rfl h10 ?_ hro
  simp only [Tryz.ntmps83,List.size_toArray,List.length_cons,List.length_nil,Nat.reduceAdd,Nat.reduceSub,Array.replicate_succ,Array.replicate_zero,List.push_toArray,List.append_toArray,List.nil_append,List.cons_append]
  gi_wp2_with (first
    | (gi_at_range; refine wpListIn_range_own _ rfl _ 94 rfl 3 100 Qk.law3 Tryz.underlying94 _ b nn _ rfl hown ?_; intro w0 hrg0 hg0 hs0)
    | gi_in)
  go_frame
  gi_loopw [3] (fun _ wr=>∃ (left:Lit→Bool) (cnt:Nat) (ss:List Int),wr.ranges Tryz.prog 3 R b W.heap.size nn D0 left cnt∧ss.length+cnt≤Maps.size D0∧CollectedI D0 left ss∧J ss wr)
    (fun _ wr=>wr.rangeLeft b W.heap.size)
  case atStart=>
    exact ⟨_,_,[],hrg0,by simp,CollectedI.start D0,hJ [] W w0 none h0 hg0 (fun r e=>by cases e)⟩
  case round=>
    obtain ⟨left,cnt,ss,hrg,hcs,hC,hJs⟩:=hrel
    gi_wp2_with (first
      | (gi_at_next; refine wpListIn_next_ranges _ rfl _ rfl 3 Qk.law3 R encZ id (fun key kl hk=>by obtain ⟨x,hx,_⟩:=Maps.keyOf_i64 Tryz.underlying3 hk; exact ⟨x,hx⟩) (fun v _ _=>⟨v,rfl⟩) b W.heap.size nn _ _ _ rfl hrg ?_ ?_)
      | gi_in)
    ·
      intro hc0 hl0
      gi_wp2
      go_end0
      exact ⟨⟨_,rfl⟩,ss,hC.perm hown Qk.law3 Tryz.underlying3 hl0,hJs⟩
    ·
      intro x c kl yd yp w2 cnt2 hkey hlk hv hat hrg2 hlt hg2 hs2 hen
      obtain ⟨x',ex,rfl,_⟩:=Maps.keyOf_i64 Tryz.underlying3 hkey
      obtain rfl:x=x':=encZ_inj ex
      have hJ2:J ss w2:=hJ ss wr w2 (some W.heap.size) hJs hg2 (fun r e=>by cases e; exact ⟨gp _,hrg.iter_walk⟩)
      obtain ⟨fn,tmps,assign,body,hy,hR⟩:=hY ss x w2 hJ2 (by omega)
      clear hs2
      gi_wp2
      refine hR.mono ?_
      rintro e W3 ⟨rfl,hJ3,hk3⟩
      gi_wp2
      have hrg3:=hrg2.of_walks hk3
      go_roundw
      case rel=>exact ⟨_,cnt2,ss++[x],hrg3,by simp; omega,hC.step hlk hat,hJ3⟩
      case measure=>rw [hrg3.left_eq,hrg.left_eq]; exact hlt
theorem Qb.keys_gives {H:Type} {R:Value→Option (DataW H × List MemPlace)} (F:Fence) (n:Nat) (h10:F.fn 83) (hro:F.round=none) (hn:1≤n) (Bm Bo b nn:Nat) (D0:DataW H) (w:World) (hBm:Bm<w.heap.size)
    (hm:w.cell? ⟨Bm,Bo,none⟩=some (.map (some b))) (hown:w.ownsMap Tryz.prog 3 R b nn D0) :
    SeqGives F n Tryz.prog 83 #[.pointer (some ⟨Bm,Bo,none⟩)] encZ (fun ss=>ss.Perm (intKeys D0)) (Maps.size D0) w:=fun l J W hW hJ hY h0=>by
  have hown':W.ownsMap Tryz.prog 3 R b nn D0:=by
    have hbl:=hown.lt
    obtain ⟨es,clock,hb,Ft,hs,hD⟩:=hown
    exact ⟨es,clock,(hW.block b hbl).trans hb,Ft,hs,hD⟩
  exact Qb.keys1N_in F n h10 hro hn l Bm Bo b nn D0 J hY W hJ ((hW.cell (p:=⟨Bm,Bo,none⟩) hBm).trans hm) hown' h0
theorem Qb.enters83:Ai.Enters Tryz.prog 83:=⟨Tryz.f83,Tryz.func83,by kernel_rfl,by kernel_rfl⟩
theorem Qb.collect_keys {H:Type} {R:Value→Option (DataW H × List MemPlace)} (w:World) (Bm Bo b nn:Nat) (D0:DataW H) (hBm:Bm<w.heap.size) (hm:w.cell? ⟨Bm,Bo,none⟩=some (.map (some b)))
    (hown:w.ownsMap Tryz.prog 3 R b nn D0) (hsz:Maps.size D0≤1000000) :
    Calls Tryz.prog 81 #[.func (.func 83) #[] #[.pointer (some ⟨Bm,Bo,none⟩)]] w fun e w'=>∃ (v:Value) (ss:List Int),e = .returned v∧ss.Perm (intKeys D0)∧w'.ownsRow w.heap.size 3 1 v ss.length (ss.map encZ)∧(v = .slice none 0 0↔ss = [])∧Below w.heap.size w w':=
  (callsIn_wide (n:=3)).1 (Qk.collect_in Fence.wide 3 trivial trivial rfl (gp _) 83 _ trivial (fun _ _=>NS Qb.enters83) _ (Maps.size D0) (by unfold maxLen; omega) (by omega) w
    (Qb.keys_gives Fence.wide 1 trivial rfl (gp _) Bm Bo b nn D0 w hBm hm hown))
theorem Qb.sorted_ok:fx Tryz.prog 53 (D7 83):=by
  intro vs K v K' h M D w hp hr hok
  obtain ⟨b,off,l,m,es,zs,rfl,hl,hlm,hm,hzs,hor⟩:=QW h
  have hDb:D b:=by simpa [okL,okv] using hok
  obtain ⟨rw_,g,hg⟩:=zk hl
  have hrow:=xE hr hDb hg
  obtain ⟨c1,_,c3⟩:=hrow.at_ off _ hlm
  simp only [okv] at c3
  have hmap:MapOk M D w (M m) es:=by have:=hr.blk m c3; rwa [Fu hm] at this
  have hnd:zs.Nodup:=by
    rcases hor with ⟨rfl,_⟩ | ⟨hinc,_⟩
    · exact List.nodup_nil
    · exact (qv zs).nodup_iff.1 (hinc.imp fun h=>Int.ne_of_lt h)
  have h12:zs.length≤1000000:=by
    rcases hor with ⟨rfl,_⟩ | ⟨_,h12,_⟩
    · simp
    · exact h12
  obtain ⟨nn,D0,hown,hper,hsize⟩:=Qk.owns hmap hzs hnd h12
  have cK:=Qb.collect_keys w (M b).blk ((M b).base+off) (M m).blk nn D0 hrow.lt c1 hown (by omega)
  have hargs:(List.map (iP M) [AV.func 83 [] [AV.ptr b off]]).toArray = #[.func (.func 83) #[] #[.pointer (some ⟨(M b).blk,(M b).base+off,none⟩)]]:=by simp [iP,ut,hrow.at_at]
  rw [hargs]
  go_enter Tryz.func53,Tryz.ntmps53
  go_wp2_with (go_at_call 81; refine cK.mono ?_; rintro e W ⟨v,ss,rfl,hS,hrow',hnil,hb⟩)
  have hss:ss.Perm zs:=hS.trans hper
  have hsl:ss.length=zs.length:=hss.length_eq
  rcases hor with ⟨hz,rfl,rfl⟩ | ⟨hinc,_,h1,rfl,rfl⟩
  · subst hz
    have hss0:ss = []:=gh (by simpa using hsl)
    have hv:=hnil.2 hss0
    subst hv
    have cN:=Any.slices_Sort_int_none Tryz.laysSort none 0 W
    go_wp2_with (go_at_call 82; refine cN.mono ?_; rintro e w2 ⟨rfl,rfl⟩)
    go_ret
    exact ⟨M,D,rfl,Rel.of_belowQ hr hb,Ext.of_belowQ hb,trivial⟩
  · have hle:(om zs).Pairwise (· ≤ ·):=hinc.imp fun h=>Int.le_of_lt h
    rcases hrow'.2 with ⟨rfl,h0⟩ | ⟨gb,cap,cur,rfl,hbase,hgb,r1,r2,r3,r4⟩
    · omega
    have cS:=Qk.sort_calls hr hb gb cap cur ss (om zs) hbase hgb r1 r2 r3 r4 (by omega) (hss.trans (qv zs).symm) hle
    go_wp2_with (go_at_call 82; refine cS.mono ?_; rintro e w2 ⟨rfl,hpost⟩)
    go_ret
    rw [← hsl]; exact hpost
end Go.Proofs
/- slab.least at this program: the least key of a map of which a function says yes, in whatever order the keys come. -/
namespace Go.Proofs.YtlgbmkemfinogaaGreat.least
open Go.RowKit Go.Maps Go.Sort Go.Shelf Go.Ai Go.Proofs
theorem law3:Keyed Tryz.prog 3:=int_keyed Tryz.underlying3
def aij:Value→Option (DataW Value × List MemPlace):=fun v=>some (.held v,[])
theorem key3 {z:Int} (h:in64 z):keyOf Tryz.prog 3 (encZ z)=some (.int .i64 z):=by
  have hw:(Lit.int .i64 z).wf=true:=by
    unfold in64 at h
    simp only [Lit.wf,gl,gn]
    exact ⟨h.1,h.2⟩
  simp [keyOf,Tryz.underlying3,mapKey,hw]
theorem amy {M:Mp} {D:Nat→Prop}:∀ {es:List (AV × AV)} {ms:List MapEntry},dS M D es ms→ms.map (·.key)=es.map fun e=>iP M e.1
  | [],[],_=>rfl
  | e::es,m::ms,h=>by simp [h.1.1,amy h.2]
  | [],_::_,h=>h.elim
  | _::_,[],h=>h.elim
theorem ent_at {M:Mp} {D:Nat→Prop}:∀ {es:List (AV × AV)} {ms:List MapEntry},dS M D es ms→∀ (i:Nat) (m:MapEntry),ms[i]?=some m→∃ e,es[i]?=some e∧m.key=iP M e.1∧m.val=iP M e.2∧okv D e.2
  | [],[],_,i,m,h=>by simp at h
  | e::es,m'::ms,h,i,m,hm=>by
    cases i with
    | zero=>simp at hm; subst hm; exact ⟨e,rfl,h.1.1,h.1.2.1,h.1.2.2.2⟩
    | succ i=>simpa using ent_at h.2 i m (by simpa using hm)
  | [],_::_,h,_,_,_=>h.elim
  | _::_,[],h,_,_,_=>h.elim
theorem owns {M:Mp} {D:Nat→Prop} {w:World} {L:Ai.Loc} {es:List (AV × AV)} {zs:List Int} (h:MapOk M D w L es) (hz:ahY es=some zs) (hn:zs.Nodup) (h12:zs.length≤1000000) :
    ∃ nn D0,w.ownsMap Tryz.prog 3 aij L.blk nn D0∧(∀ x∈zs,Maps.has D0 (.int .i64 x)=true)∧
      ∀ x c,(∀ zd,D0.atKey (.int .i64 x) zd = .held c)→∃ (i:Nat) (e:AV × AV),es[i]?=some e∧zs[i]?=some x∧iP M e.2=c∧okv D e.2:=by
  obtain ⟨⟨ms,clock,hms,hent,hb1,hb2⟩⟩:=h
  obtain ⟨k1,k2⟩:=aay hz
  have k3:ms.toList.map (·.key)=zs.map encZ:=by
    rw [amy hent]
    have:es.map (fun e=>iP M e.1)=(es.map (·.1)).map (iP M):=by simp
    rw [this,k1]; simp [iP]
  have hlen:ms.toList.length=zs.length:=by have:=congrArg List.length k3; simpa using this
  have hrd:∀ x∈ms.toList,∃ z,z∈zs∧x.key=encZ z∧WideElems.rd Tryz.prog 3 aij x=some (.int .i64 z,.held x.val):=by
    intro x hx
    have:x.key∈zs.map encZ:=by rw [← k3]; exact fY.2 ⟨x,hx,rfl⟩
    obtain ⟨z,hz,e⟩:=fY.1 this
    refine ⟨z,hz,e.symm,?_⟩
    unfold WideElems.rd
    rw [← e,key3 (k2 z hz)]
    rfl
  have hmem:∀ p,p∈(ms.toList.map (WideElems.rg Tryz.prog 3 aij)).foldr DataW.insert []↔p∈ms.toList.map (WideElems.rg Tryz.prog 3 aij):=fun p=>(WideShapes.sorted_perm _).mem_iff
  refine ⟨ms.size,_,⟨ms,clock,hms,⟨?_,⟨fun x hx=>hb2 x hx,?_,?_⟩,fun x hx=>let ⟨z,_,_,e⟩:=hrd x hx; ⟨_,e⟩⟩,gp _,rfl⟩,?_,?_⟩
  · rw [Array.length_toList] at hlen; unfold maxLen; omega
  · exact List.Pairwise.map _ (fun a b h=>Nat.ne_of_lt h) hb1
  · rw [k3]; exact List.Pairwise.map _ (fun a b h e=>h (encZ_inj e)) hn
  · intro x hx
    have:encZ x∈ms.toList.map (·.key):=by rw [k3]; exact fY.2 ⟨x,hx,rfl⟩
    obtain ⟨m,hm,e⟩:=fY.1 this
    obtain ⟨z,_,e1,e2⟩:=hrd m hm
    have:x=z:=encZ_inj (e.symm.trans e1)
    subst this
    have hp:(Lit.int .i64 x,DataW.held m.val)∈(ms.toList.map (WideElems.rg Tryz.prog 3 aij)).foldr DataW.insert []:=(hmem _).2 (fY.2 ⟨m,hm,by simp [WideElems.rg,e2]⟩)
    simp only [Maps.has]
    exact List.any_eq_true.2 ⟨_,hp,by simp [Lit.sameKey]⟩
  · intro x c hat
    have h1:=hat .nil
    simp only [DataW.atKey] at h1
    split at h1
    · rename_i p hp
      have hpm:=(hmem p).1 (List.mem_of_find?_eq_some hp)
      have hpk:=List.find?_some hp
      obtain ⟨m,hm,hpe⟩:=fY.1 hpm
      obtain ⟨i,hi⟩:=List.mem_iff_getElem?.1 hm
      obtain ⟨z,_,e1,e2⟩:=hrd m hm
      have hpe:p=(.int .i64 z,.held m.val):=by rw [← hpe]; simp [WideElems.rg,e2]
      subst hpe
      have hzx:z=x:=by simpa [Lit.sameKey] using hpk
      subst hzx
      cases h1
      obtain ⟨e,h3,_,h5,h6⟩:=ent_at hent i m hi
      refine ⟨i,e,h3,?_,h5.symm,h6⟩
      have:(ms.toList.map (·.key))[i]?=some (encZ z):=by rw [gV,hi]; simp [e1]
      rw [k3,gV] at this
      obtain ⟨y,hy,hye⟩:=fV.1 this
      rw [hy,encZ_inj hye]
    · cases h1
structure Mid (M:Mp) (D:Nat→Prop) (H:Ai.Heap) (w:World) (zs:List Int) (ts:List Bool) (left:Lit→Bool) (best:Int) (some_:Bool) (wr:World):Prop where
  rel:Rel M D H wr
  ext:Ext M D H w M D H wr
  least:Least (fun x=>left (.int .i64 x)=false∧(x,true)∈zs.zip ts) best some_
theorem zip_at {zs:List Int} {ts:List Bool} {i:Nat} {x:Int} {t:Bool} (hnd:zs.Nodup) (h1:zs[i]?=some x) (h2:ts[i]?=some t):(x,true)∈zs.zip ts↔t=true:=by
  constructor
  · intro h
    obtain ⟨j,hj⟩:=List.mem_iff_getElem?.1 h
    rw [List.getElem?_zip_eq_some] at hj
    have:i=j:=by
      obtain ⟨hi,e1⟩:=gr.1 h1
      obtain ⟨hj',e2⟩:=gr.1 hj.1
      exact (List.getElem_inj hnd).1 (e1.trans e2.symm)
    subst this
    rw [h2] at hj
    simpa using hj.2
  · intro h
    subst h
    exact List.mem_iff_getElem?.2 ⟨i,by rw [List.getElem?_zip_eq_some]; exact ⟨h1,h2⟩⟩
theorem Mid.next {M:Mp} {D:Nat→Prop} {H:Ai.Heap} {w wr w3:World} {zs:List Int} {ts:List Bool} {left:Lit→Bool} {best x:Int} {s t:Bool} {i:Nat} (h:Mid M D H w zs ts left best s wr) (hnd:zs.Nodup) (h1:zs[i]?=some x) (h2:ts[i]?=some t)
    (hl:left (.int .i64 x)=true) (hr:Rel M D H w3) (hx:Ext M D H w M D H w3) :
    Mid M D H w zs ts (fun z=>left z&&!z.sameKey (.int .i64 x)) (if t&&(!s||decide (x<best)) then x else best) (if t&&(!s||decide (x<best)) then true else s) w3:=by
  refine ⟨hr,hx,h.least.step fun y=>?_⟩
  have e:(left (.int .i64 y)&&!(Lit.int .i64 y).sameKey (.int .i64 x))=false↔left (.int .i64 y)=false∨y=x:=by
    rw [Bool.and_eq_false_iff]
    simp [Lit.sameKey]
  rw [e]
  constructor
  · rintro ⟨h3 | rfl,h4⟩
    · exact .inl ⟨h3,h4⟩
    · exact .inr ⟨rfl,(zip_at hnd h1 h2).1 h4⟩
  · rintro (⟨h3,h4⟩ | ⟨rfl,h4⟩)
    · exact ⟨.inl h3,h4⟩
    · exact ⟨.inr rfl,(zip_at hnd h1 h2).2 h4⟩
theorem aju {M:Mp} {D:Nat→Prop} {H:Ai.Heap} {w wr w2:World} {row:Option Nat} (h0:Rel M D H w) (h:Rel M D H wr) (hx:Ext M D H w M D H wr) (hg:wr.grownBy w2 row) (hrow:∀ k,k<w.heap.size→some k≠row) :
    Rel M D H w2∧Ext M D H w M D H w2:=by
  obtain ⟨g1,g2,g3,g4,g5⟩:=hg
  have hb:∀ c,c<w.heap.size→w2.heap[c]?=wr.heap[c]?:=fun c hc=>g5 c (gm hc hx.size) (hrow c hc)
  refine ⟨⟨h.dom,fun b hD=>(h.blk b hD).keep (fun _ h=>h) (fun _ _=>rfl) (fun hl=>hb _ ((h0.blk b hD).lt hl)) g4,h.inj⟩,?_⟩
  exact { hx with
    frame:=fun c hc hn=>(hb c hc).trans (hx.frame c hc hn)
    size:=gu hx.size g4
    os:=g1.trans hx.os
    tape:=g2.trans hx.tape
    output:=g3.trans hx.output }
set_option maxRecDepth 100000 in
set_option maxHeartbeats 2000000 in
theorem least_ok {cf:bO} (hk:eJ Tryz.prog cf) (hm:cT cf):fx Tryz.prog 46 (agW cf):=by
  intro vs H v H' h M D w hp hr hok
  obtain ⟨rfl,m,f,es,zs,ts,rfl,hes,hzs,hnd,hbig,hts,rfl⟩:=anV h
  have hDm:D m:=by
    have:=(qT _ _).1 hok (.map m) (by simp)
    simpa [okv] using this
  have hmap:MapOk M D w (M m) es:=by have:=hr.blk m hDm; rwa [Fu hes] at this
  obtain ⟨hl1,hsu⟩:=amT hts
  have hzl:zs.length=es.length:=by have:=congrArg List.length (aay hzs).1; simpa using this.symm
  obtain ⟨nn,D0,hown,hhas,hat0⟩:=owns hmap hzs hnd hbig
  have hfin:∀ best s,Least (fun x=>(x,true)∈zs.zip ts) best s→best=(Bp zs ts 0 false).1∧s=(Bp zs ts 0 false).2:=fun best s hL=>by
    have h0:Least (fun _=>False) 0 false:=.inl ⟨rfl,rfl,fun _ h=>h⟩
    have h1:=adT zs ts _ 0 false (by omega) h0
    have e:(fun y=>False∨(y,true)∈zs.zip ts)=fun x=>(x,true)∈zs.zip ts:=by funext y; simp
    rw [e] at h1
    exact hL.eq h1
  have hargs:(List.map (iP M) [AV.map m,AV.func f [] []]).toArray = #[.map (some (M m).blk),.func (.func f) #[] #[]]:=by simp [iP,ut]
  rw [hargs]
  go_enter Tryz.func46,Tryz.ntmps46
  go_wp2_with (first
    | (at_range; refine wpList_range_own _ rfl _ 94 rfl 3 100 law3 Tryz.underlying94 _ (M m).blk nn _ rfl hown ?_; intro w0 hrg0 hg0 hs0)
    | go_in)
  go_frame
  go_loopw [6,7] (fun v6 v7 wr=>∃ (left:Lit→Bool) (cnt:Nat) (best:Int) (s:Bool),wr.ranges Tryz.prog 3 aij (M m).blk w.heap.size nn D0 left cnt∧Mid M D H' w zs ts left best s wr∧v6 = .int .i64 best∧v7 = .bool s)
    (fun _ _ wr=>wr.rangeLeft (M m).blk w.heap.size)
  case atStart=>
    obtain ⟨r1,r2⟩:=aju hr hr .refl hg0 (fun k _=>by simp)
    refine ⟨_,_,0,false,hrg0,⟨r1,r2,.inl ⟨rfl,rfl,fun x hx=>?_⟩⟩,rfl,rfl⟩
    have hxz:x∈zs:=(List.of_mem_zip hx.2).1
    have hx1:has D0 (.int .i64 x)=false:=hx.1
    rw [hhas x hxz] at hx1
    cases hx1
  case round=>
    obtain ⟨left,cnt,best,s,hrg,hmid,rfl,rfl⟩:=hrel
    go_wp2_with (first
      | (at_next; refine wpList_next_ranges _ rfl _ rfl 3 law3 aij encZ id (fun key kl hk=>by obtain ⟨x,hx,_⟩:=Maps.keyOf_i64 Tryz.underlying3 hk; exact ⟨x,hx⟩) (fun v _ _=>⟨v,rfl⟩) (M m).blk w.heap.size nn _ _ _ rfl hrg ?_ ?_)
      | go_in)
    · intro hc0 hl0
      go_wp2
      go_ret2
      have e:(fun x=>left (.int .i64 x)=false∧(x,true)∈zs.zip ts)=fun x=>(x,true)∈zs.zip ts:=by
        funext x; simp [hl0]
      have hL:=hmid.least
      rw [e] at hL
      obtain ⟨rfl,rfl⟩:=hfin _ _ hL
      exact ⟨M,D,by simp [iP,ut],hmid.rel,hmid.ext,by simp [okv,okL]⟩
    · intro x c kl yd yp w2 cnt2 hkey hlk hv hat hrg2 hlt hg2 hs2 hen
      obtain ⟨x',ex,rfl,_⟩:=Maps.keyOf_i64 Tryz.underlying3 hkey
      obtain rfl:x=x':=encZ_inj ex
      cases hv
      obtain ⟨i,e,hei,hzi,hce,hoke⟩:=hat0 x c hat
      obtain ⟨t,hti,hsv⟩:=hsu i e hei
      obtain ⟨q1,q2⟩:=aju hr hmid.rel hmid.ext hg2 (fun k hk e=>by cases e; omega)
      obtain ⟨hent,hcall⟩:=anp hk hm hsv hp q1 hoke
      have hrc:=NS (P:=Tryz.prog) (w:=w2) (f:=f) (args := #[c]) hent
      rw [hce] at hcall
      go_wp2
      refine hcall.mono ?_
      rintro e3 w3 ⟨rfl,r3,x3,k3⟩
      have hrg3:=hrg2.of_walks k3
      have hmid3:=hmid.next hnd hzi hti hlk r3 (q2.trans x3)
      go_wp2
      all_goals refine ⟨⟨_,cnt2,_,_,hrg3,hmid3,?_,?_⟩,by rw [hrg3.left_eq,hrg.left_eq]; exact hlt⟩
      all_goals (have hle:=fun (h:best≤x)=>Int.not_lt.2 h; simp [*,encZ])
end Go.Proofs.YtlgbmkemfinogaaGreat.least
/- The tables of the program's functions, with the library's own where the shelf has them, and 'least'. -/
namespace Go.Proofs.YtlgbmkemfinogaaGreat.Sh
open Go.Ai Go.Proofs
structure TbS (tb:Tr AFn):Prop where
  mono:eD tb
  get:∀ {f:Nat} {x:AFn},(Nat.beq 100 f||(Nat.beq 53 f||(Nat.beq 46 f||Nat.beq 7 f)))=false→W9 Tryz.prog f=some x→tb.get (key f)=some x
  pG_slices_Insert___int_int_:bg tb Bi (qY dw)
  pG_slices_Sorted_int_:bg tb Bw (qY bh)
  pG_slab_least_int___bool_:bg tb Ep (qY cU)
theorem TbS.z {tb:Tr AFn} (T:TbS tb) {f:Nat} {ps:Kp} {rs:List (Rv × Ty)} {l:List (Nat × Wr)} {ty:Tr Ty} {n:Nat} {c:SC} {F:FK ps (Heap→FZ rs HC→ab)} (e:∀ k0,lo ps (DZ (mH l) ty n c rs k0)=cmp ps F (kap rs k0))
    (h:(Bool.casesOn (Nat.beq 100 f||(Nat.beq 53 f||(Nat.beq 46 f||Nat.beq 7 f))) (W9 Tryz.prog f) none:Option AFn)=some (.code (ps.map (·.1)) (Uo c) (rs.map (·.1)))) (hs:Sounds tb l):bg tb f (wrT ps rs F):=by
  refine N8 T.mono e ?_ hs
  cases hb:(Nat.beq 100 f||(Nat.beq 53 f||(Nat.beq 46 f||Nat.beq 7 f))) with
  | true=>rw [hb] at h; cases h
  | false=>rw [hb] at h; exact T.get hb h
theorem anC:fx Tryz.prog 53 bh:=fun vs K v K' h=>by
  unfold bh at h
  split at h
  · rename_i e
    cases h
    exact Qk.sorted_ok vs K v K' e
  · exact Qb.sorted_ok vs K v K' h
theorem akz {vs:List AV} {K K':Heap} {v:AV} (hr:K.ro≤K.nx) (h:bh vs K = .ret v K'):eo K K':=by
  unfold bh at h
  split at h
  · rename_i e
    cases h
    exact ZM hr e
  · exact ZM hr h
noncomputable def tb0:Tr AFn:=((tblS Tryz.prog).set (key 100) (.prim Ns)).set (key 53) (.prim bh)
theorem ap7:Ai.Enters Tryz.prog 100:=⟨Tryz.f100,Tryz.func100,by kernel_rfl,by kernel_rfl⟩
theorem enters46:Ai.Enters Tryz.prog 46:=⟨Tryz.f46,Tryz.func46,by kernel_rfl,by kernel_rfl⟩
theorem tb0_ok:fq Tryz.prog tb0:=((tblS_ok (by kernel_rfl)).prim_set (f:=100) (ao4 Tryz.laysIns) (fun _ _ _ _ hr h=>akX hr h) ap7).prim_set (f:=53) anC (fun _ _ _ _ hr h=>akz hr h) Qk.enters53
theorem agj {f:Nat} {x:AFn} (e:(Nat.beq 100 f||Nat.beq 53 f)=false) (h:W9 Tryz.prog f=some x):tb0.get (key f)=some x:=by
  rw [Bool.or_eq_false_iff] at e
  exact qy e.2 (qy e.1 ((Xw ..).trans h))
theorem y_Index (n:Nat):bg tb0 qD (qH (bw n)):=N8 tb0_ok.mono (AG n) (agj (by kernel_rfl) (by kernel_rfl)) trivial
theorem anx (n:Nat):bg tb0 oR (oO (bI n)):=N8 tb0_ok.mono (xZ n (bw n)) (agj (by kernel_rfl) (by kernel_rfl)) ⟨y_Index n,trivial⟩
theorem y_such (n:Nat):bg tb0 XU (Lo (dB n)):=N8 tb0_ok.mono (Wi n (bI n)) (agj (by kernel_rfl) (by kernel_rfl)) ⟨anx n,trivial⟩
theorem such_w (n:Nat) (v:AV) (H:Heap) (k:AV→Heap→ab):Lo (dB n) ([]++([v]++[])) H k=dB n v H fun b h=>k (.bool b) h:=by kernel_rfl
theorem afu:∀ l:List Bool,VC QS (l.map AV.bool)=true
  | []=>rfl
  | _::l=>afu l
theorem such_ok {H:Heap} {v:AV} {t:Bool} (h:aca H v=some t):aib (aiu tb0) 47 H v=some t:=by
  obtain ⟨b,l,rfl,hlt,hc,hl,rfl⟩:=ans h
  obtain ⟨rw_,g,hg⟩:=zk hc
  unfold aib
  dsimp only
  rw [hg]
  dsimp only
  rw [afu]
  dsimp only
  have hb:Bols (H.shut true) (.slice b 0 l.length 0 false) l:=⟨b,_,rfl,⟨hlt,rw_,g,hg⟩,rfl⟩
  obtain ⟨⟨r,h'⟩,⟨h1,h2⟩,hrun⟩:=afj (n:=l.length+1) hb (by omega) (by omega) false
  dsimp only at h1 h2
  subst h1 h2
  obtain ⟨N,v1,H1,hcall,he⟩:=y_such (l.length+1) [] [] [.slice b 0 l.length 0 false] (H.shut true) (fun v h=>.ret v h) (.bool (decide (false∈l))) (H.shut true) (gp _) (by
    rw [such_w]
    unfold dB A6 vX
    exact hrun fun b h=>.ret (.bool b) h)
  cases he
  rw [callW_of (tbl:=tb0) (n:=N) (fv:=.func 47 [] []) hcall]
theorem least_ok:fx Tryz.prog 46 (Tv 47):=fun vs K v K' h=>Go.Proofs.YtlgbmkemfinogaaGreat.least.least_ok (callW_ok tb0_ok) (anY tb0_ok) vs K v K' (leastB_G (fun _ _=>such_ok) h)
noncomputable def tb1:Tr AFn:=tb0.set (key 46) (.prim (Tv 47))
theorem tb1_ok:fq Tryz.prog tb1:=tb0_ok.prim_set (f:=46) least_ok (fun _ _ _ _ _ h=>amp h) enters46
theorem ak4 {f:Nat} {x:AFn} (e:(Nat.beq 100 f||(Nat.beq 53 f||Nat.beq 46 f))=false) (h:W9 Tryz.prog f=some x):tb1.get (key f)=some x:=by
  rw [Bool.or_eq_false_iff,Bool.or_eq_false_iff] at e
  exact qy e.2.2 (agj (by rw [e.1,e.2.1]; rfl) h)
theorem tb1_s:TbS tb1:=⟨tb1_ok.mono,fun e h=>ak4 (by simp only [Bool.or_eq_false_iff] at e ⊢; exact ⟨e.1,e.2.1,e.2.2.1⟩) h,BE (qy (by kernel_rfl) (qy (by kernel_rfl) (Tr.fN ..))),BE (qy (by kernel_rfl) (Tr.fN ..)),BE (Tr.fN ..)⟩
end Go.Proofs.YtlgbmkemfinogaaGreat.Sh
/- The printed functions at the program's table: each is sound. -/
namespace Go.Proofs.YtlgbmkemfinogaaGreat.Sh
open Go.Ai Go.Proofs
set_option maxRecDepth 100000
section
variable {tb:Tr AFn} (T:TbS tb)
include T
theorem afM (n:Nat):bg tb E4 (Um (dg n)):=T.z (afQ n) (by kernel_rfl) trivial
theorem Ed (n:Nat):bg tb Ac (Ab (cj n)):=T.z (aiK n) (by kernel_rfl) trivial
theorem akq (n:Nat):bg tb acW (abD (eM n)):=T.z (akJ n (cj n)) (by kernel_rfl) ⟨Ed T n,trivial⟩
theorem ON (n:Nat):bg tb Gy (HJ (ce n)):=T.z (agS n (eM n) (cj n)) (by kernel_rfl) ⟨akq T n,Ed T n,trivial⟩
theorem NH (n:Nat):bg tb HF (Hz (cp n)):=T.z (akQ n) (by kernel_rfl) trivial
theorem CY (n:Nat):bg tb vw (vv (bW n)):=T.z (Pv n) (by kernel_rfl) trivial
theorem LD (n:Nat):bg tb zC (zY (aQ n)):=T.z (LZ n (bW n)) (by kernel_rfl) ⟨CY T n,trivial⟩
theorem agZ (n:Nat):bg tb XB (XP (d6 n)):=T.z (ag9 n (aQ n)) (by kernel_rfl) ⟨LD T n,trivial⟩
theorem ae8 (n:Nat):bg tb Xm (Wo (dT n)):=T.z (alQ n) (by kernel_rfl) trivial
theorem ac3 (n:Nat):bg tb Tx (TB (dD n)):=T.z (alA n (dT n)) (by kernel_rfl) ⟨ae8 T n,trivial⟩
theorem aiS (n:Nat):bg tb ZC (aar (ez n)):=T.z (ajf n (dD n) (ce n) (dT n) (cj n)) (by kernel_rfl) ⟨ac3 T n,ON T n,ae8 T n,Ed T n,trivial⟩
theorem afs (n:Nat):bg tb XH (We (dp n)):=T.z (alX n (d6 n) (ez n)) (by kernel_rfl) ⟨agZ T n,aiS T n,trivial⟩
theorem Z6 (n:Nat):bg tb Q5 (Ra (dl n)):=T.z (ai9 n) (by kernel_rfl) trivial
theorem ai5 (n:Nat):bg tb Zf (aab (dM n)):=T.z (ai3 n (cp n) (dl n)) (by kernel_rfl) ⟨NH T n,Z6 T n,trivial⟩
theorem akT (n:Nat):bg tb abO (adf (dW n)):=T.z (ali n (cp n) (dl n)) (by kernel_rfl) ⟨NH T n,Z6 T n,trivial⟩
theorem aja (n:Nat):bg tb aal (Zy (dI n)):=T.z (aiX n) (by kernel_rfl) trivial
theorem Sx (n:Nat):bg tb oU (Jp (b8 n)):=T.z (ad3 n) (by kernel_rfl) trivial
theorem SN (n:Nat):bg tb oP (JA (bZ n)):=T.z (aei n) (by kernel_rfl) trivial
theorem RE (n:Nat):bg tb ye (JB (cO n)):=T.z (ad1 n) (by kernel_rfl) trivial
theorem S3 (n:Nat):bg tb B8 (Jm (cu n)):=T.z (aem n) (by kernel_rfl) trivial
theorem RK (n:Nat):bg tb B0 (JD (cq n)):=T.z (aeu n) (by kernel_rfl) trivial
theorem SI (n:Nat):bg tb B1 (Jf (ct n)):=T.z (aeM n) (by kernel_rfl) trivial
theorem Ss (n:Nat):bg tb Ct (JF (cv n)):=T.z (adW n) (by kernel_rfl) trivial
theorem Su (n:Nat):bg tb Cw (I3 (cr n)):=T.z (adz n) (by kernel_rfl) trivial
theorem P5 (n:Nat):bg tb AP (Hk (cb n)):=T.z (abr n) (by kernel_rfl) trivial
theorem adV (n:Nat):bg tb Js (So (dj n)):=T.z (adU n (b8 n) (bZ n) (cO n) (cu n) (cq n) (ct n) (cv n) (cr n) (cb n)) (by kernel_rfl) ⟨Sx T n,SN T n,RE T n,S3 T n,RK T n,SI T n,Ss T n,Su T n,P5 T n,trivial⟩
theorem amH (n:Nat):bg tb afi (afq (d0 n)):=T.z (alT n (dW n) (dI n) (b8 n) (bZ n) (cO n) (cu n) (cq n) (ct n) (cv n) (dj n) (cr n) (cb n)) (by kernel_rfl) ⟨akT T n,aja T n,Sx T n,SN T n,RE T n,S3 T n,RK T n,SI T n,Ss T n,adV T n,Su T n,P5 T n,trivial⟩
theorem alF (n:Nat):bg tb acK (ads (dX n)):=T.z (akZ n) (by kernel_rfl) trivial
theorem aiM (n:Nat):bg tb ZV (aad (dL n)):=T.z (aiG n (ce n) (cp n) (dp n) (dM n) (d0 n) (dX n)) (by kernel_rfl) ⟨ON T n,NH T n,afs T n,ai5 T n,amH T n,alF T n,trivial⟩
theorem aea (n:Nat):bg tb CV (RQ (cZ n)):=T.z (aes n (cj n)) (by kernel_rfl) ⟨Ed T n,trivial⟩
theorem Lj (n:Nat):bg tb yE (yD (cR n)):=T.z (Kv n (cZ n)) (by kernel_rfl) ⟨aea T n,trivial⟩
theorem G4 (n:Nat):bg tb wg (we (cG n)):=T.z (G6 n (cR n)) (by kernel_rfl) ⟨Lj T n,trivial⟩
theorem aiO (n:Nat):bg tb Zx (Zs (dK n)):=T.z (aiY n (cj n) (cG n)) (by kernel_rfl) ⟨Ed T n,G4 T n,trivial⟩
theorem alr (n:Nat):bg tb abW (ac5 (eI n)):=T.z (ak6 n (dg n) (ce n) (cp n) (dL n) (dK n) (dp n)) (by kernel_rfl) ⟨afM T n,ON T n,NH T n,aiM T n,aiO T n,afs T n,trivial⟩
theorem anE (n:Nat):bg tb ah4 (ahk (fg n)):=T.z (anZ n (eI n)) (by kernel_rfl) ⟨alr T n,trivial⟩
theorem akh (n:Nat):bg tb acj (acQ (eK n)):=T.z (alf n (fg n)) (by kernel_rfl) ⟨anE T n,trivial⟩
theorem akL (n:Nat):bg tb abj (abZ (eO n)):=T.z (alo n (eK n) (dD n)) (by kernel_rfl) ⟨akh T n,ac3 T n,trivial⟩
theorem Pt (n:Nat):bg tb Dk (Dd (cP n)):=T.z (Pq n) (by kernel_rfl) trivial
theorem zU (n:Nat):bg tb vI (vF (ca n)):=T.z (afR n) (by kernel_rfl) trivial
theorem NV (n:Nat):bg tb G7 (G0 (da n)):=T.z (akx n (ca n)) (by kernel_rfl) ⟨zU T n,trivial⟩
theorem agO (n:Nat):bg tb XJ (Wb (dP n)):=T.z (ahM n (ca n) (da n)) (by kernel_rfl) ⟨zU T n,NV T n,trivial⟩
theorem al1 (n:Nat):bg tb ae4 (aft (eC n)):=T.z (amB n) (by kernel_rfl) trivial
theorem ahS (n:Nat):bg tb aaI (abg (cE n)):=T.z (aop n (eO n) (cP n) (dP n) (eC n)) (by kernel_rfl) ⟨akL T n,Pt T n,agO T n,al1 T n,trivial⟩
theorem qj (n:Nat):bg tb oG (oI (bu n)):=T.z (abf n) (by kernel_rfl) trivial
theorem DG (n:Nat):bg tb wU (xf (bV n)):=T.z (YY n) (by kernel_rfl) trivial
theorem BM (n:Nat):bg tb uU (uJ (bC n)):=T.z (Ol n) (by kernel_rfl) trivial
theorem aeE (n:Nat):bg tb Sn (RG (ed n)):=T.z (aec n) (by kernel_rfl) trivial
theorem afG (n:Nat):bg tb Us (UG (dA n)):=T.z (afD n (ed n)) (by kernel_rfl) ⟨aeE T n,trivial⟩
theorem YJ (n:Nat):bg tb MC (Mi (de n)):=T.z (YI n) (by kernel_rfl) trivial
theorem wc (n:Nat):bg tb qW (qP (bB n)):=T.z (Hn n (dA n) (de n)) (by kernel_rfl) ⟨afG T n,YJ T n,trivial⟩
theorem OB (n:Nat):bg tb Fw (Fy (bR n)):=T.z (aax n (bB n) (qY dw)) (by kernel_rfl) ⟨wc T n,T.pG_slices_Insert___int_int_,trivial⟩
theorem Za (n:Nat):bg tb M3 (Nf (dc n)):=T.z (Y6 n (bV n) (bC n) (bR n)) (by kernel_rfl) ⟨DG T n,BM T n,OB T n,trivial⟩
theorem agT (n:Nat):bg tb XX (V6 (dQ n)):=T.z (ag2 n (ca n) (da n)) (by kernel_rfl) ⟨zU T n,NV T n,trivial⟩
theorem Ou (n:Nat):bg tb Fm (Fq (cX n)):=T.z (aau n (dc n) (dQ n)) (by kernel_rfl) ⟨Za T n,agT T n,trivial⟩
theorem Om (n:Nat):bg tb Fr (Fz (ba n)):=T.z (aaT n (bu n) (cX n)) (by kernel_rfl) ⟨qj T n,Ou T n,trivial⟩
theorem FO (n:Nat):bg tb xX (xp (aM n)):=T.z (RF n) (by kernel_rfl) trivial
theorem Tb (n:Nat):bg tb FW (FJ (aU n)):=T.z (Sz n) (by kernel_rfl) trivial
theorem Ni (n:Nat):bg tb DB (D3 (bT n)):=T.z (Zb n (bV n)) (by kernel_rfl) ⟨DG T n,trivial⟩
theorem acm (n:Nat):bg tb QD (Ql (bH n)):=T.z (adr n (bu n) (bT n)) (by kernel_rfl) ⟨qj T n,Ni T n,trivial⟩
theorem aaS (n:Nat):bg tb OV (O4 (bz n)):=T.z (aaZ n (bu n)) (by kernel_rfl) ⟨qj T n,trivial⟩
theorem YL (n:Nat):bg tb MK (MR (dt n)):=T.z (YX n (bu n)) (by kernel_rfl) ⟨qj T n,trivial⟩
theorem agx (n:Nat):bg tb aa5 (aaW (cF n)):=T.z (an7 n (dt n)) (by kernel_rfl) ⟨YL T n,trivial⟩
theorem abx (n:Nat):bg tb QB (Qe (dG n)):=T.z (act n (bu n) (cX n) (bT n)) (by kernel_rfl) ⟨qj T n,Ou T n,Ni T n,trivial⟩
theorem FC (n:Nat):bg tb yO (y5 (cx n)):=T.z (aaw n) (by kernel_rfl) trivial
theorem AE (n:Nat):bg tb qD (qH (bw n)):=T.z (AG n) (by kernel_rfl) trivial
theorem ajd (n:Nat):bg tb Zp (aaj (eu n)):=T.z (aiL n) (by kernel_rfl) trivial
theorem acf (n:Nat):bg tb TA (TG (cW n)):=T.z (akU n (eu n)) (by kernel_rfl) ⟨ajd T n,trivial⟩
theorem PS (n:Nat):bg tb HK (GQ (bq n)):=T.z (acJ n (dG n) (cx n) (qY cU) (bw n) (cW n)) (by kernel_rfl) ⟨abx T n,FC T n,T.pG_slab_least_int___bool_,AE T n,acf T n,trivial⟩
theorem amq (n:Nat):bg tb aeX (afg (eQ n)):=T.z (amd n (ca n) (da n)) (by kernel_rfl) ⟨zU T n,NV T n,trivial⟩
theorem ahZ (n:Nat):bg tb WH (W6 (d8 n)):=T.z (ahA n (ca n) (da n)) (by kernel_rfl) ⟨zU T n,NV T n,trivial⟩
theorem YU (n:Nat):bg tb Mo (MZ (dr n)):=T.z (Y4 n (bV n) (bB n) (bC n) (bR n)) (by kernel_rfl) ⟨DG T n,wc T n,BM T n,OB T n,trivial⟩
theorem acs (n:Nat):bg tb QK (Qp (db n)):=T.z (acO n (bu n) (eQ n) (d8 n) (bW n) (dr n)) (by kernel_rfl) ⟨qj T n,amq T n,ahZ T n,CY T n,YU T n,trivial⟩
theorem IZ (n:Nat):bg tb oR (oO (bI n)):=T.z (xZ n (bw n)) (by kernel_rfl) ⟨AE T n,trivial⟩
theorem alE (n:Nat):bg tb ade (adp (ec n)):=T.z (ala n) (by kernel_rfl) trivial
theorem QN (n:Nat):bg tb GJ (Gr (aZ n)):=T.z (acr n (db n) (cx n) (bI n) (ec n)) (by kernel_rfl) ⟨acs T n,FC T n,IZ T n,alE T n,trivial⟩
theorem Vw (n:Nat):bg tb IJ (IG (dZ n)):=T.z (Vr n) (by kernel_rfl) trivial
theorem Ug (n:Nat) (hc:tb.get (key tZ)=some Ud):bg tb tZ (Gz (du n)):=N8 T.mono (TV n (cE n) (ba n) (cF n) (bq n) (aZ n) (dZ n)) hc ⟨ahS T n,Om T n,agx T n,PS T n,QN T n,Vw T n,trivial⟩
theorem W5 (n:Nat):bg tb La (KL (bj n)):=T.z (X6 n (aM n)) (by kernel_rfl) ⟨FO T n,trivial⟩
theorem TK (n:Nat):bg tb HH (G3 (aW n)):=T.z (T3 n) (by kernel_rfl) trivial
theorem GZ (n:Nat):bg tb yX (y9 (aL n)):=T.z (Tl n) (by kernel_rfl) trivial
theorem BZ (n:Nat):bg tb ta (sY (cg n)):=T.z (Ba n) (by kernel_rfl) trivial
theorem ado (n:Nat):bg tb QM (PD (bG n)):=T.z (acE n (qY bh) (cx n) (cW n) (cg n)) (by kernel_rfl) ⟨T.pG_slices_Sorted_int_,FC T n,acf T n,BZ T n,trivial⟩
theorem DT (n:Nat):bg tb tx (tz (cn n)):=T.z (DV n) (by kernel_rfl) trivial
theorem aaP (n:Nat):bg tb OD (Ot (cL n)):=T.z (aa0 n (bu n) (qY bh) (cn n)) (by kernel_rfl) ⟨qj T n,T.pG_slices_Sorted_int_,DT T n,trivial⟩
theorem Tz (n:Nat):bg tb Hm (Gk (aX n)):=T.z (TC n (cL n) (aL n)) (by kernel_rfl) ⟨aaP T n,GZ T n,trivial⟩
theorem N7 (n:Nat) (hw:bg tb tZ (qY be)) (hc:tb.get (key ue)=some N1):bg tb ue (AH (c8 n)):=N8 T.mono (Ny n (cE n) (ba n) (aM n) (aU n) (bH n) (bz n) (qY be) (bj n) (cF n) (aW n) (aL n) (bq n) (aZ n) (bG n) (aX n)) hc ⟨ahS T n,Om T n,FO T n,Tb T n,acm T n,aaS T n,hw,W5 T n,agx T n,TK T n,GZ T n,PS T n,QN T n,ado T n,Tz T n,trivial⟩
end
end Go.Proofs.YtlgbmkemfinogaaGreat.Sh
/- The chapter's example, run by the kernel; the table with its answer. -/
namespace Go.Proofs.YtlgbmkemfinogaaGreat.Sh
open Go.Ai Go.Proofs
set_option maxRecDepth 1000000 in
set_option maxHeartbeats 1000000000 in
theorem apB (J:Bool→ab):du 5000 ⟨.leaf,0,0⟩ (fun b _=>J b)=J true:=by kernel_rfl
theorem works_w (n:Nat) (H:Heap) (k:AV→Heap→ab):Gz (du n) ([]++([]++[])) H k=du n H fun b h=>k (.bool b) h:=by kernel_rfl
theorem works_ok:fx Tryz.prog 7 (aiq [] (.bool true)):=by
  have hr:=(works_w 5000 ⟨.leaf,0,0⟩ fun v _=>.ret v ⟨.leaf,0,0⟩).trans (apB fun b=>.ret (.bool b) ⟨.leaf,0,0⟩)
  generalize 5000=n at hr
  obtain ⟨N,v,H1,h1,h2⟩:=Ug tb1_s n (ak4 (by kernel_rfl) (by kernel_rfl)) [] [] [] ⟨.leaf,0,0⟩ (fun v _=>.ret v ⟨.leaf,0,0⟩) (.bool true) ⟨.leaf,0,0⟩ (gp _) hr
  cases h2
  exact memo_of tb1_ok rfl rfl h1
theorem enters7:Ai.Enters Tryz.prog 7:=⟨Tryz.f7,Tryz.func7,by kernel_rfl,by kernel_rfl⟩
noncomputable def tb:Tr AFn:=tb1.set (key 7) (.prim (aiq [] (.bool true)))
theorem tb_ok:fq Tryz.prog tb:=tb1_ok.prim_set (f:=7) works_ok (fun _ _ _ _ _ h=>anR h) enters7
theorem tb_s:TbS tb:=⟨tb_ok.mono,fun e h=>by
  simp only [Bool.or_eq_false_iff] at e
  exact qy e.2.2.2 (ak4 (by rw [e.1,e.2.1,e.2.2.1]; rfl) h),BE (qy (by kernel_rfl) (qy (by kernel_rfl) (qy (by kernel_rfl) (Tr.fN ..)))),BE (qy (by kernel_rfl) (qy (by kernel_rfl) (Tr.fN ..))),BE (qy (by kernel_rfl) (Tr.fN ..))⟩
theorem Z_frames (n:Nat):bg tb ue (AH (c8 n)):=N7 tb_s n (BE (Tr.fN ..)) (tb_s.get (by kernel_rfl) (by kernel_rfl))
end Go.Proofs.YtlgbmkemfinogaaGreat.Sh
