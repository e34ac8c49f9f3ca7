/- A call of plain values whose run from an empty heap is known: it answers so from every heap. -/
import Derived.Test.YtpoobhhdgjgdgaaGreatAiCpsRunLo
import Derived.Test.YtpoobhhdgjgdgaaGreatAiMap
import Derived.Test.YtpoobhhdgjgdgaaGreatPaUCode
set_option linter.all false
namespace Go.Ai
theorem Ext.of_below' {M:Mp} {D:Nat→Prop} {K:Heap} {w W:World} (hs:w.heap.size≤W.heap.size) (hf:∀ c,c<w.heap.size→W.heap[c]?=w.heap[c]?) (ho:W.os=w.os) (ht:W.tape=w.tape) (hp:W.output=w.output):Ext M D K w M D K W:={
  keep:=fun _ h=>h
  agree:=fun _ _=>rfl
  old:=fun _ h _=>h
  nx:=fY _
  wrm:=fun _ _ h=>h
  newb:=fun _ h hn=>(hn h).elim
  frame:=fun c hc _=>hf c hc
  unm:=fun _ _ _=>rfl
  size:=hs
  os:=ho
  tape:=ht
  output:=hp }
theorem Rel.of_below' {M:Mp} {D:Nat→Prop} {K:Heap} {w W:World} (hr:Rel M D K w) (hs:w.heap.size≤W.heap.size) (hf:∀ c,c<w.heap.size→W.heap[c]?=w.heap[c]?):Rel M D K W:=
  ⟨hr.dom,fun b hb=>(hr.blk b hb).keep (fun _ h=>h) (fun _ _=>rfl) (fun hl=>hf _ ((hr.blk b hb).lt hl)) hs,hr.inj⟩
def Vx:AV→Bool
  | .int _ _=>true
  | .bool _=>true
  | .str _=>true
  | _=>false
def apl:AV→Bool
  | .tuple l=>l.all Vx
  | v=>Vx v
theorem aou {v:AV} (h:Vx v=true) (M M':Mp):im M v=im M' v:=by cases v<;>first | rfl | cases h
theorem acm {v:AV} (h:Vx v=true) (D:Nat→Prop):okv D v:=by cases v<;>first | exact trivial | (simp [okv]; done) | cases h
theorem anF {v:AV} (h:apl v=true) (M M':Mp):im M v=im M' v:=by
  cases v with
  | tuple l=>
    have h:l.all Vx=true:=h
    simp only [im,mY]
    congr 2
    exact List.map_congr_left fun x hx=>aou (gz.1 h x hx) M M'
  | int _ _=>rfl
  | bool _=>rfl
  | str _=>rfl
  | _=>cases h
theorem aqr {v:AV} (h:apl v=true) (D:Nat→Prop):okv D v:=by
  cases v with
  | tuple l=>
    have h:l.all Vx=true:=h
    simp only [okv]
    exact (nL D _).2 fun x hx=>acm (gz.1 h x hx) D
  | int _ _=>simp [okv]
  | bool _=>simp [okv]
  | str _=>simp [okv]
  | _=>cases h
noncomputable def sameV:AV→AV→Bool
  | .int q a,.int q' b=>ikN q==ikN q'&&decide (a=b)
  | .bool a,.bool b=>a==b
  | _,_=>false
noncomputable def sameL (l:List AV):List AV→Bool:=List.rec (motive:=fun _=>List AV→Bool) (fun l'=>List.rec (motive:=fun _=>Bool) true (fun _ _ _=>false) l')
  (fun a _ ih l'=>List.rec (motive:=fun _=>Bool) false (fun b t _=>andB (sameV a b) (ih t)) l') l
theorem sameV_ok {a b:AV} (h:sameV a b=true):a=b:=by
  unfold sameV at h
  split at h
  · simp only [fV,fN,fX] at h
    rename_i q a q' b
    have:q=q':=amG (by show Nat.beq _ _=true; rw [h.1]; exact Nat.beq_refl _)
    rw [this,h.2]
  · simp only [fN] at h; rw [h]
  · cases h
theorem anz:∀ {l l':List AV},sameL l l'=true→l=l'
  | [],[],_=>rfl
  | [],_::_,h=>by cases h
  | _::_,[],h=>by cases h
  | a::l,b::l',h=>by
    have h0:andB (sameV a b) (sameL l l')=true:=h
    rw [Z0,fV] at h0
    rw [sameV_ok h0.1,anz h0.2]
noncomputable def ahV (vs:List AV) (u:AV) (args:List AV) (H:Heap):aa:=ifB (sameL vs args) (.ret u H) .err
theorem ak4 {vs:List AV} {u:AV} {args:List AV} {H H':Heap} {v:AV} (h:ahV vs u args H = .ret v H'):args=vs∧v=u∧H'=H:=by
  unfold ahV at h
  rw [apK] at h
  split at h
  · rename_i hs
    cases h
    exact ⟨(anz hs).symm,rfl,rfl⟩
  · cases h
theorem apE {vs:List AV} {u:AV} {args:List AV} {H H':Heap} {v:AV} (h:ahV vs u args H = .ret v H'):eo H H':=by
  obtain ⟨_,_,rfl⟩:=ak4 h
  exact .refl
theorem memo_of {P:Program} {tbl:Tr AFn} (T:TblOk P tbl) {N f:Nat} {vs:List AV} {u:AV} {H₁:Heap} (hv:vs.all Vx=true) (hu:apl u=true)
    (h1:call tbl N (.func f [] []) vs ⟨.leaf,0,0⟩ = .ret u H₁):acZ P f (ahV vs u):=by
  intro args H v H' hg M D w hp hr hok
  obtain ⟨rfl,rfl,rfl⟩:=ak4 hg
  obtain ⟨f',first,cap,hfv,hc⟩:=apV T N _ _ _ _ _ h1
  cases hfv
  have hge:∀ b,(⟨.leaf,0,0⟩:Heap).get b=none:=fun b=>Tr.fC _
  have hr0:Rel M (fun _=>False) ⟨.leaf,0,0⟩ w:=⟨fun _ h=>h.elim,fun _ h=>h.elim,fun _ _ h=>h.elim⟩
  obtain ⟨_,hcalls⟩:=hc M (fun _=>False) w ⟨fY _,fun b hb=>by rw [hge] at hb; exact hb.1.elim⟩ hr0
    ((nL _ _).2 fun x hx=>by
      have hx':x∈args:=by simpa using hx
      exact acm (gz.1 hv x hx') _)
  refine Calls.mono (by simpa using hcalls) fun e w' hpost=>?_
  obtain ⟨M',D',he,_,hx,_⟩:=hpost
  have hfr:∀ c,c<w.heap.size→w'.heap[c]?=w.heap[c]?:=fun c hc=>hx.frame c hc fun _ h=>h.elim
  exact ⟨M,D,by rw [he,anF hu M' M],hr.of_below' hx.size hfr,Ext.of_below' hx.size hfr hx.os hx.tape hx.output,aqr hu D⟩
end Go.Ai
/- Two functions as prims: a closure that counts what it has seen (keys of two numbers); a row of pairs that stands in order already. -/
namespace Go.Ai
noncomputable def dblO (H:Heap):List AV→Option (AV × Heap)
  | [.agg [.int .i64 a,.int .i64 b],.ptr v off]=>match sm H v with
    | some l=>match l[off]? with
      | some (.map m)=>match Nat.blt m H.ro,Jg H m with
        | false,some es=>match Gj (.agg [.int,.int]) (.agg [.int .i64 a,.int .i64 b]) es with
          | some none=>match Tx (.agg [.int,.int]) (.agg [.int .i64 a,.int .i64 b]) (.int .i64 1) es with
            | some es'=>some (.bool false,H.set m (.mp es'))
            | none=>none
          | some (some (.int .i64 c))=>match Tx (.agg [.int,.int]) (.agg [.int .i64 a,.int .i64 b]) (.int .i64 (IntKind.i64.wrap (c+1))) es with
            | some es'=>some (.bool (decide (1<IntKind.i64.wrap (c+1))),H.set m (.mp es'))
            | none=>none
          | _=>none
        | _,_=>none
      | _=>none
    | none=>none
  | _=>none
noncomputable def dblG (vs:List AV) (H:Heap):aa:=match dblO H vs with
  | some (v,H')=>.ret v H'
  | none=>.err
def prC (ps:List (Int × Int)):List AV:=ps.flatMap fun e=>[.int .i64 e.1,.int .i64 e.2]
def ads:List AV→Bool
  | .int .i64 a::.int .i64 _::t=>decide (0≤a)&&(decide (a≤1048576)&&((match t with
    | .int .i64 b::_=>decide (a<b)
    | _=>true)&&ads t))
  | []=>true
  | _=>false
noncomputable def aeK (f:Nat) (vs:List AV) (H:Heap):aa:=match vs with
  | [.nilslice,.func g [] []]=>match Nat.beq f g with
    | true=>.ret (.tuple []) H
    | false=>.err
  | [.slice b off len _ _,.func g [] []]=>match Nat.beq f g,H.get b with
    | true,some (.cells l true _)=>match sub l off (len*2) with
      | some s=>match ads s&&Nat.ble len 1000000 with
        | true=>.ret (.tuple []) H
        | false=>.err
      | none=>.err
    | _,_=>.err
  | _=>.err
theorem ak2:∀ {s:List AV},ads s=true→∃ ps:List (Int × Int),s=prC ps∧ps.Pairwise (fun a b=>a.1<b.1)∧∀ e∈ps,0≤e.1∧e.1≤1048576
  | [],_=>⟨[],rfl,.nil,fun _ h=>(nomatch h)⟩
  | .int .i64 a::.int .i64 b::t,h=>by
    simp only [ads,fV,fX] at h
    obtain ⟨h1,h2,h3,h4⟩:=h
    obtain ⟨ps,rfl,hp,hr⟩:=ak2 h4
    refine ⟨(a,b)::ps,rfl,fH.2 ⟨fun e he=>?_,hp⟩,fun e he=>?_⟩
    · cases ps with
      | nil=>cases he
      | cons x ps=>
        have h5:a<x.1:=by simpa [prC] using h3
        rcases gk.1 he with rfl | he
        · exact h5
        · exact Int.lt_trans h5 ((fH.1 hp).1 e he)
    · rcases gk.1 he with rfl | he
      · exact ⟨h1,h2⟩
      · exact hr e he
  | .int .i64 a::[],h=>by cases h
theorem an6:∀ {ps:List (Int × Int)},ps.Pairwise (fun a b=>a.1<b.1)→(∀ e∈ps,0≤e.1∧e.1≤1048576)→ads (prC ps)=true
  | [],_,_=>rfl
  | e::ps,hp,hr=>by
    have h1:=hr e (gp ..)
    have ih:=an6 (fH.1 hp).2 fun x hx=>hr x (fL _ hx)
    have hc:prC (e::ps) = .int .i64 e.1::.int .i64 e.2::prC ps:=rfl
    rw [hc]
    simp only [ads,fV,fX]
    refine ⟨h1.1,h1.2,?_,ih⟩
    cases ps with
    | nil=>rfl
    | cons x ps=>simpa [prC] using (fH.1 hp).1 x (gp ..)
end Go.Ai
/- The functions that the printed text does not reach into. -/
namespace Go.Proofs.YtpoobhhdgjgdgaaGreat.Sh
open Go.Ai
abbrev xH:Nat:=39
abbrev Ua:Nat:=82
noncomputable abbrev bb:List AV→Heap→aa:=ahV [] (.bool true)
noncomputable abbrev aw:List AV→Heap→aa:=dblG
noncomputable abbrev cO:List AV→Heap→aa:=aeK 83
end Go.Proofs.YtpoobhhdgjgdgaaGreat.Sh
