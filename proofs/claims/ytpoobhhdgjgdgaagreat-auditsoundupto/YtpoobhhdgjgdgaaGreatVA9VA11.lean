/- The snapshot's rows; frames that are one's own. -/
import Derived.Test.YtpoobhhdgjgdgaaGreatVA6VA8
import Derived.Test.YtpoobhhdgjgdgaaGreatAiCallSym
import Derived.Shelf.Spec.SlicesInsert
import Derived.Shelf.Spec.SlicesInsertGrow
import Derived.Test.YtpoobhhdgjgdgaaGreatVUPlan5VA1
set_option linter.all false
namespace Go.Proofs.YtpoobhhdgjgdgaaGreat.Sh
open Go.Ai
theorem aod (a b:Int):([AV.int .i64 a,.int .u8 b])[0]?=some (.int .i64 a):=rfl
theorem sp_1u (a b:Int):([AV.int .i64 a,.int .u8 b])[1]?=some (.int .u8 b):=rfl
def mapC (a:Int) (b1 b2 b3 b4 b5 b6:Bool) (c:Int):List AV:=[.int .i64 a,.bool b1,.bool b2,.bool b3,.bool b4,.bool b5,.bool b6,.int .i64 c]
theorem map_c0 (a:Int) (b1 b2 b3 b4 b5 b6:Bool) (c:Int):(mapC a b1 b2 b3 b4 b5 b6 c)[0]?=some (.int .i64 a):=rfl
theorem map_c1 (a:Int) (b1 b2 b3 b4 b5 b6:Bool) (c:Int):(mapC a b1 b2 b3 b4 b5 b6 c)[1]?=some (.bool b1):=rfl
theorem map_c2 (a:Int) (b1 b2 b3 b4 b5 b6:Bool) (c:Int):(mapC a b1 b2 b3 b4 b5 b6 c)[2]?=some (.bool b2):=rfl
theorem aqE (a:Int) (b1 b2 b3 b4 b5 b6:Bool) (c:Int):(mapC a b1 b2 b3 b4 b5 b6 c)[1+6]?=some (.int .i64 c):=rfl
def MapdIn (n:Nat) (h:Heap) (v:AV):Prop:=∃ (m:Nat) (A:Nat→Int) (b1 b2 b3 b4 b5 b6:Nat→Bool) (C:Nat→Int),m<n∧bK h v 8 m fun i=>mapC (A i) (b1 i) (b2 i) (b3 i) (b4 i) (b5 i) (b6 i) (C i)
theorem MapdIn.grow {n:Nat} {h h':Heap} {v:AV} (s:MapdIn n h v) (g:ba h h'):MapdIn n h' v:=by
  obtain ⟨m,A,b1,b2,b3,b4,b5,b6,C,h1,h2⟩:=s
  exact ⟨m,A,b1,b2,b3,b4,b5,b6,C,h1,bK.grow h2 g⟩
def ahR (a b:Int) (u:AV) (c:Int) (v:AV):List AV:=[.int .i64 a,.int .i64 b,u,.int .i64 c,v]
theorem proc_0 (a b:Int) (u:AV) (c:Int) (v:AV):(ahR a b u c v)[0]?=some (.int .i64 a):=rfl
theorem proc_1 (a b:Int) (u:AV) (c:Int) (v:AV):(ahR a b u c v)[1]?=some (.int .i64 b):=rfl
theorem proc_4 (a b:Int) (u:AV) (c:Int) (v:AV):(ahR a b u c v)[4]?=some v:=rfl
theorem aoX (a b:Int) (u:AV) (c:Int) (v:AV):sub (ahR a b u c v) 2 2=some [u,.int .i64 c]:=by rw [pG]; rfl
def ProcsIn (n:Nat) (h:Heap) (v:AV):Prop:=∃ (m:Nat) (A B:Nat→Int) (U:Nat→AV) (C:Nat→Int) (V:Nat→AV),(m<n∧m≤1048576)∧bK h v 5 m (fun i=>ahR (A i) (B i) (U i) (C i) (V i))∧∀ i,i<m→SpIn h (U i)∧MapdIn n h (V i)
theorem ProcsIn.grow {n:Nat} {h h':Heap} {v:AV} (s:ProcsIn n h v) (g:ba h h'):ProcsIn n h' v:=by
  obtain ⟨m,A,B,U,C,V,h1,h2,h3⟩:=s
  exact ⟨m,A,B,U,C,V,h1,bK.grow h2 g,fun i hi=>⟨(h3 i hi).1.grow g,(h3 i hi).2.grow g⟩⟩
structure StZ where
  m:Nat
  F:Nat→Int
  U:Nat→Int
  free:List Int
  whole:Bool
instance:Inhabited StZ:=⟨⟨0,fun _=>0,fun _=>0,[],false⟩⟩
def stC (a b:AV) (w:Bool) (c d:AV):List AV:=[a,b,.bool w,c,d]
theorem st_0 (a b:AV) (w:Bool) (c d:AV):(stC a b w c d)[0]?=some a:=rfl
theorem st_1 (a b:AV) (w:Bool) (c d:AV):(stC a b w c d)[1]?=some b:=rfl
theorem st_2 (a b:AV) (w:Bool) (c d:AV):(stC a b w c d)[2]?=some (.bool w):=rfl
theorem st_3 (a b:AV) (w:Bool) (c d:AV):(stC a b w c d)[3]?=some c:=rfl
theorem st_4 (a b:AV) (w:Bool) (c d:AV):(stC a b w c d)[4]?=some d:=rfl
structure eR (n:Nat) (h:Heap) (z:StZ) (a b c d:AV):Prop where
  own:OwIn h a z.m z.F z.U
  om:z.m<n
  big:z.m≤1048576
  free:cQ h .i64 b z.free
  fm:z.free.length<n
  slots:∃ l,cQ h .i64 c l∧l.length<n
  procs:ProcsIn n h d
theorem eR.grow {n:Nat} {h h':Heap} {z:StZ} {a b c d:AV} (s:eR n h z a b c d) (g:ba h h'):eR n h' z a b c d:=
  ⟨s.own.grow g,s.om,s.big,s.free.grow g,s.fm,have ⟨l,h1,h2⟩:=s.slots; ⟨l,h1.grow g,h2⟩,s.procs.grow g⟩
theorem v_mine_8 {n:Nat} (hn:1100<n) {h0:Heap} (hro:h0.ro≤h0.nx) {z:StZ} {va vb vc vd:AV} (hst:eR n h0 z va vb vc vd) {x:Nat} (hx:h0.cl x (stC va vb z.whole vc vd)) :
    aR (fun k=>xc n (al n) (aV n) (bJ n) (bs n) (bu n) k (.ptr x 0) h0) fun _ h'=>ba h0 h':=by
  unfold xc
  obtain ⟨m,A,B,U,C,V,hm,hs0,hUV⟩:=hst.procs
  obtain ⟨sl,hsl,hsn⟩:=hst.slots
  simp only [aD,gU hx,st_4,bK.len hs0]
  have key:∀ (q i:Nat) (h:Heap),ba h0 h→i≤m→m-i<q→aR (fun k=>nq n (al n) (aV n) (bJ n) (bs n) (bu n) k q (.ptr x 0) vd (m:Int) (i:Int) h) fun _ h'=>ba h0 h':=by
    intro q
    induction q with
    | zero=>omega
    | succ q ih=>
      intro i h g hi hq
      simp only [ahX]
      unfold xF Di
      refine aJ.ifB (fun e=>?_) fun _=>jT g
      rw [kj,fY] at e
      have hlt:i<m:=by omega
      have hsm:=hs0.1
      refine aJ.copy (hs0.grow g) (g.le hro) hlt rfl rfl fun a b y d h1 hy g'=>?_
      have g1:=g.trans g'
      obtain ⟨hU,m2,A2,b1,b2,b3,b4,b5,b6,C2,hm2,hs2⟩:=hUV i hlt
      have inner:∀ (q2 i2:Nat) (h2:Heap),ba h1 h2→i2≤m2→m2-i2<q2→aR (fun k=>rg n (al n) (aV n) (bJ n) (bs n) (bu n) k (nq n (al n) (aV n) (bJ n) (bs n) (bu n) k q) q2 (.ptr x 0) (.ptr y 0) vd (m:Int) (i:Int) (V i) (m2:Int) (i2:Int) h2) fun _ h'=>ba h0 h':=by
        intro q2
        induction q2 with
        | zero=>omega
        | succ q2 ih2=>
          intro i2 h2 g2 hi2 hq2
          simp only [aiq]
          unfold xl Dz
          have g02:=g1.trans g2
          refine aJ.ifB (fun e=>?_) fun _=>?_
          · rw [kj,fY] at e
            have hlt2:i2<m2:=by omega
            have hsm2:=hs2.1
            refine aJ.copy (hs2.grow g02) (g02.le hro) hlt2 rfl rfl fun a3 b3' y3 d3 h3 hy3 g3=>?_
            have g03:=g02.trans g3
            simp only [aD,gU ((g2.trans g3).cl hy),aoX,gU hy3,map_c0]
            have f5:∀ (b:Bool) (h5:Heap),ba h1 h5→aR (fun k=>ri n (al n) (aV n) (bJ n) (bs n) (bu n) k (rg n (al n) (aV n) (bJ n) (bs n) (bu n) k (nq n (al n) (aV n) (bJ n) (bs n) (bu n) k q) q2) (.ptr x 0) (.ptr y 0) vd (m:Int) (i:Int) (V i) (m2:Int) (i2:Int) b h5) fun _ h'=>ba h0 h':=by
              intro b h5 g5
              unfold ri
              refine aJ.ifB (fun _=>jT (g1.trans g5)) fun _=>?_
              simp only [aD,js (show i2≤9223372036854775806 by omega)]
              exact ih2 (i2+1) h5 g5 (by omega) (by omega)
            have f4:∀ (b:Bool) (h5:Heap),ba h3 h5→aR (fun k=>rj n (al n) (aV n) (bJ n) (bs n) (bu n) k (rg n (al n) (aV n) (bJ n) (bs n) (bu n) k (nq n (al n) (aV n) (bJ n) (bs n) (bu n) k q) q2) (.ptr x 0) (.ptr y 0) (.ptr y3 0) vd (m:Int) (i:Int) (V i) (m2:Int) (i2:Int) b h5) fun _ h'=>ba h0 h':=by
              intro b h5 g5
              have g15:=(g2.trans g3).trans g5
              unfold rj
              refine aJ.ifB (fun _=>f5 true h5 g15) fun _=>?_
              simp only [aD,gU (g5.cl hy3),map_c2]
              refine aJ.ifB (fun _=>?_) fun _=>f5 false h5 g15
              simp only [aD,gU ((g1.trans g15).cl hx),st_3,gU (g5.cl hy3),aqE]
              refine aR.bind (aaf (hsl.grow (g1.trans g15)) hsn (C2 i2)) ?_
              rintro r6 h6 ⟨rfl,rfl⟩
              exact f5 _ h6 g15
            refine aR.bind (v_mapped hn (g03.le hro) (hU.grow g03) (C i) (A2 i2)) ?_
            rintro r4 h4 g4
            refine aJ.ifB (fun _=>f4 true h4 g4) fun _=>?_
            simp only [aD,gU (g4.cl hy3),map_c1]
            refine aJ.ifB (fun _=>?_) fun _=>f4 false h4 g4
            have g04:=g03.trans g4
            simp only [aD,gU (g04.cl hx),st_0,gU (g4.cl hy3),aqE]
            refine aR.bind (v_has (g04.le hro) (hst.own.grow g04) hst.om (C2 i2) 2) ?_
            rintro r6 h6 g6
            exact f4 _ h6 (g4.trans g6)
          · simp only [aD,js (show i≤9223372036854775806 by omega)]
            exact ih (i+1) h2 g02 (by omega) (by omega)
      have f7:∀ (b:Bool) (h2:Heap),ba h1 h2→aR (fun k=>tS n (al n) (aV n) (bJ n) (bs n) (bu n) k (nq n (al n) (aV n) (bJ n) (bs n) (bu n) k q) (.ptr x 0) (.ptr y 0) vd (m:Int) (i:Int) b h2) fun _ h'=>ba h0 h':=by
        intro b h2 g2
        unfold tS
        refine aJ.ifB (fun _=>jT (g1.trans g2)) fun _=>?_
        simp only [aD,gU (g2.cl hy),proc_4,bK.len hs2]
        exact inner n 0 h2 g2 (by omega) (by omega)
      have f6:∀ (b:Bool) (h2:Heap),ba h1 h2→aR (fun k=>ul n (al n) (aV n) (bJ n) (bs n) (bu n) k (nq n (al n) (aV n) (bJ n) (bs n) (bu n) k q) (.ptr x 0) (.ptr y 0) vd (m:Int) (i:Int) b h2) fun _ h'=>ba h0 h':=by
        intro b h2 g2
        have g02:=g1.trans g2
        unfold ul
        refine aJ.ifB (fun _=>f7 true h2 g2) fun _=>?_
        simp only [aD,gU (g02.cl hx),st_0,gU (g2.cl hy),proc_1]
        refine aR.bind (v_has (g02.le hro) (hst.own.grow g02) hst.om (B i) 3) ?_
        rintro r3 h3 g3
        exact f7 _ h3 (g2.trans g3)
      simp only [aD,gU hy,proc_0]
      refine aJ.ifB (fun _=>f6 true h1 .refl) fun _=>?_
      exact f6 _ h1 .refl
  exact key n 0 h0 .refl (by omega) (by omega)
theorem arY {n:Nat} {zc:bA} (hn:dt n zc) (hn':1100<n) {h0:Heap} (hro:h0.ro≤h0.nx) {t pp:AV} (ht:cQ h0 .i64 t zc.fi) (hp:dB h0 pp zc.parts) {w:Nat} (hw:h0.cl w (ry zc t pp)) {p:Nat} (hpl:p<zc.parts.length) {z:StZ} {va vb vc vd:AV} (hst:eR n h0 z va vb vc vd) {x:Nat} (hx:h0.cl x (stC va vb z.whole vc vd)) :
    aR (fun k=>vH n (al n) (aV n) (bJ n) (bs n) (bu n) k (p:Int) (.ptr w 0) (.ptr x 0) h0) fun _ h'=>ba h0 h':=by
  unfold vH
  simp only [aD,gU hw,bC]
  refine c9.bind (v_Base hn hro (Cfg.mk' ht hp) p) ?_
  rintro b e h1 ⟨g1,rfl⟩
  refine aJ.ifB (fun _=>jT g1) fun e0=>?_
  obtain ⟨sl,hsl,hsn⟩:=hst.slots
  simp only [aD,gU (g1.cl hx),st_3,hsl.len]
  have key:∀ (q i:Nat) , i≤sl.length→sl.length-i<q→aR (fun k=>tp n (al n) (aV n) (bJ n) (bs n) (bu n) k q (p:Int) (.ptr w 0) (.ptr x 0) b vc (sl.length:Int) (i:Int) h1) fun _ h'=>ba h0 h':=by
    intro q
    induction q with
    | zero=>omega
    | succ q ih=>
      intro i hi hq
      simp only [ain]
      unfold xA
      refine aJ.ifB (fun e=>?_) fun _=>?_
      · rw [kj,fY] at e
        have hsm:=hsl.small
        have f10:∀ c:Bool,aR (fun k=>rU n (al n) (aV n) (bJ n) (bs n) (bu n) k (tp n (al n) (aV n) (bJ n) (bs n) (bu n) k q) (p:Int) (.ptr w 0) (.ptr x 0) b vc (sl.length:Int) (i:Int) c h1) fun _ h'=>ba h0 h':=by
          intro c
          unfold rU
          refine aJ.ifB (fun _=>jT g1) fun _=>?_
          simp only [aD,js (show i≤9223372036854775806 by omega)]
          exact ih (i+1) (by omega) (by omega)
        obtain ⟨_,S,hs,hS⟩:=hp.grow g1
        obtain ⟨a7,h7⟩:=bK.fI hs (j:=7) hpl (by omega) (am7 ..)
        simp only [aD,(hsl.grow g1).el (show (0:Int)≤(i:Int) by omega) (by omega),gU (g1.cl hw),bC,h7]
        refine aJ.ifB (fun _=>f10 true) fun _=>?_
        exact f10 _
      · exact aJ.mono (v_mine_8 hn' (g1.le hro) (hst.grow g1) (g1.cl hx)) fun r h=>g1.trans h
  exact key n 0 (by omega) (by omega)
theorem v_mine {n:Nat} {zc:bA} (hn:dt n zc) (hn':1100<n) {h:Heap} (hro:h.ro≤h.nx) {c:List AV} (hc:Cfg h zc c) {p:Nat} (hpl:p<zc.parts.length) {z:StZ} {va vb vc vd:AV} (hst:eR n h z va vb vc vd) :
    aR (bl n (.agg c) (.agg (stC va vb z.whole vc vd)) (p:Int) h) fun r h'=>ba h h'∧(r=true→∀ i,i<z.m→Z6 zc (z.F i) p true 0):=by
  unfold bl Qz HW
  obtain ⟨t,pp,rfl,ht,hp⟩:=hc
  refine aR.bind (mr ..) ?_
  rintro w h1 ⟨hw,g1⟩
  refine aR.bind (mr ..) ?_
  rintro x h2 ⟨hx,g2⟩
  have g02:=g1.trans g2
  simp only [aD,gU hx,st_0,bK.len hst.own]
  have key:∀ (q i:Nat) (h3:Heap),ba h2 h3→(∀ j,j<i→Z6 zc (z.F j) p true 0)→i≤z.m→z.m-i<q→aR (fun k=>rE n (al n) (aV n) (bJ n) (bs n) (bu n) k q (p:Int) (.ptr w 0) (.ptr x 0) va (z.m:Int) (i:Int) h3) fun r h'=>ba h h'∧(r=true→∀ i,i<z.m→Z6 zc (z.F i) p true 0):=by
    intro q
    induction q with
    | zero=>omega
    | succ q ih=>
      intro i h3 g3 hok hi hq
      have g03:=g02.trans g3
      simp only [agW]
      unfold vO
      have hsm:=hst.own.1
      refine aJ.ifB (fun e=>?_) fun e=>?_
      · rw [kj,fY] at e
        have hlt:i<z.m:=by omega
        refine aJ.copy (hst.own.grow g03) (g03.le hro) hlt rfl rfl fun a b y d h4 hy g4=>?_
        have g04:=g03.trans g4
        have g24:=g3.trans g4
        simp only [aD,gU ((g2.trans g24).cl hw),bC,gU hy,aod]
        refine Run3.bind (aif hn (g04.le hro) (Cfg.mk' (ht.grow g04) (hp.grow g04)) (z.F i)) ?_
        rintro r s e5 h5 ⟨g5,ho⟩
        have g05:=g04.trans g5
        have f14:∀ c:Bool,(c=false→Z6 zc (z.F i) p true 0)→aR (fun k=>rN n (al n) (aV n) (bJ n) (bs n) (bu n) k (rE n (al n) (aV n) (bJ n) (bs n) (bu n) k q) (p:Int) (.ptr w 0) (.ptr x 0) va (z.m:Int) (i:Int) c h5) fun r h'=>ba h h'∧(r=true→∀ i,i<z.m→Z6 zc (z.F i) p true 0):=by
          intro c hcf
          unfold rN
          refine aJ.ifB (fun _=>jT ⟨g05,fun h=>nomatch h⟩) fun ec=>?_
          simp only [aD,js (show i≤9223372036854775806 by omega)]
          refine ih (i+1) h5 (g24.trans g5) (fun j hj=>?_) (by omega) (by omega)
          by_cases hji:j=i
          · subst hji; exact hcf ec
          · exact hok j (by omega)
        unfold vi
        refine aJ.ifB (fun _=>?_) fun ee=>?_
        · exact f14 true fun h=>nomatch h
        · refine aJ.ifB (fun _=>f14 true fun h=>nomatch h) fun es=>f14 _ fun er=>?_
          have ee':e5=0:=by simpa using ee
          have es':s=true:=by simpa using es
          have er':r=p:=by simpa using er
          subst ee' es' er'
          exact ho
      · rw [kj,ga] at e
        have g12:=g2.trans g3
        refine aJ.mono (arY hn hn' (g03.le hro) (ht.grow g03) (hp.grow g03) (g12.cl hw) hpl (hst.grow g03) (g3.cl hx)) ?_
        rintro ⟨r,h'⟩ g'
        exact ⟨g03.trans g',fun _ j hj=>hok j (by omega)⟩
  exact key n 0 h2 .refl (fun j hj=>by omega) (by omega) (by have:=hst.om; omega)
end Go.Proofs.YtpoobhhdgjgdgaaGreat.Sh
/- slices.Insert at []int, for the interpreter: the library's function by the shelf's contracts, as one step upon the interpreter's heap. -/
namespace Go.Ai
section
variable {P:Program} {M:Mp} {D:Nat→Prop} {w w':World} {H:Heap}
end
end Go.Ai
/- Rows of numbers in memory of their own, that are appended to, inserted into and cut out of; maps of numbers. -/
namespace Go.Ai
def I64s (l:List Int):List AV:=l.map (.int .i64)
def Lst (h:Heap) (v:AV) (l:List Int):Prop:=(v = .nilslice∧l = [])∨∃ b ext rest,v = .slice b 0 l.length ext true∧Own h b (I64s l++rest) 1∧rest.length=ext∧0<l.length+ext∧l.length+ext≤1048576
def putAt (l:List Int) (i:Nat) (x:Int):List Int:=l.take i++x::l.drop i
structure MapI (h:Heap) (b:Nat) (q:IntKind) (kv:List (Int × Int)):Prop where
  lt:b<h.nx
  ro:h.ro≤b
  get:h.get b=some (.mp (kv.map fun e=>(.int .i64 e.1,.int q e.2)))
structure BudZ where
  n:Int
  free:Nat→List Int
  fh:List (Int × Int)
def budC (n:Int) (v:Nat→AV) (m:Nat):List AV:=[.bool true,.int .i64 n,v 0,v 1,v 2,v 3,v 4,v 5,v 6,.map m]
structure BudIn (h:Heap) (p m:Nat) (v:Nat→AV) (s:BudZ):Prop where
  own:Own h p (budC s.n v m) 0
  map:MapI h m .i64 s.fh
  lst:∀ k,k<7→Lst h (v k) (s.free k)
  dis:∀ j k,j<7→k<7→j≠k→∀ c,(v j).blk=some c→(v k).blk≠some c
theorem Kt {n p o k:Nat} (hk:k<n) (c:AV→aa):DD 1 n (.ptr p o) (k:Int) c=c (.ptr p (o+k)):=by
  unfold DD
  rw [BL,XE]
  have h1:Nat.blt k n=true:=by rw [blt_eq]; simpa using hk
  rw [h1,wV,my]
  simp
end Go.Ai
/- Counts of uses; sums; whether a partition's frames add up. -/
namespace Go.Proofs.YtpoobhhdgjgdgaaGreat.Sh
open Go.Ai
def s8 (N:Nat) (c:Nat→Int):List AV:=(List.range N).map fun u=>.int .i64 (c u)
theorem qJ (N:Nat) (c:Nat→Int):(s8 N c).length=N:=by simp [s8]
theorem wE {N u:Nat} (c:Nat→Int) (h:u<N):(s8 N c)[u]?=some (.int .i64 (c u)):=by simp [s8,h]
theorem ahx (N u:Nat) (c:Nat→Int) (x:Int):(s8 N c).set u (.int .i64 x)=s8 N fun v=>if v=u then x else c v:=by
  apply List.ext_getElem?
  intro i
  by_cases hi:i<N
  · rw [wE _ hi]
    by_cases hu:i=u
    · subst hu
      rw [List.getElem?_set_self (by rw [qJ]; exact hi),if_pos rfl]
    · rw [List.getElem?_set_ne (fun e=>hu e.symm),wE _ hi,if_neg hu]
  · rw [gh (by rw [List.length_set,qJ]; omega),gh (by rw [qJ]; omega)]
def afL (U:Nat→Int) (m:Nat):Prop:=∀ i,i<m→1≤U i∧U i≤6
structure CntOk (U:Nat→Int) (m:Nat) (c:Nat→Int):Prop where
  z:c 0=0
  lo:∀ u,0≤c u∧c u≤m
  sum:afL U m→c 1+c 2+c 3+c 4+c 5+c 6=m
theorem ao3 {n:Nat} {h0:Heap} (hro:h0.ro≤h0.nx) {v:AV} {m:Nat} {F U:Nat→Int} (hs:OwIn h0 v m F U) (hm:m<n):c9 (bB n v h0) fun r kn h'=>ba h0 h'∧(kn=true↔afL U m)∧∃ c,r = .agg (s8 7 c)∧CntOk U m c:=by
  unfold bB JY Dv
  refine aR.bind (DN hro _ 0) ?_
  rintro x h1 ⟨hx,ox,g1⟩
  refine aR.bind (DN (g1.le hro) _ 0) ?_
  rintro y h2 ⟨hy,oy,g2⟩
  have g02:=g1.trans g2
  have hyx:y≠x:=by have:=ox.lt; omega
  simp only [bK.len hs]
  have hsm:=hs.1
  have key:∀ (q i:Nat) (h:Heap) (c:Nat→Int) (kn:Bool),ba h0 h→Own h x (s8 7 fun _=>0) 0→Own h y (s8 7 c) 0→CntOk U i c→(kn=true↔afL U i)→i≤m→m-i<q→
      c9 (fun k=>qQ n k q (.ptr x 0) (.ptr y 0) kn v (m:Int) (i:Int) h) fun r kn h'=>ba h0 h'∧(kn=true↔afL U m)∧∃ c,r = .agg (s8 7 c)∧CntOk U m c:=by
    intro q
    induction q with
    | zero=>omega
    | succ q ih=>
      intro i h c kn g ox oy hc hk hi hq
      simp only [ada]
      unfold sL yG
      refine aJ.ifB (fun e=>?_) fun e=>?_
      · rw [kj,fY] at e
        have hlt:i<m:=by omega
        refine aJ.copy (hs.grow g) (g.le hro) hlt rfl rfl fun a b w d h3 hw g'=>?_
        have g03:=g.trans g'
        have ox3:Own h3 x _ 0:=(g'.chg fun _=>False).own ox fun h=>h
        have oy3:Own h3 y _ 0:=(g'.chg fun _=>False).own oy fun h=>h
        have f3:∀ b:Bool,(b=true↔1≤U i∧U i≤6)→c9 (fun k=>qZ n k (qQ n k q) (.ptr x 0) (.ptr y 0) kn (.ptr w 0) v (m:Int) (i:Int) b h3) fun r kn h'=>ba h0 h'∧(kn=true↔afL U m)∧∃ c,r = .agg (s8 7 c)∧CntOk U m c:=by
          intro b hb
          unfold qZ tC
          refine aJ.ifB (fun eb=>?_) fun eb=>?_
          · obtain ⟨u1,u2⟩:=hb.1 eb
            obtain ⟨u,hu⟩:∃ u:Nat,U i=u:=⟨(U i).toNat,by omega⟩
            have hu7:u<7:=by omega
            have ia:∀ K,DD 1 7 (.ptr y 0) (U i) K=K (.ptr y (0+u)):=fun K=>by rw [hu]; exact Kt (n:=7) (k:=u) hu7 K
            have w1:IntKind.i64.wrap (c u+1)=c u+1:=by
              have:=hc.lo u
              exact ot (by omega) (by omega)
            simp only [aD,gU hw,sp_1u,ia,gU oy3.cl,wE c hu7,w1]
            refine dy.bind (vT oy3 (by rw [qJ]; exact hu7) rfl) ?_
            intro h4 p
            rw [ahx] at p
            simp only [aD,js (show i≤9223372036854775806 by omega)]
            refine ih (i+1) h4 _ kn (p.grow g03 (gb g1.nx hy)) (p.ownO hyx.symm ox3) p.own ?_ (hk.trans ⟨fun h j hj=>?_,fun h j hj=>h j (by omega)⟩) (by omega) (by omega)
            · refine ⟨?_,fun v=>?_,fun h=>?_⟩
              · rw [if_neg (by omega)]; exact hc.z
              · have:=hc.lo v
                have:=hc.lo u
                split<;>omega
              · have:=hc.sum fun j hj=>h j (by omega)
                have:u=1∨u=2∨u=3∨u=4∨u=5∨u=6:=by omega
                rcases this with rfl | rfl | rfl | rfl | rfl | rfl<;>simp only [reduceIte,Nat.reduceEqDiff]<;>omega
            · by_cases hji:j=i
              · subst hji; exact ⟨u1,u2⟩
              · exact h j (by omega)
          · have hno:¬ afL U (i+1):=fun h=>by
              have:=hb.2 (h i (by omega))
              rw [this] at eb; cases eb
            simp only [aD,js (show i≤9223372036854775806 by omega)]
            refine ih (i+1) h3 c false g03 ox3 oy3 ⟨hc.z,fun u=>by have:=hc.lo u; omega,fun h=>(hno h).elim⟩ ⟨(fun h=>nomatch h),fun h=>(hno h).elim⟩ (by omega) (by omega)
        simp only [aD,gU hw,sp_1u]
        refine aJ.ifB (fun e1=>f3 _ ?_) fun e1=>f3 _ ?_
        · simp at e1
          simp; omega
        · simp at e1
          simp; omega
      · rw [kj,ga] at e
        have:i=m:=by omega
        subst this
        have hl:∀ K,jd h (.ptr y 0) 7 true K=K (.agg (s8 7 c)):=fun K=>abo oy.cl (by rw [List.drop_zero,List.take_of_length_le (by rw [qJ]; omega)]) (by rw [qJ]; omega) K
        simp only [hl]
        refine aR.bind (aly (n:=7) (cs:=s8 7 c) ox (qJ ..) (qJ ..)) ?_
        rintro _ h4 ⟨rfl,p⟩
        exact B1 ⟨p.grow g hx,hk,c,rfl,hc⟩
  exact key n 0 h2 (fun _=>0) true g02 ((g2.chg fun _=>False).own ox fun h=>h) oy ⟨rfl,fun u=>by omega,fun _=>rfl⟩ ⟨fun _ j hj=>by omega,fun _=>rfl⟩ (by omega) (by omega)
end Go.Proofs.YtpoobhhdgjgdgaaGreat.Sh
/- Whether a partition's frames add up. -/
namespace Go.Proofs.YtpoobhhdgjgdgaaGreat.Sh
open Go.Ai
def spl (U:Nat→AV) (C:Nat→Int):Nat→List AV
  | 0=>[]
  | i+1=>spl U C i++[U i,.int .i64 (C i)]
theorem am2 (U:Nat→AV) (C:Nat→Int):∀ i,(spl U C i).length=i*2
  | 0=>rfl
  | i+1=>by rw [spl,gv,am2 U C i]; simp; omega
theorem spl_at (U:Nat→AV) (C:Nat→Int):∀ (i j:Nat),j<i→((spl U C i).drop (j*2)).take 2 = [U j,.int .i64 (C j)]
  | 0,j,h=>by omega
  | i+1,j,h=>by
    have hl:=am2 U C i
    by_cases hj:j=i
    · subst hj
      rw [spl, ← hl,List.drop_left]; rfl
    · rw [spl,List.drop_append_of_le_length (by omega),List.take_append_of_le_length (by rw [List.length_drop]; omega)]
      exact spl_at U C i j (by omega)
theorem sps_at {h:Heap} {v:AV} {m:Nat} {U:Nat→AV} {C:Nat→Int} (a:App h v 2 m (spl U C m)) (hm:m≤1048576) (hU:∀ i,i<m→SpIn h (U i)):SpsIn h v m:=by
  refine ⟨U,C,⟨by omega,?_⟩,hU⟩
  rcases a with ⟨rfl,rfl,_⟩ | ⟨b,rfl,o,h1,h2⟩
  · exact .inl ⟨rfl,rfl⟩
  · exact .inr ⟨b,0,0,true,rfl,fun _=>⟨_,o.cl,fun i hi=>⟨by rw [am2]; omega,by rw [Nat.zero_add]; exact spl_at U C m i hi⟩⟩⟩
theorem v_sums_2 {n:Nat} {zc:bA} (hn:dt n zc) (hn':1100<n) {h0:Heap} (hro:h0.ro≤h0.nx) {t pp:AV} (ht:cQ h0 .i64 t zc.fi) (hp:dB h0 pp zc.parts) {w:Nat} (hw:h0.cl w (ry zc t pp)) (p:Int) {y:Nat} {c:Nat→Int} (hy:h0.cl y (s8 7 c)) {v:AV} {m:Nat} (hv:SpsIn h0 v m) :
    aR (fun k=>xL n (bP n) (bB n) (bR n) (bO n) k p (.ptr w 0) (.ptr y 0) v h0) fun _ h'=>ba h0 h':=by
  unfold xL
  refine c9.bind (v_Sum hn' hro hv) ?_
  rintro r e h1 ⟨g1,a1,a2,a3,a4,rfl⟩
  refine aR.bind (GQ (g1.le hro) (by rfl) (by rfl)) ?_
  rintro d h2 ⟨hd,od,g2⟩
  have g02:=g1.trans g2
  have f1:∀ b:Bool,aR (fun k=>ue n (bP n) (bB n) (bR n) (bO n) k p (.ptr w 0) (.ptr d 0) b h2) fun _ h'=>ba h0 h':=by
    intro b
    unfold ue xE
    refine aJ.ifB (fun _=>jT g02) fun _=>?_
    have hl:∀ K,jd h2 (.ptr d 0) 4 true K=K (.agg (zq a1 a2 a3 a4)):=fun K=>abo od.cl rfl (by show 0+4≤4; omega) K
    simp only [aD,gU (g02.cl hw),bC,hl,gU od.cl,Xy (show (zq a1 a2 a3 a4).length=4 from rfl)]
    refine c9.bind (v_Fits hn (g02.le hro) (Cfg.mk' (ht.grow g02) (hp.grow g02)) p a1 a2 a3 a4) ?_
    rintro r e h3 g3
    exact aJ.ifB (fun _=>jT (g02.trans g3)) fun _=>jT (g02.trans g3)
  have i3:∀ K,DD 1 7 (.ptr y 0) 3 K=K (.ptr y (0+3)):=fun K=>Kt (n:=7) (k:=3) (by omega) K
  refine aJ.ifB (fun _=>f1 true) fun _=>?_
  simp only [aD,gU od.cl,anT,i3,gU (g02.cl hy),wE c (show 3<7 by omega)]
  exact f1 _
theorem aoB {n:Nat} {zc:bA} (hn:dt n zc) (hn':1100<n) {h0:Heap} (hro:h0.ro≤h0.nx) {t pp:AV} (ht:cQ h0 .i64 t zc.fi) (hp:dB h0 pp zc.parts) {w:Nat} (hw:h0.cl w (ry zc t pp)) (p:Int) {y:Nat} {c:Nat→Int} (hy:h0.cl y (s8 7 c))
    {z:StZ} {va vb vc vd:AV} (hst:eR n h0 z va vb vc vd) {x:Nat} (hx:h0.cl x (stC va vb z.whole vc vd)) (b:Bool) :
    aR (fun k=>tD n (bP n) (bB n) (bR n) (bO n) k p (.ptr w 0) (.ptr x 0) (.ptr y 0) b h0) fun r h'=>ba h0 h'∧(r=true→b=false):=by
  unfold tD
  refine aJ.ifB (fun _=>jT ⟨.refl,fun h=>nomatch h⟩) fun eb=>?_
  obtain ⟨m,A,B,U,C,V,hm,hs0,hUV⟩:=hst.procs
  simp only [aD,gU hx,st_4,bK.len hs0]
  refine aJ.mono (Q:=fun r=>ba h0 r.2) ?_ fun r h=>⟨h,fun _=>eb⟩
  have key:∀ (q i:Nat) (h:Heap) (v:AV),ba h0 h→App h v 2 i (spl U C i)→(∀ b,v.blk=some b→h0.nx≤b)→i≤m→m-i<q→aR (fun k=>wU n (bP n) (bB n) (bR n) (bO n) k q p (.ptr w 0) (.ptr y 0) v vd (m:Int) (i:Int) h) fun _ h'=>ba h0 h':=by
    intro q
    induction q with
    | zero=>omega
    | succ q ih=>
      intro i h v g ha hlow hi hq
      simp only [ahK]
      unfold xR
      refine aJ.ifB (fun e=>?_) fun e=>?_
      · rw [kj,fY] at e
        have hlt:i<m:=by omega
        refine aJ.copy (hs0.grow g) (g.le hro) hlt rfl rfl fun a b y1 d h1 hy1 g'=>?_
        have g1:=g.trans g'
        simp only [aD,gU hy1,aoX]
        refine aR.bind (D3 (l:=[U i,.int .i64 (C i)]) (fun k=>by rfl)) ?_
        rintro _ h2 ⟨rfl,c2,g2⟩
        have g12:=g1.trans g2
        refine aR.bind (VQ (g12.le hro) ((ha.grow g').grow g2) (n:=1) (by decide) c2 (new:=[U i,.int .i64 (C i)]) (by rw [pG]; rfl) (by omega)) ?_
        rintro v' h3 ⟨a3,b3,c3⟩
        simp only [aD,js (show i≤9223372036854775806 by omega)]
        refine ih (i+1) h3 v' (c3.grow g12 fun b hb=>hlow b hb) a3 (fun b hb=>?_) (by omega) (by omega)
        rw [b3] at hb
        cases hb
        exact g12.nx
      · rw [kj,ga] at e
        have:i=m:=by omega
        subst this
        exact aJ.mono (v_sums_2 hn hn' (g.le hro) (ht.grow g) (hp.grow g) (g.cl hw) p (g.cl hy) (sps_at ha hm.2 fun j hj=>(hUV j hj).1.grow g)) fun r h=>g.trans h
  exact key n 0 h0 .nilslice .refl .nil (fun b hb=>by cases hb) (by omega) (by omega)
end Go.Proofs.YtpoobhhdgjgdgaaGreat.Sh
