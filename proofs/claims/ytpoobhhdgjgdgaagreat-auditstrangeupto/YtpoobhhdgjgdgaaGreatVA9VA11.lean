/- The snapshot's rows; frames that are one's own. -/
import Derived.Test.YtpoobhhdgjgdgaaGreatVA6VA8
import Derived.Test.YtpoobhhdgjgdgaaGreatAiCallSym
import Derived.Shelf.Spec.SlicesInsert
import Derived.Shelf.Spec.SlicesInsertGrow
import Derived.Test.YtpoobhhdgjgdgaaGreatVUPlan5VA1
set_option linter.all false
namespace Go.Proofs.YtpoobhhdgjgdgaaGreat.Sh
open Go.Ai
theorem am3 (a b:Int):([AV.int .i64 a,.int .u8 b])[0]?=some (.int .i64 a):=rfl
theorem sp_1u (a b:Int):([AV.int .i64 a,.int .u8 b])[1]?=some (.int .u8 b):=rfl
def mapC (a:Int) (b1 b2 b3 b4 b5 b6:Bool) (c:Int):List AV:=[.int .i64 a,.bool b1,.bool b2,.bool b3,.bool b4,.bool b5,.bool b6,.int .i64 c]
theorem map_c0 (a:Int) (b1 b2 b3 b4 b5 b6:Bool) (c:Int):(mapC a b1 b2 b3 b4 b5 b6 c)[0]?=some (.int .i64 a):=rfl
theorem map_c1 (a:Int) (b1 b2 b3 b4 b5 b6:Bool) (c:Int):(mapC a b1 b2 b3 b4 b5 b6 c)[1]?=some (.bool b1):=rfl
theorem map_c2 (a:Int) (b1 b2 b3 b4 b5 b6:Bool) (c:Int):(mapC a b1 b2 b3 b4 b5 b6 c)[2]?=some (.bool b2):=rfl
theorem aqb (a:Int) (b1 b2 b3 b4 b5 b6:Bool) (c:Int):(mapC a b1 b2 b3 b4 b5 b6 c)[1+6]?=some (.int .i64 c):=rfl
def MapdIn (n:Nat) (h:Heap) (v:AV):Prop:=∃ (m:Nat) (A:Nat→Int) (b1 b2 b3 b4 b5 b6:Nat→Bool) (C:Nat→Int),m<n∧bI h v 8 m fun i=>mapC (A i) (b1 i) (b2 i) (b3 i) (b4 i) (b5 i) (b6 i) (C i)
theorem MapdIn.grow {n:Nat} {h h':Heap} {v:AV} (s:MapdIn n h v) (g:aY h h'):MapdIn n h' v:=by
  obtain ⟨m,A,b1,b2,b3,b4,b5,b6,C,h1,h2⟩:=s
  exact ⟨m,A,b1,b2,b3,b4,b5,b6,C,h1,bI.grow h2 g⟩
def ahl (a b:Int) (u:AV) (c:Int) (v:AV):List AV:=[.int .i64 a,.int .i64 b,u,.int .i64 c,v]
theorem proc_0 (a b:Int) (u:AV) (c:Int) (v:AV):(ahl a b u c v)[0]?=some (.int .i64 a):=rfl
theorem proc_1 (a b:Int) (u:AV) (c:Int) (v:AV):(ahl a b u c v)[1]?=some (.int .i64 b):=rfl
theorem proc_4 (a b:Int) (u:AV) (c:Int) (v:AV):(ahl a b u c v)[4]?=some v:=rfl
theorem aol (a b:Int) (u:AV) (c:Int) (v:AV):sub (ahl a b u c v) 2 2=some [u,.int .i64 c]:=by rw [nP]; rfl
def ProcsIn (n:Nat) (h:Heap) (v:AV):Prop:=∃ (m:Nat) (A B:Nat→Int) (U:Nat→AV) (C:Nat→Int) (V:Nat→AV),(m<n∧m≤1048576)∧bI h v 5 m (fun i=>ahl (A i) (B i) (U i) (C i) (V i))∧∀ i,i<m→SpIn h (U i)∧MapdIn n h (V i)
theorem ProcsIn.grow {n:Nat} {h h':Heap} {v:AV} (s:ProcsIn n h v) (g:aY h h'):ProcsIn n h' v:=by
  obtain ⟨m,A,B,U,C,V,h1,h2,h3⟩:=s
  exact ⟨m,A,B,U,C,V,h1,bI.grow h2 g,fun i hi=>⟨(h3 i hi).1.grow g,(h3 i hi).2.grow g⟩⟩
structure StZ where
  m:Nat
  F:Nat→Int
  U:Nat→Int
  free:List Int
  whole:Bool
instance:Inhabited StZ:=⟨⟨0,fun _=>0,fun _=>0,[],false⟩⟩
def stC (a b:AV) (w:Bool) (c d:AV):List AV:=[a,b,.bool w,c,d]
theorem st_0 (a b:AV) (w:Bool) (c d:AV):(stC a b w c d)[0]?=some a:=rfl
theorem st_1 (a b:AV) (w:Bool) (c d:AV):(stC a b w c d)[1]?=some b:=rfl
theorem st_2 (a b:AV) (w:Bool) (c d:AV):(stC a b w c d)[2]?=some (.bool w):=rfl
theorem st_3 (a b:AV) (w:Bool) (c d:AV):(stC a b w c d)[3]?=some c:=rfl
theorem st_4 (a b:AV) (w:Bool) (c d:AV):(stC a b w c d)[4]?=some d:=rfl
structure eM (n:Nat) (h:Heap) (z:StZ) (a b c d:AV):Prop where
  own:OwIn h a z.m z.F z.U
  om:z.m<n
  big:z.m≤1048576
  free:cK h .i64 b z.free
  fm:z.free.length<n
  slots:∃ l,cK h .i64 c l∧l.length<n
  procs:ProcsIn n h d
theorem eM.grow {n:Nat} {h h':Heap} {z:StZ} {a b c d:AV} (s:eM n h z a b c d) (g:aY h h'):eM n h' z a b c d:=
  ⟨s.own.grow g,s.om,s.big,s.free.grow g,s.fm,have ⟨l,h1,h2⟩:=s.slots; ⟨l,h1.grow g,h2⟩,s.procs.grow g⟩
theorem v_mine_8 {n:Nat} (hn:1100<n) {h0:Heap} (hro:h0.ro≤h0.nx) {z:StZ} {va vb vc vd:AV} (hst:eM n h0 z va vb vc vd) {x:Nat} (hx:h0.cl x (stC va vb z.whole vc vd)) :
    aM (fun k=>wK n (al n) (aK n) (bH n) (br n) (bs n) k (.ptr x 0) h0) fun _ h'=>aY h0 h':=by
  unfold wK
  obtain ⟨m,A,B,U,C,V,hm,hs0,hUV⟩:=hst.procs
  obtain ⟨sl,hsl,hsn⟩:=hst.slots
  simp only [aB,gS hx,st_4,bI.len hs0]
  have key:∀ (q i:Nat) (h:Heap),aY h0 h→i≤m→m-i<q→aM (fun k=>nk n (al n) (aK n) (bH n) (br n) (bs n) k q (.ptr x 0) vd (m:Int) (i:Int) h) fun _ h'=>aY h0 h':=by
    intro q
    induction q with
    | zero=>omega
    | succ q ih=>
      intro i h g hi hq
      simp only [aih]
      unfold xd Dv
      refine aH.ifB (fun e=>?_) fun _=>jL g
      rw [kg,fX] at e
      have hlt:i<m:=by omega
      have hsm:=hs0.1
      refine aH.copy (hs0.grow g) (g.le hro) hlt rfl rfl fun a b y d h1 hy g'=>?_
      have g1:=g.trans g'
      obtain ⟨hU,m2,A2,b1,b2,b3,b4,b5,b6,C2,hm2,hs2⟩:=hUV i hlt
      have inner:∀ (q2 i2:Nat) (h2:Heap),aY h1 h2→i2≤m2→m2-i2<q2→aM (fun k=>re n (al n) (aK n) (bH n) (br n) (bs n) k (nk n (al n) (aK n) (bH n) (br n) (bs n) k q) q2 (.ptr x 0) (.ptr y 0) vd (m:Int) (i:Int) (V i) (m2:Int) (i2:Int) h2) fun _ h'=>aY h0 h':=by
        intro q2
        induction q2 with
        | zero=>omega
        | succ q2 ih2=>
          intro i2 h2 g2 hi2 hq2
          simp only [ah1]
          unfold xI CG
          have g02:=g1.trans g2
          refine aH.ifB (fun e=>?_) fun _=>?_
          · rw [kg,fX] at e
            have hlt2:i2<m2:=by omega
            have hsm2:=hs2.1
            refine aH.copy (hs2.grow g02) (g02.le hro) hlt2 rfl rfl fun a3 b3' y3 d3 h3 hy3 g3=>?_
            have g03:=g02.trans g3
            simp only [aB,gS ((g2.trans g3).cl hy),aol,gS hy3,map_c0]
            have f5:∀ (b:Bool) (h5:Heap),aY h1 h5→aM (fun k=>qY n (al n) (aK n) (bH n) (br n) (bs n) k (re n (al n) (aK n) (bH n) (br n) (bs n) k (nk n (al n) (aK n) (bH n) (br n) (bs n) k q) q2) (.ptr x 0) (.ptr y 0) vd (m:Int) (i:Int) (V i) (m2:Int) (i2:Int) b h5) fun _ h'=>aY h0 h':=by
              intro b h5 g5
              unfold qY
              refine aH.ifB (fun _=>jL (g1.trans g5)) fun _=>?_
              simp only [aB,jq (show i2≤9223372036854775806 by omega)]
              exact ih2 (i2+1) h5 g5 (by omega) (by omega)
            have f4:∀ (b:Bool) (h5:Heap),aY h3 h5→aM (fun k=>rg n (al n) (aK n) (bH n) (br n) (bs n) k (re n (al n) (aK n) (bH n) (br n) (bs n) k (nk n (al n) (aK n) (bH n) (br n) (bs n) k q) q2) (.ptr x 0) (.ptr y 0) (.ptr y3 0) vd (m:Int) (i:Int) (V i) (m2:Int) (i2:Int) b h5) fun _ h'=>aY h0 h':=by
              intro b h5 g5
              have g15:=(g2.trans g3).trans g5
              unfold rg
              refine aH.ifB (fun _=>f5 true h5 g15) fun _=>?_
              simp only [aB,gS (g5.cl hy3),map_c2]
              refine aH.ifB (fun _=>?_) fun _=>f5 false h5 g15
              simp only [aB,gS ((g1.trans g15).cl hx),st_3,gS (g5.cl hy3),aqb]
              refine aM.bind (Zy (hsl.grow (g1.trans g15)) hsn (C2 i2)) ?_
              rintro r6 h6 ⟨rfl,rfl⟩
              exact f5 _ h6 g15
            refine aM.bind (v_mapped hn (g03.le hro) (hU.grow g03) (C i) (A2 i2)) ?_
            rintro r4 h4 g4
            refine aH.ifB (fun _=>f4 true h4 g4) fun _=>?_
            simp only [aB,gS (g4.cl hy3),map_c1]
            refine aH.ifB (fun _=>?_) fun _=>f4 false h4 g4
            have g04:=g03.trans g4
            simp only [aB,gS (g04.cl hx),st_0,gS (g4.cl hy3),aqb]
            refine aM.bind (v_has (g04.le hro) (hst.own.grow g04) hst.om (C2 i2) 2) ?_
            rintro r6 h6 g6
            exact f4 _ h6 (g4.trans g6)
          · simp only [aB,jq (show i≤9223372036854775806 by omega)]
            exact ih (i+1) h2 g02 (by omega) (by omega)
      have f7:∀ (b:Bool) (h2:Heap),aY h1 h2→aM (fun k=>ul n (al n) (aK n) (bH n) (br n) (bs n) k (nk n (al n) (aK n) (bH n) (br n) (bs n) k q) (.ptr x 0) (.ptr y 0) vd (m:Int) (i:Int) b h2) fun _ h'=>aY h0 h':=by
        intro b h2 g2
        unfold ul
        refine aH.ifB (fun _=>jL (g1.trans g2)) fun _=>?_
        simp only [aB,gS (g2.cl hy),proc_4,bI.len hs2]
        exact inner n 0 h2 g2 (by omega) (by omega)
      have f6:∀ (b:Bool) (h2:Heap),aY h1 h2→aM (fun k=>tv n (al n) (aK n) (bH n) (br n) (bs n) k (nk n (al n) (aK n) (bH n) (br n) (bs n) k q) (.ptr x 0) (.ptr y 0) vd (m:Int) (i:Int) b h2) fun _ h'=>aY h0 h':=by
        intro b h2 g2
        have g02:=g1.trans g2
        unfold tv
        refine aH.ifB (fun _=>f7 true h2 g2) fun _=>?_
        simp only [aB,gS (g02.cl hx),st_0,gS (g2.cl hy),proc_1]
        refine aM.bind (v_has (g02.le hro) (hst.own.grow g02) hst.om (B i) 3) ?_
        rintro r3 h3 g3
        exact f7 _ h3 (g2.trans g3)
      simp only [aB,gS hy,proc_0]
      refine aH.ifB (fun _=>f6 true h1 .refl) fun _=>?_
      exact f6 _ h1 .refl
  exact key n 0 h0 .refl (by omega) (by omega)
theorem aqU {n:Nat} {zc:bA} (hn:dm n zc) (hn':1100<n) {h0:Heap} (hro:h0.ro≤h0.nx) {t pp:AV} (ht:cK h0 .i64 t zc.fh) (hp:di h0 pp zc.parts) {w:Nat} (hw:h0.cl w (qr zc t pp)) {p:Nat} (hpl:p<zc.parts.length) {z:StZ} {va vb vc vd:AV} (hst:eM n h0 z va vb vc vd) {x:Nat} (hx:h0.cl x (stC va vb z.whole vc vd)) :
    aM (fun k=>uW n (al n) (aK n) (bH n) (br n) (bs n) k (p:Int) (.ptr w 0) (.ptr x 0) h0) fun _ h'=>aY h0 h':=by
  unfold uW
  simp only [aB,gS hw,bC]
  refine dr.bind (v_Base hn hro (Cfg.mk' ht hp) p) ?_
  rintro b e h1 ⟨g1,rfl⟩
  refine aH.ifB (fun _=>jL g1) fun e0=>?_
  obtain ⟨sl,hsl,hsn⟩:=hst.slots
  simp only [aB,gS (g1.cl hx),st_3,hsl.len]
  have key:∀ (q i:Nat) , i≤sl.length→sl.length-i<q→aM (fun k=>tZ n (al n) (aK n) (bH n) (br n) (bs n) k q (p:Int) (.ptr w 0) (.ptr x 0) b vc (sl.length:Int) (i:Int) h1) fun _ h'=>aY h0 h':=by
    intro q
    induction q with
    | zero=>omega
    | succ q ih=>
      intro i hi hq
      simp only [aip]
      unfold xu
      refine aH.ifB (fun e=>?_) fun _=>?_
      · rw [kg,fX] at e
        have hsm:=hsl.small
        have f10:∀ c:Bool,aM (fun k=>rP n (al n) (aK n) (bH n) (br n) (bs n) k (tZ n (al n) (aK n) (bH n) (br n) (bs n) k q) (p:Int) (.ptr w 0) (.ptr x 0) b vc (sl.length:Int) (i:Int) c h1) fun _ h'=>aY h0 h':=by
          intro c
          unfold rP
          refine aH.ifB (fun _=>jL g1) fun _=>?_
          simp only [aB,jq (show i≤9223372036854775806 by omega)]
          exact ih (i+1) (by omega) (by omega)
        obtain ⟨_,S,hs,hS⟩:=hp.grow g1
        obtain ⟨a7,h7⟩:=bI.fI hs (j:=7) hpl (by omega) (amB ..)
        simp only [aB,(hsl.grow g1).el (show (0:Int)≤(i:Int) by omega) (by omega),gS (g1.cl hw),bC,h7]
        refine aH.ifB (fun _=>f10 true) fun _=>?_
        exact f10 _
      · exact aH.mono (v_mine_8 hn' (g1.le hro) (hst.grow g1) (g1.cl hx)) fun r h=>g1.trans h
  exact key n 0 (by omega) (by omega)
theorem v_mine {n:Nat} {zc:bA} (hn:dm n zc) (hn':1100<n) {h:Heap} (hro:h.ro≤h.nx) {c:List AV} (hc:Cfg h zc c) {p:Nat} (hpl:p<zc.parts.length) {z:StZ} {va vb vc vd:AV} (hst:eM n h z va vb vc vd) :
    aM (bi n (.agg c) (.agg (stC va vb z.whole vc vd)) (p:Int) h) fun r h'=>aY h h'∧(r=true→∀ i,i<z.m→Uv zc (z.F i) p true 0):=by
  unfold bi PX HN
  obtain ⟨t,pp,rfl,ht,hp⟩:=hc
  refine aM.bind (m7 ..) ?_
  rintro w h1 ⟨hw,g1⟩
  refine aM.bind (m7 ..) ?_
  rintro x h2 ⟨hx,g2⟩
  have g02:=g1.trans g2
  simp only [aB,gS hx,st_0,bI.len hst.own]
  have key:∀ (q i:Nat) (h3:Heap),aY h2 h3→(∀ j,j<i→Uv zc (z.F j) p true 0)→i≤z.m→z.m-i<q→aM (fun k=>rM n (al n) (aK n) (bH n) (br n) (bs n) k q (p:Int) (.ptr w 0) (.ptr x 0) va (z.m:Int) (i:Int) h3) fun r h'=>aY h h'∧(r=true→∀ i,i<z.m→Uv zc (z.F i) p true 0):=by
    intro q
    induction q with
    | zero=>omega
    | succ q ih=>
      intro i h3 g3 hok hi hq
      have g03:=g02.trans g3
      simp only [afX]
      unfold uX
      have hsm:=hst.own.1
      refine aH.ifB (fun e=>?_) fun e=>?_
      · rw [kg,fX] at e
        have hlt:i<z.m:=by omega
        refine aH.copy (hst.own.grow g03) (g03.le hro) hlt rfl rfl fun a b y d h4 hy g4=>?_
        have g04:=g03.trans g4
        have g24:=g3.trans g4
        simp only [aB,gS ((g2.trans g24).cl hw),bC,gS hy,am3]
        refine Run3.bind (ahn hn (g04.le hro) (Cfg.mk' (ht.grow g04) (hp.grow g04)) (z.F i)) ?_
        rintro r s e5 h5 ⟨g5,ho⟩
        have g05:=g04.trans g5
        have f14:∀ c:Bool,(c=false→Uv zc (z.F i) p true 0)→aM (fun k=>rF n (al n) (aK n) (bH n) (br n) (bs n) k (rM n (al n) (aK n) (bH n) (br n) (bs n) k q) (p:Int) (.ptr w 0) (.ptr x 0) va (z.m:Int) (i:Int) c h5) fun r h'=>aY h h'∧(r=true→∀ i,i<z.m→Uv zc (z.F i) p true 0):=by
          intro c hcf
          unfold rF
          refine aH.ifB (fun _=>jL ⟨g05,fun h=>nomatch h⟩) fun ec=>?_
          simp only [aB,jq (show i≤9223372036854775806 by omega)]
          refine ih (i+1) h5 (g24.trans g5) (fun j hj=>?_) (by omega) (by omega)
          by_cases hji:j=i
          · subst hji; exact hcf ec
          · exact hok j (by omega)
        unfold vk
        refine aH.ifB (fun _=>?_) fun ee=>?_
        · exact f14 true fun h=>nomatch h
        · refine aH.ifB (fun _=>f14 true fun h=>nomatch h) fun es=>f14 _ fun er=>?_
          have ee':e5=0:=by simpa using ee
          have es':s=true:=by simpa using es
          have er':r=p:=by simpa using er
          subst ee' es' er'
          exact ho
      · rw [kg,f8] at e
        have g12:=g2.trans g3
        refine aH.mono (aqU hn hn' (g03.le hro) (ht.grow g03) (hp.grow g03) (g12.cl hw) hpl (hst.grow g03) (g3.cl hx)) ?_
        rintro ⟨r,h'⟩ g'
        exact ⟨g03.trans g',fun _ j hj=>hok j (by omega)⟩
  exact key n 0 h2 .refl (fun j hj=>by omega) (by omega) (by have:=hst.om; omega)
end Go.Proofs.YtpoobhhdgjgdgaaGreat.Sh
/- slices.Insert at []int, for the interpreter: the library's function by the shelf's contracts, as one step upon the interpreter's heap. -/
namespace Go.Ai
section
variable {P:Program} {M:Mp} {D:Nat→Prop} {w w':World} {H:Heap}
end
end Go.Ai
/- Rows of numbers in memory of their own, that are appended to, inserted into and cut out of; maps of numbers. -/
namespace Go.Ai
def I64s (l:List Int):List AV:=l.map (.int .i64)
def Lst (h:Heap) (v:AV) (l:List Int):Prop:=(v = .nilslice∧l = [])∨∃ b ext rest,v = .slice b 0 l.length ext true∧Own h b (I64s l++rest) 1∧rest.length=ext∧0<l.length+ext∧l.length+ext≤1048576
def putAt (l:List Int) (i:Nat) (x:Int):List Int:=l.take i++x::l.drop i
structure MapI (h:Heap) (b:Nat) (q:IntKind) (kv:List (Int × Int)):Prop where
  lt:b<h.nx
  ro:h.ro≤b
  get:h.get b=some (.mp (kv.map fun e=>(.int .i64 e.1,.int q e.2)))
structure BudZ where
  n:Int
  free:Nat→List Int
  fg:List (Int × Int)
def budC (n:Int) (v:Nat→AV) (m:Nat):List AV:=[.bool true,.int .i64 n,v 0,v 1,v 2,v 3,v 4,v 5,v 6,.map m]
structure BudIn (h:Heap) (p m:Nat) (v:Nat→AV) (s:BudZ):Prop where
  own:Own h p (budC s.n v m) 0
  map:MapI h m .i64 s.fg
  lst:∀ k,k<7→Lst h (v k) (s.free k)
  dis:∀ j k,j<7→k<7→j≠k→∀ c,(v j).blk=some c→(v k).blk≠some c
theorem QD {n p o k:Nat} (hk:k<n) (c:AV→aa):Iv 1 n (.ptr p o) (k:Int) c=c (.ptr p (o+k)):=by
  unfold Iv
  rw [BM,ama]
  have h1:Nat.blt k n=true:=by rw [blt_eq]; simpa using hk
  rw [h1,Cp,mS]
  simp
end Go.Ai
/- Counts of uses; sums; whether a partition's frames add up. -/
namespace Go.Proofs.YtpoobhhdgjgdgaaGreat.Sh
open Go.Ai
def JK (N:Nat) (c:Nat→Int):List AV:=(List.range N).map fun u=>.int .i64 (c u)
theorem Cu (N:Nat) (c:Nat→Int):(JK N c).length=N:=by simp [JK]
theorem CL {N u:Nat} (c:Nat→Int) (h:u<N):(JK N c)[u]?=some (.int .i64 (c u)):=by simp [JK,h]
theorem aqa (N u:Nat) (c:Nat→Int) (x:Int):(JK N c).set u (.int .i64 x)=JK N fun v=>if v=u then x else c v:=by
  apply List.ext_getElem?
  intro i
  by_cases hi:i<N
  · rw [CL _ hi]
    by_cases hu:i=u
    · subst hu
      rw [List.getElem?_set_self (by rw [Cu]; exact hi),if_pos rfl]
    · rw [List.getElem?_set_ne (fun e=>hu e.symm),CL _ hi,if_neg hu]
  · rw [gf (by rw [List.length_set,Cu]; omega),gf (by rw [Cu]; omega)]
def aeJ (U:Nat→Int) (m:Nat):Prop:=∀ i,i<m→1≤U i∧U i≤6
structure CntOk (U:Nat→Int) (m:Nat) (c:Nat→Int):Prop where
  z:c 0=0
  lo:∀ u,0≤c u∧c u≤m
  sum:aeJ U m→c 1+c 2+c 3+c 4+c 5+c 6=m
theorem v_counts {n:Nat} {h0:Heap} (hro:h0.ro≤h0.nx) {v:AV} {m:Nat} {F U:Nat→Int} (hs:OwIn h0 v m F U) (hm:m<n):dr (bF n v h0) fun r kn h'=>aY h0 h'∧(kn=true↔aeJ U m)∧∃ c,r = .agg (JK 7 c)∧CntOk U m c:=by
  unfold bF JZ B1
  refine aM.bind (DV hro _ 0) ?_
  rintro x h1 ⟨hx,ox,g1⟩
  refine aM.bind (DV (g1.le hro) _ 0) ?_
  rintro y h2 ⟨hy,oy,g2⟩
  have g02:=g1.trans g2
  have hyx:y≠x:=by have:=ox.lt; omega
  simp only [bI.len hs]
  have hsm:=hs.1
  have key:∀ (q i:Nat) (h:Heap) (c:Nat→Int) (kn:Bool),aY h0 h→Own h x (JK 7 fun _=>0) 0→Own h y (JK 7 c) 0→CntOk U i c→(kn=true↔aeJ U i)→i≤m→m-i<q→
      dr (fun k=>qF n k q (.ptr x 0) (.ptr y 0) kn v (m:Int) (i:Int) h) fun r kn h'=>aY h0 h'∧(kn=true↔aeJ U m)∧∃ c,r = .agg (JK 7 c)∧CntOk U m c:=by
    intro q
    induction q with
    | zero=>omega
    | succ q ih=>
      intro i h c kn g ox oy hc hk hi hq
      simp only [ack]
      unfold ux yI
      refine aH.ifB (fun e=>?_) fun e=>?_
      · rw [kg,fX] at e
        have hlt:i<m:=by omega
        refine aH.copy (hs.grow g) (g.le hro) hlt rfl rfl fun a b w d h3 hw g'=>?_
        have g03:=g.trans g'
        have ox3:Own h3 x _ 0:=(g'.chg fun _=>False).own ox fun h=>h
        have oy3:Own h3 y _ 0:=(g'.chg fun _=>False).own oy fun h=>h
        have f3:∀ b:Bool,(b=true↔1≤U i∧U i≤6)→dr (fun k=>qV n k (qF n k q) (.ptr x 0) (.ptr y 0) kn (.ptr w 0) v (m:Int) (i:Int) b h3) fun r kn h'=>aY h0 h'∧(kn=true↔aeJ U m)∧∃ c,r = .agg (JK 7 c)∧CntOk U m c:=by
          intro b hb
          unfold qV tF
          refine aH.ifB (fun eb=>?_) fun eb=>?_
          · obtain ⟨u1,u2⟩:=hb.1 eb
            obtain ⟨u,hu⟩:∃ u:Nat,U i=u:=⟨(U i).toNat,by omega⟩
            have hu7:u<7:=by omega
            have ia:∀ K,Iv 1 7 (.ptr y 0) (U i) K=K (.ptr y (0+u)):=fun K=>by rw [hu]; exact QD (n:=7) (k:=u) hu7 K
            have w1:IntKind.i64.wrap (c u+1)=c u+1:=by
              have:=hc.lo u
              exact m9 (by omega) (by omega)
            simp only [aB,gS hw,sp_1u,ia,gS oy3.cl,CL c hu7,w1]
            refine dl.bind (sI oy3 (by rw [Cu]; exact hu7) rfl) ?_
            intro h4 p
            rw [aqa] at p
            simp only [aB,jq (show i≤9223372036854775806 by omega)]
            refine ih (i+1) h4 _ kn (p.grow g03 (ga g1.nx hy)) (p.ownO hyx.symm ox3) p.own ?_ (hk.trans ⟨fun h j hj=>?_,fun h j hj=>h j (by omega)⟩) (by omega) (by omega)
            · refine ⟨?_,fun v=>?_,fun h=>?_⟩
              · rw [if_neg (by omega)]; exact hc.z
              · have:=hc.lo v
                have:=hc.lo u
                split<;>omega
              · have:=hc.sum fun j hj=>h j (by omega)
                have:u=1∨u=2∨u=3∨u=4∨u=5∨u=6:=by omega
                rcases this with rfl | rfl | rfl | rfl | rfl | rfl<;>simp only [reduceIte,Nat.reduceEqDiff]<;>omega
            · by_cases hji:j=i
              · subst hji; exact ⟨u1,u2⟩
              · exact h j (by omega)
          · have hno:¬ aeJ U (i+1):=fun h=>by
              have:=hb.2 (h i (by omega))
              rw [this] at eb; cases eb
            simp only [aB,jq (show i≤9223372036854775806 by omega)]
            refine ih (i+1) h3 c false g03 ox3 oy3 ⟨hc.z,fun u=>by have:=hc.lo u; omega,fun h=>(hno h).elim⟩ ⟨(fun h=>nomatch h),fun h=>(hno h).elim⟩ (by omega) (by omega)
        simp only [aB,gS hw,sp_1u]
        refine aH.ifB (fun e1=>f3 _ ?_) fun e1=>f3 _ ?_
        · simp at e1
          simp; omega
        · simp at e1
          simp; omega
      · rw [kg,f8] at e
        have:i=m:=by omega
        subst this
        have hl:∀ K,jg h (.ptr y 0) 7 true K=K (.agg (JK 7 c)):=fun K=>ai2 oy.cl (by rw [List.drop_zero,List.take_of_length_le (by rw [Cu]; omega)]) (by rw [Cu]; omega) K
        simp only [hl]
        refine aM.bind (anQ (n:=7) (cs:=JK 7 c) ox (Cu ..) (Cu ..)) ?_
        rintro _ h4 ⟨rfl,p⟩
        exact EV ⟨p.grow g hx,hk,c,rfl,hc⟩
  exact key n 0 h2 (fun _=>0) true g02 ((g2.chg fun _=>False).own ox fun h=>h) oy ⟨rfl,fun u=>by omega,fun _=>rfl⟩ ⟨fun _ j hj=>by omega,fun _=>rfl⟩ (by omega) (by omega)
end Go.Proofs.YtpoobhhdgjgdgaaGreat.Sh
/- Whether a partition's frames add up. -/
namespace Go.Proofs.YtpoobhhdgjgdgaaGreat.Sh
open Go.Ai
def spl (U:Nat→AV) (C:Nat→Int):Nat→List AV
  | 0=>[]
  | i+1=>spl U C i++[U i,.int .i64 (C i)]
theorem amS (U:Nat→AV) (C:Nat→Int):∀ i,(spl U C i).length=i*2
  | 0=>rfl
  | i+1=>by rw [spl,gt,amS U C i]; simp; omega
theorem spl_at (U:Nat→AV) (C:Nat→Int):∀ (i j:Nat),j<i→((spl U C i).drop (j*2)).take 2 = [U j,.int .i64 (C j)]
  | 0,j,h=>by omega
  | i+1,j,h=>by
    have hl:=amS U C i
    by_cases hj:j=i
    · subst hj
      rw [spl, ← hl,List.drop_left]; rfl
    · rw [spl,List.drop_append_of_le_length (by omega),List.take_append_of_le_length (by rw [List.length_drop]; omega)]
      exact spl_at U C i j (by omega)
theorem sps_at {h:Heap} {v:AV} {m:Nat} {U:Nat→AV} {C:Nat→Int} (a:App h v 2 m (spl U C m)) (hm:m≤1048576) (hU:∀ i,i<m→SpIn h (U i)):SpsIn h v m:=by
  refine ⟨U,C,⟨by omega,?_⟩,hU⟩
  rcases a with ⟨rfl,rfl,_⟩ | ⟨b,rfl,o,h1,h2⟩
  · exact .inl ⟨rfl,rfl⟩
  · exact .inr ⟨b,0,0,true,rfl,fun _=>⟨_,o.cl,fun i hi=>⟨by rw [amS]; omega,by rw [Nat.zero_add]; exact spl_at U C m i hi⟩⟩⟩
theorem v_sums_2 {n:Nat} {zc:bA} (hn:dm n zc) (hn':1100<n) {h0:Heap} (hro:h0.ro≤h0.nx) {t pp:AV} (ht:cK h0 .i64 t zc.fh) (hp:di h0 pp zc.parts) {w:Nat} (hw:h0.cl w (qr zc t pp)) (p:Int) {y:Nat} {c:Nat→Int} (hy:h0.cl y (JK 7 c)) {v:AV} {m:Nat} (hv:SpsIn h0 v m) :
    aM (fun k=>xw n (bN n) (bF n) (bQ n) (bM n) k p (.ptr w 0) (.ptr y 0) v h0) fun _ h'=>aY h0 h':=by
  unfold xw
  refine dr.bind (v_Sum hn' hro hv) ?_
  rintro r e h1 ⟨g1,a1,a2,a3,a4,rfl⟩
  refine aM.bind (G1 (g1.le hro) (by rfl) (by rfl)) ?_
  rintro d h2 ⟨hd,od,g2⟩
  have g02:=g1.trans g2
  have f1:∀ b:Bool,aM (fun k=>uf n (bN n) (bF n) (bQ n) (bM n) k p (.ptr w 0) (.ptr d 0) b h2) fun _ h'=>aY h0 h':=by
    intro b
    unfold uf wW
    refine aH.ifB (fun _=>jL g02) fun _=>?_
    have hl:∀ K,jg h2 (.ptr d 0) 4 true K=K (.agg (zg a1 a2 a3 a4)):=fun K=>ai2 od.cl rfl (by show 0+4≤4; omega) K
    simp only [aB,gS (g02.cl hw),bC,hl,gS od.cl,Ql (show (zg a1 a2 a3 a4).length=4 from rfl)]
    refine dr.bind (v_Fits hn (g02.le hro) (Cfg.mk' (ht.grow g02) (hp.grow g02)) p a1 a2 a3 a4) ?_
    rintro r e h3 g3
    exact aH.ifB (fun _=>jL (g02.trans g3)) fun _=>jL (g02.trans g3)
  have i3:∀ K,Iv 1 7 (.ptr y 0) 3 K=K (.ptr y (0+3)):=fun K=>QD (n:=7) (k:=3) (by omega) K
  refine aH.ifB (fun _=>f1 true) fun _=>?_
  simp only [aB,gS od.cl,anD,i3,gS (g02.cl hy),CL c (show 3<7 by omega)]
  exact f1 _
theorem anx {n:Nat} {zc:bA} (hn:dm n zc) (hn':1100<n) {h0:Heap} (hro:h0.ro≤h0.nx) {t pp:AV} (ht:cK h0 .i64 t zc.fh) (hp:di h0 pp zc.parts) {w:Nat} (hw:h0.cl w (qr zc t pp)) (p:Int) {y:Nat} {c:Nat→Int} (hy:h0.cl y (JK 7 c))
    {z:StZ} {va vb vc vd:AV} (hst:eM n h0 z va vb vc vd) {x:Nat} (hx:h0.cl x (stC va vb z.whole vc vd)) (b:Bool) :
    aM (fun k=>uz n (bN n) (bF n) (bQ n) (bM n) k p (.ptr w 0) (.ptr x 0) (.ptr y 0) b h0) fun r h'=>aY h0 h'∧(r=true→b=false):=by
  unfold uz
  refine aH.ifB (fun _=>jL ⟨.refl,fun h=>nomatch h⟩) fun eb=>?_
  obtain ⟨m,A,B,U,C,V,hm,hs0,hUV⟩:=hst.procs
  simp only [aB,gS hx,st_4,bI.len hs0]
  refine aH.mono (Q:=fun r=>aY h0 r.2) ?_ fun r h=>⟨h,fun _=>eb⟩
  have key:∀ (q i:Nat) (h:Heap) (v:AV),aY h0 h→App h v 2 i (spl U C i)→(∀ b,v.blk=some b→h0.nx≤b)→i≤m→m-i<q→aM (fun k=>wO n (bN n) (bF n) (bQ n) (bM n) k q p (.ptr w 0) (.ptr y 0) v vd (m:Int) (i:Int) h) fun _ h'=>aY h0 h':=by
    intro q
    induction q with
    | zero=>omega
    | succ q ih=>
      intro i h v g ha hlow hi hq
      simp only [ag8]
      unfold xe
      refine aH.ifB (fun e=>?_) fun e=>?_
      · rw [kg,fX] at e
        have hlt:i<m:=by omega
        refine aH.copy (hs0.grow g) (g.le hro) hlt rfl rfl fun a b y1 d h1 hy1 g'=>?_
        have g1:=g.trans g'
        simp only [aB,gS hy1,aol]
        refine aM.bind (wi (l:=[U i,.int .i64 (C i)]) (fun k=>by rfl)) ?_
        rintro _ h2 ⟨rfl,c2,g2⟩
        have g12:=g1.trans g2
        refine aM.bind (Cj (g12.le hro) ((ha.grow g').grow g2) (n:=1) (by decide) c2 (new:=[U i,.int .i64 (C i)]) (by rw [nP]; rfl) (by omega)) ?_
        rintro v' h3 ⟨a3,b3,c3⟩
        simp only [aB,jq (show i≤9223372036854775806 by omega)]
        refine ih (i+1) h3 v' (c3.grow g12 fun b hb=>hlow b hb) a3 (fun b hb=>?_) (by omega) (by omega)
        rw [b3] at hb
        cases hb
        exact g12.nx
      · rw [kg,f8] at e
        have:i=m:=by omega
        subst this
        exact aH.mono (v_sums_2 hn hn' (g.le hro) (ht.grow g) (hp.grow g) (g.cl hw) p (g.cl hy) (sps_at ha hm.2 fun j hj=>(hUV j hj).1.grow g)) fun r h=>g.trans h
  exact key n 0 h0 .nilslice .refl .nil (fun b hb=>by cases hb) (by omega) (by omega)
end Go.Proofs.YtpoobhhdgjgdgaaGreat.Sh
