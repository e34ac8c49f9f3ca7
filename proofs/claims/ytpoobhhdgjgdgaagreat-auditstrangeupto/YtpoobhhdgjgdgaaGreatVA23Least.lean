/- AuditStrange: all of it. -/
import Derived.Test.YtpoobhhdgjgdgaaGreatVA22
import Derived.Test.YtpoobhhdgjgdgaaGreatAiFlatBVA21
import Derived.Test.YtpoobhhdgjgdgaaGreatAiCpsRunLo
import Derived.WalkKit
import Derived.ProofKit
import Derived.OpenShut
import Derived.JoinedCond
import Derived.WideKeyArgs
import Derived.Test.YtpoobhhdgjgdgaaGreatVA9VA11
import Derived.Test.YtpoobhhdgjgdgaaGreatAiCallSym
import Derived.Lib.SlKeysI
import Derived.Test.YtpoobhhdgjgdgaaGreatAiMemoSPaUPrims
import Derived.RangeFuncSeq
import Derived.Maps.RangeWalk
set_option linter.all false
namespace Go.Proofs.YtpoobhhdgjgdgaaGreat.Sh
open Go.Ai
def afZ (P f Z U L:Int):List AV:=[.int .i64 P,.int .i64 f,.int .i64 Z,.int .u8 U,.int .i64 L]
theorem od_0 (P f Z U L:Int):(afZ P f Z U L)[0]?=some (.int .i64 P):=rfl
theorem od_1 (P f Z U L:Int):(afZ P f Z U L)[1]?=some (.int .i64 f):=rfl
theorem od_2 (P f Z U L:Int):(afZ P f Z U L)[2]?=some (.int .i64 Z):=rfl
theorem od_3 (P f Z U L:Int):(afZ P f Z U L)[3]?=some (.int .u8 U):=rfl
theorem od_4 (P f Z U L:Int):(afZ P f Z U L)[4]?=some (.int .i64 L):=rfl
theorem ahi (d:Nat) (h:Heap) (b o n:Nat) (u:AV) (k:AV→Heap→aa):fst d h (.ptr b o) n u k=jf h (.ptr b (o+d)) n u fun H=>k (.ptr b (o+d)) H:=by
  unfold fst; rw [agH]
theorem acQ {h:Heap} {v:AV} {sz n:Nat} {f:Nat→List AV} (s:bI h v sz n f):v.fD=true:=by
  rcases s with ⟨_,⟨rfl,_⟩ | ⟨b,off,ext,o,rfl,_⟩⟩<;>rfl
theorem cT.cell {n:Nat} {h:Heap} {v:AV} (s:cT n h v):v.fD=true:=by
  obtain ⟨m,a,b,c,p,q,r,_,h2⟩:=s
  exact acQ h2
theorem build_02 {a b:AV} (ha:a.fD=true) (hb:b.fD=true) (K:AV→aa):kM [.nilslice,.nilslice,.nilslice] [(0,1,a),(2,1,b)] K=K (.agg (sq a .nilslice b)):=by
  cases a<;>first | exact nomatch (show false=true from ha) | (cases b<;>first | exact nomatch (show false=true from hb) | rfl)
theorem build_12 {a b:AV} (ha:a.fD=true) (hb:b.fD=true) (K:AV→aa):kM [.nilslice,.nilslice,.nilslice] [(1,1,a),(2,1,b)] K=K (.agg (sq .nilslice a b)):=by
  cases a<;>first | exact nomatch (show false=true from ha) | (cases b<;>first | exact nomatch (show false=true from hb) | rfl)
theorem akC (g:Nat→List AV) (x:List AV) (m:Nat):ri (fun i=>if i=m then x else g i) (m+1)=ri g m++x:=by
  have h1:ri (fun i=>if i=m then x else g i) m=ri g m:=Qq m fun i hi=>if_neg (by omega)
  show ri (fun i=>if i=m then x else g i) m++(if m=m then x else g m)=_
  rw [h1,if_pos rfl]
def inR (a m:Int):Int:=(a.tmod m+m).tmod m
theorem inR_ok {a m:Int} (h:0<m):0≤inR a m∧inR a m<m ∧ -m<a.tmod m∧a.tmod m<m:=by
  have h1:=Int.tmod_lt_of_pos a h
  have h2:=Int.tmod_lt_of_pos (-a) h
  rw [Int.neg_tmod] at h2
  have e:(a.tmod m+m).tmod m=(a.tmod m+m)%m:=Int.tmod_eq_emod_of_nonneg (by omega)
  have h3:=Int.emod_nonneg (a.tmod m+m) (show m≠0 by omega)
  have h4:=Int.emod_lt_of_pos (a.tmod m+m) h
  unfold inR
  rw [e]; omega
theorem anH {zc:bA} {ps:List StZ} {M:Nat} {S T:Nat→Int} {fs:List (Int × Int)} (hm:uD zc=true) (hlen:ps.length=zc.parts.length) (c:Chk zc ps M S T fs):∃ fs0 tw ca,Told zc ps ps.length fs0∧fs=fs0++(fl tw 280 ps.length++fl (!ca) 281 ps.length)∧(ca=true→∀ i,i<M→eX zc (S i) (T i)):=by
  rcases c with ⟨h,_⟩ | ⟨_,h,_⟩ | ⟨_,_,h⟩
  · rw [hm] at h; cases h
  · exact (h hlen).elim
  · exact h
theorem aqj {zc:bA} {ps:List StZ} {M:Nat} {S T:Nat→Int} {fs:List (Int × Int)} (c:Chk zc ps M S T fs):fs.length<900:=by
  rcases c with ⟨_,rfl⟩ | ⟨_,_,rfl⟩ | ⟨hm,hl,fs0,tw,ca,tl,rfl,_⟩
  · simp
  · simp
  · have:=tl.len
    have:=Qm hm
    have fl1:∀ b c a,(fl b c a).length≤1:=fun b c a=>by cases b<;>simp [fl]
    have:=fl1 tw 280 ps.length
    have:=fl1 (!ca) 281 ps.length
    rw [gt,gt]
    omega
theorem g_0 {n:Nat} {zc:bA} (hn:dm n zc) (hn':1100<n) (hm:uD zc=true) {h0:Heap} (hro:h0.ro≤h0.nx) {t pp:AV} (ht:cK h0 .i64 t zc.fh) (hp:di h0 pp zc.parts) {w y:Nat} (hw:h0.cl w (qr zc t pp)) {ps:List StZ} {vp vl vt:AV} {A B C D:Nat→AV} (hs:dJ n h0 ps vp A B C D) (hlen:ps.length=zc.parts.length) {M:Nat} {S T:Nat→Int} (hl:c8 n h0 vl M S T) (hv:cT n h0 vt) (hy:h0.cl y (sq vp vl vt)) (b:Bool) {m:Nat} (hM:m<M) (hb:b=false→¬ eX zc (S m) (T m)) :
    aM (fun k=>kq n (kT bb) (aK n) (bB n) (be n) k (.ptr w 0) (zc.parts.length:Int) (.ptr y 0) b h0) fun r h'=>r=true∧aY h0 h':=by
  unfold kq
  refine aH.ifB (fun _=>jL ⟨rfl,.refl⟩) fun eb=>?_
  simp only [aB,gS hw,bC,gS hy,ajq]
  refine aM.bind (aoq hn hn' hro (Cfg.mk' ht hp) hs hl hv) ?_
  rintro r h1 ⟨g1,fs,hr,hck⟩
  have hf:=aqj hck
  obtain ⟨fs0,tw,ca,tl,e,hca⟩:=anH hm hlen hck
  refine aM.bind (aps hr (by omega) 281 zc.parts.length) ?_
  rintro b' h2 ⟨rfl,hb'⟩
  refine jL ⟨hb' ?_,g1⟩
  have:ca=false:=by
    cases ca with
    | false=>rfl
    | true=>exact (hb eb (hca rfl m hM)).elim
  subst this
  rw [e,hlen]
  exact gm _ (gm _ (by simp [fl]))
theorem g_1 {n:Nat} {zc:bA} (hn:dm n zc) (hn':1100<n) (hm:uD zc=true) {h0:Heap} (hro:h0.ro≤h0.nx) {t pp:AV} (ht:cK h0 .i64 t zc.fh) (hp:di h0 pp zc.parts) {w x o:Nat} (hw:h0.cl w (qr zc t pp)) {ps:List StZ} {vp vl vt:AV} {A B C D:Nat→AV} (hs:dJ n h0 ps vp A B C D) (hlen:ps.length=zc.parts.length) {M:Nat} {S T:Nat→Int} (hl:c8 n h0 vl M S T) (hv:cT n h0 vt) (hx:h0.cl x (sq vp vl vt)) {P f Z U L:Int} (ho:h0.cl o (afZ P f Z U L)) (hM:M≤1048575) (hMn:M+1<n) {q:Int} {b:Bool} (hoz:Uv zc f q b 0) :
    aM (fun k=>lP n (kT bb) (aK n) (bB n) (be n) k (.ptr w 0) (.ptr x 0) (.ptr o 0) (zc.parts.length:Int) b h0) fun r h'=>r=true∧aY h0 h':=by
  unfold lP
  obtain ⟨k1,k2,k3,k4⟩:=inR_ok (a:=L) (m:=16) (by decide)
  have w0:IntKind.i64.wrap (L.tmod 16+16)=L.tmod 16+16:=m9 (by omega) (by omega)
  have e0:(L.tmod 16+16).tmod 16=inR L 16:=rfl
  obtain ⟨hfr,hco⟩:=Zn hm
  have hfr':=hfr
  have hco':=hco
  simp [jd] at hfr' hco'
  have hf:0≤f∧f<zc.frames:=by
    rcases hoz with ⟨h1,_⟩ | ⟨_,_,f0,f1,_⟩
    · exact (h1 rfl).elim
    · exact ⟨f0,f1⟩
  have b0:=build_02 (acQ hs.sl) hv.cell
  have b1:∀ (a b:Int) (K:AV→aa),kM [(.int .i64 0),(.int .u64 0)] [(0,1,(.int .i64 a)),(1,1,(.int .u64 b))] K=K (.agg [.int .i64 a,.int .u64 b]):=fun a b K=>rfl
  simp only [aB,gS ho,od_4,PR (show (16:Int)≠0 by decide),w0,e0,gS hx,UB,amv,b0]
  generalize inR L 16=kk at k1 k2
  refine aM.bind (G1 (n:=3) hro (by rfl) (by rfl)) ?_
  rintro y h1 ⟨hy,oy,g1⟩
  simp only [aB,gS oy.cl,aim,gS (g1.cl hx)]
  refine aM.bind (ak6 (g1.le hro) (bI.grow hl.sl g1) (by omega) fun i _=>rfl) ?_
  rintro vl1 h2 ⟨a2,g2,lo2⟩
  have g02:=g1.trans g2
  have oy2:=oy.grow g2
  simp only [aB,ahi]
  refine dl.bind (sI oy2 (show 1<3 by decide) (by rcases a2 with ⟨rfl,_⟩ | ⟨b,rfl,_⟩<;>rfl)) ?_
  intro h3 p3
  have e3:(sq vp .nilslice vt).set 1 vl1=sq vp vl1 vt:=rfl
  rw [e3] at p3
  have hylt:=oy.lt
  have ne1:∀ b,vl1.blk=some b→b≠y:=fun b hb e=>by have:=lo2 b hb; omega
  have g03:aY h0 h3:=p3.grow g02 hy
  have a3:App h3 vl1 2 M (ri (fun i=>[.int .i64 (S i),.int .u64 (T i)]) M):=a2.chg p3.chg fun b hb=>ne1 b hb
  have w1:IntKind.i64.wrap (16*f)=16*f:=m9 (by omega) (by omega)
  have w2:IntKind.i64.wrap (16*f+kk)=16*f+kk:=m9 (by omega) (by omega)
  have w3:IntKind.u64.wrap (16*f+kk)=16*f+kk:=ahh (by omega) (by omega)
  simp only [aB,gS p3.own.cl,aim,gS (g03.cl ho),od_2,od_1,w1,w2,w3,b1]
  refine aM.bind (wi (l:=[.int .i64 Z,.int .u64 (16*f+kk)]) (fun k=>by rfl)) ?_
  rintro _ h4 ⟨rfl,c4,g4⟩
  have g04:=g03.trans g4
  refine aM.bind (Cj (g04.le hro) (a3.grow g4) (n:=1) (by decide) c4 (new:=[.int .i64 Z,.int .u64 (16*f+kk)]) (by rw [nP]; rfl) (by omega)) ?_
  rintro vl2 h5 ⟨a5,b5,c5⟩
  have h1lt:=g2.nx
  have hlow2:∀ b,vl1.blk=some b→h0.nx≤b:=fun b hb=>by have:=lo2 b hb; have:=g1.nx; omega
  have g05:aY h0 h5:=c5.grow g04 hlow2
  have oy4:=p3.own.grow g4
  have oy5:=c5.own oy4 fun e=>ne1 y e rfl
  refine dl.bind (sI oy5 (show 1<3 by decide) (by rcases a5 with ⟨rfl,_⟩ | ⟨b,rfl,_⟩<;>rfl)) ?_
  intro h6 p6
  have e6:(sq vp vl1 vt).set 1 vl2=sq vp vl2 vt:=rfl
  rw [e6] at p6
  have g06:aY h0 h6:=p6.grow g05 hy
  have hne2:h4.nx≠y:=by have:=oy4.lt; omega
  have a6:App h6 vl2 2 (M+1) (ri (fun i=>if i=M then [.int .i64 Z,.int .u64 (16*f+kk)] else [.int .i64 (S i),.int .u64 (T i)]) (M+1)):=by
    have:ri (fun i=>if i=M then [AV.int .i64 Z,.int .u64 (16*f+kk)] else [.int .i64 (S i),.int .u64 (T i)]) (M+1)=ri (fun i=>[.int .i64 (S i),.int .u64 (T i)]) M++[.int .i64 Z,.int .u64 (16*f+kk)]:=by
      exact akC _ _ M
    rw [this]
    exact a5.chg p6.chg fun b hb=>by rw [b5] at hb; cases hb; exact hne2
  have sl6:bI h6 vl2 2 (M+1) fun i=>[.int .i64 (if i=M then Z else S i),.int .u64 (if i=M then 16*f+kk else T i)]:=by
    refine bI.congr (ahK a6 (by omega) fun i _=>by split<;>rfl) fun i hi=>?_
    by_cases h:i=M
    · rw [if_pos h,if_pos h,if_pos h]
    · rw [if_neg h,if_neg h,if_neg h]
  have l6:c8 n h6 vl2 (M+1) (fun i=>if i=M then Z else S i) (fun i=>if i=M then 16*f+kk else T i):=by
    refine ⟨sl6,hMn,fun i hi=>?_⟩
    by_cases h:i=M
    · rw [if_pos h]; omega
    · rw [if_neg h]; exact hl.lo i (by omega)
  have fin:∀ b':Bool,(b'=false→¬ eX zc Z (16*f+kk))→aM (fun k=>kq n (kT bb) (aK n) (bB n) (be n) k (.ptr w 0) (zc.parts.length:Int) (.ptr y 0) b' h6) fun r h'=>r=true∧aY h0 h':=by
    intro b' hb'
    refine aH.mono (g_0 hn hn' hm (g06.le hro) (ht.grow g06) (hp.grow g06) (g06.cl hw) (hs.grow g06) hlen l6 (hv.grow g06) p6.own.cl b' (m:=M) (by omega) fun e=>?_) fun r h=>⟨h.1,g06.trans h.2⟩
    rw [if_pos rfl,if_pos rfl]
    exact hb' e
  have e7:f.tmod zc.eY=f%zc.eY:=Int.tmod_eq_emod_of_nonneg hf.1
  have m1:0≤f%zc.eY:=Int.emod_nonneg _ (by omega)
  have m2:f%zc.eY<zc.eY:=Int.emod_lt_of_pos _ (by omega)
  have w5:IntKind.i64.wrap (f%zc.eY*16)=f%zc.eY*16:=m9 (by omega) (by omega)
  have w6:IntKind.i64.wrap (f%zc.eY*16+kk)=f%zc.eY*16+kk:=m9 (by omega) (by omega)
  have t1:(16*f+kk)/16=f:=by omega
  have t2:(16*f+kk)%16=kk:=by omega
  simp only [aB,gS (g06.cl ho),od_2,od_1,gS (g06.cl hw),bC,PR (show zc.eY≠0 by omega),e7,w5,w6]
  refine aH.ifB (fun e=>fin b fun eb hlo=>?_) fun e=>fin false fun _ hlo=>?_
  · obtain ⟨_,_,r,hr⟩:=hlo
    rw [t1] at hr
    subst eb
    rcases hoz with ⟨h1,_⟩ | ⟨_,_,_,_,⟨h2,_⟩ | ⟨_,_,h2⟩⟩
    · exact h1 rfl
    · cases h2
    · rcases hr with ⟨h1,_⟩ | ⟨_,_,_,_,⟨_,p,_,h3,h4,_⟩ | ⟨h3,_⟩⟩
      · exact h1 rfl
      · exact h2 p h3 h4
      · cases h3
  · obtain ⟨_,h2,_⟩:=hlo
    rw [t1,t2] at h2
    rw [h2] at e
    simp at e
theorem g_2 {n:Nat} {zc:bA} (hn:dm n zc) (hn':1100<n) (hm:uD zc=true) {h0:Heap} (hro:h0.ro≤h0.nx) {t pp:AV} (ht:cK h0 .i64 t zc.fh) (hp:di h0 pp zc.parts) {w x o:Nat} (hw:h0.cl w (qr zc t pp)) {ps:List StZ} {vp vl vt:AV} {A B C D:Nat→AV} (hs:dJ n h0 ps vp A B C D) (hlen:ps.length=zc.parts.length) {M:Nat} {S T:Nat→Int} (hl:c8 n h0 vl M S T) (hv:cT n h0 vt) (hx:h0.cl x (sq vp vl vt)) {P f Z U L:Int} (ho:h0.cl o (afZ P f Z U L)) (hM:M≤1048575) (hMn:M+1<n) {q:Int} {b:Bool} (hoz:Uv zc f q b 0) {r:AV} {fs:List (Int × Int)} (hr:RdF h0 r fs) (hfs:fs.length<n) {p:Nat} (htw:∀ i k,i<ps.length→k<(stZ ps i).m→(stZ ps i).F k=f→((280:Int),((max i p:Nat):Int))∈fs) :
    ∀ (u i:Nat),i≤ps.length→ps.length-i<u→aM (fun k=>km n (kT bb) (aK n) (bB n) (be n) k u (.ptr w 0) (.ptr x 0) (.ptr o 0) (zc.parts.length:Int) (p:Int) b r (i:Int) h0) fun r h'=>r=true∧aY h0 h':=by
  intro u
  induction u with
  | zero=>omega
  | succ u ih=>
    intro i hi hu
    simp only [Dy]
    unfold lS
    have hsm:=hs.sl.1
    refine aH.ifB (fun e=>?_) fun e=>g_1 hn hn' hm hro ht hp hw hs hlen hl hv hx ho hM hMn hoz
    rw [kg,fX] at e
    have hlt:i<ps.length:=by omega
    have hst:eM n h0 (stZ ps i) (A i) (B i) (C i) (D i):=hs.st i hlt
    have hbig:=hst.big
    obtain ⟨aA,hA⟩:=bI.fA hs.sl (i:=i) (j:=0) hlt (by omega) (st_0 ..)
    have inner:∀ (u2 k2:Nat),k2≤(stZ ps i).m→(stZ ps i).m-k2<u2→aM (fun k=>kW n (kT bb) (aK n) (bB n) (be n) k (km n (kT bb) (aK n) (bB n) (be n) k u) u2 (.ptr w 0) (.ptr x 0) (.ptr o 0) (zc.parts.length:Int) (p:Int) b r (i:Int) (k2:Int) h0) fun r h'=>r=true∧aY h0 h':=by
      intro u2
      induction u2 with
      | zero=>omega
      | succ u2 ih2=>
        intro k2 hk hu2
        simp only [DH]
        unfold lO
        simp only [aB,gS hx,UB,hA,bI.len hst.own]
        refine aH.ifB (fun e=>?_) fun e=>?_
        · rw [fX] at e
          have hlt2:k2<(stZ ps i).m:=by omega
          obtain ⟨aF,hF⟩:=bI.fI hst.own (i:=k2) (j:=0) hlt2 (by omega) (am3 ..)
          simp only [aB,hF,gS ho,od_1]
          have f5:aM (fun k=>kZ n (kT bb) (aK n) (bB n) (be n) k (kW n (kT bb) (aK n) (bB n) (be n) k (km n (kT bb) (aK n) (bB n) (be n) k u) u2) (.ptr w 0) (.ptr x 0) (.ptr o 0) (zc.parts.length:Int) (p:Int) b r (i:Int) (k2:Int) false h0) fun r h'=>r=true∧aY h0 h':=by
            unfold kZ
            simp only [aB,jq (show k2≤9223372036854775806 by omega)]
            exact ih2 (k2+1) (by omega) (by omega)
          refine aH.ifB (fun e2=>?_) fun _=>f5
          have e2':(stZ ps i).F k2=f:=by simpa using e2
          have hmx:max (i:Int) (p:Int)=((max i p:Nat):Int):=by omega
          simp only [max_i,aaf,hmx]
          refine aM.bind (aps hr hfs 280 ((max i p:Nat):Int)) ?_
          rintro b' _ ⟨rfl,hb'⟩
          have:=hb' (htw i k2 hlt hlt2 e2')
          subst this
          exact f5
        · unfold mA
          simp only [aB,jq (show i≤9223372036854775806 by omega)]
          exact ih (i+1) (by omega) (by omega)
    exact inner n 0 (by omega) (by have:=hst.om; omega)
theorem g_8 {n:Nat} {zc:bA} (hn:dm n zc) (hn':1100<n) (hm:uD zc=true) {h0:Heap} (hro:h0.ro≤h0.nx) {t pp:AV} (ht:cK h0 .i64 t zc.fh) (hp:di h0 pp zc.parts) {w x o:Nat} (hw:h0.cl w (qr zc t pp)) {ps:List StZ} {vp vl vt:AV} {A B C D:Nat→AV} (hs:dJ n h0 ps vp A B C D) (hlen:ps.length=zc.parts.length) {M:Nat} {S T:Nat→Int} (hl:c8 n h0 vl M S T) (hv:cT n h0 vt) (hx:h0.cl x (sq vp vl vt)) {P f Z U L:Int} (ho:h0.cl o (afZ P f Z U L)) (hM:M≤1048575) (hMn:M+1<n) (hbig:∀ i,i<ps.length→(stZ ps i).m≤1048575) {q:Int} {b:Bool} (hoz:Uv zc f q b 0) {p:Nat} (hpl:p<ps.length) {y:Nat} {tp:AV} {A':Nat→AV} (hy:h0.cl y (sq tp vl vt)) (hs':dJ n h0 (ps.set p (Cw (stZ ps p) f U)) tp A' B C D) :
    aM (fun k=>lN n (kT bb) (aK n) (bB n) (be n) k (.ptr w 0) (.ptr x 0) (.ptr o 0) (zc.parts.length:Int) (p:Int) q b (.ptr y 0) h0) fun r h'=>r=true∧aY h0 h':=by
  unfold lN
  have h8:=Qm hm
  have hlen':(ps.set p (Cw (stZ ps p) f U)).length=zc.parts.length:=by rw [List.length_set]; exact hlen
  simp only [aB,gS hw,bC,gS hy,ajq]
  refine aM.bind (aoq hn hn' hro (Cfg.mk' ht hp) hs' hl hv) ?_
  rintro r h1 ⟨g1,fs,hr,hck⟩
  have hf:=aqj hck
  obtain ⟨fs0,tw,ca,tl,e,_⟩:=anH hm hlen' hck
  rw [hlen'] at tl
  have hsub:∀ z,z∈fs0→z∈fs:=fun z hz=>by rw [e]; exact gl _ hz
  have htw:∀ i k,i<ps.length→k<(stZ ps i).m→(stZ ps i).F k=f→((280:Int),((max i p:Nat):Int))∈fs:=fun i k hi hk e=>hsub _ (tl.tw (by omega) (aoO hpl (by omega) hbig hi hk e))
  have f7:aM (fun k=>kV n (kT bb) (aK n) (bB n) (be n) k (.ptr w 0) (.ptr x 0) (.ptr o 0) (zc.parts.length:Int) (p:Int) b r false h1) fun r h'=>r=true∧aY h0 h':=by
    unfold kV
    simp only [aB]
    exact aH.mono (g_2 hn hn' hm (g1.le hro) (ht.grow g1) (hp.grow g1) (g1.cl hw) (hs.grow g1) hlen (hl.grow g1) (hv.grow g1) (g1.cl hx) (g1.cl ho) hM hMn hoz hr (by omega) htw n 0 (by omega) (by omega)) fun r h=>⟨h.1,g1.trans h.2⟩
  have f6:∀ b':Bool,(b'=true→¬ (b=true∧q=(p:Int)))→aM (fun k=>kX n (kT bb) (aK n) (bB n) (be n) k (.ptr w 0) (.ptr x 0) (.ptr o 0) (zc.parts.length:Int) (p:Int) b r b' h1) fun r h'=>r=true∧aY h0 h':=by
    intro b' hb'
    unfold kX
    refine aH.ifB (fun eb=>?_) fun _=>f7
    refine aM.bind (aps hr (by omega) 281 p) ?_
    rintro b2 _ ⟨rfl,hb2⟩
    have:b2=true:=hb2 (hsub _ (tl.mi (by omega) fun hall=>?_))
    · subst this
      exact f7
    · have h1:=hall (stZ ps p).m (by rw [K0 hpl,if_pos rfl]; exact Nat.lt_succ_self _)
      rw [K0 hpl,if_pos rfl] at h1
      have h2:(Cw (stZ ps p) f U).F (stZ ps p).m=f:=if_pos rfl
      rw [h2] at h1
      obtain ⟨_,h3,h4⟩:=aq7 hoz h1
      exact hb' eb ⟨h3,h4⟩
  refine aH.ifB (fun e1=>f6 true fun _ h=>?_) fun e1=>f6 _ fun h1 h2=>?_
  · have h1:=h.1
    rw [h1] at e1; cases e1
  · rw [h2.2] at h1
    simp at h1
theorem aH.copyN {K R:Type} {ap:K→R→aa} {Q:R→Prop} {h:Heap} {v:AV} {sz n:Nat} {f:Nat→List AV} (s:bI h v sz n f) (hro:h.ro≤h.nx) {i:Nat} (hi:i<n) {z:List AV} (hz:z.length=sz) (hf:(f i).length=sz) {G:K→AV→AV→Nat→Heap→Heap→aa}
    (H:∀ a b c d e,Own e c (f i) 0→h.nx≤c→aY h e→aH ap (fun k=>G k a b c d e) Q) :
    aH ap (fun k=>eld sz h v (i:Int) sz true fun a b=>lG h (.cells z true 0) fun c d=>jf d (.ptr c 0) sz b fun e=>G k a b c d e) Q:=by
  simp only [s.eld (fP i) (by omega),gd]
  refine aM.bind (DV hro z 0) ?_
  rintro c d ⟨hc,o,g⟩
  refine dl.bind (Qv o (cs:=f i) hf (by omega)) ?_
  intro e p
  rw [Ix _ _ (by rw [hf,hz])] at p
  exact H _ _ c d e p.own hc (p.grow g hc)
def eV (h:Heap) (a:AV) (z:StZ) (f U:Int):Prop:=App h a 2 (z.m+1) (ri (fun i=>[.int .i64 (if i=z.m then f else z.F i),.int .u8 (if i=z.m then U else z.U i)]) (z.m+1))
theorem eV.chg {F:Nat→Prop} {h h':Heap} {a:AV} {z:StZ} {f U:Int} (o:eV h a z f U) (c:Chg F h h') (hf:∀ b,a.blk=some b→¬ F b):eV h' a z f U:=App.chg o c hf
theorem eV.grow {h h':Heap} {a:AV} {z:StZ} {f U:Int} (o:eV h a z f U) (g:aY h h'):eV h' a z f U:=App.grow o g
theorem eV.get {h:Heap} {a:AV} {z:StZ} {f U:Int} (o:eV h a z f U) {b:Nat} (hb:a.blk=some b):∃ l,Own h b l 2:=⟨_,HJ o hb⟩
structure TS (n:Nat) (h0 h:Heap) (ps:List StZ) (A B C D:Nat→AV) (p:Nat) (f U:Int) (vl vt:AV) (y i:Nat) (tp a':AV):Prop where
  g:aY h0 h
  own:Own h y (sq tp vl vt) 0
  low:h0.nx≤y
  app:App h tp 5 i (ri (fun j=>stC (if j=p then a' else A j) (B j) (stZ ps j).whole (C j) (D j)) i)
  tlow:∀ b,tp.blk=some b→h0.nx≤b
  done:p<i→eV h a' (stZ ps p) f U
theorem g_9 {n:Nat} {zc:bA} (hn:dm n zc) (hn':1100<n) (hm:uD zc=true) {h0:Heap} (hro:h0.ro≤h0.nx) {t pp:AV} (ht:cK h0 .i64 t zc.fh) (hp:di h0 pp zc.parts) {w x o:Nat} (hw:h0.cl w (qr zc t pp)) {ps:List StZ} {vp vl vt:AV} {A B C D:Nat→AV} (hs:dJ n h0 ps vp A B C D) (hlen:ps.length=zc.parts.length) {M:Nat} {S T:Nat→Int} (hl:c8 n h0 vl M S T) (hv:cT n h0 vt) (hx:h0.cl x (sq vp vl vt)) {P f Z U L:Int} (ho:h0.cl o (afZ P f Z U L)) (hM:M≤1048575) (hMn:M+1<n) (hbig:∀ i,i<ps.length→(stZ ps i).m≤1048575∧(stZ ps i).m+1<n) {q:Int} {b:Bool} (hoz:Uv zc f q b 0) {p:Nat} (hpl:p<ps.length) {y:Nat} :
    ∀ (u i:Nat) (h:Heap) (tp a':AV),TS n h0 h ps A B C D p f U vl vt y i tp a'→i≤ps.length→ps.length-i<u→aM (fun k=>kY n (kT bb) (aK n) (bB n) (be n) k u (.ptr w 0) (.ptr x 0) (.ptr o 0) (zc.parts.length:Int) (p:Int) q b (.ptr y 0) (i:Int) h) fun r h'=>r=true∧aY h0 h':=by
  intro u
  have h8:=Qm hm
  have b1:∀ (a b:Int) (K:AV→aa),kM [(.int .i64 0),(.int .u8 0)] [(0,1,(.int .i64 a)),(1,1,(.int .u8 b))] K=K (.agg [.int .i64 a,.int .u8 b]):=fun a b K=>rfl
  induction u with
  | zero=>omega
  | succ u ih=>
    intro i h tp a' s hi hu
    simp only [DE]
    unfold lM
    have g:=s.g
    refine aH.ifB (fun e=>?_) fun e=>?_
    · rw [kg,fX] at e
      have hlt:i<ps.length:=by omega
      have hst:eM n h0 (stZ ps i) (A i) (B i) (C i) (D i):=hs.st i hlt
      simp only [aB,gS (g.cl hx),UB]
      refine aH.copyN (bI.grow hs.sl g) (g.le hro) hlt rfl rfl fun a1 b1' z d h1 hz hzn g1=>?_
      rw [show ps.getD i default=stZ ps i from rfl] at hz
      have s1:TS n h0 h1 ps A B C D p f U vl vt y i tp a':=⟨g.trans g1,s.own.grow g1,s.low,s.app.grow g1,s.tlow,fun h=>(s.done h).grow g1⟩
      have hzy:z≠y:=fun e=>by
        subst e
        have:=hz.get.symm.trans (s1.own).get
        simp [stC,sq] at this
      have next:∀ (h2:Heap) (a2:AV),TS n h0 h2 ps A B C D p f U vl vt y i tp a2→(i=p→eV h2 a2 (stZ ps p) f U)→Own h2 z (stC (if i=p then a2 else A i) (B i) (stZ ps i).whole (C i) (D i)) 0→aM (fun k=>kN n (kT bb) (aK n) (bB n) (be n) k (kY n (kT bb) (aK n) (bB n) (be n) k u) (.ptr w 0) (.ptr x 0) (.ptr o 0) (zc.parts.length:Int) (p:Int) q b (.ptr y 0) (i:Int) (.ptr z 0) h2) fun r h'=>r=true∧aY h0 h':=by
        intro h2 a2 s2 hip oz
        unfold kN
        simp only [aB,gS s2.own.cl,UB,gS oz.cl,Ql (show (stC (if i=p then a2 else A i) (B i) (stZ ps i).whole (C i) (D i)).length=5 from rfl)]
        refine aM.bind (wi (l:=stC (if i=p then a2 else A i) (B i) (stZ ps i).whole (C i) (D i)) (fun k=>by rfl)) ?_
        rintro _ h3 ⟨rfl,c3,g3⟩
        have g03:=s2.g.trans g3
        refine aM.bind (Cj (g03.le hro) (s2.app.grow g3) (n:=1) (by decide) c3 (new:=stC (if i=p then a2 else A i) (B i) (stZ ps i).whole (C i) (D i)) (by rw [nP]; rfl) (by omega)) ?_
        rintro tp' h4 ⟨a4,bl4,c4⟩
        have hyt:¬ tp.blk=some y:=fun e=>by
          have:=HJ s2.app e
          have:=this.get.symm.trans s2.own.get
          simp at this
        have oy4:=c4.own (s2.own.grow g3) hyt
        simp only [aB,ahi]
        refine dl.bind (sI oy4 (show 0<3 by decide) (by rcases a4 with ⟨rfl,_⟩ | ⟨b,rfl,_⟩<;>rfl)) ?_
        intro h5 p5
        have e5:(sq tp vl vt).set 0 tp'=sq tp' vl vt:=rfl
        rw [e5] at p5
        have g04:=c4.grow g03 s2.tlow
        simp only [aB,jq (show i≤9223372036854775806 by omega)]
        refine ih (i+1) h5 tp' a2 ⟨p5.grow g04 s2.low,p5.own,s2.low,?_,fun b hb=>?_,fun hp'=>?_⟩ (by omega) (by omega)
        · exact a4.chg p5.chg fun b hb=>by rw [bl4] at hb; cases hb; have:=s2.own.lt; have:=g3.nx; omega
        · rw [bl4] at hb; cases hb; exact g03.nx
        · have od:eV h3 a2 (stZ ps p) f U:=by
            by_cases e:i=p
            · exact (hip e).grow g3
            · exact (s2.done (by omega)).grow g3
          refine (od.chg c4 fun b hb hb'=>?_).chg p5.chg fun b hb hb'=>?_
          · obtain ⟨_,h1⟩:=od.get hb
            have h2:=HJ (s2.app.grow g3) hb'
            have:=h1.get.symm.trans h2.get
            simp at this
          · obtain ⟨_,h1⟩:=(od.chg c4 fun b hb hb'=>(by
              obtain ⟨_,h1⟩:=od.get hb
              have:=h1.get.symm.trans (HJ (s2.app.grow g3) hb').get
              simp at this:False)).get hb
            have:=h1.get.symm.trans (hb'▸oy4.get:h4.get b=_)
            simp at this
      refine aH.ifB (fun ep=>?_) fun ep=>?_
      · have ep':i=p:=by have:(i:Int)=(p:Int):=by simpa using ep
                         omega
        subst ep'
        have hbi:=hbig i hlt
        simp only [aB,gS hz.cl,st_0]
        refine aM.bind (ak6 (s1.g.le hro) (bI.grow hst.own s1.g) (by omega) fun j _=>rfl) ?_
        rintro v1 h2 ⟨a2,g2,lo2⟩
        have g02:=s1.g.trans g2
        simp only [aB,gS (g02.cl ho),od_1,od_3,b1]
        refine aM.bind (wi (l:=[.int .i64 f,.int .u8 U]) (fun k=>by rfl)) ?_
        rintro _ h3 ⟨rfl,c3,g3⟩
        have g03:=g02.trans g3
        refine aM.bind (Cj (g03.le hro) (a2.grow g3) (n:=1) (by decide) c3 (new:=[.int .i64 f,.int .u8 U]) (by rw [nP]; rfl) (by omega)) ?_
        rintro v2 h4 ⟨a4,bl4,c4⟩
        have s3:TS n h0 h3 ps A B C D i f U vl vt y i tp a':=⟨g03,(s1.own.grow g2).grow g3,s1.low,(s1.app.grow g2).grow g3,s1.tlow,fun h=>by omega⟩
        have hlo:∀ b,v1.blk=some b→h0.nx≤b:=fun b hb=>by have:=lo2 b hb; have:=s1.g.nx; omega
        have oz4:Own h4 z (stC (A i) (B i) (stZ ps i).whole (C i) (D i)) 0:=c4.own ((hz.grow g2).grow g3) fun e=>by have:=lo2 _ e; have:=hz.lt; omega
        have g04:=c4.grow g03 hlo
        simp only [aB,ahi]
        refine dl.bind (sI oz4 (show 0<5 by decide) (by rcases a4 with ⟨rfl,_⟩ | ⟨b,rfl,_⟩<;>rfl)) ?_
        intro h5 p5
        have e5:(stC (A i) (B i) (stZ ps i).whole (C i) (D i)).set 0 v2=stC v2 (B i) (stZ ps i).whole (C i) (D i):=rfl
        rw [e5] at p5
        have hzlow:h0.nx≤z:=ga g.nx hzn
        have oi5:eV h5 v2 (stZ ps i) f U:=by
          have e6:ri (fun j=>[AV.int .i64 (if j=(stZ ps i).m then f else (stZ ps i).F j),.int .u8 (if j=(stZ ps i).m then U else (stZ ps i).U j)]) ((stZ ps i).m+1)=ri (fun j=>[.int .i64 ((stZ ps i).F j),.int .u8 ((stZ ps i).U j)]) (stZ ps i).m++[.int .i64 f,.int .u8 U]:=by
            rw [← akC (fun j=>[.int .i64 ((stZ ps i).F j),.int .u8 ((stZ ps i).U j)]) [.int .i64 f,.int .u8 U]]
            refine Qq _ fun j _=>?_
            by_cases e:j=(stZ ps i).m
            · rw [if_pos e,if_pos e,if_pos e]
            · rw [if_neg e,if_neg e,if_neg e]
          unfold eV
          rw [e6]
          exact a4.chg p5.chg fun b hb=>by rw [bl4] at hb; cases hb; have:=oz4.lt; have:=((hz.grow g2).grow g3).lt; omega
        have s5:TS n h0 h5 ps A B C D i f U vl vt y i tp v2:=by
          refine ⟨p5.grow g04 hzlow,p5.ownO hzy.symm (c4.own s3.own fun e=>by have:=lo2 _ e; have:=s1.own.lt; omega),s1.low,?_,s1.tlow,fun h=>by omega⟩
          have e7:ri (fun j=>stC (if j=i then v2 else A j) (B j) (stZ ps j).whole (C j) (D j)) i=ri (fun j=>stC (if j=i then a' else A j) (B j) (stZ ps j).whole (C j) (D j)) i:=Qq i fun j hj=>by rw [if_neg (by omega),if_neg (by omega)]
          rw [e7]
          refine (s3.app.chg c4 fun b hb hb'=>?_).chg p5.chg fun b hb hb'=>?_
          · have:=(HJ s3.app hb).get.symm.trans (HJ (a2.grow g3) hb').get
            simp at this
          · have:=(HJ s1.app hb).get.symm.trans (hb'▸hz.get:h1.get b=_)
            simp at this
        refine next h5 v2 s5 (fun _=>oi5) ?_
        rw [if_pos rfl]
        exact p5.own
      · have ep':i≠p:=by intro e; subst e; simp at ep
        refine next h1 a' s1 (fun e=>(ep' e).elim) ?_
        rw [if_neg ep']; exact hz
    · rw [kg,f8] at e
      have:i=ps.length:=by omega
      subst this
      have oi:=s.done hpl
      have hbp:=hbig p hpl
      have sl:bI h tp 5 ps.length fun j=>stC (if j=p then a' else A j) (B j) (stZ ps j).whole (C j) (D j):=ahK s.app (by omega) fun j _=>rfl
      have hs':dJ n h (ps.set p (Cw (stZ ps p) f U)) tp (fun j=>if j=p then a' else A j) B C D:=by
        have key:∀ j,(ps.set p (Cw (stZ ps p) f U)).getD j default=if j=p then Cw (stZ ps p) f U else stZ ps j:=fun j=>K0 hpl _ j
        refine ⟨?_,fun j hj=>?_⟩
        · rw [List.length_set]
          refine bI.congr sl fun j hj=>?_
          rw [key]
          by_cases e:j=p
          · subst e; rw [if_pos rfl,if_pos rfl]; rfl
          · rw [if_neg e,if_neg e]
        · rw [List.length_set] at hj
          rw [key]
          have hst:eM n h (stZ ps j) (A j) (B j) (C j) (D j):=(hs.st j hj).grow g
          by_cases e:j=p
          · subst e
            rw [if_pos rfl,if_pos rfl]
            exact ⟨ahK oi (show (stZ ps j).m+1≤1048576 by omega) fun j _=>rfl,by show (stZ ps j).m+1<n; omega,by show (stZ ps j).m+1≤1048576; omega,hst.free,hst.fm,hst.slots,hst.procs⟩
          · rw [if_neg e,if_neg e]; exact hst
      exact aH.mono (g_8 hn hn' hm (g.le hro) (ht.grow g) (hp.grow g) (g.cl hw) (hs.grow g) hlen (hl.grow g) (hv.grow g) (g.cl hx) (g.cl ho) hM hMn (fun i hi=>(hbig i hi).1) hoz hpl s.own.cl hs') fun r h=>⟨h.1,g.trans h.2⟩
theorem aho {n:Nat} {zc:bA} (hn:dm n zc) (hn':1100<n) (hN:zc.parts.length≤1048576) {h:Heap} (hro:h.ro≤h.nx) {c:List AV} (hc:Cfg h zc c) {ps:List StZ} {vp vl vt:AV} {A B C D:Nat→AV} (hs:dJ n h ps vp A B C D) {M:Nat} {S T:Nat→Int} (hl:c8 n h vl M S T) (hv:cT n h vt) (hM:M≤1048575) (hMn:M+1<n) (hbig:∀ i,i<ps.length→(stZ ps i).m≤1048575∧(stZ ps i).m+1<n) (P f Z U L:Int) :
    aM (cy n (.agg c) (.agg (sq vp vl vt)) (.agg (afZ P f Z U L)) h) fun b h'=>b=true∧aY h h':=by
  unfold cy pC nf
  obtain ⟨t,pp,rfl,ht,hp⟩:=hc
  refine aM.bind (m7 ..) ?_
  rintro w h1 ⟨hw,g1⟩
  refine aM.bind (m7 ..) ?_
  rintro x h2 ⟨hx,g2⟩
  refine aM.bind (m7 ..) ?_
  rintro o h3 ⟨ho,g3⟩
  have g03:=(g1.trans g2).trans g3
  have t1:(!true)=false:=rfl
  obtain ⟨_,S',hps,_⟩:=id hp
  have hsp:=bI.len hs.sl
  simp only [aB,works_is,t1,gS ((g2.trans g3).cl hw),bC,(hps.grow g03).len,gS (g3.cl hx),UB,hsp]
  have f12t:aM (fun k=>kj n (kT bb) (aK n) (bB n) (be n) k (.ptr w 0) (.ptr x 0) (.ptr o 0) (zc.parts.length:Int) true h3) fun b h'=>b=true∧aY h h':=by
    unfold kj
    exact jL ⟨rfl,g03⟩
  refine aH.ifB (fun _=>f12t) fun el=>?_
  have hlen:ps.length=zc.parts.length:=by simp at el; omega
  cases e0:((zc.parts.length:Int)==0) with
  | true=>exact f12t
  | false=>
    have hpos:0<zc.parts.length:=by
      rw [beq_eq_false_iff_ne] at e0
      omega
    unfold kj
    have hsm:=hs.sl.1
    obtain ⟨k1,k2,k3,k4⟩:=inR_ok (a:=P) (m:=(zc.parts.length:Int)) (by omega)
    have hpb:=hps.1
    have w0:IntKind.i64.wrap (P.tmod zc.parts.length+zc.parts.length)=P.tmod zc.parts.length+zc.parts.length:=m9 (by omega) (by omega)
    have e1:(P.tmod zc.parts.length+zc.parts.length).tmod zc.parts.length=inR P zc.parts.length:=rfl
    simp only [aB,gS ho,od_0,PR (show (zc.parts.length:Int)≠0 by omega),w0,e1,gS ((g2.trans g3).cl hw),bC,od_1]
    generalize inR P zc.parts.length=pi at k1 k2
    obtain ⟨p,rfl⟩:=gi k1
    refine Run3.bind (ahn hn (g03.le hro) (Cfg.mk' (ht.grow g03) (hp.grow g03)) f) ?_
    rintro q b e h4 ⟨g4,hoz⟩
    have g04:=g03.trans g4
    unfold lD
    refine aH.ifB (fun ee=>?_) fun ee=>?_
    · rcases hoz with ⟨_,rfl,rfl,_⟩ | ⟨h1,_⟩
      · exact jL ⟨rfl,g04⟩
      · subst h1; cases ee
    · obtain rfl:e=0:=by simpa using ee
      have hm:uD zc=true:=by
        rcases hoz with ⟨h1,_⟩ | ⟨_,h1,_⟩
        · exact (h1 rfl).elim
        · exact h1
      simp only [aB,gS ((g3.trans g4).cl hx),aim,amv,build_12 (acQ hl.sl) hv.cell]
      refine aM.bind (G1 (n:=3) (g04.le hro) (by rfl) (by rfl)) ?_
      rintro y h5 ⟨hy,oy,g5⟩
      have g45:=g04.trans g5
      exact aH.mono (g_9 hn hn' hm (g04.le hro) (ht.grow g04) (hp.grow g04) ((g2.trans (g3.trans g4)).cl hw) (hs.grow g04) hlen (hl.grow g04) (hv.grow g04) ((g3.trans g4).cl hx) (g4.cl ho) hM hMn hbig hoz (p:=p) (by omega) n 0 h5 .nilslice .nilslice ⟨g5,oy,hy,.nil,(fun b hb=>nomatch hb),fun h=>by omega⟩ (by omega) (by have:=Qm hm; omega)) fun r h=>⟨h.1,g04.trans h.2⟩
end Go.Proofs.YtpoobhhdgjgdgaaGreat.Sh
/- From what a row says of its input to the interpreter's heap; from a sound function to the model's call. -/
namespace Go.Ai
open Go.Proofs Go.ChangeShapes Go.WideShapes Go.ChangeAt Go.RowKit
theorem aoa {D:Wd}:∀ {l:List Value} {us:List AV},l.map (TC D)=us.map some→us.map (im (ai4 D))=l∧∀ u∈us,u.fD=true∧okv (· < D.top) u
  | [],[],_=>⟨rfl,fun u hu=>by simp at hu⟩
  | v::t,u::us,h=>by
    simp only [List.map_cons,List.cons.injEq] at h
    obtain ⟨h1,h2⟩:=aoa h.2
    obtain ⟨h3,h4,h5⟩:=apM h.1
    refine ⟨by rw [List.map_cons,h1,h3],fun x hx=>?_⟩
    rcases gk.1 hx with rfl | hx
    · exact ⟨h4,h5⟩
    · exact h2 x hx
  | [],_::_,h=>by simp at h
  | _::_,[],h=>by simp at h
section
variable {H:Type} {enc:TypeId × Value→H} {P:Program} {W:World} {base:Nat} {t:TypeId} {v:Value} {d:DataW H} {p:List MemPlace} {bulk:DataW H→Nat} (ok:BulkOk bulk) {B:Nat} (hB:bulk d≤B)
include ok hB
theorem adx {fs:Array Field} {m:Nat} {k:Kds} (ht:P.underlying t=some (.struct fs)) (hk:flat P m t=some k) (hval:Value.okWide P W .any base t v) (hd:DataW.Trod enc P W 0 (fun _=>true) true t v d p) :
    ∃ D,∀ D',Wd.Le D D'→∃ us,eO (Ba D' W) B k us∧im (ai4 D') (.agg us)=v∧okv (· < D'.top) (.agg us):=by
  obtain ⟨fuel,hd⟩:=hd
  obtain ⟨D,hD⟩:=anU ok m t k hk fuel _ _ hd hB
  refine ⟨D,fun D' hle=>?_⟩
  obtain ⟨us,h1,h2⟩:=aar (hD.mono hle)
  obtain ⟨h3,h4⟩:=aoa h1
  obtain ⟨cs,rfl,_⟩:=okWide_struct ht hval
  refine ⟨us,h2,?_,?_⟩
  · simp only [im,mY,h3,Value.cells]
  · exact ⟨(nL _ _).2 fun u hu=>(h4 u hu).2,fun u hu=>(h4 u hu).1⟩
end
theorem aoB {P:Program} {tbl:Tr AFn} (T:TblOk P tbl) {f:Nat} {w:Wr} (S:bw tbl f w) {D:Wd} {W:World} {args:List AV} (hargs:okL (· < D.top) args) {v:AV} {h':Heap} (run:∀ k,w args (Ba D W) k=k v h') :
    Calls P f (args.map (im (ai4 D))).toArray W fun e W'=>(∃ M',e = .returned (im M' v))∧Below W.heap.size W W':=by
  obtain ⟨n,v1,H1,hcall,he⟩:=S [] [] args (Ba D W) (fun v h=>.ret v h) v h' (ala D W) (by simpa using run _)
  cases he
  obtain ⟨f',first,cap,hfv,hc⟩:=apV T n _ _ _ _ _ hcall
  cases hfv
  obtain ⟨_,hcalls⟩:=hc _ _ W (arb D W) (apk D W) (by simpa using hargs)
  refine Calls.mono (by simpa using hcalls) fun e w' hpost=>?_
  obtain ⟨M',D',rfl,_,hx,_⟩:=hpost
  refine ⟨⟨M',rfl⟩,hx.os,hx.tape,hx.output,hx.size,fun k hk=>hx.frame k hk fun b _ hw=>?_⟩
  exfalso
  cases hg:(Ba D W).get b with
  | none=>rw [hg] at hw; exact hw
  | some x=>
    obtain ⟨_,_,_,_,_,rfl⟩:=Zs hg
    rw [hg] at hw
    cases hw
section
variable {H:Type} {enc:TypeId × Value→H} {P:Program}
theorem post_old {f:Func} {s:ChangeSpec} {apart fresh handsOn again:Bool} {W W':World} {args:Array Value} {v:Value} {ds gs:List (DataW H)} {before pa pv:List MemPlace}
    (hW:DataW.Whole enc P f.params.toList s.vars apart W args.toList ds gs before)
    (hres:∀ (b:Nat) (sp:Nat→Bool) (hd:Bool),DataW.TrodAll enc P W' b sp hd f.resultTypes.toList (v.resultList f.resultTypes.size) (s.fn H (ds++gs)).results [])
    (hargs:∀ sp:Nat→Bool,(∀ p∈before,sp p.block=true)→DataW.TrodAll enc P W' 0 sp true f.params.toList args.toList (s.fn H (ds++gs)).args pa)
    (hvars:∀ sp:Nat→Bool,(∀ p∈before,sp p.block=true)→DataW.TrodVars enc P W' sp s.vars (s.fn H (ds++gs)).vars pv)
    (hps:before=pa++pv) (hb:Below W.heap.size W W')
    (hok:∀ (j:Nat) (t:TypeId) (r:Value),f.resultTypes[j]?=some t→(v.resultList f.resultTypes.size)[j]?=some r→Value.okWide P W' .any 0 t r) :
    s.post enc P f apart fresh handsOn again W args v W':=by
  have hold:∀ p∈before,(fun b=>decide (b<W.heap.size)) p.block=true:=fun p hp=>by simpa using hW.lt p hp
  have hlt:=hW.lt
  refine ⟨ds,gs,before,[],pa,pv,hW,hres _ _ _,hargs _ hold,hvars _ hold,hb.frame _,fun _=>?_⟩
  obtain ⟨_,_,_,_,_,hz,hn⟩:=hW
  refine ⟨hok,_,_,([]++pa)++pv,⟨[]++pa,pv,trodAll_append (hargs _ (fun _ _=>rfl)) (hres _ _ _),hvars _ (fun _ _=>rfl),rfl,?_,?_⟩,?_⟩
  · intro b off hp
    have hp':MemPlace.cell b off∈before:=by rw [hps]; simpa using hp
    rw [hb.frozen (p:=⟨b,off,none⟩) (hlt _ hp')]
    exact hz b off hp'
  · intro ha
    have:=hn ha
    rw [hps] at this
    simpa using this
  · intro p hp _
    rw [hps]
    simpa using hp
theorem akW (hl:laidOutB P=true) {W W':World} (hb:Below W.heap.size W W') {sp:Nat→Bool}:∀ {ts:List TypeId} {vs:List Value} {ds:List (DataW H)} {ps:List MemPlace},(ts.all fun t=>P.readableRec t&&decide (t<P.types.size))=true→
    DataW.TrodAll enc P W 0 (fun _=>true) true ts vs ds ps→(∀ p∈ps,sp p.block=true)→DataW.TrodAll enc P W' 0 sp true ts vs ds ps
  | [],_,_,_,_,h,_=>by
    obtain ⟨rfl,rfl,rfl⟩:=trodAll_nil h
    exact trodAll_mk0
  | t::ts,_,_,_,hts,h,hs=>by
    simp only [List.all_cons,fV,fX] at hts
    have hlt:=h.lt
    obtain ⟨v,vs',d,ds',p,q,rfl,rfl,rfl,h1,h2⟩:=trodAll_cons h
    refine ⟨p,q,Go.WideElems.Trod_stays hl hts.1.1 hts.1.2 h1 (fun x hx=>?_) fun x hx=>hs x (gl _ hx),akW hl hb (by simpa using hts.2) h2 fun x hx=>hs x (gm _ hx),rfl⟩
    have h3:=hlt x (gl _ hx)
    have h4:=hb.block x.block h3
    cases x with
    | cell b off=>
      show W'.cell? _=W.cell? _
      unfold World.cell?
      dsimp only [MemPlace.block] at h4 ⊢
      rw [h4]
    | map b=>exact h4
end
end Go.Ai
/- The sorted keys of a map, for the interpreter: what the library's slices.Sorted makes of what maps.Keys hands back. -/
namespace Go.Ai
end Go.Ai
/- The least key of a map of rows of bools of which a function says yes: what the interpreter does for it, and what its proof at a program needs. -/
namespace Go.Ai
theorem OkB.plain {D:Nat→Prop} {l:List AV} {rw_:Bool} {g:Nat} (h:Xk Vx l=true):OkB D (some (.cells l rw_ g)):=fun v hv=>acm (Ly h v hv) D
end Go.Ai
