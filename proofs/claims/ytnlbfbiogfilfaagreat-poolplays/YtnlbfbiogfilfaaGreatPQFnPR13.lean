/- Small functions of the statements; what a pool tells: counts, and what is owned. -/
import Derived.Test.YtnlbfbiogfilfaaGreatPUPoolNewPQLaw
import Derived.Test.YtnlbfbiogfilfaaGreatPALawPAGive
set_option linter.all false
namespace Go.Proofs.YtnlbfbiogfilfaaGreat.Sh
open Go.Ai
theorem aAW {h:ad} {b:Nat} {q:IntKind} {kv:List (Int × Int)} (a:gn h b q kv) (c:Int→ah):azN h (.map b) c=c kv.length:=by
  unfold azN
  have:aAZ h (.map b)=some (kv.map fun e=>(AV.int .i64 e.1,AV.int q e.2)):=by
    show JA h b=_
    unfold JA; rw [a.get]
  rw [this,Aa,rV,uP,i6]; rfl
def aez (z:bW):List AV:=[.int .i64 (z.gK 0),.int .i64 (z.gK 1),.int .i64 (z.gK 2),.int .i64 (z.gK 3),.int .i64 (z.gK 4),.int .i64 (z.gK 5),.int .i64 (z.gK 6)]
theorem ayR (z:bW) (vm vb:AV) (mu:Nat):(Lt z vm vb mu)[12]?=some (.map mu):=rfl
theorem aEU (z:bW) (vm vb:AV) (mu:Nat):sub (Lt z vm vb mu) 13 7=some (aez z):=by rw [zj]; rfl
theorem afB {l:List AV} (hl:l.length=7):sub l 0 7=some l:=by rw [zj,List.drop_zero,if_pos (by omega), ← hl,List.take_length]
theorem v_Counts {n:Nat} {h:ad} (hro:h.ro≤h.nx) {w:dN} {z:bW} (b:cv h w z) (ht:0≤z.total∧z.total≤65536) (hu:z.uses.length≤1000000) :
    aF (dp n (.ptr w.p 0) h) fun r h'=>r = .agg ((aez z).set 0 (.int .i64 (z.total-z.uses.length)))∧be h h':=by
  unfold dp IK D8
  refine aF.bind (ahy hro _ 0) ?_
  rintro x0 h1 ⟨hx0,o0,g1⟩
  have b1:=b.grow g1
  simp only [au,PE b1,Bool.not_true,jC b1.own.cl,aEU]
  have hro1:=g1.le hro
  refine aF.bind (ahy hro1 _ 0) ?_
  rintro x9 h10 ⟨hx9,o9,g10⟩
  refine ed.bind (Um o9 (cs:=aez z) rfl (by simp [aez])) ?_
  intro h11 p11
  rw [Wq (aez z) _ (by rfl)] at p11
  have g11:be h1 h11:=p11.grow g10 hx9
  have b11:=b1.grow g11
  have w1:IntKind.i64.wrap (z.total-(z.uses.length:Int))=z.total-z.uses.length:=rK (by omega) (by omega)
  have i0:∀ c,SA 1 7 (.ptr x9 0) 0 c=c (.ptr x9 (0+0)):=fun c=>UR (n:=7) (k:=0) (by omega) c
  simp only [au,jC b11.own.cl,pool_10,ayR,aAW b11.uses,w1,i0]
  refine ed.bind (uI p11.own (by simp [aez]) rfl) ?_
  intro h19 p19
  have o19:=p19.own
  have l19:((aez z).set 0 (.int .i64 (z.total-(z.uses.length:Int)))).length=7:=rfl
  simp only [au,jC o19.cl,afB l19]
  have g19:be h1 h19:=p19.grow g11 hx9
  refine ed.bind (Um (o0.grow g19) l19 (by simp)) ?_
  intro h21 p21
  rw [Wq _ _ (by rw [l19]; rfl)] at p21
  simp only [au,jC p21.own.cl,afB l19]
  exact nT ⟨rfl,p21.grow (g1.trans g19) hx0⟩
theorem aA4 {q:IntKind} {k x:Int}:∀ {kv:List (Int × Int)},(kv.map (·.1)).Nodup→(k,x)∈kv→apH (.cell .int) (.int .i64 k) (kv.map fun e=>(AV.int .i64 e.1,AV.int q e.2))=some (some (.int q x))
  | [],_,h=>by simp at h
  | e::t,hn,h=>by
    rw [List.map_cons,List.nodup_cons] at hn
    have hk:zM (.cell .int) (.int .i64 k) (.int .i64 e.1)=some (k==e.1):=by
      show some (eqF k e.1)=_
      rw [Mr]
    show (Option.casesOn (zM (.cell .int) (.int .i64 k) (.int .i64 e.1)) none fun b=>Bool.casesOn b (apH (.cell .int) (.int .i64 k) (t.map fun e=>(AV.int .i64 e.1,AV.int q e.2))) (some (some (.int q e.2))):Option (Option AV))=_
    rw [hk]
    rcases iP.1 h with h | h
    · subst h
      simp
    · have hne:k≠e.1:=fun e'=>hn.1 (by rw [← e']; exact ic.2 ⟨_,h,rfl⟩)
      have:(k==e.1)=false:=by simp [hne]
      rw [this]
      exact aA4 hn.2 h
theorem ame {h:ad} {b:Nat} {q:IntKind} {kv:List (Int × Int)} (a:gn h b q kv) (hn:(kv.map (·.1)).Nodup) {k x:Int} (hm:(k,x)∈kv) (z:AV) (c:AV→Bool→ah):ahs h (.cell .int) z (.map b) (.int .i64 k) c=c (.int q x) true:=by
  unfold ahs
  have h1:aAZ h (.map b)=some (kv.map fun e=>(AV.int .i64 e.1,AV.int q e.2)):=by
    show JA h b=_
    unfold JA; rw [a.get]
  have h2:zM (.cell .int) (.int .i64 k) (.int .i64 k)=some (k==k):=by
    show some (eqF k k)=_
    rw [Mr]
  rw [h1,Aa,h2,Aa,aA4 hn hm,Aa]
theorem aBf {q:IntKind}:∀ {kv:List (Int × Int)},(∀ e∈kv,arZ e.1)→apO (kv.map fun e=>(AV.int .i64 e.1,AV.int q e.2))=some (kv.map (·.1))
  | [],_=>rfl
  | e::t,h=>by
    have he:=h e (iV ..)
    unfold arZ at he
    have ih:=aBf (q:=q) (kv:=t) fun x hx=>h x (ig _ hx)
    show (match ltF e.1 (-9223372036854775808),ltF 9223372036854775807 e.1 with
        | false,false=>Option.casesOn (apO (t.map fun e=>(AV.int .i64 e.1,AV.int q e.2))) none fun l=>some (e.1::l)
        | _,_=>none:Option (List Int))=_
    rw [yA,yA,show decide (e.1 < -9223372036854775808)=false by simp; omega,show decide (9223372036854775807<e.1)=false by simp; omega,ih]
    rfl
theorem map_I64N (l:List Int):l.map I64N=dl l:=rfl
theorem r_sorted {h:ad} (hro:h.ro≤h.nx) {m:Nat} {q:IntKind} {kv:List (Int × Int)} (a:gn h m q kv) (hk:∀ e∈kv,arZ e.1) (hn:(kv.map (·.1)).Nodup) (hl:kv.length≤1000000) {b:Nat} (hb:h.cl b [.map m]) :
    aF (Eb dL [.func 76 [] [.ptr b 0]] h) fun v h'=>Lst h' v (PD (kv.map (·.1)))∧be h h':=by
  have hc:yV h b=some [.map m]:=age hb
  have hm:JA h m=some (kv.map fun e=>(AV.int .i64 e.1,AV.int q e.2)):=by unfold JA; rw [a.get]
  have run:∀ {v:AV} {h':ad},aoz 76 [.func 76 [] [.ptr b 0]] h=some (v,h')→∀ k,Eb dL [.func 76 [] [.ptr b 0]] h k=k v h':=by
    intro v h' e k
    unfold Eb dL agz
    rw [e]
  have hp:=Va (kv.map (·.1))
  have hlen:(PD (kv.map (·.1))).length=kv.length:=by rw [hp.length_eq,i6]
  by_cases h0:kv = []
  · subst h0
    refine ⟨(.nilslice,h),⟨.inl ⟨rfl,rfl⟩,.refl⟩,run ?_⟩
    unfold aoz
    show (Option.casesOn (yV h b) none _:Option (AV × ad))=_
    rw [hc]
    show (Option.casesOn (JA h m) none _:Option (AV × ad))=_
    rw [hm]
    rfl
  · have hpos:0<kv.length:=iX.2 h0
    refine ⟨(.slice h.nx 0 kv.length 0 true,h.add (.cells (dl (PD (kv.map (·.1)))) true 1)),⟨.inr ⟨h.nx,0,[],by rw [hlen],⟨by simp,by simpa using hro,by rw [ad.gV,if_pos rfl]; simp⟩,rfl,by omega,by omega⟩,be.add⟩,run ?_⟩
    unfold aoz
    show (Option.casesOn (yV h b) none _:Option (AV × ad))=_
    rw [hc]
    show (Option.casesOn (JA h m) none _:Option (AV × ad))=_
    rw [hm]
    show (Option.casesOn (apO _) none _:Option (AV × ad))=_
    rw [aBf hk]
    show (Bool.casesOn (Nat.beq (Ao (kv.map (·.1))) 0) (Bool.casesOn (au2 (PD (kv.map (·.1)))&&Nat.ble (Ao (kv.map (·.1))) 1000000) none
          (h.newK (.cells (mapK I64N (PD (kv.map (·.1)))) true 1) fun c H'=>some (.slice c 0 (Ao (kv.map (·.1))) 0 true,H'))) (some (.nilslice,h)):Option (AV × ad))=_
    rw [uP,i6,awe (aiO hn),show Nat.beq kv.length 0=false from by
      cases hk':Nat.beq kv.length 0 with
      | false=>rfl
      | true=>have:=iG hk'; omega]
    rw [show (true&&Nat.ble kv.length 1000000)=true from by rw [Bool.true_and]; exact hO hl]
    dsimp only
    rw [ad.gU,aBV,map_I64N]
def prs (R:List (Int × Int)):List AV:=R.flatMap fun e=>[.int .i64 e.1,.int .u8 e.2]
theorem azu:∀ R:List (Int × Int),(prs R).length=R.length*2
  | []=>rfl
  | e::t=>by simp [prs] at *; rw [Nat.add_mul]; have:=azu t; simp [prs] at this; omega
theorem azc (R S:List (Int × Int)):prs (R++S)=prs R++prs S:=by simp [prs]
theorem prs_at:∀ (R:List (Int × Int)) (i:Nat) (hi:i<R.length),((prs R).drop (i*2)).take 2 = [.int .i64 R[i].1,.int .u8 R[i].2]
  | e::t,0,_=>rfl
  | e::t,i+1,hi=>by
    have:=prs_at t i (by simpa using hi)
    rw [Nat.add_mul]
    show ((AV.int .i64 e.1::.int .u8 e.2::prs t).drop (i*2+2)).take 2=_
    simpa using this
theorem boxK_map (H:ad) (b:Nat) (c:Nat→ad→ah):Ad H (.map b) c=c H.nx (H.add (.cells [.map b] true 0)):=by
  show Jr H (.cells [.map b] true 0) c=_; simp
structure OwnedOf (kv R:List (Int × Int)):Prop where
  keys:R.map (·.1)=PD (kv.map (·.1))
  mem:∀ e∈R,e∈kv
theorem aGR {n:Nat} {w:dN} {z:bW} {h0:ad} (hro:h0.ro≤h0.nx) (b0:cv h0 w z) (hn:(z.uses.map (·.1)).Nodup) {v14:AV} {ks:List Int} (hks:ks.length≤1000000) (hmem:∀ k∈ks,∃ x,(k,x)∈z.uses) (f1 f2 f3) :
    ∀ (q i:Nat) (h:ad) (v:AV) (R:List (Int × Int)),be h0 h→dP h .i64 v14 ks→(∀ c,v14.blk=some c→c<h0.nx)→App h v 2 i (prs R)→R.length=i→R.map (·.1)=ks.take i→(∀ e∈R,e∈z.uses)→(∀ c,v.blk=some c→h0.nx≤c)→i≤ks.length→ks.length-i<q→
    aF (fun k=>C2 n f1 f2 f3 k q (.ptr w.p 0) v v14 (ks.length:Int) (i:Int) h) fun r h'=>∃ R,R.map (·.1)=ks∧(∀ e∈R,e∈z.uses)∧App h' r 2 ks.length (prs R)∧(∀ c,r.blk=some c→h0.nx≤c)∧be h0 h':=by
  intro q
  induction q with
  | zero=>omega
  | succ q ih=>
    intro i h v R g hv14 h14 ha hR hR2 hR3 hlow hi hq
    simp only [aob]
    unfold CQ Hf
    refine aL.ifB (fun e=>?_) fun e=>?_
    · simp at e
      have b:=b0.grow g
      obtain ⟨x,hx⟩:=hmem (nz ks i) (by rw [un e]; exact iU e)
      have bk:∀ K,uK [.int .i64 0,.int .u8 0] [(0,1,.int .i64 (nz ks i)),(1,1,.int .u8 x)] K=K (.agg [.int .i64 (nz ks i),.int .u8 x]):=fun K=>rfl
      simp only [au,hv14.elN e,jC b.own.cl,ayR,ame b.uses hn hx,bk,mt (show i≤9223372036854775806 by omega)]
      refine aF.bind (Dv (fun k=>by rfl)) ?_
      rintro _ h18 ⟨rfl,c18,g18⟩
      have gg:=g.trans g18
      refine aF.bind (afw (gg.le hro) (ha.grow g18) (n:=1) (by decide) c18 (new:=[.int .i64 (nz ks i),.int .u8 x]) (by rw [zj]; rfl) (by omega)) ?_
      rintro v' h20 ⟨a20,b20,c20⟩
      have hg20:be h0 h20:=c20.grow gg fun c hc=>hlow c hc
      refine ih (i+1) h20 v' (R++[(nz ks i,x)]) hg20 ?_ h14 ?_ (by simp [hR]) ?_ (fun e he=>?_) (fun c hc=>?_) (by omega) (by omega)
      · obtain ⟨p1,p2⟩:=hv14.grow g18
        refine ⟨p1,?_⟩
        rcases p2 with p2 | ⟨bb,off,ext,opn,p3,p4⟩
        · exact .inl p2
        · refine .inr ⟨bb,off,ext,opn,p3,fun h0'=>?_⟩
          obtain ⟨l,p5,p6⟩:=p4 h0'
          refine ⟨l,c20.cl p5 fun hbad=>?_,p6⟩
          have y1:=hlow bb hbad
          have y2:=h14 bb (by rw [p3]; rfl)
          omega
      · rw [azc]; exact a20
      · rw [i9,hR2,List.take_add_one,iv e,un e]; rfl
      · rcases i8.1 he with he | he
        · exact hR3 e he
        · simp at he; subst he; exact hx
      · rw [b20] at hc
        cases hc
        exact gg.nx
    · simp at e
      have:i=ks.length:=by omega
      subst this
      exact nT ⟨R,by rw [hR2,List.take_length],hR3,ha,hlow,g⟩
theorem aFC {n:Nat} {h:ad} (hro:h.ro≤h.nx) {w:dN} {z:bW} (b:cv h w z) (hk:∀ e∈z.uses,arZ e.1) (hnd:(z.uses.map (·.1)).Nodup) (hl:z.uses.length≤1000000) (hln:z.uses.length<n) :
    aF (dr n (.ptr w.p 0) h) fun r h'=>∃ R,OwnedOf z.uses R∧App h' r 2 R.length (prs R)∧(∀ c,r.blk=some c→h.nx≤c)∧be h h':=by
  unfold dr Mk Fw c8 xb ta
  simp only [au,PE b,Bool.not_true,jC b.own.cl,ayR,boxK_map]
  have g5:be h (h.add (.cells [.map w.mu] true 0)):=be.add
  have b5:=b.grow g5
  refine aF.bind (r_sorted (g5.le hro) b5.uses hk hnd hl (aE3 ..)) ?_
  rintro x6 h7 ⟨l7,g7⟩
  have hp:=Va (z.uses.map (·.1))
  have hlen:(PD (z.uses.map (·.1))).length=z.uses.length:=by rw [hp.length_eq,i6]
  simp only [l7.len]
  have gg:=g5.trans g7
  refine aL.mono (aGR (gg.le hro) (b.grow gg) hnd (by omega) (fun k hk'=>?_) _ _ _ n 0 h7 .nilslice [] .refl l7.ints (fun c hc=>(l7.lt hc).1) App.nil rfl rfl (fun e he=>(nomatch he)) (fun c e=>by cases e) (by omega) (by omega)) ?_
  · have:=hp.mem_iff.1 hk'
    obtain ⟨e,he,rfl⟩:=ic.1 this
    exact ⟨e.2,he⟩
  · rintro ⟨r,h'⟩ ⟨R,r1,r2,r3,r5,r4⟩
    have hRl:R.length=(PD (z.uses.map (·.1))).length:=by rw [← r1,i6]
    exact ⟨R,⟨r1,r2⟩,by rw [hRl]; exact r3,fun c hc=>iE gg.nx (r5 c hc),gg.trans r4⟩
end Go.Proofs.YtnlbfbiogfilfaaGreat.Sh
/- A frame given back: the code of the buddy, of the pool. -/
namespace Go.Proofs.YtnlbfbiogfilfaaGreat.Sh
open Go.Ai
theorem agI {k:Int}:∀ {kv:List (Int × Int)},(kv.map (·.1)).Nodup→∀ {e:Int × Int},e∈SO k kv↔e∈kv∧e.1≠k
  | [],_,e=>by simp [SO]
  | d::t,h,e=>by
    rw [List.map_cons,List.nodup_cons] at h
    unfold SO
    by_cases h1:k=d.1
    · rw [if_pos h1,iP]
      refine ⟨fun he=>⟨.inr he,fun h2=>h.1 ?_⟩,fun ⟨he,h2⟩=>?_⟩
      · rw [← h1, ← h2]; exact ic.2 ⟨e,he,rfl⟩
      · rcases he with rfl | he
        · exact (h2 h1.symm).elim
        · exact he
    · rw [if_neg h1,iP,iP,agI h.2]
      constructor
      · rintro (rfl | ⟨h2,h3⟩)
        · exact ⟨.inl rfl,fun e=>h1 e.symm⟩
        · exact ⟨.inr h2,h3⟩
      · rintro ⟨rfl | h2,h3⟩
        · exact .inl rfl
        · exact .inr ⟨h2,h3⟩
theorem auL (k:Int):∀ kv:List (Int × Int),(SO k kv).Sublist kv
  | []=>.slnil
  | d::t=>by
    unfold SO
    split
    · exact List.sublist_cons_self ..
    · exact (auL k t).cons_cons d
theorem aFl {k:Int} {kv:List (Int × Int)} (h:(kv.map (·.1)).Nodup):((SO k kv).map (·.1)).Nodup:=h.sublist ((auL k kv).map _)
theorem aqp {k x:Int}:∀ {kv:List (Int × Int)},(kv.map (·.1)).Nodup→(k,x)∈kv→kv.Perm ((k,x)::SO k kv)
  | [],_,hm=>by simp at hm
  | d::t,h,hm=>by
    rw [List.map_cons,List.nodup_cons] at h
    unfold SO
    by_cases h1:k=d.1
    · rw [if_pos h1]
      rcases iP.1 hm with h2 | h2
      · rw [← h2]
      · exact (h.1 (ic.2 ⟨_,h2,h1⟩)).elim
    · rw [if_neg h1]
      rcases iP.1 hm with h2 | h2
      · exact (h1 (by rw [← h2])).elim
      · exact ((aqp h.2 h2).cons d).trans (List.Perm.swap ..)
structure TakOk (s:cw):Prop where
  norm:fS s
  key:(s.gL.map (·.1)).Nodup
  off:∀ e∈s.gL,mult s e.1=0
theorem _root_.Go.Ai.d9.setTaken {h h':ad} {p m:Nat} {v:Nat→AV} {s:cw} (b:d9 h p m v s) {kv:List (Int × Int)} (hm:gn h' m .i64 kv) (c:Chg (· = m) h h'):d9 h' p m v { s with gL:=kv }:=
  ⟨c.own b.own (fun e=>(b.map.ne b.own) e.symm),hm,fun k hk=>(b.lst k hk).chg c fun d e=>(b.lst k hk).neM b.map e,b.dis⟩
structure GaveS (s:cw) (a:Int) (s':cw):Prop where
  norm:fS s'
  n:s'.n=s.n
  gL:s'.gL=SO a s.gL
  mult:∀ x,Sh.mult s' x=Sh.mult s x+inB a x 0
  sum:pW s' 7=pW s 7+1
theorem GaveS.ok {s s':cw} {a:Int} (g:GaveS s a s') (t:TakOk s):TakOk s':=by
  refine ⟨g.norm,by rw [g.gL]; exact aFl t.key,fun e he=>?_⟩
  rw [g.gL,agI t.key] at he
  have h1:=t.off e he.1
  have h2:inB a e.1 0=0:=by
    unfold inB
    rw [if_neg]
    have:=he.2
    intro h
    obtain ⟨h3,h4⟩:=h
    simp at h4
    omega
  rw [g.mult,h1,h2]
theorem v_BGive {n:Nat} (hn:70000<n) {h:ad} (hro:h.ro≤h.nx) {p m:Nat} {v:Nat→AV} {s:cw} (b:d9 h p m v s) (t:TakOk s) {a:Int} (ha:0≤a∧a<4096) (hm:(a,0)∈s.gL) (hfn:pW s 7<70000) :
    aF (eB n (.ptr p 0) a 0 h) fun r h'=>r=0∧∃ v' s',d9 h' p m v' s'∧GaveS s a s'∧(∀ j,j<7→∀ c,(v' j).blk=some c→(v j).blk=some c∨h.nx≤c)∧Chg (fpB p m v) h h':=by
  unfold eB SB IM A9 Ba Bf
  have e1:decide ((0:Int)<0)=false:=rfl
  have e2:decide ((6:Int)<0)=false:=rfl
  have e3:decide (a<0)=false:=by simp; omega
  have e4:((0:Int)==0)=true:=rfl
  simp only [au,aER b.rd,e1,e2,e3,e4,jC b.own.cl,bud_9,ame b.map t.key hm,Bool.not_true]
  refine ed.bind (aDg b.map a) ?_
  rintro h9 ⟨m9,c9⟩
  have b9:=b.setTaken m9 c9
  have n9:fS { s with gL:=SO a s.gL }:=⟨t.norm.inc,t.norm.al,t.norm.np,t.norm.one⟩
  have f9:pW { s with gL:=SO a s.gL } 7=pW s 7:=asL rfl 7
  have hz:mult s a=0:=t.off (a,0) hm
  have q1:pW { s with gL:=SO a s.gL } 7+2^0≤70000:=by rw [f9]; simp; omega
  have q2:∀ x,a≤x→x<a+2^0→mult { s with gL:=SO a s.gL } x=0:=by
    intro x h1 h2
    have h3:(2:Int)^0=1:=rfl
    rw [h3] at h2
    have:x=a:=by omega
    rw [this]
    exact hz
  have q3:a%2^0=0:=by simp
  have key:=aHd hn (cH n) n 0 a h9 v { s with gL:=SO a s.gL } (c9.le hro) n9 b9 q1 ha q3 q2 (by omega) (by omega)
  refine aL.mono key ?_
  rintro ⟨r,h'⟩ ⟨r1,v',s',r2,r3,r4,r5⟩
  refine ⟨r1,v',s',r2,⟨r3.norm,r3.n,r3.gL,fun x=>r3.mult x,by have:=r3.sum; rw [f9] at this; simpa using this⟩,fun j hj c e=>?_,?_⟩
  · rcases r4 j hj c e with h1 | h1
    · exact .inl h1
    · exact .inr (iE c9.nx h1)
  · exact (c9.mono fun d _ e=>.inr (.inl e)).trans r5
theorem u_Of (n:Nat) {f co:Int} (h2:kG co 1 16=true) (hf:0≤f∧f≤4095) (h:ad) (k:Int→Int→ad→ah):fW n f co h k=k (f%co) 0 h:=by
  unfold fW apb ahE T0
  have e1:kG f 0 4095=true:=by simp [kG]; omega
  simp only [M0,aeS,e1,h2]
  simp [kG] at h2
  simp only [au,Bool.not_true,aqo (show co≠0 by omega),Int.tmod_eq_emod_of_nonneg hf.1]
theorem u_Index (n:Nat) {f co:Int} (h2:kG co 1 16=true) (hf:0≤f∧f≤4095) (h:ad) (k:Int→Int→ad→ah):fu n f co h k=k (f/co) 0 h:=by
  unfold fu agA XV Kh
  have e1:kG f 0 4095=true:=by simp [kG]; omega
  simp only [M0,aeS,e1,h2]
  simp [kG] at h2
  have q1:=Int.ediv_le_self co hf.1
  have q2:0≤f/co:=Int.ediv_nonneg hf.1 (by omega)
  have w1:IntKind.i64.wrap (f/co)=f/co:=rK (by omega) (by omega)
  simp only [au,Bool.not_true,ah7 (show co≠0 by omega),Int.tdiv_eq_ediv_of_nonneg hf.1,w1]
theorem aAA {q:IntKind} {k:Int}:∀ {kv:List (Int × Int)},k∉kv.map (·.1)→apH (.cell .int) (.int .i64 k) (kv.map fun e=>(AV.int .i64 e.1,AV.int q e.2))=some none
  | [],_=>rfl
  | e::t,hn=>by
    rw [List.map_cons,iP,not_or] at hn
    have hk:zM (.cell .int) (.int .i64 k) (.int .i64 e.1)=some (k==e.1):=by
      show some (eqF k e.1)=_
      rw [Mr]
    show (Option.casesOn (zM (.cell .int) (.int .i64 k) (.int .i64 e.1)) none fun b=>Bool.casesOn b (apH (.cell .int) (.int .i64 k) (t.map fun e=>(AV.int .i64 e.1,AV.int q e.2))) (some (some (.int q e.2))):Option (Option AV))=_
    rw [hk]
    have:(k==e.1)=false:=by simp [hn.1]
    rw [this]
    exact aAA hn.2
theorem aFd {h:ad} {b:Nat} {q:IntKind} {kv:List (Int × Int)} (a:gn h b q kv) {k:Int} (hm:k∉kv.map (·.1)) (z:AV) (c:AV→Bool→ah):ahs h (.cell .int) z (.map b) (.int .i64 k) c=c z false:=by
  unfold ahs
  have h1:aAZ h (.map b)=some (kv.map fun e=>(AV.int .i64 e.1,AV.int q e.2)):=by
    show JA h b=_
    unfold JA; rw [a.get]
  have h2:zM (.cell .int) (.int .i64 k) (.int .i64 k)=some (k==k):=by
    show some (eqF k k)=_
    rw [Mr]
  rw [h1,Aa,h2,Aa,aAA hm,Aa]
theorem aEt {n:Nat} {h:ad} {w:dN} {z:bW} (b:cv h w z) {f:Int} (hm:f∉z.uses.map (·.1)):aF (aZ n (.ptr w.p 0) f h) fun r h'=>r=91∧h'=h:=by
  unfold aZ Dt zf xd
  simp only [au,PE b,Bool.not_true,jC b.own.cl,al2,aFd b.uses hm,Bool.not_false]
  exact nT ⟨rfl,rfl⟩
theorem dP.shut {h:ad} {v:AV} {l:List Int} (s:dP h .i64 v l):dP (h.shut true) .i64 v l:=s
def gy (z:bW) (i u:Nat) (f:Int) (s':cw):bW:={ z with gJ:=upd z.gJ i s',uses:=SO f z.uses,gK:=upd z.gK u (z.gK u-1) }
theorem v_PGive {n:Nat} (hn:70000<n) {h:ad} (hro:h.ro≤h.nx) {w:dN} {z:bW} (b:cv h w z) (hnd:(z.uses.map (·.1)).Nodup) (hco:kG z.gG 1 16=true) (hup:z.gI.Pairwise (· < ·)) (hcol:∀ x∈z.gI,0≤x∧x<z.gG) {f:Int} (hf:0≤f∧f≤4095) {u:Nat} (hu:2≤u∧u≤6) (hm:(f,(u:Int))∈z.uses)
    (hcnt:1≤z.gK u∧z.gK u≤1000000) {i:Nat} (hi:i<z.gI.length) (hl:z.gI.length<n) {x:Int} (hx:f=x*z.gG+nz z.gI i) (t:TakOk (z.gJ i)) (hk:(x,0)∈(z.gJ i).gL) (hfn:gQ z i<70000) :
    aF (aZ n (.ptr w.p 0) f h) fun r h'=>r=0∧∃ w' s',w'.p=w.p∧GaveS (z.gJ i) x s'∧cv h' w' (gy z i u f s')∧(∀ d,fpP w' z.gI.length d→fpP w z.gI.length d∨h.nx≤d)∧Chg (fpP w z.gI.length) h h':=by
  unfold aZ Dt zf xd
  have e1:((u:Int)==1)=false:=by rw [iT]; omega
  have e0:(!((0:Int)==0))=false:=rfl
  have hco':=hco
  simp [kG] at hco'
  obtain ⟨n1,n2⟩:=hcol _ (by rw [un hi]; exact iU hi:nz z.gI i∈z.gI)
  have hmod:f%z.gG=nz z.gI i:=by
    rw [hx,Int.add_comm,Int.add_mul_emod_self_right,Int.emod_eq_of_lt n1 n2]
  have hdiv:f/z.gG=x:=by
    rw [hx,Int.add_comm,Int.add_mul_ediv_right _ _ (by omega),Int.ediv_eq_zero_of_lt n1 n2,Int.zero_add]
  simp only [au,PE b,Bool.not_true,jC b.own.cl,al2,ame b.uses hnd hm,e1,pool_0,u_Of n hco hf,e0,u_Index n hco hf,hmod,hdiv,aqz,aEX]
  refine aF.bind (aFJ (dP.shut b.gI.ints) hl (nz z.gI i)) ?_
  rintro r h22 ⟨rfl,hr⟩
  have hr':r=(i:Int):=by
    rcases hr with ⟨_,h1⟩ | ⟨j,rfl,hj,h1⟩
    · exact (h1 (by rw [un hi]; exact iU hi)).elim
    · rw [un hi,un hj] at h1
      rcases ik i j with h2 | h2 | h2
      · have:=List.pairwise_iff_getElem.1 hup i j hi hj h2; omega
      · rw [h2]
      · have:=List.pairwise_iff_getElem.1 hup j i hj hi h2; omega
  subst hr'
  rw [aqF]
  have hx0:0≤x∧x<4096:=by
    constructor
    · rw [← hdiv]; exact Int.ediv_nonneg hf.1 (by omega)
    · have:=Int.ediv_le_self z.gG hf.1
      omega
  simp only [au,b.bud hi]
  refine aF.bind (v_BGive hn hro (b.each i hi) t hx0 hk hfn) ?_
  rintro _ h26 ⟨rfl,v',s',bn,gs,hsub,c26⟩
  obtain ⟨b26,hfp⟩:=b.setBud hi bn hsub c26
  simp only [au,e0,jC b26.own.cl,al2]
  refine ed.bind (aDg b26.uses f) ?_
  rintro h29 ⟨m29,c29⟩
  have b29:=b26.setUses c29 m29
  have hu7:u<7:=by omega
  have w1:IntKind.i64.wrap (z.gK u-1)=z.gK u-1:=rK (by omega) (by omega)
  simp only [au,UR hu7,jC b29.own.cl,aEn _ _ _ _ hu7,w1]
  refine ed.bind (uI b29.own (by show 13+u<20; omega) rfl) ?_
  intro h36 p36
  have b36:=b29.setCount hu7 p36
  refine nT ⟨rfl,{ w with bv:=upd w.bv i v' },s',rfl,gs,b36,hfp,?_⟩
  have a1:Chg (fpP w z.gI.length) h h26:=c26.mono fun d _ e=>.inr (.inr (.inr (.inr ⟨i,hi,e⟩)))
  exact a1.trans ((c29.mono fun d _ e=>.inr (.inl e)).trans (p36.chg.mono fun d _ e=>.inl e))
theorem v_Whole {n:Nat} {h:ad} {w:dN} {z:bW} (b:cv h w z):aF (dm n (.ptr w.p 0) h) fun r h'=>r=((z.uses.length:Int)==z.gK 1)∧h'=h:=by
  unfold dm L4 FF yN
  have i1:∀ c,SA 1 7 (.ptr w.p 13) 1 c=c (.ptr w.p 14):=fun c=>UR (n:=7) (k:=1) (by omega) c
  have e1:(Lt z w.vm w.vb w.mu)[14]?=some (.int .i64 (z.gK 1)):=rfl
  simp only [au,PE b,jC b.own.cl,al2,aAW b.uses,i1,e1]
  exact nT ⟨rfl,rfl⟩
end Go.Proofs.YtnlbfbiogfilfaaGreat.Sh
/- Rows of cells of one's own. -/
namespace Go.Proofs.YtnlbfbiogfilfaaGreat.Sh
open Go.Ai
theorem aDX (a:AV):∀ n:Nat,ag0 [a] n=List.replicate n a
  | 0=>rfl
  | n+1=>by rw [akN,aDX a n,List.replicate_succ]; rfl
def Yu (b n:Nat):AV:=.slice b 0 n 0 false
theorem r_mkC {h:ad} (hro:h.ro≤h.nx) (a:AV) {n:Nat} (hn:n≤1048576):aF (mkK h [a] (n:Int) (n:Int)) fun v h'=>v=Yu h.nx n∧Own h' h.nx (List.replicate n a) 0∧be h h':=by
  refine ⟨(.slice h.nx 0 n 0 false,h.add (.cells (List.replicate n a) true 0)),⟨rfl,⟨by simp,by simpa using hro,by rw [ad.gV,if_pos rfl]⟩,be.add⟩,fun k=>?_⟩
  unfold mkK
  rw [aaZ,aaZ]
  have:andB (Nat.ble n n) (Nat.ble n UH)=true:=by
    rw [aqP,hO (iA n),hO (by unfold UH; exact hn)]; rfl
  rw [this,zw,QN,rV,aDX]
  show k (.slice h.nx 0 n (Nat.sub n n) false) _=_
  rw [show Nat.sub n n=0 from Nat.sub_self n]; rfl
theorem aB4 {b n i:Nat} (hi:i<n) (k:AV→ah):agV 1 (Yu b n) (i:Int) k=k (.ptr b i):=by
  unfold agV Yu
  rw [UX,aaZ]
  have:Nat.blt i n=true:=by rw [blt_eq]; simpa using hi
  rw [this,zw,rV]
  show k (.ptr b (Nat.add 0 (Nat.mul i 1)))=_
  rw [show Nat.add 0 (Nat.mul i 1)=i by simp]
theorem aeF (b n:Nat) (k:Int→ah):mX (Yu b n) k=k n:=rfl
theorem aeZ {h:ad} {b n i:Nat} (hi:i<n) (u:AV) (k:AV→ad→ah):est 1 h (Yu b n) (i:Int) 1 u k=qT h (.ptr b i) 1 u fun H=>k (.ptr b i) H:=by
  unfold est
  rw [aB4 hi]
theorem azt {h:ad} {b n i:Nat} (hi:i<n) {cl:List AV} (hc:h.cl b cl) {x:Bool} (hx:cl[i]?=some (.bool x)) (k:AV→Bool→ah):eldB 1 h (Yu b n) (i:Int) k=k (.ptr b i) x:=by
  unfold eldB
  rw [aB4 hi,aak,jC hc]
  rw [hx,Aa,asG]
theorem ajN {h:ad} {b n i:Nat} (hi:i<n) {cl:List AV} (hc:h.cl b cl) {q:IntKind} {x:Int} (hx:cl[i]?=some (.int q x)) (k:AV→Int→ah):Ga q 1 h (Yu b n) (i:Int) k=k (.ptr b i) x:=by
  unfold Ga
  rw [aB4 hi,aak,jC hc]
  rw [hx,Aa,auh]
theorem aFH {h:ad} {b n i:Nat} (hi:i<n) {cl:List AV} (hc:h.cl b cl) {x:AV} (hx:cl[i]?=some x) (k:AV→AV→ah):eld 1 h (Yu b n) (i:Int) 1 false k=k (.ptr b i) x:=by
  unfold eld
  rw [aB4 hi,aak,jC hc]
  rw [hx,Aa]
end Go.Proofs.YtnlbfbiogfilfaaGreat.Sh
/- The document's buddy (cofferdamref09): made, counted, asked. -/
namespace Go.Proofs.YtnlbfbiogfilfaaGreat.Sh
open Go.Ai
structure RB where
  n:Nat
  op:Nat→Bool
  tk:Nat→Int
def opC (r:RB):List AV:=(List.range r.n).map fun i=>.bool (r.op i)
def tkC (r:RB):List AV:=(List.range r.n).map fun i=>.int .i64 (r.tk i)
theorem aqL (r:RB):(opC r).length=r.n:=by simp [opC]
theorem atZ (r:RB):(tkC r).length=r.n:=by simp [tkC]
theorem azL {r:RB} {i:Nat} (hi:i<r.n):(opC r)[i]?=some (.bool (r.op i)):=by simp [opC,List.getElem?_range hi]
theorem aEh {r:RB} {i:Nat} (hi:i<r.n):(tkC r)[i]?=some (.int .i64 (r.tk i)):=by simp [tkC,List.getElem?_range hi]
theorem opC_set {r:RB} {i:Nat} (hi:i<r.n) (x:Bool):(opC r).set i (.bool x)=opC { r with op:=upd r.op i x }:=by
  apply List.ext_getElem?
  intro j
  rw [List.getElem?_set]
  by_cases hj:j<r.n
  · have e1:(opC { r with op:=upd r.op i x })[j]?=some (.bool (upd r.op i x j)):=azL (r:={ r with op:=upd r.op i x }) hj
    rw [e1]
    by_cases e:i=j
    · subst e; rw [if_pos rfl,if_pos (by rw [aqL]; exact hi),lm]
    · rw [if_neg e,azL hj,kX _ _ (fun h=>e h.symm)]
  · have e1:(opC { r with op:=upd r.op i x })[j]?=none:=iK (by rw [aqL]; show r.n≤j; omega)
    rw [e1,if_neg (by omega)]
    exact iK (by rw [aqL]; omega)
theorem tkC_set {r:RB} {i:Nat} (hi:i<r.n) (x:Int):(tkC r).set i (.int .i64 x)=tkC { r with tk:=upd r.tk i x }:=by
  apply List.ext_getElem?
  intro j
  rw [List.getElem?_set]
  by_cases hj:j<r.n
  · have e1:(tkC { r with tk:=upd r.tk i x })[j]?=some (.int .i64 (upd r.tk i x j)):=aEh (r:={ r with tk:=upd r.tk i x }) hj
    rw [e1]
    by_cases e:i=j
    · subst e; rw [if_pos rfl,if_pos (by rw [atZ]; exact hi),lm]
    · rw [if_neg e,aEh hj,kX _ _ (fun h=>e h.symm)]
  · have e1:(tkC { r with tk:=upd r.tk i x })[j]?=none:=iK (by rw [atZ]; show r.n≤j; omega)
    rw [e1,if_neg (by omega)]
    exact iK (by rw [atZ]; omega)
structure fe (h:ad) (p bo bt:Nat) (r:RB):Prop where
  own:Own h p [Yu bo r.n,Yu bt r.n] 0
  op:Own h bo (opC r) 0
  tk:Own h bt (tkC r) 0
  d1:p≠bo
  d2:p≠bt
  d3:bo≠bt
def fpR (p bo bt c:Nat):Prop:=c=p∨c=bo∨c=bt
theorem fe.chg {F:Nat→Prop} {h h':ad} {p bo bt:Nat} {r:RB} (b:fe h p bo bt r) (c:Chg F h h') (hf:∀ d,fpR p bo bt d→¬ F d):fe h' p bo bt r:=
  ⟨c.own b.own (hf p (.inl rfl)),c.own b.op (hf bo (.inr (.inl rfl))),c.own b.tk (hf bt (.inr (.inr rfl))),b.d1,b.d2,b.d3⟩
theorem fe.grow {h h':ad} {p bo bt:Nat} {r:RB} (b:fe h p bo bt r) (g:be h h'):fe h' p bo bt r:=b.chg (g.chg fun _=>False) fun _ _ h=>h
theorem fe.lt {h:ad} {p bo bt:Nat} {r:RB} (b:fe h p bo bt r) {d:Nat} (hd:fpR p bo bt d):d<h.nx:=by
  rcases hd with rfl | rfl | rfl
  · exact b.own.lt
  · exact b.op.lt
  · exact b.tk.lt
theorem rb_0 {a b:AV}:([a,b]:List AV)[0]?=some a:=rfl
theorem rb_1 {a b:AV}:([a,b]:List AV)[1]?=some b:=rfl
theorem fe.setOp {h h':ad} {p bo bt:Nat} {r:RB} (b:fe h p bo bt r) {i:Nat} (hi:i<r.n) {x:Bool} (c:Put h bo ((opC r).set i (.bool x)) 0 h'):fe h' p bo bt { r with op:=upd r.op i x }:=by
  have o:=c.own
  rw [opC_set hi] at o
  exact ⟨c.chg.own b.own b.d1,o,c.chg.own b.tk (fun e=>b.d3 e.symm),b.d1,b.d2,b.d3⟩
theorem fe.setTk {h h':ad} {p bo bt:Nat} {r:RB} (b:fe h p bo bt r) {i:Nat} (hi:i<r.n) {x:Int} (c:Put h bt ((tkC r).set i (.int .i64 x)) 0 h'):fe h' p bo bt { r with tk:=upd r.tk i x }:=by
  have o:=c.own
  rw [tkC_set hi] at o
  exact ⟨c.chg.own b.own b.d2,c.chg.own b.op b.d3,o,b.d1,b.d2,b.d3⟩
def adt (r:RB):Nat→Nat
  | 0=>0
  | i+1=>adt r i+if r.op i then 1 else 0
theorem axA (r:RB):∀ i,adt r i≤i
  | 0=>iA 0
  | i+1=>by have:=axA r i; rw [adt]; split<;>omega
structure RBRd (h:ad) (p bo bt:Nat) (r:RB):Prop where
  own:h.cl p [Yu bo r.n,Yu bt r.n]
  op:h.cl bo (opC r)
theorem fe.rd {h:ad} {p bo bt:Nat} {r:RB} (b:fe h p bo bt r):RBRd h p bo bt r:=⟨b.own.cl,b.op.cl⟩
theorem RBRd.shut {h:ad} {p bo bt:Nat} {r:RB} (b:RBRd h p bo bt r):RBRd (h.shut true) p bo bt r:=⟨b.1,b.2⟩
theorem aF5 {n:Nat} {h:ad} {p bo bt:Nat} {r:RB} (b:RBRd h p bo bt r) (hs:r.n≤1000000):∀ (q i:Nat),i≤r.n→r.n-i<q→
    aF (fun k=>tz n k q (.ptr p 0) (adt r i:Int) (i:Int) h) fun x h'=>x=adt r r.n∧h'=h:=by
  intro q
  induction q with
  | zero=>omega
  | succ q ih=>
    intro i hi hq
    simp only [Z2]
    unfold tP wi te
    simp only [au,jC b.own,rb_0,aeF]
    refine aL.ifB (fun e=>?_) fun e=>?_
    · rw [iz] at e
      have hlt:i<r.n:=by omega
      have hc:=axA r i
      simp only [azt hlt b.op (azL hlt)]
      have w1:IntKind.i64.wrap ((adt r i:Int)+1)=((adt r i+1:Nat):Int):=mt (by omega)
      simp only [au,w1,mt (show i≤9223372036854775806 by omega)]
      refine aL.ifB (fun e1=>?_) fun e1=>?_
      · have:=ih (i+1) (by omega) (by omega)
        rw [adt,if_pos e1] at this
        exact this
      · have:=ih (i+1) (by omega) (by omega)
        rw [adt,if_neg (by rw [e1]; exact Bool.false_ne_true)] at this
        exact this
    · rw [iD] at e
      have:i=r.n:=by omega
      subst this
      exact nT ⟨rfl,rfl⟩
theorem axK {n:Nat} {h:ad} {p bo bt:Nat} {r:RB} (b:RBRd h p bo bt r) (hs:r.n≤1000000) (hn:r.n<n):aF (bB n (.ptr p 0) h) fun x h'=>x=adt r r.n∧h'=h:=by
  unfold bB DF xY
  exact aF5 b hs n 0 (by omega) (by omega)
end Go.Proofs.YtnlbfbiogfilfaaGreat.Sh
/- The document's buddy: made, asked whether a block is open. -/
namespace Go.Proofs.YtnlbfbiogfilfaaGreat.Sh
open Go.Ai
theorem aGF {n N:Nat} {h0:ad} {p bo bt:Nat} (hp:h0.nx≤p∧h0.nx≤bo∧h0.nx≤bt) (hN:N≤4096):∀ (q i:Nat) (h:ad) (r:RB),fe h p bo bt r→r.n=N→(∀ j,j<i→r.op j=true)→(∀ j,r.tk j=0)→be h0 h→i≤N→N-i<q→
    dM (fun k=>ul n k q (N:Int) (.ptr p 0) (i:Int) h) fun v e h'=>v = .ptr p 0∧e=0∧be h0 h'∧∃ r',fe h' p bo bt r'∧r'.n=N∧(∀ j,j<N→r'.op j=true)∧∀ j,r'.tk j=0:=by
  intro q
  induction q with
  | zero=>omega
  | succ q ih=>
    intro i h r b hrn hop htk g hi hq
    simp only [amz]
    unfold z7 EC
    refine aL.ifB (fun e=>?_) fun e=>?_
    · rw [yA,iz] at e
      have hlt:i<r.n:=by omega
      simp only [au,jC b.own.cl,rb_0,aeZ hlt]
      refine ed.bind (uI b.op (by rw [aqL]; exact hlt) rfl) ?_
      intro h10 p10
      rw [mt (show i≤9223372036854775806 by omega)]
      refine ih (i+1) h10 _ (b.setOp hlt p10) hrn (fun j hj=>?_) htk (p10.grow g hp.2.1) (by omega) (by omega)
      show upd r.op i true j=true
      by_cases ej:j=i
      · subst ej; exact lm ..
      · rw [kX _ _ ej]; exact hop j (by omega)
    · rw [yA,iD] at e
      exact KS ⟨rfl,rfl,g,r,b,hrn,fun j hj=>hop j (by omega),htk⟩
theorem r_boxO {h:ad} (hro:h.ro≤h.nx) (l:List AV):aF (Ad h (.agg l)) fun x h'=>x=h.nx∧Own h' x l 0∧be h h':=⟨(h.nx,h.add (.cells l true 0)),⟨rfl,⟨by simp,by simpa using hro,by rw [ad.gV,if_pos rfl]⟩,be.add⟩,fun k=>auR ..⟩
theorem v_rBNew {n:Nat} (hn:5000<n) {h:ad} (hro:h.ro≤h.nx) {N:Nat} (hN:N≤4096):dM (dH n (N:Int) h) fun v e h'=>e=0∧be h h'∧∃ p bo bt r,v = .ptr p 0∧fe h' p bo bt r∧r.n=N∧(∀ j,j<N→r.op j=true)∧(∀ j,r.tk j=0)∧h.nx≤p∧h.nx≤bo∧h.nx≤bt:=by
  unfold dH P5 G1 zN
  have e1:decide ((N:Int)<0)=false:=iJ (by omega)
  have e2:decide ((4096:Int)<(N:Int))=false:=iJ (by omega)
  simp only [au,e1,e2]
  refine aF.bind (r_mkC hro (.bool false) (by omega)) ?_
  rintro _ h1 ⟨rfl,o1,g1⟩
  refine aF.bind (r_mkC (g1.le hro) (.int .i64 0) (by omega)) ?_
  rintro _ h3 ⟨rfl,o3,g3⟩
  have b2:∀ (a b:AV) (K:AV→ah),a.gY=true→b.gY=true→uK [.nilslice,.nilslice] [(0,1,a),(1,1,b)] K=K (.agg [a,b]):=by
    intro a b K ha hb
    cases a<;>cases b<;>first | rfl | (cases ha; done) | (cases hb; done)
  rw [show (fun k:aqj=>uK [.nilslice,.nilslice] [(0,1,Yu h.nx N),(1,1,Yu h1.nx N)] fun x4=>Ad h3 x4 fun x5 h6=>ul n k n (N:Int) (.ptr x5 0) 0 h6)=fun k=>Ad h3 (.agg [Yu h.nx N,Yu h1.nx N]) fun x5 h6=>ul n k n (N:Int) (.ptr x5 0) 0 h6 from funext fun k=>b2 _ _ _ rfl rfl]
  refine aF.bind (r_boxO ((g1.trans g3).le hro) _) ?_
  rintro x5 h6 ⟨rfl,o6,g6⟩
  have n1:=g1.nx
  have n3:=g3.nx
  have l1:=o1.lt
  have l3:=o3.lt
  have r0:fe h6 h3.nx h.nx h1.nx ⟨N,fun _=>false,fun _=>0⟩:=by
    have e3:opC ⟨N,fun _=>false,fun _=>0⟩=List.replicate N (.bool false):=by simp [opC,List.map_const']
    have e4:tkC ⟨N,fun _=>false,fun _=>0⟩=List.replicate N (.int .i64 0):=by simp [tkC,List.map_const']
    refine ⟨o6,by rw [e3]; exact o1.grow (g3.trans g6),by rw [e4]; exact o3.grow g6,by omega,by omega,by omega⟩
  have gg:=g1.trans (g3.trans g6)
  refine aL.mono (aGF (h0:=h) (N:=N) ⟨by omega,by omega,by omega⟩ hN n 0 h6 _ r0 rfl (fun j hj=>by omega) (fun j=>rfl) gg (by omega) (by omega)) ?_
  rintro ⟨v,e,h'⟩ ⟨q1,q2,q3,r,q4,q5,q6,q7⟩
  exact ⟨q2,q3,_,_,_,r,q1,q4,q5,q6,q7,by omega,by omega,by omega⟩
end Go.Proofs.YtnlbfbiogfilfaaGreat.Sh
/- The document's buddy: whether a block is open; a block given back. -/
namespace Go.Proofs.YtnlbfbiogfilfaaGreat.Sh
open Go.Ai
def ao5 (r:RB) (at_ sz:Nat):Bool:=decide (at_+sz≤r.n)&&(List.range' at_ sz).all r.op
theorem aHf {n:Nat} {h:ad} {p bo bt:Nat} {r:RB} (b:fe h p bo bt r) (hs:r.n≤1000000) {at_ sz:Nat} (hz:at_+sz≤r.n):∀ (q i:Nat),at_≤i→i≤at_+sz→at_+sz-i<q→
    aF (fun k=>tr n k q (.ptr p 0) (at_:Int) (sz:Int) (i:Int) h) fun x h'=>x=(List.range' i (at_+sz-i)).all r.op∧h'=h:=by
  intro q
  induction q with
  | zero=>omega
  | succ q ih=>
    intro i h1 h2 hq
    simp only [ZO]
    unfold tR wk
    have w1:IntKind.i64.wrap ((at_:Int)+(sz:Int))=((at_+sz:Nat):Int):=by rw [rK (by omega) (by omega)]; omega
    simp only [au,w1]
    refine aL.ifB (fun e=>?_) fun e=>?_
    · rw [iz] at e
      have hlt:i<r.n:=by omega
      rw [show at_+sz-i=(at_+sz-(i+1))+1 by omega,List.range'_succ,List.all_cons]
      simp only [au,jC b.own.cl,rb_0]
      simp only [azt hlt b.op.cl (azL hlt)]
      refine aL.ifB (fun e1=>?_) fun e1=>?_
      · rw [Bool.not_eq_true'] at e1
        exact nT ⟨by rw [e1]; rfl,rfl⟩
      · rw [Bool.not_eq_false'] at e1
        simp only [au,mt (show i≤9223372036854775806 by omega)]
        rw [e1,Bool.true_and]
        exact ih (i+1) (by omega) (by omega) (by omega)
    · rw [iD] at e
      rw [show at_+sz-i=0 by omega]
      exact nT ⟨rfl,rfl⟩
theorem aFy {n:Nat} {h:ad} {p bo bt:Nat} {r:RB} (b:fe h p bo bt r) (hs:r.n≤5000) (hn:6000<n) {at_ k:Nat} (hk:k<7) (ha:at_≤100000):aF (ci n (.ptr p 0) (at_:Int) (k:Int) h) fun x h'=>x=ao5 r at_ (2^k)∧h'=h:=by
  unfold ci DG yc tF
  obtain ⟨p0,p1,p2⟩:=Ov hk
  obtain ⟨q1,q2,q3⟩:=aaQ hk
  have e1:decide ((at_:Int)<0)=false:=iJ (by omega)
  have w1:IntKind.i64.wrap ((at_:Int)+((2^k:Nat):Int))=((at_+2^k:Nat):Int):=by rw [rK (by omega) (by omega)]; omega
  simp only [au,IL (il k),q1,e1]
  rw [← p0]
  simp only [au,w1,jC b.own.cl,rb_0,aeF]
  refine aL.ifB (fun e=>?_) fun e=>?_
  · rw [iz] at e
    refine nT ⟨?_,rfl⟩
    unfold ao5
    rw [iJ (by omega)]; rfl
  · rw [iD] at e
    have hle:at_+2^k≤r.n:=by omega
    refine aL.mono (aHf b (by omega) hle n at_ (iA _) (by omega) (by omega)) ?_
    rintro ⟨x,h'⟩ ⟨e1,e2⟩
    refine ⟨e1.trans ?_,e2⟩
    unfold ao5
    rw [iO hle,Bool.true_and,show at_+2^k-at_=2^k by omega]
end Go.Proofs.YtnlbfbiogfilfaaGreat.Sh
