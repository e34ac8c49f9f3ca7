/- Small functions of the statements; what a pool tells: counts, and what is owned. -/
import Derived.Test.YtnlbfbiogfilfaaGreatZQLawZAGive
set_option linter.all false
namespace Go.Proofs.YtnlbfbiogfilfaaGreat.Sh
open Go.Ai
def awl (x:PartZ):Nat→Int
  | 1=>8
  | u=>pk x u
theorem v_quota {n:Nat} {h:Heap} {x:PartZ} {s:AV} {u:Nat} (hu:u<7):Run1 (iL n (.agg (zA x s)) (u:Int) h) fun r h'=>r=awl x u∧Grow h h':=by
  unfold iL zn zh
  refine Run1.bind (zw ..) ?_
  rintro b h1 ⟨hb,g⟩
  have hb7:∀ K,yL [.int .i64 0,.int .i64 0,.int .i64 0,.int .i64 0,.int .i64 0,.int .i64 0,.int .i64 0] [(1,1,.int .i64 8),(2,1,.int .i64 x.user),(3,1,.int .i64 x.tables),(4,1,.int .i64 x.spaces),(5,1,.int .i64 x.regions),(6,1,.int .i64 x.records)] K =
      K (.agg [.int .i64 0,.int .i64 8,.int .i64 x.user,.int .i64 x.tables,.int .i64 x.spaces,.int .i64 x.regions,.int .i64 x.records]):=fun K=>rfl
  have hi:∀ K,aes 1 7 false (.agg [.int .i64 0,.int .i64 8,.int .i64 x.user,.int .i64 x.tables,.int .i64 x.spaces,.int .i64 x.regions,.int .i64 x.records]) (u:Int) K=K (.int .i64 (awl x u)):=by
    intro K
    rw [axc (n:=7) rfl hu]
    match u,hu with
    | 0,_=>rfl | 1,_=>rfl | 2,_=>rfl | 3,_=>rfl | 4,_=>rfl | 5,_=>rfl | 6,_=>rfl
  simp only [cJ,Nat.reduceAdd,bM hb,part_2,part_3,part_4,part_5,part_6,hb7,hi]
  exact je ⟨rfl,g⟩
theorem v_has_1 {n:Nat} {h:Heap} {v:AV} {l:List Int} {x:Int} (hv:Ints h .i64 v l) (hx:x∈l):∀ (q i:Nat),(∀ j,j<i→nz l j≠x)→i≤l.length→l.length-i<q→
    Run1 (fun k=>ov n k q v x (i:Int) h) fun r h'=>r=true∧h'=h:=by
  intro q
  induction q with
  | zero=>omega
  | succ q ih=>
    intro i hno hi hq
    simp only [ab9]
    unfold sG
    simp only [hv.len]
    have hs:=hv.small
    refine RunG.ifB (fun e=>?_) fun e=>?_
    · simp at e
      simp only [cJ,Nat.reduceAdd,hv.elN e,fW (show i≤9223372036854775806 by omega)]
      refine RunG.ifB (fun _=>je ⟨rfl,rfl⟩) fun e2=>?_
      simp at e2
      refine ih (i+1) (fun j hj=>?_) (by omega) (by omega)
      by_cases ej:j=i
      · subst ej; exact e2
      · exact hno j (by omega)
    · exfalso
      simp at e
      obtain ⟨j,hj,rfl⟩:=List.mem_iff_getElem.1 hx
      exact hno j (by omega) (kC hj)
theorem v_has {n:Nat} {h:Heap} {v:AV} {l:List Int} {x:Int} (hn:l.length<n) (hv:Ints h .i64 v l) (hx:x∈l):Run1 (dk n v x h) fun r h'=>r=true∧h'=h:=by
  unfold dk D4 Ds
  exact v_has_1 hv hx n 0 (fun j hj=>by omega) (by omega) (by omega)
theorem avk {h:Heap} {b:Nat} {q:IntKind} {kv:List (Int × Int)} (a:MapI h b q kv) (c:Int→CRes):aoB h (.map b) c=c kv.length:=by
  unfold aoB
  have:atB h (.map b)=some (kv.map fun e=>(AV.int .i64 e.1,AV.int q e.2)):=by
    show vc h b=_
    unfold vc; rw [a.get]
  rw [this,sN,gw,jC,List.length_map]; rfl
def ED (z:PoolZ):List AV:=[.int .i64 (z.counts 0),.int .i64 (z.counts 1),.int .i64 (z.counts 2),.int .i64 (z.counts 3),.int .i64 (z.counts 4),.int .i64 (z.counts 5),.int .i64 (z.counts 6)]
theorem atf (z:PoolZ) (vm vb:AV) (mu:Nat):(AW z vm vb mu)[12]?=some (.map mu):=rfl
theorem ay8 (z:PoolZ) (vm vb:AV) (mu:Nat):sub (AW z vm vb mu) 13 7=some (ED z):=by rw [oB]; rfl
theorem ayr {l:List AV} (hl:l.length=7):sub l 0 7=some l:=by rw [oB,List.drop_zero,if_pos (by omega), ← hl,List.take_length]
theorem v_Counts {n:Nat} {h:Heap} (hro:h.ro≤h.nx) {w:PoolP} {z:PoolZ} (b:PoolIn h w z) (ht:0≤z.total∧z.total≤65536) (hu:z.uses.length≤1000000) :
    Run1 (mi n (.ptr w.p 0) h) fun r h'=>r = .agg ((ED z).set 0 (.int .i64 (z.total-z.uses.length)))∧Grow h h':=by
  unfold mi FO FV
  refine Run1.bind (aqf hro _ 0) ?_
  rintro x0 h1 ⟨hx0,o0,g1⟩
  have b1:=b.grow g1
  simp only [cJ,Nat.reduceAdd,Ps b1,Bool.not_true,bM b1.own.cl,ay8]
  have hro1:=g1.le hro
  refine Run1.bind (aqf hro1 _ 0) ?_
  rintro x9 h10 ⟨hx9,o9,g10⟩
  refine Run0.bind (abC o9 (cs:=ED z) rfl (by simp [ED])) ?_
  intro h11 p11
  rw [aaD (ED z) _ (by rfl)] at p11
  have g11:Grow h1 h11:=p11.grow g10 hx9
  have b11:=b1.grow g11
  have w1:IntKind.i64.wrap (z.total-(z.uses.length:Int))=z.total-z.uses.length:=jU (by omega) (by omega)
  have i0:∀ c,Fw 1 7 (.ptr x9 0) 0 c=c (.ptr x9 (0+0)):=fun c=>KO (n:=7) (k:=0) (by omega) c
  simp only [cJ,Nat.reduceAdd,bM b11.own.cl,pool_10,atf,avk b11.uses,w1,i0]
  refine Run0.bind (G1 p11.own (by simp [ED]) rfl) ?_
  intro h19 p19
  have o19:=p19.own
  have l19:((ED z).set 0 (.int .i64 (z.total-(z.uses.length:Int)))).length=7:=rfl
  simp only [cJ,Nat.reduceAdd,bM o19.cl,ayr l19]
  have g19:Grow h1 h19:=p19.grow g11 hx9
  refine Run0.bind (abC (o0.grow g19) l19 (by simp)) ?_
  intro h21 p21
  rw [aaD _ _ (by rw [l19]; rfl)] at p21
  simp only [cJ,Nat.reduceAdd,bM p21.own.cl,ayr l19]
  exact je ⟨rfl,p21.grow (g1.trans g19) hx0⟩
theorem avB {q:IntKind} {k x:Int}:∀ {kv:List (Int × Int)},(kv.map (·.1)).Nodup→(k,x)∈kv→agm (.cell .int) (.int .i64 k) (kv.map fun e=>(AV.int .i64 e.1,AV.int q e.2))=some (some (.int q x))
  | [],_,h=>by simp at h
  | e::t,hn,h=>by
    rw [List.map_cons,List.nodup_cons] at hn
    have hk:oQ (.cell .int) (.int .i64 k) (.int .i64 e.1)=some (k==e.1):=by
      show some (eqF k e.1)=_
      rw [zj]
    show (Option.casesOn (oQ (.cell .int) (.int .i64 k) (.int .i64 e.1)) none fun b=>Bool.casesOn b (agm (.cell .int) (.int .i64 k) (t.map fun e=>(AV.int .i64 e.1,AV.int q e.2))) (some (some (.int q e.2))):Option (Option AV))=_
    rw [hk]
    rcases List.mem_cons.1 h with h | h
    · subst h
      simp
    · have hne:k≠e.1:=fun e'=>hn.1 (by rw [← e']; exact List.mem_map.2 ⟨_,h,rfl⟩)
      have:(k==e.1)=false:=by simp [hne]
      rw [this]
      exact avB hn.2 h
theorem alM {h:Heap} {b:Nat} {q:IntKind} {kv:List (Int × Int)} (a:MapI h b q kv) (hn:(kv.map (·.1)).Nodup) {k x:Int} (hm:(k,x)∈kv) (z:AV) (c:AV→Bool→CRes):Tn h (.cell .int) z (.map b) (.int .i64 k) c=c (.int q x) true:=by
  unfold Tn
  have h1:atB h (.map b)=some (kv.map fun e=>(AV.int .i64 e.1,AV.int q e.2)):=by
    show vc h b=_
    unfold vc; rw [a.get]
  have h2:oQ (.cell .int) (.int .i64 k) (.int .i64 k)=some (k==k):=by
    show some (eqF k k)=_
    rw [zj]
  rw [h1,sN,h2,sN,avB hn hm,sN]
theorem avJ {q:IntKind}:∀ {kv:List (Int × Int)},(∀ e∈kv,ajS e.1)→agR (kv.map fun e=>(AV.int .i64 e.1,AV.int q e.2))=some (kv.map (·.1))
  | [],_=>rfl
  | e::t,h=>by
    have he:=h e (List.mem_cons_self ..)
    unfold ajS at he
    have ih:=avJ (q:=q) (kv:=t) fun x hx=>h x (List.mem_cons_of_mem _ hx)
    show (match ltF e.1 (-9223372036854775808),ltF 9223372036854775807 e.1 with
        | false,false=>Option.casesOn (agR (t.map fun e=>(AV.int .i64 e.1,AV.int q e.2))) none fun l=>some (e.1::l)
        | _,_=>none:Option (List Int))=_
    rw [y4,y4,show decide (e.1 < -9223372036854775808)=false by simp; omega,show decide (9223372036854775807<e.1)=false by simp; omega,ih]
    rfl
theorem map_I64N (l:List Int):l.map I64N=ju l:=rfl
theorem r_sorted {h:Heap} (hro:h.ro≤h.nx) {m:Nat} {q:IntKind} {kv:List (Int × Int)} (a:MapI h m q kv) (hk:∀ e∈kv,ajS e.1) (hn:(kv.map (·.1)).Nodup) (hl:kv.length≤1000000) {b:Nat} (hb:h.cl b [.map m]) :
    Run1 (GF lM [.func 76 [] [.ptr b 0]] h) fun v h'=>Lst h' v (D7 (kv.map (·.1)))∧Grow h h':=by
  have hc:ol h b=some [.map m]:=abx hb
  have hm:vc h m=some (kv.map fun e=>(AV.int .i64 e.1,AV.int q e.2)):=by unfold vc; rw [a.get]
  have run:∀ {v:AV} {h':Heap},afv 76 [.func 76 [] [.ptr b 0]] h=some (v,h')→∀ k,GF lM [.func 76 [] [.ptr b 0]] h k=k v h':=by
    intro v h' e k
    unfold GF lM U5
    rw [e]
  have hp:=Dp (kv.map (·.1))
  have hlen:(D7 (kv.map (·.1))).length=kv.length:=by rw [hp.length_eq,List.length_map]
  by_cases h0:kv = []
  · subst h0
    refine ⟨(.nilslice,h),⟨.inl ⟨rfl,rfl⟩,.refl⟩,run ?_⟩
    unfold afv
    show (Option.casesOn (ol h b) none _:Option (AV × Heap))=_
    rw [hc]
    show (Option.casesOn (vc h m) none _:Option (AV × Heap))=_
    rw [hm]
    rfl
  · have hpos:0<kv.length:=List.length_pos_iff.2 h0
    refine ⟨(.slice h.nx 0 kv.length 0 true,h.add (.cells (ju (D7 (kv.map (·.1)))) true 1)),⟨.inr ⟨h.nx,0,[],by rw [hlen],⟨by simp,by simpa using hro,by rw [Heap.get_add,if_pos rfl]; simp⟩,rfl,by omega,by omega⟩,Grow.add⟩,run ?_⟩
    unfold afv
    show (Option.casesOn (ol h b) none _:Option (AV × Heap))=_
    rw [hc]
    show (Option.casesOn (vc h m) none _:Option (AV × Heap))=_
    rw [hm]
    show (Option.casesOn (agR _) none _:Option (AV × Heap))=_
    rw [avJ hk]
    show (Bool.casesOn (Nat.beq (mv (kv.map (·.1))) 0) (Bool.casesOn (an8 (D7 (kv.map (·.1)))&&Nat.ble (mv (kv.map (·.1))) 1000000) none
          (h.newK (.cells (mapK I64N (D7 (kv.map (·.1)))) true 1) fun c H'=>some (.slice c 0 (mv (kv.map (·.1))) 0 true,H'))) (some (.nilslice,h)):Option (AV × Heap))=_
    rw [jC,List.length_map,apH (XE hn),show Nat.beq kv.length 0=false from by
      cases hk':Nat.beq kv.length 0 with
      | false=>rfl
      | true=>have:=Nat.eq_of_beq_eq_true hk'; omega]
    rw [show (true&&Nat.ble kv.length 1000000)=true from by rw [Bool.true_and]; exact Nat.ble_eq_true_of_le hl]
    dsimp only
    rw [Heap.newK_eq,awh,map_I64N]
def prs (R:List (Int × Int)):List AV:=R.flatMap fun e=>[.int .i64 e.1,.int .u8 e.2]
theorem atc:∀ R:List (Int × Int),(prs R).length=R.length*2
  | []=>rfl
  | e::t=>by simp [prs] at *; rw [Nat.add_mul]; have:=atc t; simp [prs] at this; omega
theorem ay3 (R S:List (Int × Int)):prs (R++S)=prs R++prs S:=by simp [prs]
theorem prs_at:∀ (R:List (Int × Int)) (i:Nat) (hi:i<R.length),((prs R).drop (i*2)).take 2 = [.int .i64 R[i].1,.int .u8 R[i].2]
  | e::t,0,_=>rfl
  | e::t,i+1,hi=>by
    have:=prs_at t i (by simpa using hi)
    rw [Nat.add_mul]
    show ((AV.int .i64 e.1::.int .u8 e.2::prs t).drop (i*2+2)).take 2=_
    simpa using this
theorem boxK_map (H:Heap) (b:Nat) (c:Nat→Heap→CRes):Dh H (.map b) c=c H.nx (H.add (.cells [.map b] true 0)):=by
  show Bv H (.cells [.map b] true 0) c=_; simp
structure OwnedOf (kv R:List (Int × Int)):Prop where
  keys:R.map (·.1)=D7 (kv.map (·.1))
  mem:∀ e∈R,e∈kv
theorem aBi {n:Nat} {w:PoolP} {z:PoolZ} {h0:Heap} (hro:h0.ro≤h0.nx) (b0:PoolIn h0 w z) (hn:(z.uses.map (·.1)).Nodup) {v14:AV} {ks:List Int} (hks:ks.length≤1000000) (hmem:∀ k∈ks,∃ x,(k,x)∈z.uses) (f1 f2 f3) :
    ∀ (q i:Nat) (h:Heap) (v:AV) (R:List (Int × Int)),Grow h0 h→Ints h .i64 v14 ks→(∀ c,v14.blk=some c→c<h0.nx)→App h v 2 i (prs R)→R.length=i→R.map (·.1)=ks.take i→(∀ e∈R,e∈z.uses)→(∀ c,v.blk=some c→h0.nx≤c)→i≤ks.length→ks.length-i<q→
    Run1 (fun k=>qJ n f1 f2 f3 k q (.ptr w.p 0) v v14 (ks.length:Int) (i:Int) h) fun r h'=>∃ R,R.map (·.1)=ks∧(∀ e∈R,e∈z.uses)∧App h' r 2 ks.length (prs R)∧Grow h0 h':=by
  intro q
  induction q with
  | zero=>omega
  | succ q ih=>
    intro i h v R g hv14 h14 ha hR hR2 hR3 hlow hi hq
    simp only [af4]
    unfold vU vT Dl
    refine RunG.ifB (fun e=>?_) fun e=>?_
    · simp at e
      have b:=b0.grow g
      obtain ⟨x,hx⟩:=hmem (nz ks i) (by rw [kC e]; exact List.getElem_mem e)
      have bk:∀ K,yL [.int .i64 0,.int .u8 0] [(0,1,.int .i64 (nz ks i)),(1,1,.int .u8 x)] K=K (.agg [.int .i64 (nz ks i),.int .u8 x]):=fun K=>rfl
      simp only [cJ,Nat.reduceAdd,hv14.elN e,bM b.own.cl,atf,alM b.uses hn hx,bk,fW (show i≤9223372036854775806 by omega)]
      refine Run1.bind (Ip (fun k=>by rfl)) ?_
      rintro _ h18 ⟨rfl,c18,g18⟩
      have gg:=g.trans g18
      refine Run1.bind (agS (gg.le hro) (ha.grow g18) (n:=1) (by decide) c18 (new:=[.int .i64 (nz ks i),.int .u8 x]) (by rw [oB]; rfl) (by omega)) ?_
      rintro v' h20 ⟨a20,b20,c20⟩
      have hg20:Grow h0 h20:=c20.grow gg fun c hc=>hlow c hc
      refine ih (i+1) h20 v' (R++[(nz ks i,x)]) hg20 ?_ h14 ?_ (by simp [hR]) ?_ (fun e he=>?_) (fun c hc=>?_) (by omega) (by omega)
      · obtain ⟨p1,p2⟩:=hv14.grow g18
        refine ⟨p1,?_⟩
        rcases p2 with p2 | ⟨bb,off,ext,opn,p3,p4⟩
        · exact .inl p2
        · refine .inr ⟨bb,off,ext,opn,p3,fun h0'=>?_⟩
          obtain ⟨l,p5,p6⟩:=p4 h0'
          refine ⟨l,c20.cl p5 fun hbad=>?_,p6⟩
          have y1:=hlow bb hbad
          have y2:=h14 bb (by rw [p3]; rfl)
          omega
      · rw [ay3]; exact a20
      · rw [List.map_append,hR2,List.take_add_one,List.getElem?_eq_getElem e,kC e]; rfl
      · rcases List.mem_append.1 he with he | he
        · exact hR3 e he
        · simp at he; subst he; exact hx
      · rw [b20] at hc
        cases hc
        exact gg.nx
    · simp at e
      have:i=ks.length:=by omega
      subst this
      exact je ⟨R,by rw [hR2,List.take_length],hR3,ha,g⟩
theorem v_Owned {n:Nat} {h:Heap} (hro:h.ro≤h.nx) {w:PoolP} {z:PoolZ} (b:PoolIn h w z) (hk:∀ e∈z.uses,ajS e.1) (hnd:(z.uses.map (·.1)).Nodup) (hl:z.uses.length≤1000000) (hln:z.uses.length<n) :
    Run1 (jT n (.ptr w.p 0) h) fun r h'=>∃ R,OwnedOf z.uses R∧App h' r 2 R.length (prs R)∧Grow h h':=by
  unfold jT HO Id gG mg mh
  simp only [cJ,Nat.reduceAdd,Ps b,Bool.not_true,bM b.own.cl,atf,boxK_map]
  have g5:Grow h (h.add (.cells [.map w.mu] true 0)):=Grow.add
  have b5:=b.grow g5
  refine Run1.bind (r_sorted (g5.le hro) b5.uses hk hnd hl (ayW ..)) ?_
  rintro x6 h7 ⟨l7,g7⟩
  have hp:=Dp (z.uses.map (·.1))
  have hlen:(D7 (z.uses.map (·.1))).length=z.uses.length:=by rw [hp.length_eq,List.length_map]
  simp only [l7.len]
  have gg:=g5.trans g7
  refine RunG.mono (aBi (gg.le hro) (b.grow gg) hnd (by omega) (fun k hk'=>?_) _ _ _ n 0 h7 .nilslice [] .refl l7.ints (fun c hc=>(l7.lt hc).1) App.nil rfl rfl (fun e he=>(nomatch he)) (fun c e=>by cases e) (by omega) (by omega)) ?_
  · have:=hp.mem_iff.1 hk'
    obtain ⟨e,he,rfl⟩:=List.mem_map.1 this
    exact ⟨e.2,he⟩
  · rintro ⟨r,h'⟩ ⟨R,r1,r2,r3,r4⟩
    have hRl:R.length=(D7 (z.uses.map (·.1))).length:=by rw [← r1,List.length_map]
    exact ⟨R,⟨r1,r2⟩,by rw [hRl]; exact r3,gg.trans r4⟩
end Go.Proofs.YtnlbfbiogfilfaaGreat.Sh
/- Within the quotas; 'adds' says true of a pool with what was taken. -/
namespace Go.Proofs.YtnlbfbiogfilfaaGreat.Sh
open Go.Ai
theorem asJ {n:Int} (h0:0≤n) (h1:n<256):IntKind.u8.wrap n=n:=by
  simp only [IntKind.wrap,IntKind.signed,IntKind.bits]; simp; omega
structure QuotaOk (zc:CfgZ) (p:Nat):Prop where
  ord:0≤(cL zc p).order∧(cL zc p).order≤3
  lo:∀ u,2≤u→u≤6→0≤pk (cL zc p) u∧pk (cL zc p) u≤4096
  each:((2^(cL zc p).order.toNat:Nat):Int)≤zc.frames/zc.colours
  need:((2^(cL zc p).order.toNat:Nat):Int)+pk (cL zc p) 2+pk (cL zc p) 3+pk (cL zc p) 4+pk (cL zc p) 5+pk (cL zc p) 6≤vj zc p
theorem aid {zc:CfgZ} {p:Nat} (hm:Qm zc=true) (po:PartOk zc p):QuotaOk zc p:=by
  have hq:=po.quota
  simp only [Qm,Bool.and_eq_true] at hm
  have hma:=hm.1
  simp only [sQ,Bool.and_eq_true] at hq
  obtain ⟨q1,q2,q3,q4,q5,q6,_,_,q9⟩:=hq
  rw [hma] at q9
  simp [cR] at q1 q2 q3 q4 q5 q6 q9
  obtain ⟨k,hk⟩:=Int.eq_ofNat_of_zero_le q1.1
  have hk3:k≤3:=by have:=q1.2; omega
  have him:abK (cL zc p)=((2^(cL zc p).order.toNat:Nat):Int)∧((2^(cL zc p).order.toNat:Nat):Int)≤8:=by
    unfold abK
    rw [hk]
    rw [Int.toNat_natCast]
    match k,hk3 with
    | 0,_=>exact ⟨by decide,by decide⟩ | 1,_=>exact ⟨by decide,by decide⟩ | 2,_=>exact ⟨by decide,by decide⟩ | 3,_=>exact ⟨by decide,by decide⟩
  obtain ⟨e1,e2⟩:=him
  have e3:(0:Int)≤((2^(cL zc p).order.toNat:Nat):Int):=Int.natCast_nonneg _
  have hneed:((2^(cL zc p).order.toNat:Nat):Int)+(cL zc p).user+(cL zc p).tables+(cL zc p).spaces+(cL zc p).regions+(cL zc p).records≤vj zc p:=by
    have hneed:=q9.2
    unfold needZ at hneed
    rw [e1] at hneed
    generalize ((2^(cL zc p).order.toNat:Nat):Int)=D at *
    rw [jU (n:=D+(cL zc p).user) (by omega) (by omega),jU (n:=D+(cL zc p).user+(cL zc p).tables) (by omega) (by omega),jU (n:=D+(cL zc p).user+(cL zc p).tables+(cL zc p).spaces) (by omega) (by omega),
      jU (n:=D+(cL zc p).user+(cL zc p).tables+(cL zc p).spaces+(cL zc p).regions) (by omega) (by omega),jU (by omega) (by omega)] at hneed
    exact hneed
  refine ⟨q1,fun u h1 h2=>?_,?_,hneed⟩
  · have:u=2∨u=3∨u=4∨u=5∨u=6:=by omega
    rcases this with rfl | rfl | rfl | rfl | rfl<;>simp only [pk]<;>omega
  · have:=q9.1
    rw [e1,(axd po.fr po.co).1] at this
    exact this
structure WithinQ (zc:CfgZ) (p:Nat) (L:List (Int × Int)):Prop where
  image:ng L 1≤2^(cL zc p).order.toNat
  quota:∀ u:Nat,2≤u→u≤6→(ng L u:Int)≤pk (cL zc p) u
theorem WithinQ.room {zc:CfgZ} {p:Nat} {L:List (Int × Int)} (wi:WithinQ zc p L) (qo:QuotaOk zc p) (hr:∀ e∈L,1≤e.2∧e.2≤6):(L.length:Int)≤vj zc p∧∀ u:Nat,2≤u→u≤6→(ng L u:Int)<pk (cL zc p) u→(L.length:Int)<vj zc p:=by
  have hs:=atv L hr
  have h1:=wi.image
  have h2:(ng L 2:Int)≤pk (cL zc p) 2:=wi.quota 2 (by omega) (by omega)
  have h3:(ng L 3:Int)≤pk (cL zc p) 3:=wi.quota 3 (by omega) (by omega)
  have h4:(ng L 4:Int)≤pk (cL zc p) 4:=wi.quota 4 (by omega) (by omega)
  have h5:(ng L 5:Int)≤pk (cL zc p) 5:=wi.quota 5 (by omega) (by omega)
  have h6:(ng L 6:Int)≤pk (cL zc p) 6:=wi.quota 6 (by omega) (by omega)
  have hn:=qo.need
  generalize 2^(cL zc p).order.toNat=D at *
  refine ⟨by omega,fun u u1 u2 hlt=>?_⟩
  have:u=2∨u=3∨u=4∨u=5∨u=6:=by omega
  rcases this with rfl | rfl | rfl | rfl | rfl
  · have hlt:(ng L 2:Int)<pk (cL zc p) 2:=hlt
    omega
  · have hlt:(ng L 3:Int)<pk (cL zc p) 3:=hlt
    omega
  · have hlt:(ng L 4:Int)<pk (cL zc p) 4:=hlt
    omega
  · have hlt:(ng L 5:Int)<pk (cL zc p) 5:=hlt
    omega
  · have hlt:(ng L 6:Int)<pk (cL zc p) 6:=hlt
    omega
theorem takeQ {zc:CfgZ} {p:Nat} {h:Heap} {w:PoolP} {z:PoolZ} {L:List (Int × Int)} (pin:PoolIn h w z) (v:InvQ zc p L z) (po:PartOk zc p) (qo:QuotaOk zc p) (wi:WithinQ zc p L) {u:Nat} (hu:2≤u∧u≤6) (hlt:(ng L u:Int)<pk (cL zc p) u) {f e:Int} {h':Heap} (ht:alD h w z u f e h') :
    e=0∧∃ w' z',w'.p=w.p∧z'.mine=z.mine∧PoolIn h' w' z'∧InvQ zc p (L++[(f,(u:Int))]) z'∧(∀ d,fpP w' z.mine.length d→fpP w z.mine.length d∨h.nx≤d)∧Chg (fpP w z.mine.length) h h':=by
  have hroom:=(wi.room qo v.rng).2 u hu.1 hu.2 hlt
  have hs:=v.sum
  rcases ht with ⟨h1,_⟩ | ⟨_,best,r,hbest,hT,_,hf⟩
  · exfalso
    rw [v.quota,v.cnt u (by omega)] at h1
    omega
  · rcases hT with ⟨_,_,_,hemp⟩ | ⟨rfl,k,a,rest,bv',h1,hk,hx,hemp,_,_,hp,hsub,c⟩
    · exfalso
      obtain ⟨j,hj,hj2⟩:=axp z.mine.length (show 0<F1 (frees z) z.mine.length by omega)
      have hmax:=hbest.2.1 j hj
      have h0:frees z best=0:=by
        have:∀ n,n≤7→fU (z.buds best) n=0:=by
          intro n
          induction n with
          | zero=>intro _; rfl
          | succ n ih=>
            intro hn
            rw [fU,ih (by omega),hemp n (Nat.zero_le _) (by omega)]
            simp
        exact this 7 (Nat.le_refl _)
      omega
    · refine ⟨rfl,{ w with bv:=bv' },K5 z best 0 u k a rest,rfl,rfl,hp,?_,hsub,c⟩
      have hs':=v.step po (u:=u) ⟨by omega,hu.2⟩ hbest.1 (by omega) h1 hk hx hemp
      have hf':=hf rfl k a rest hemp hx
      have:jc z.colours (nz z.mine best) a (2^0) = [f]:=by simp [jc,hf']
      rw [this] at hs'
      exact hs'
theorem InvQ.own {zc:CfgZ} {p:Nat} {L:List (Int × Int)} {z:PoolZ} (v:InvQ zc p L z) (po:PartOk zc p) {e:Int × Int} (he:e∈L):0≤e.1∧e.1<zc.frames∧e.1%zc.colours∈(cL zc p).cols:=by
  have hm:e.1∈L.map (·.1):=List.mem_map.2 ⟨e,he,rfl⟩
  obtain ⟨i,hi,x,hx⟩:=v.inv.form _ hm
  have hmine:=v.inv.mine
  have hi':i<(cL zc p).cols.length:=by rw [hmine] at hi; exact hi
  obtain ⟨n1,n2⟩:=po.nz hi'
  rw [← hmine] at n1 n2
  have hl:=v.inv.law i hi x
  have hc:1≤(L.map (·.1)).count (x*zc.colours+nz z.mine i):=by
    rw [← hx]; exact List.count_pos_iff.2 hm
  have hin:0≤x∧x<(Db zc (nz z.mine i):Int):=by
    by_cases hh:0≤x∧x<(Db zc (nz z.mine i):Int)
    · exact hh
    · rw [if_neg hh] at hl; omega
  have hr:=alz po.fr po.co n1 n2 hin.2
  have hco:=po.co
  simp [cR] at hco
  have h0:0≤x*zc.colours:=Int.mul_nonneg hin.1 (by omega)
  obtain ⟨o1,_,o3⟩:=v.inv.own po hm
  exact ⟨o1,by rw [hx]; omega,o3⟩
def mD (z:PoolZ) (L:List (Int × Int)) (u:Nat):Int:=if u=0 then z.total-L.length else z.counts u
def atS (f:Nat→Int):Nat→Int
  | 0=>0
  | n+1=>atS f n+f n
theorem aA7 {h:Heap} {pp:AV} {n:Nat} {f:Nat→PartZ} {S:Nat→AV} (s:SlAt h pp 8 n fun i=>zA (f i) (S i)) {p:Nat} (hp:p<n) (K:AV→AV→CRes):LC 8 pp (p:Int) (fun x=>fld 0 h x 1 false K)=K (elP pp 8 (p:Int)) (S p):=by
  rw [s.ia (by omega) (by omega)]
  obtain ⟨b,off,l,d1,d2,d3,d4⟩:=s.at_ (i:=(p:Int)) (by omega) (by omega)
  rw [Int.toNat_natCast] at d4
  rw [d1]
  have d5:l[off+0]?=some (S p):=by
    have:=congrArg (·[0]?) d4
    simp only [List.getElem?_take,List.getElem?_drop] at this
    simpa [zA] using this
  rw [fld_of d2 d5,Nat.add_zero]
def prF (R:List (Int × Int)) (i:Nat):List AV:=[.int .i64 (R.getD i (0,0)).1,.int .u8 (R.getD i (0,0)).2]
theorem App.prs {h:Heap} {v:AV} {R:List (Int × Int)} (a:App h v 2 R.length (prs R)) (hl:R.length≤1048576):SlAt h v 2 R.length (prF R):=by
  refine ⟨by omega,?_⟩
  rcases a with ⟨rfl,h0,_⟩ | ⟨b,rfl,o,hlen,_⟩
  · exact .inl ⟨rfl,h0⟩
  · refine .inr ⟨b,0,0,true,rfl,fun _=>⟨_,o.cl,fun i hi=>⟨by rw [atc]; omega,?_⟩⟩⟩
    rw [Nat.zero_add,prs_at R i hi]
    unfold prF
    rw [List.getD_eq_getElem?_getD,List.getElem?_eq_getElem hi]
    rfl
theorem ar4 {h:Heap} {v:AV} {R:List (Int × Int)} (s:SlAt h v 2 R.length (prF R)) {i:Nat} (hi:i<R.length) (K:AV→Int→CRes):LC 2 v (i:Int) (fun x=>iY .i64 0 h x K)=K (elP v 2 (i:Int)) (R.getD i (0,0)).1:=by
  rw [s.ia (by omega) (by omega)]
  obtain ⟨b,off,l,d1,d2,d3,d4⟩:=s.at_ (i:=(i:Int)) (by omega) (by omega)
  rw [Int.toNat_natCast] at d4
  rw [d1]
  have d5:l[off+0]?=some (.int .i64 (R.getD i (0,0)).1):=by
    have:=congrArg (·[0]?) d4
    simp only [List.getElem?_take,List.getElem?_drop] at this
    simpa [prF] using this
  rw [air d2 d5,Nat.add_zero]
theorem own_use {h:Heap} {v:AV} {R:List (Int × Int)} (s:SlAt h v 2 R.length (prF R)) {i:Nat} (hi:i<R.length):∃ a,∀ K:AV→Int→CRes,LC 2 v (i:Int) (fun x=>iY .u8 1 h x K)=K a (R.getD i (0,0)).2:=by
  obtain ⟨b,off,l,d1,d2,d3,d4⟩:=s.at_ (i:=(i:Int)) (by omega) (by omega)
  rw [Int.toNat_natCast] at d4
  have d5:l[off+1]?=some (.int .u8 (R.getD i (0,0)).2):=by
    have:=congrArg (·[1]?) d4
    simp only [List.getElem?_take,List.getElem?_drop] at this
    simpa [prF] using this
  exact ⟨_,fun K=>by rw [s.ia (by omega) (by omega),d1,air d2 d5]⟩
end Go.Proofs.YtnlbfbiogfilfaaGreat.Sh
/- 'adds' says true: the code. -/
namespace Go.Proofs.YtnlbfbiogfilfaaGreat.Sh
open Go.Ai
structure AddsIn (h0:Heap) (n x p:Nat) (zc:CfgZ) (t pp:AV) (w:PoolP) (z:PoolZ) (L:List (Int × Int)):Prop where
  n5:5000<n
  fit:Fits n zc
  ro:h0.ro≤h0.nx
  cl:h0.cl x (Es zc t pp)
  parts:Parts h0 pp zc.parts
  pool:PoolIn h0 w z
  inv:InvQ zc p L z
  po:PartOk zc p
  may:Qm zc=true
  wi:WithinQ zc p L
  lt:p<zc.parts.length
  ln:L.length<n
  lm:L.length≤1000000
abbrev kA:=da
theorem v_adds_4 {h0:Heap} {n x p:Nat} {zc:CfgZ} {t pp:AV} {w:PoolP} {z:PoolZ} {L:List (Int × Int)} (a:AddsIn h0 n x p zc t pp w z L) {R:List (Int × Int)} (hR:OwnedOf L R) {v9 v15:AV} {tot fr sm:Int}
    (hsm:sm=tot) (hfr:fr=(mD z L 0)) (hcnt:tot-fr=L.length) (hb : -1000000≤tot-fr∧tot-fr≤1000000) (f1 f2 f3 f4 f5) :
    ∀ (q i:Nat) (h:Heap) {b:Nat},v9 = .ptr b 0→h.cl b ((ED z).set 0 (.int .i64 (mD z L 0)))→Grow h0 h→SlAt h v15 2 R.length (prF R)→i≤R.length→R.length-i<q→
    Run1 (fun k=>fg n f1 f2 f3 f4 f5 (dk n) k q (p:Int) (.ptr x 0) tot 0 v9 sm fr v15 (i:Int) h) fun r h'=>r=true∧Grow h0 h':=by
  intro q
  have hRl:R.length=L.length:=by
    have:=congrArg List.length hR.keys
    rw [List.length_map,(Dp _).length_eq,List.length_map] at this
    exact this
  induction q with
  | zero=>omega
  | succ q ih=>
    intro i h b hv9 hc9 g hs hi hq
    simp only [YC]
    unfold qY
    simp only [hs.len]
    refine RunG.ifB (fun e=>?_) fun e=>?_
    · simp at e
      have hmem:R.getD i (0,0)∈L:=hR.mem _ (by rw [List.getD_eq_getElem?_getD,List.getElem?_eq_getElem e]; exact List.getElem_mem e)
      obtain ⟨o1,o2,o3⟩:=a.inv.own a.po hmem
      obtain ⟨u1,u2⟩:=a.inv.rng _ hmem
      obtain ⟨ua,huse⟩:=own_use (h:=h) hs e
      obtain ⟨_,S,hps,hin⟩:=a.parts.grow g
      have hpl:p<zc.parts.length:=a.lt
      have hco:=a.po.co
      simp [cR] at hco
      have hclx:=g.cl a.cl
      have h10:RunG ap1 (fun k=>qc n f1 f2 f3 f4 f5 (dk n) k (fg n f1 f2 f3 f4 f5 (dk n) k q) (p:Int) (.ptr x 0) tot 0 v9 sm fr v15 (i:Int) false h) fun r=>r.1=true∧Grow h0 r.2:=by
        unfold qc wV
        simp only [cJ,Nat.reduceAdd,fW (show i≤9223372036854775806 by have:=a.lm; omega)]
        exact ih (i+1) h hv9 hc9 g hs (by omega) (by omega)
      have h9:RunG ap1 (fun k=>qS n f1 f2 f3 f4 f5 (dk n) k (fg n f1 f2 f3 f4 f5 (dk n) k q) (p:Int) (.ptr x 0) tot 0 v9 sm fr v15 (i:Int) false h) fun r=>r.1=true∧Grow h0 r.2:=by
        unfold qS xQ
        have t1:decide ((6:Int)<(R.getD i (0,0)).2)=false:=decide_eq_false (by omega)
        simp only [cJ,Nat.reduceAdd,huse,t1]
        exact h10
      have h8:RunG ap1 (fun k=>re n f1 f2 f3 f4 f5 (dk n) k (fg n f1 f2 f3 f4 f5 (dk n) k q) (p:Int) (.ptr x 0) tot 0 v9 sm fr v15 (i:Int) false h) fun r=>r.1=true∧Grow h0 r.2:=by
        unfold re yN
        have t1:decide ((R.getD i (0,0)).2<(1:Int))=false:=decide_eq_false (by omega)
        simp only [cJ,Nat.reduceAdd,huse,t1]
        exact h9
      have h7:RunG ap1 (fun k=>qT n f1 f2 f3 f4 f5 (dk n) k (fg n f1 f2 f3 f4 f5 (dk n) k q) (p:Int) (.ptr x 0) tot 0 v9 sm fr v15 (i:Int) false h) fun r=>r.1=true∧Grow h0 r.2:=by
        unfold qT yE
        have hmod:(R.getD i (0,0)).1.tmod zc.colours=(R.getD i (0,0)).1%zc.colours:=Int.tmod_eq_emod_of_nonneg o1
        simp only [cJ,Nat.reduceAdd,bM hclx,gL,aA7 hps hpl,ar4 hs e,aiO (show zc.colours≠0 by omega),hmod]
        have hfit:=a.fit.cols p hpl
        refine Run1.bind (v_has hfit (hin p hpl) o3) ?_
        rintro _ h64 ⟨rfl,rfl⟩
        simp only [cJ,Nat.reduceAdd,Bool.not_true]
        exact h8
      have h6:RunG ap1 (fun k=>ri n f1 f2 f3 f4 f5 (dk n) k (fg n f1 f2 f3 f4 f5 (dk n) k q) (p:Int) (.ptr x 0) tot 0 v9 sm fr v15 (i:Int) false h) fun r=>r.1=true∧Grow h0 r.2:=by
        unfold ri yf
        have t1:(!decide ((R.getD i (0,0)).1<zc.frames))=false:=by rw [decide_eq_true (show (R.getD i (0,0)).1<zc.frames from o2)]; rfl
        simp only [ar4 hs e]
        simp only [cJ,Nat.reduceAdd,bM hclx,gL,t1]
        exact h7
      have h5:RunG ap1 (fun k=>nv n f1 f2 f3 f4 f5 (dk n) k (fg n f1 f2 f3 f4 f5 (dk n) k q) (p:Int) (.ptr x 0) tot 0 v9 sm fr v15 (i:Int) false h) fun r=>r.1=true∧Grow h0 r.2:=by
        unfold nv yO
        have t1:decide ((R.getD i (0,0)).1<(0:Int))=false:=decide_eq_false (by omega)
        simp only [ar4 hs e]
        simp only [cJ,Nat.reduceAdd,t1]
        exact h6
      refine RunG.ifB (fun e0=>?_) fun _=>h5
      simp at e0
      have w1:IntKind.i64.wrap ((i:Int)-1)=((i-1:Nat):Int):=by rw [jU (by have:=a.lm; omega) (by have:=a.lm; omega)]; omega
      have e':i-1<R.length:=by omega
      have hinc:(R.getD (i-1) (0,0)).1<(R.getD i (0,0)).1:=by
        have hsort:=XE (a.inv.inv.nodup)
        rw [← hR.keys] at hsort
        have:=List.pairwise_iff_getElem.1 hsort (i-1) i (by simpa using e') (by simpa using e) (by omega)
        simp only [List.getElem_map] at this
        rw [List.getD_eq_getElem?_getD,List.getD_eq_getElem?_getD,List.getElem?_eq_getElem e,List.getElem?_eq_getElem e']
        exact this
      have t1:(!decide ((R.getD (i-1) (0,0)).1<(R.getD i (0,0)).1))=false:=by simp only [hinc]; rfl
      simp only [ar4 hs e]
      simp only [cJ,Nat.reduceAdd,w1]
      simp only [ar4 hs e']
      simp only [cJ,Nat.reduceAdd,t1]
      exact h5
    · simp at e
      have hie:i=R.length:=by omega
      unfold rc yj yn xL ye xD yr yG
      subst hv9
      have t0:((0:Int)==0)=true:=rfl
      have t1:(sm==tot)=true:=by rw [hsm]; simp
      have i0:∀ c,Fw 1 7 (.ptr b 0) 0 c=c (.ptr b (0+0)):=fun c=>KO (n:=7) (k:=0) (by omega) c
      have l0:((ED z).set 0 (.int .i64 (mD z L 0)))[0]?=some (.int .i64 (mD z L 0)):=rfl
      have t2:(fr==mD z L 0)=true:=by rw [hfr]; simp
      have w2:IntKind.i64.wrap (tot-fr)=tot-fr:=jU (by omega) (by omega)
      have t3:((R.length:Int)==tot-fr)=true:=by rw [hcnt,hRl]; simp
      simp only [cJ,Nat.reduceAdd,t0,t1,i0,bM hc9,l0,t2,hs.len,w2,t3]
      exact je ⟨rfl,g⟩
theorem amu (z:PoolZ):(lA z).length=z.mine.length:=by simp [lA]
theorem aiQ {z:PoolZ} {i:Nat} (hi:i<z.mine.length):nz (lA z) i=(frees z i:Int):=by
  rw [kC (by simp [lA]; exact hi)]
  simp [lA]
theorem aiU {f:Nat→Nat}:∀ {m n:Nat},m≤n→F1 f m≤F1 f n
  | m,0,h=>by have:m=0:=by omega
              subst this; exact Nat.le_refl _
  | m,n+1,h=>by
    by_cases e:m=n+1
    · subst e; exact Nat.le_refl _
    · have:=aiU (f:=f) (show m≤n by omega); rw [F1]; omega
theorem aAw {h0:Heap} {n x p:Nat} {zc:CfgZ} {t pp:AV} {w:PoolP} {z:PoolZ} {L:List (Int × Int)} (a:AddsIn h0 n x p zc t pp w z L) {b:Nat} {v50:AV} (f1 f2 f3 f4) {hb:Heap} (hcb:hb.cl b ((ED z).set 0 (.int .i64 (mD z L 0)))) (hl:Ints hb .i64 v50 (lA z)) (g:Grow h0 hb) :
    ∀ (q i:Nat),i≤z.mine.length→z.mine.length-i<q→
    Run1 (fun k=>mz n f1 f2 f3 f4 (jT n) (dk n) k q (p:Int) (.ptr w.p 0) (.ptr x 0) (vj zc p) 0 (.ptr b 0) (vj zc p) (F1 (frees z) i:Int) v50 (z.mine.length:Int) (i:Int) hb) fun r h'=>r=true∧Grow h0 h':=by
  intro q
  obtain ⟨t1,t2,t3⟩:=UY a.po
  have hsum:=a.inv.sum
  have hln:z.mine.length≤16:=by rw [a.inv.inv.mine]; exact a.po.few
  induction q with
  | zero=>omega
  | succ q ih=>
    intro i hi hq
    simp only [XM]
    unfold qg
    refine RunG.ifB (fun e=>?_) fun e=>?_
    · simp at e
      have hm:=aiU (f:=frees z) (show i+1≤z.mine.length by omega)
      have hs:F1 (frees z) (i+1)=F1 (frees z) i+frees z i:=rfl
      have w1:IntKind.i64.wrap ((F1 (frees z) i:Int)+(frees z i:Int))=((F1 (frees z) (i+1):Nat):Int):=by rw [jU (by omega) (by omega)]; omega
      simp only [cJ,Nat.reduceAdd,hl.elN (show i<(lA z).length by rw [amu]; exact e),aiQ e,w1,fW (show i≤9223372036854775806 by omega)]
      exact ih (i+1) (by omega) (by omega)
    · simp at e
      have hie:i=z.mine.length:=by omega
      unfold qu wM
      have hin:∀ e∈z.uses,ajS e.1:=by
        rw [a.inv.uses]
        intro e he
        obtain ⟨o1,o2,_⟩:=a.inv.own a.po he
        have hf:=a.po.fr
        simp [cR] at hf
        unfold ajS; omega
      refine Run1.bind (v_Owned (g.le a.ro) (a.pool.grow g) hin (by rw [a.inv.uses]; exact a.inv.inv.nodup) (by rw [a.inv.uses]; exact a.lm) (by rw [a.inv.uses]; exact a.ln)) ?_
      rintro v15 h26 ⟨R,hR,hA,g26⟩
      rw [a.inv.uses] at hR
      have hRl:R.length=L.length:=by
        have:=congrArg List.length hR.keys
        rw [List.length_map,(Dp _).length_eq,List.length_map] at this
        exact this
      have hfr:(F1 (frees z) i:Int)=mD z L 0:=by
        rw [hie]; unfold mD; rw [if_pos rfl,a.inv.total]; omega
      have hlm:=a.lm
      refine v_adds_4 a hR (v9:=.ptr b 0) rfl hfr (by rw [hie]; omega) (by rw [hie]; omega) _ _ _ _ _ n 0 h26 rfl (g26.cl hcb) (g.trans g26) (App.prs hA (by omega)) (by omega) (by have:=a.ln; omega)
theorem row_at {z:PoolZ} {L:List (Int × Int)} {u:Nat} (hu:u<7):((ED z).set 0 (.int .i64 (mD z L 0)))[u]?=some (.int .i64 (mD z L u)):=by
  match u,hu with
  | 0,_=>rfl | 1,_=>rfl | 2,_=>rfl | 3,_=>rfl | 4,_=>rfl | 5,_=>rfl | 6,_=>rfl
theorem told_in {zc:CfgZ} {p:Nat} {z:PoolZ} {L:List (Int × Int)} (v:InvQ zc p L z) (po:PartOk zc p) (hm:Qm zc=true) (wi:WithinQ zc p L) {u:Nat} (hu:u<7):0≤mD z L u∧mD z L u≤65536:=by
  obtain ⟨_,t2,t3⟩:=UY po
  have hr:=(wi.room (aid hm po) v.rng).1
  unfold mD
  by_cases e:u=0
  · rw [if_pos e,v.total]; omega
  · rw [if_neg e,v.cnt u hu]
    have:ng L u≤L.length:=List.countP_le_length
    omega
theorem told_sum {zc:CfgZ} {p:Nat} {z:PoolZ} {L:List (Int × Int)} (v:InvQ zc p L z):atS (mD z L) 7=vj zc p:=by
  have hs:=atv L v.rng
  have e:atS (mD z L) 7=0+mD z L 0+mD z L 1+mD z L 2+mD z L 3+mD z L 4+mD z L 5+mD z L 6:=rfl
  have h0:mD z L 0=z.total-L.length:=rfl
  have h1:mD z L 1=(ng L 1:Int):=v.cnt 1 (by omega)
  have h2:mD z L 2=(ng L 2:Int):=v.cnt 2 (by omega)
  have h3:mD z L 3=(ng L 3:Int):=v.cnt 3 (by omega)
  have h4:mD z L 4=(ng L 4:Int):=v.cnt 4 (by omega)
  have h5:mD z L 5=(ng L 5:Int):=v.cnt 5 (by omega)
  have h6:mD z L 6=(ng L 6:Int):=v.cnt 6 (by omega)
  rw [e,h0,h1,h2,h3,h4,h5,h6,v.total]
  omega
theorem aAT {h0:Heap} {n x p:Nat} {zc:CfgZ} {t pp:AV} {w:PoolP} {z:PoolZ} {L:List (Int × Int)} (a:AddsIn h0 n x p zc t pp w z L) {b:Nat} (f3 f4) :
    ∀ (q u:Nat) (h:Heap),h.cl b ((ED z).set 0 (.int .i64 (mD z L 0)))→Grow h0 h→u≤7→7-u<q→0≤atS (mD z L) u→atS (mD z L) u≤u*65536→
    Run1 (fun k=>kT n (iL n) (dB n) f3 f4 (jT n) (dk n) k q (p:Int) (.ptr w.p 0) (.ptr x 0) (vj zc p) 0 (.ptr b 0) (atS (mD z L) u) (u:Int) h) fun r h'=>r=true∧Grow h0 h':=by
  intro q
  induction q with
  | zero=>omega
  | succ q ih=>
    intro u h hcb g hu hq hs0 hs1
    simp only [Xy]
    unfold qh qy wN
    refine RunG.ifB (fun e=>?_) fun e=>?_
    · simp at e
      have hu7:u<7:=by omega
      obtain ⟨t1,t2⟩:=told_in a.inv a.po a.may a.wi hu7
      have i0:∀ c,Fw 1 7 (.ptr b 0) (u:Int) c=c (.ptr b (0+u)):=fun c=>KO (n:=7) (k:=u) hu7 c
      have hS:atS (mD z L) (u+1)=atS (mD z L) u+mD z L u:=rfl
      have w1:IntKind.i64.wrap (atS (mD z L) u+mD z L u)=atS (mD z L) (u+1):=by rw [jU (by omega) (by omega),hS]
      have w2:IntKind.u8.wrap ((u:Int)+1)=((u+1:Nat):Int):=by rw [asJ (by omega) (by omega)]; omega
      obtain ⟨_,S,hps,hin⟩:=a.parts.grow g
      have hpl:p<zc.parts.length:=a.lt
      have hclx:=g.cl a.cl
      have go:∀ h',Grow h h'→Run1 (fun k=>kT n (iL n) (dB n) f3 f4 (jT n) (dk n) k q (p:Int) (.ptr w.p 0) (.ptr x 0) (vj zc p) 0 (.ptr b 0) (atS (mD z L) (u+1)) ((u+1:Nat):Int) h') fun r h'=>r=true∧Grow h0 h':=
        fun h' g'=>ih (u+1) h' (g'.cl hcb) (g.trans g') (by omega) (by omega) (by rw [hS]; omega) (by rw [hS]; omega)
      simp only [i0]
      simp only [cJ,Nat.reduceAdd,bM hcb,row_at hu7,w1]
      refine RunG.ifB (fun e2=>?_) fun e2=>?_
      · simp at e2
        have hel:∀ K:AV→AV→CRes,eld 8 h pp (p:Int) 8 true K=K (elP pp 8 (p:Int)) (.agg (zA (zc.parts.getD p default) (S p))):=fun K=>by
          have:=hps.eld (i:=(p:Int)) (by omega) (by omega) K
          rwa [Int.toNat_natCast] at this
        simp only [cJ,Nat.reduceAdd,bM hclx,gL,hel]
        have hq:=v_quota (n:=n) (h:=h.shut true) (x:=zc.parts.getD p default) (s:=S p) (u:=u) hu7
        refine Run1.bind hq ?_
        rintro _ h24 ⟨rfl,g24⟩
        have hcnt:mD z L u=(ng L u:Int):=by unfold mD; rw [if_neg (by omega)]; exact a.inv.cnt u hu7
        have hqu:awl (zc.parts.getD p default) u=pk (cL zc p) u:=by
          have:u=2∨u=3∨u=4∨u=5∨u=6:=by omega
          rcases this with rfl | rfl | rfl | rfl | rfl<;>rfl
        have hle:=a.wi.quota u (by omega) (by omega)
        have t3:decide (awl (zc.parts.getD p default) u<mD z L u)=false:=decide_eq_false (by rw [hqu,hcnt]; omega)
        simp only [cJ,Nat.reduceAdd,t3,w2]
        exact go _ g24.shut
      · simp only [cJ,Nat.reduceAdd,w2]
        exact go h .refl
    · simp at e
      have hu7:u=7:=by omega
      subst hu7
      unfold qm wO
      rw [told_sum a.inv]
      refine Run1.bind (awZ (by have:=a.n5; omega) (g.le a.ro) (a.pool.grow g) (a.inv.inv.ok a.po (by rw [List.length_map]; have:=a.lm; omega))) ?_
      rintro v11 h12 ⟨l12,_,g12⟩
      simp only [l12.len,amu]
      have hln:z.mine.length≤16:=by rw [a.inv.inv.mine]; exact a.po.few
      exact aAw a _ _ _ _ (g12.cl hcb) l12.ints (g.trans g12) n 0 (by omega) (by have:=a.n5; omega)
theorem v_adds {n:Nat} (hn:5000<n) {zc:CfgZ} (hfit:Fits n zc) {h:Heap} (hro:h.ro≤h.nx) {c:List AV} (hc:Cfg h zc c) {p:Nat} (hp:p<zc.parts.length) {w:PoolP} {z:PoolZ} (pin:PoolIn h w z) {L:List (Int × Int)} (v:InvQ zc p L z) (po:PartOk zc p) (hm:Qm zc=true) (wi:WithinQ zc p L)
    (hln:L.length<n) (hlm:L.length≤1000000):Run1 (dA n (.agg c) (p:Int) (.ptr w.p 0) h) fun r h'=>r=true∧Grow h h':=by
  unfold dA BN BH
  obtain ⟨t,pp,rfl,ht,hpp⟩:=hc
  refine Run1.bind (zw ..) ?_
  rintro x h1 ⟨hb,g⟩
  simp only [cJ,Nat.reduceAdd,bM hb,gL]
  refine Run2.bind (azV hfit (g.le hro) (Cfg.mk' (ht.grow g) (hpp.grow g)) (p:Int)) ?_
  rintro tot _ h2 ⟨rfl,htot,g2⟩
  have hth:DT zc (p:Int)=0:=by
    unfold DT
    rw [hm,if_pos rfl,if_pos ⟨by omega,by omega⟩]
  rw [hth] at htot ⊢
  have htot:=htot rfl
  rw [Int.toNat_natCast] at htot
  subst htot
  have gg2:=g.trans g2
  obtain ⟨_,t2,t3⟩:=UY po
  refine Run1.bind (v_Counts (gg2.le hro) (pin.grow gg2) (by rw [v.total]; exact ⟨t2,t3⟩) (by rw [v.uses]; exact hlm)) ?_
  rintro _ h7 ⟨rfl,g7⟩
  rw [v.uses]
  have gg7:=gg2.trans g7
  refine Run1.bind (aqf (gg7.le hro) _ 0) ?_
  rintro x8 h9 ⟨hx8,o9,g9⟩
  have l7:((ED z).set 0 (.int .i64 (z.total-(L.length:Int)))).length=7:=rfl
  refine Run0.bind (abC o9 l7 (by simp)) ?_
  intro h10 p10
  rw [aaD _ _ (by rw [l7]; rfl)] at p10
  have g10:Grow h7 h10:=p10.grow g9 hx8
  have gg10:=gg7.trans g10
  have A:AddsIn h10 n x p zc t pp w z L:=⟨hn,hfit,gg10.le hro,(g2.trans (g7.trans g10)).cl hb,hpp.grow gg10,pin.grow gg10,v,po,hm,wi,hp,hln,hlm⟩
  have key:=aAT (b:=x8) A (qi n) (mi n) n 0 h10 p10.own.cl .refl (by omega) (by omega) (Int.le_refl 0) (by show (0:Int)≤_; omega)
  refine RunG.mono key ?_
  rintro ⟨r,h'⟩ ⟨e1,e2⟩
  exact ⟨e1,gg10.trans e2⟩
end Go.Proofs.YtnlbfbiogfilfaaGreat.Sh
