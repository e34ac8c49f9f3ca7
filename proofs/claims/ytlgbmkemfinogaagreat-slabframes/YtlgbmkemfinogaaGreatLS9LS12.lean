/- A new slab; the statement's small functions. -/
import Derived.Test.YtlgbmkemfinogaaGreatLAInv2LS8
set_option linter.all false
namespace Go.Proofs.YtlgbmkemfinogaaGreat.Sh
open Go.Ai
theorem aoM:∀ (l m:List Int),l.length=m.length→pW (l.map fun _=>CK.int) (l.map (.int .i64)) (m.map (.int .i64))=some (decide (l=m))
  | [],[],_=>rfl
  | a::l,b::m,h=>by
    have ih:=aoM l m (by simpa using h)
    show (Option.casesOn (Fo .int (.int .i64 a) (.int .i64 b)) none (fun r=>Bool.casesOn r (Option.casesOn (pW (l.map fun _=>CK.int) (l.map (.int .i64)) (m.map (.int .i64))) none (fun _=>some false)) (pW (l.map fun _=>CK.int) (l.map (.int .i64)) (m.map (.int .i64)))):Option Bool)=_
    have e:Fo .int (.int .i64 a) (.int .i64 b)=some (eqF a b):=rfl
    rw [e,ih,wy]
    by_cases h1:a=b
    · rw [show (a==b)=true by simp [h1]]
      simp [h1]
    · rw [show (a==b)=false by simp [h1]]
      simp [h1]
def szU (u:Nat):Int:=if u=4 then 64 else if u=5 then 32 else 16
def F0 (u:Nat):Nat:=if u=4 then 4 else if u=5 then 8 else 16
theorem use3 {u:Nat} (hu:4≤u∧u≤6):u=4∨u=5∨u=6:=by omega
theorem Xv {u:Nat} (hu:4≤u∧u≤6):(F0 u:Int)*szU u=256∧0<szU u∧F0 u≤16∧1≤F0 u:=by
  rcases use3 hu with rfl | rfl | rfl<;>decide
theorem v_SNew_1 {n:Nat} {h:Heap} (hro:h.ro≤h.nx) {w:bX} {z:bf} (b:bF h w z) {u:Nat} (hu:4≤u∧u≤6) (f1) :
    dY (fun k=>Cd n f1 k (.ptr w.p 0) (u:Int) false h) fun r e h'=>e=0∧∃ sp sm,r = .ptr sp 0∧h.nx≤sp∧h.nx≤sm∧bS h' sp sm w z u (szU u) []∧bo h h':=by
  unfold Cd
  have hm:fj (h.add (.mp [])) h.nx []:=⟨by simp,by simpa using hro,by rw [Heap.fQ,if_pos rfl]; rfl⟩
  have g1:bo h (h.add (.mp [])):=bo.add
  have hb:∀ K,tw [.nilptr,.int .u8 0,.int .i64 0,.nilmap] [(0,1,.ptr w.p 0),(1,1,.int .u8 (u:Int)),(3,1,.map h.nx)] K=K (.agg (Tj w.p u 0 h.nx)):=fun K=>rfl
  simp only [au,AJ,hb]
  have box:aJ (A5 (h.add (.mp [])) (.agg (Tj w.p u 0 h.nx))) fun x h'=>Own h' x (Tj w.p u 0 h.nx) 0∧(h.add (.mp [])).nx≤x∧bo (h.add (.mp [])) h':=
    ⟨((h.add (.mp [])).nx,(h.add (.mp [])).add (.cells (Tj w.p u 0 h.nx) true 0)),⟨⟨by simp,by simp; omega,by rw [Heap.fQ,if_pos rfl]⟩,gp _,bo.add⟩,fun k=>abT ..⟩
  refine aJ.bind box ?_
  rintro x h2 ⟨ox,hx,g2⟩
  have hx':h.nx+1≤x:=by simpa using hx
  have fin:∀ (sz:Int) (h3:Heap),Put h2 x ((Tj w.p u 0 h.nx).set 2 (.int .i64 sz)) 0 h3→szU u=sz→(0:Int)=0∧∃ sp sm,AV.ptr x 0 = .ptr sp 0∧h.nx≤sp∧h.nx≤sm∧bS h3 sp sm w z u (szU u) []∧bo h h3:=by
    intro sz h3 p e
    refine ⟨rfl,x,h.nx,rfl,by omega,gp _,?_,p.grow (g1.trans g2) (by omega)⟩
    have p3:=((b.grow g1).grow g2).chg p.chg fun d hd e=>by
      have:=b.lt hd
      omega
    refine ⟨?_,((hm.chg (g2.chg fun _=>False) fun h=>h).chg p.chg (by omega)),fun e he=>(nomatch he),.nil,p3,fun d hd=>?_,fun e he=>(nomatch he)⟩
    · rw [e]; exact p.own
    · have:=b.lt hd
      exact ⟨by omega,by omega,fun e he=>(nomatch he)⟩
  have st:∀ sz:Int,dz (nu h2 (.ptr x (0+2)) 1 (.int .i64 sz)) (Put h2 x ((Tj w.p u 0 h.nx).set 2 (.int .i64 sz)) 0):=fun sz=>wd (off:=2) ox (by simp [Tj]) rfl
  rcases use3 hu with rfl | rfl | rfl
  · have t4:(((4:Nat):Int)==4)=true:=rfl
    simp only [au,t4,Wm]
    refine dz.bind (st 64) ?_
    intro h3 p
    unfold wm
    exact K6 (fin 64 h3 p rfl)
  · have t4:(((5:Nat):Int)==4)=false:=rfl
    have t5:(((5:Nat):Int)==5)=true:=rfl
    simp only [au,t4,t5,Wm]
    refine dz.bind (st 32) ?_
    intro h3 p
    unfold wm
    exact K6 (fin 32 h3 p rfl)
  · have t4:(((6:Nat):Int)==4)=false:=rfl
    have t5:(((6:Nat):Int)==5)=false:=rfl
    have t6:(((6:Nat):Int)==6)=true:=rfl
    simp only [au,t4,t5,t6,Wm]
    refine dz.bind (st 16) ?_
    intro h3 p
    unfold wm
    exact K6 (fin 16 h3 p rfl)
theorem v_SNew {n:Nat} {h:Heap} (hro:h.ro≤h.nx) {w:bX} {z:bf} (b:bF h w z) (ht:0≤z.total∧z.total≤65536) (hul:z.uses.length≤1000000) (hc:z.fF 1≠0) {u:Nat} (hu:4≤u∧u≤6) :
    dY (cF n (.ptr w.p 0) (u:Int) h) fun r e h'=>e=0∧∃ sp sm,r = .ptr sp 0∧h.nx≤sp∧h.nx≤sm∧bS h' sp sm w z u (szU u) []∧bo h h':=by
  unfold cF abd Tu
  have t1:(false ^^ false)=false:=rfl
  simp only [au,ac8,t1]
  refine aJ.bind (v_Counts hro b ht hul) ?_
  rintro _ h1 ⟨rfl,g1⟩
  have hb:∀ K,tw [.int .i64 0,.int .i64 0,.int .i64 0,.int .i64 0,.int .i64 0,.int .i64 0,.int .i64 0] [] K=K (.agg [.int .i64 0,.int .i64 0,.int .i64 0,.int .i64 0,.int .i64 0,.int .i64 0,.int .i64 0]):=fun K=>rfl
  have hq:∀ K:Bool→ab,Tt (.plain [.int,.int,.int,.int,.int,.int,.int]) (.agg ((N2 z).set 0 (.int .i64 (z.total-z.uses.length)))) (.agg [.int .i64 0,.int .i64 0,.int .i64 0,.int .i64 0,.int .i64 0,.int .i64 0,.int .i64 0]) K=K false:=by
    intro K
    have:=aoM [z.total-z.uses.length,z.fF 1,z.fF 2,z.fF 3,z.fF 4,z.fF 5,z.fF 6] [0,0,0,0,0,0,0] rfl
    rw [gz (by simp [hc])] at this
    have e1:∀ a b,Tt (.plain [.int,.int,.int,.int,.int,.int,.int]) (.agg a) (.agg b) K=oC (pW [.int,.int,.int,.int,.int,.int,.int] a b) K:=fun a b=>rfl
    rw [e1,show pW [.int,.int,.int,.int,.int,.int,.int] ((N2 z).set 0 (.int .i64 (z.total-z.uses.length))) [.int .i64 0,.int .i64 0,.int .i64 0,.int .i64 0,.int .i64 0,.int .i64 0,.int .i64 0]=some false from this]
    rfl
  simp only [au,hb,hq,t1]
  refine aR.mono (v_SNew_1 (g1.le hro) (b.grow g1) hu _) ?_
  rintro ⟨r,e,h'⟩ ⟨e1,sp,sm,e2,e3,e4,e5,e6⟩
  exact ⟨e1,sp,sm,e2,gu g1.nx e3,gu g1.nx e4,e5,g1.trans e6⟩
end Go.Proofs.YtlgbmkemfinogaaGreat.Sh
/- The statement's small functions: use, sizes, quota, apart. -/
namespace Go.Proofs.YtlgbmkemfinogaaGreat.Sh
open Go.Ai
def useU (f:Int):Nat:=4+(f%3).toNat
theorem useU_ok (f:Int):4≤useU f∧useU f≤6:=by
  have:=Int.emod_lt_of_pos f (show (0:Int)<3 by decide)
  have:=Int.emod_nonneg f (show (3:Int)≠0 by decide)
  unfold useU; omega
theorem u_use (n:Nat) {f:Int} (hf:0≤f∧f<256) (h:Heap) (k:Int→Heap→ab):bj n f 0 h k=k (useU f:Nat) h:=by
  unfold bj Bg vT aM th qr nL
  have e0:Int.tmod 0 2=0:=rfl
  have e1:decide ((0:Int)<0)=false:=rfl
  have e2:IntKind.u8.wrap 0=0:=rfl
  have e3:IntKind.u8.wrap (f+0)=f:=by rw [Int.add_zero,acg hf.1 hf.2]
  have e4:f.tmod 3=f%3:=Int.tmod_eq_emod_of_nonneg hf.1
  have h1:=Int.emod_lt_of_pos f (show (0:Int)<3 by decide)
  have h2:=Int.emod_nonneg f (show (3:Int)≠0 by decide)
  have e5:IntKind.u8.wrap (4+f%3)=((useU f:Nat):Int):=by
    rw [acg (by omega) (by omega)]
    unfold useU; omega
  simp only [au,JP (show (2:Int)≠0 by decide),JP (show (3:Int)≠0 by decide),e0,e1,e2,e3,e4,e5]
theorem aoP {n:Nat} {h:Heap} {u:Nat} (hu:4≤u∧u≤6):aJ (aL n (u:Int) h) fun r h'=>r=szU u∧bo h h':=by
  unfold aL yU ub
  refine aJ.bind (Qo (q:=.u64) [64,32,16] (fun k=>rfl) (by decide)) ?_
  rintro x h1 ⟨i1,g1⟩
  have e:IntKind.u8.wrap ((u:Int)-4)=((u-4:Nat):Int):=by rw [acg (by omega) (by omega)]; omega
  have el:=i1.elN (i:=u-4) (by simp; omega)
  simp only [au,e,el]
  refine mQ ⟨?_,g1⟩
  rcases use3 hu with rfl | rfl | rfl<;>rfl
theorem v_quota {n:Nat} {h:Heap} {x:dR} {S:AV} {u:Nat} (hu:4≤u∧u≤6):aJ (aW n (.agg (A3 x S)) (u:Int) h) fun r h'=>r=mh x u∧bo h h':=by
  unfold aW y6 ui
  refine aJ.bind (AO ..) ?_
  rintro b h1 ⟨hb,g⟩
  have e4:(A3 x S)[4]?=some (.int .i64 x.spaces):=rfl
  have e5:(A3 x S)[5]?=some (.int .i64 x.fJ):=rfl
  have e6:(A3 x S)[6]?=some (.int .i64 x.fI):=rfl
  simp only [au,iR hb,e4,e5,e6]
  refine aJ.bind (Qo (q:=.i64) [x.spaces,x.fJ,x.fI] (fun k=>rfl) (by simp)) ?_
  rintro y h2 ⟨i2,g2⟩
  have e:IntKind.u8.wrap ((u:Int)-4)=((u-4:Nat):Int):=by rw [acg (by omega) (by omega)]; omega
  have el:=i2.elN (i:=u-4) (by simp; omega)
  simp only [au,e,el]
  refine mQ ⟨?_,g.trans g2⟩
  rcases use3 hu with rfl | rfl | rfl<;>rfl
def bM (m:List Int):List Bool:=(List.range 4096).map fun f:Nat=>decide ((f:Int)∈m)
theorem aiD (m:List Int):(bM m).length=4096:=by rw [bM,gR,List.length_range]
theorem amz {m:List Int} {f:Nat} (hf:f<4096):(bM m)[f]?=some (decide ((f:Int)∈m)):=by
  rw [bM,gV,List.getElem?_range hf]; rfl
theorem bM_set {m:List Int} {f:Nat} (hf:f<4096):(bM m).set f true=bM (m++[(f:Int)]):=by
  refine List.ext_getElem? fun i=>?_
  by_cases hi:i<4096
  · rw [amz hi]
    by_cases e:f=i
    · subst e
      rw [List.getElem?_set_self (by rw [aiD]; exact hf)]
      simp
    · rw [List.getElem?_set_ne e,amz hi]
      have:¬ ((i:Int)∈[(f:Int)]):=by simp; omega
      rw [Option.some.injEq,decide_eq_decide,gT]
      exact ⟨.inl,fun h=>h.resolve_right this⟩
  · rw [gA (by rw [List.length_set,aiD]; omega),gA (by rw [aiD]; omega)]
theorem bM_nil:bM []=List.replicate 4096 false:=by
  refine List.ext_getElem? fun i=>?_
  by_cases hi:i<4096
  · rw [amz hi,List.getElem?_replicate,if_pos hi]; simp
  · rw [gA (by rw [aiD]; omega),gA (by rw [List.length_replicate]; omega)]
theorem marked {m K:List Int} (hn:K.Nodup) (hm:∀ f,f∈m↔f∈K) (hr:∀ f∈K,0≤f∧f<4096):(List.range 4096).countP (fun f:Nat=>decide ((f:Int)∈m))=K.length:=by
  rw [List.countP_eq_length_filter]
  have h1:((List.range 4096).filter fun f:Nat=>decide ((f:Int)∈m)).Nodup:=List.nodup_range.filter _
  have h2:(((List.range 4096).filter fun f:Nat=>decide ((f:Int)∈m)).map fun f:Nat=>(f:Int)).Nodup:=by
    refine List.Pairwise.map _ (fun a b (h:a≠b)=>?_) h1
    exact fun e=>h (by omega)
  have h3:=(List.perm_ext_iff_of_nodup h2 hn).2 fun f=>by
    rw [fY]
    constructor
    · rintro ⟨x,hx,rfl⟩
      rw [List.mem_filter,gn] at hx
      exact (hm _).1 hx.2
    · intro hf
      obtain ⟨r1,r2⟩:=hr f hf
      exact ⟨f.toNat,by rw [List.mem_filter,gn,gS]; exact ⟨by omega,(hm _).2 (by rw [Int.toNat_of_nonneg r1]; exact hf)⟩,by omega⟩
  have:=h3.length_eq
  rwa [gR] at this
theorem acl {l:List (Int × Int)} (h:(l.map (·.1)).Nodup):l.Nodup:=List.Pairwise.of_map (·.1) (fun a b h e=>h (by rw [e])) h
theorem alY:∀ {l:List (Int × Int)},(l.map (·.1)).Nodup→∀ {e e':Int × Int},e∈l→e'∈l→e.1=e'.1→e=e'
  | a::l,hn,e,e',he,he',h=>by
    rw [List.map_cons,List.nodup_cons] at hn
    rcases gG.1 he with h1 | h1<;>rcases gG.1 he' with h2 | h2
    · rw [h1,h2]
    · subst h1; exact (hn.1 (by rw [h]; exact fY.2 ⟨_,h2,rfl⟩)).elim
    · subst h2; exact (hn.1 (by rw [← h]; exact fY.2 ⟨_,h1,rfl⟩)).elim
    · exact alY hn.2 h1 h2 h
theorem OwnedOf.perm {kv R:List (Int × Int)} (o:OwnedOf kv R) (hn:(kv.map (·.1)).Nodup):R.Perm kv:=by
  have hR:(R.map (·.1)).Nodup:=by rw [o.keys]; exact (qv _).symm.nodup hn
  refine (List.perm_ext_iff_of_nodup (acl hR) (acl hn)).2 fun e=>⟨o.mem e,fun he=>?_⟩
  have h1:e.1∈R.map (·.1):=by rw [o.keys]; exact (qv _).mem_iff.2 (fY.2 ⟨e,he,rfl⟩)
  obtain ⟨e',h2,h3⟩:=fY.1 h1
  have h4:=alY hn (o.mem e' h2) he h3
  subst h4; exact h2
end Go.Proofs.YtlgbmkemfinogaaGreat.Sh
/- 'apart' says true. -/
namespace Go.Proofs.YtlgbmkemfinogaaGreat.Sh
open Go.Ai
def IsCnt (m:List Int) (V:Nat):Prop:=V=(List.range 4096).countP fun f:Nat=>decide ((f:Int)∈m)
theorem apr {n:Nat} {h:Heap} {bx:Nat} {m:List Int} (hb:h.cl bx ((bM m).map AV.bool)) {V:Nat} (hV:IsCnt m V) (f1 f2):∀ (q i:Nat),i≤4096→4096-i<q→
    aJ (fun k=>pV n f1 f2 k q (.ptr bx 0) (V:Int) (((List.range i).countP fun f:Nat=>decide ((f:Int)∈m):Nat):Int) (i:Int) h) fun r h'=>r=true∧h'=h:=by
  intro q
  induction q with
  | zero=>omega
  | succ q ih=>
    intro i hi hq
    simp only [Rb]
    unfold pJ so pR
    refine aR.ifB (fun e=>?_) fun e=>?_
    · rw [nw,gn] at e
      have hlt:i<4096:=by omega
      have hc:(List.range (i+1)).countP (fun f:Nat=>decide ((f:Int)∈m))=(List.range i).countP (fun f:Nat=>decide ((f:Int)∈m))+if (i:Int)∈m then 1 else 0:=by
        rw [List.range_succ,List.countP_append,List.countP_singleton]
        simp
      have hle:(List.range i).countP (fun f:Nat=>decide ((f:Int)∈m))≤i:=by
        have:=List.countP_le_length (p:=fun f:Nat=>decide ((f:Int)∈m)) (l:=List.range i)
        rwa [List.length_range] at this
      have e1:((bM m).map AV.bool)[i]?=some (.bool (decide ((i:Int)∈m))):=by rw [gV,amz hlt]; rfl
      simp only [au,DC hlt,iR hb,e1]
      refine aR.ifB (fun e2=>?_) fun e2=>?_
      · rw [gn] at e2
        rw [if_pos e2] at hc
        simp only [au,kP (show i≤9223372036854775806 by omega),kP (show (List.range i).countP (fun f:Nat=>decide ((f:Int)∈m))≤9223372036854775806 by omega)]
        rw [← hc]
        exact ih (i+1) (by omega) (by omega)
      · rw [gt] at e2
        rw [if_neg e2] at hc
        simp only [au,kP (show i≤9223372036854775806 by omega)]
        rw [← Nat.add_zero ((List.range i).countP _), ← hc]
        exact ih (i+1) (by omega) (by omega)
    · rw [nw,gt] at e
      have:i=4096:=by omega
      subst this
      exact mQ ⟨by rw [wy,hV]; exact beq_self_eq_true _,rfl⟩
theorem apa {n:Nat} {h:Heap} {bx:Nat} {m:List Int} (hb:h.cl bx ((bM m).map AV.bool)) {v10:AV} {R:List (Int × Int)} (s:dF h v10 2 R.length (prF R)) (len:∀ k:Int→ab,lz v10 k=k R.length) (hR:R.length≤1048576) {u:Nat} (hu:u<7)
    (hK:∀ e∈R,e.2=(u:Int)→e.1∈m∧0≤e.1∧e.1<4096) (hcnt:IsCnt m (ob R u)) (hn:4096<n) (f1 f2):∀ (q i:Nat),i≤R.length→R.length-i<q→
    aJ (fun k=>pO n f1 f2 k q (u:Int) (.ptr bx 0) v10 ((ob (R.take i) u:Nat):Int) (i:Int) h) fun r h'=>r=true∧h'=h:=by
  intro q
  induction q with
  | zero=>omega
  | succ q ih=>
    intro i hi hq
    simp only [QU]
    unfold pK rU pP
    simp only [len]
    refine aR.ifB (fun e=>?_) fun e=>?_
    · rw [nw,gn] at e
      have hlt:i<R.length:=by omega
      have hg:R.getD i (0,0)=R[i]:=by rw [gD,gk hlt]; rfl
      have hmem:R[i]∈R:=gL hlt
      have hc:ob (R.take (i+1)) u=ob (R.take i) u+if R[i].2=(u:Int) then 1 else 0:=by
        rw [List.take_add_one,gk hlt,Option.toList_some,BI]
        congr 1
        by_cases e1:R[i].2=(u:Int)<;>simp [ob,e1]
      have hle:ob (R.take i) u≤i:=by
        have h1:ob (R.take i) u≤(R.take i).length:=List.countP_le_length
        rw [List.length_take] at h1; omega
      obtain ⟨a,ha⟩:=own_use s hlt
      rw [hg] at ha
      have hfr:=fun K=>own_fr s hlt K
      rw [hg] at hfr
      simp only [ha]
      refine aR.ifB (fun e2=>?_) fun e2=>?_
      · rw [wy,ga] at e2
        rw [if_pos e2] at hc
        obtain ⟨k1,k2,k3⟩:=hK _ hmem e2
        obtain ⟨f,hf⟩:=gE k2
        rw [hf] at k1 k3
        have e1:((bM m).map AV.bool)[f]?=some (.bool (decide ((f:Int)∈m))):=by rw [gV,amz (by omega)]; rfl
        have e3:decide ((f:Int)∈m)=true:=gF k1
        simp only [au,hfr,hf,DC (show f<4096 by omega),iR hb,e1,e3,Bool.not_true,kP (show i≤9223372036854775806 by omega),kP (show ob (R.take i) u≤9223372036854775806 by omega)]
        rw [← hc]
        exact ih (i+1) (by omega) (by omega)
      · rw [wy,gK] at e2
        rw [if_neg e2,Nat.add_zero] at hc
        simp only [au,kP (show i≤9223372036854775806 by omega)]
        rw [show ob (R.take i) u=ob (R.take (i+1)) u from hc.symm]
        exact ih (i+1) (by omega) (by omega)
    · rw [nw,gt] at e
      have:i=R.length:=by omega
      subst this
      rw [List.take_length]
      exact apr hb hcnt _ _ n 0 (by omega) (by omega)
theorem apart_eq (n:Nat) (a0 a1:AV) (a2:Int) (h:Heap):aX n a0 a1 a2 h=fun k=>aL n a2 h fun a b=>zy b (.cells (List.replicate 4096 (.bool false)) true 0) fun c d=>mZ n (cL n) (aL n) k n a0 a1 a2 a (.ptr c 0) 0 d:=rfl
theorem at_parts {cnt f j:Nat} {sz:Int} (hc:(cnt:Int)*sz=256) (hz:0<sz) (hj:j<cnt):Int.tmod ((f:Int)*256+(j:Int)*sz) sz=0∧Int.tdiv ((f:Int)*256+(j:Int)*sz) 256=(f:Int):=by
  obtain ⟨p1,p2⟩:=BO hc hz hj
  refine ⟨?_,?_⟩
  · have:(f:Int)*256+(j:Int)*sz=((f:Int)*cnt+j)*sz:=by rw [Int.add_mul,Int.mul_assoc,hc]
    rw [this]
    exact Int.mul_tmod_left ..
  · rw [Int.tdiv_eq_ediv_of_nonneg (by omega)]
    omega
structure Lies (l:List Int) (sz:Int) (cnt:Nat):Prop where
  gap:l.Pairwise (fun a b=>a+sz≤b)
  at_:∀ a∈l,∃ f j:Nat,f<4096∧j<cnt∧a=(f:Int)*256+(j:Int)*sz
theorem apC {n:Nat} (hn:70000<n) {h0:Heap} (hro:h0.ro≤h0.nx) {w:bX} {z:bf} (b:bF h0 w z) (hk:∀ e∈z.uses,Kg e.1) (hnd:(z.uses.map (·.1)).Nodup) (hul:z.uses.length≤65536) {u:Nat} (hu:4≤u∧u≤6) {cnt:Nat} {sz:Int} (hc:(cnt:Int)*sz=256) (hz:0<sz) {v1:AV} {l:List Int} (hl:dh h0 .u64 v1 l) (len:∀ k:Int→ab,lz v1 k=k l.length) (hll:l.length≤1048576) (li:Lies l sz cnt)
    {K:List Int} (hKn:K.Nodup) (hKl:∀ f,f∈K↔f∈l.map (· / 256)) (hKu:∀ f,f∈K↔(f,(u:Int))∈z.uses) (hcnt:ob z.uses u=K.length) {bx:Nat} (hbx:h0.nx≤bx) (f2):∀ (q i:Nat) (h:Heap),bo h0 h→Own h bx ((bM ((l.take i).map (· / 256))).map AV.bool) 0→i≤l.length→l.length-i<q→
    aJ (fun k=>mZ n (cL n) f2 k q (.ptr w.p 0) v1 (u:Int) sz (.ptr bx 0) (i:Int) h) fun r h'=>r=true∧bo h0 h':=by
  intro q
  induction q with
  | zero=>omega
  | succ q ih=>
    intro i h g o hi hq
    simp only [Ru]
    unfold pS nV pM sh
    simp only [len]
    have hKr:∀ f∈K,0≤f∧f<4096:=fun f hf=>by
      obtain ⟨a,ha,rfl⟩:=fY.1 ((hKl f).1 hf)
      obtain ⟨f,j,h1,h2,rfl⟩:=li.at_ a ha
      obtain ⟨p1,p2⟩:=BO hc hz h2
      omega
    refine aR.ifB (fun e=>?_) fun e=>?_
    · rw [nw,gn] at e
      have hlt:i<l.length:=by omega
      have i1:=hl.grow g
      obtain ⟨f,j,h1,h2,hat⟩:=li.at_ _ (gL hlt)
      have hnz:nz l i=(f:Int)*256+(j:Int)*sz:=by rw [nQ hlt]; exact hat
      obtain ⟨m1,m2⟩:=at_parts (f:=f) hc hz h2
      obtain ⟨p1,p2⟩:=BO hc hz h2
      have el:=i1.elN hlt
      rw [hnz] at el
      have t0:(!((0:Int)==0))=false:=rfl
      have w1:IntKind.u64.wrap (f:Int)=(f:Int):=ag4 (by omega) (by omega)
      have q1:∀ c:Int→ab,VN .u64 ((f:Int)*256+(j:Int)*sz) 256 c=c (f:Int):=fun c=>by rw [N6 (by decide),m2,w1]
      have t1:(!decide ((f:Int)<4096))=false:=by rw [gF (by omega:(f:Int)<4096)]; rfl
      have hset:((bM ((l.take i).map (· / 256))).map AV.bool).set f (.bool true)=(bM ((l.take (i+1)).map (· / 256))).map AV.bool:=by
        have e1:l[i]/256=(f:Int):=by rw [hat]; omega
        rw [List.take_add_one,gk hlt,Option.toList_some,gU,List.map_cons,List.map_nil,e1, ← bM_set h1,List.map_set]
      have tail:aJ (fun k=>nu h (.ptr bx f) 1 (.bool true) fun e=>mZ n (cL n) f2 k q (.ptr w.p 0) v1 (u:Int) sz (.ptr bx 0) ((i+1:Nat):Int) e) fun r h'=>r=true∧bo h0 h':=by
        refine dz.bind (wd o (by rw [gR,aiD]; omega) rfl) ?_
        intro h' p
        rw [hset] at p
        exact ih (i+1) h' (p.grow g hbx) p.own (by omega) (by omega)
      by_cases hi0:i=0
      · subst hi0
        have l0:decide ((0:Int)<((0:Nat):Int))=false:=rfl
        simp only [au,el,JP (show sz≠0 by omega),m1,t0,l0,q1,t1,DC h1,kP (show 0≤9223372036854775806 by omega)]
        exact tail
      · have l0:decide ((0:Int)<(i:Int))=true:=gF (by omega)
        obtain ⟨k,rfl⟩:∃ k,i=k+1:=⟨i-1,by omega⟩
        have hlk:k<l.length:=by omega
        obtain ⟨f',j',h1',h2',hat'⟩:=li.at_ _ (gL hlk)
        have hnz':nz l k=(f':Int)*256+(j':Int)*sz:=by rw [nQ hlk]; exact hat'
        obtain ⟨p1',p2'⟩:=BO hc hz h2'
        have w2:IntKind.i64.wrap (((k+1:Nat):Int)-1)=(k:Int):=by rw [mP (by omega) (by omega)]; omega
        have el2:=i1.elN hlk
        rw [hnz'] at el2
        have w3:IntKind.u64.wrap ((f':Int)*256+(j':Int)*sz+sz)=(f':Int)*256+(j':Int)*sz+sz:=ag4 (by omega) (by omega)
        have hgap:=List.pairwise_iff_getElem.1 li.gap k (k+1) hlk hlt (by omega)
        rw [hat,hat'] at hgap
        have t2:decide ((f:Int)*256+(j:Int)*sz<(f':Int)*256+(j':Int)*sz+sz)=false:=gz (by omega)
        simp only [au,el,JP (show sz≠0 by omega),m1,t0,l0,q1,t1,w2,el2,w3,t2,DC h1,kP (show k+1≤9223372036854775806 by omega)]
        exact tail
    · rw [nw,gt] at e
      have:i=l.length:=by omega
      subst this
      rw [List.take_length] at o
      have b1:=b.grow g
      refine aJ.bind (v_Owned (g.le hro) b1 hk hnd (by omega) (by omega)) ?_
      rintro x h2 ⟨R,hR,ha,_,g2⟩
      have hp:=hR.perm hnd
      have hRl:R.length≤65536:=by rw [hp.length_eq]; exact hul
      have hmk:=marked hKn (m:=l.map (· / 256)) (fun f=>(hKl f).symm) hKr
      refine aR.mono (apa (g2.cl o.cl) (App.prs ha (by omega)) ha.len (by omega) (by omega) (fun e he e2=>?_) ?_ (by omega) _ _ n 0 (by omega) (by omega)) ?_
      · have h3:(e.1,(u:Int))∈z.uses:=by rw [← e2]; exact hp.mem_iff.1 he
        have h4:=(hKu _).2 h3
        exact ⟨(hKl _).1 h4,hKr _ h4⟩
      · unfold IsCnt
        rw [hmk, ← hcnt]
        exact hp.countP_eq _
      · rintro ⟨r,h'⟩ ⟨e1,e2⟩
        dsimp only at e1 e2
        subst e2
        exact ⟨e1,g.trans g2⟩
theorem v_apart {n:Nat} (hn:70000<n) {h:Heap} (hro:h.ro≤h.nx) {w:bX} {z:bf} (b:bF h w z) (hk:∀ e∈z.uses,Kg e.1) (hnd:(z.uses.map (·.1)).Nodup) (hul:z.uses.length≤65536) {u:Nat} (hu:4≤u∧u≤6) {v1:AV} {l:List Int} (hl:dh h .u64 v1 l) (len:∀ k:Int→ab,lz v1 k=k l.length) (hll:l.length≤1048576) (li:Lies l (szU u) (F0 u))
    {K:List Int} (hKn:K.Nodup) (hKl:∀ f,f∈K↔f∈l.map (· / 256)) (hKu:∀ f,f∈K↔(f,(u:Int))∈z.uses) (hcnt:ob z.uses u=K.length) (hn2:l.length<n) :
    aJ (aX n (.ptr w.p 0) v1 (u:Int) h) fun r h'=>r=true∧bo h h':=by
  rw [apart_eq]
  refine aJ.bind (aoP hu) ?_
  rintro _ h1 ⟨rfl,g1⟩
  obtain ⟨c1,c2,_,_⟩:=Xv hu
  refine aJ.bind (aeY (g1.le hro) _ 0) ?_
  rintro bx h2 ⟨hbx,o,g2⟩
  have o':Own h2 bx ((bM ((l.take 0).map (· / 256))).map AV.bool) 0:=by
    rw [List.take_zero,List.map_nil,bM_nil,List.map_replicate]; exact o
  refine aR.mono (apC hn (g1.le hro) (b.grow g1) hk hnd hul hu c1 c2 (hl.grow g1) len hll li hKn hKl hKu hcnt hbx _ n 0 h2 g2 o' (by omega) (by omega)) ?_
  rintro ⟨r,h'⟩ ⟨e1,e2⟩
  exact ⟨e1,g1.trans e2⟩
end Go.Proofs.YtlgbmkemfinogaaGreat.Sh
/- Rows of addresses; the state of SlabFrames' rounds. -/
namespace Go.Proofs.YtlgbmkemfinogaaGreat.Sh
open Go.Ai
theorem QL (l:List Int):(fb l).length=l.length:=by simp [fb]
structure ShowsU (h:Heap) (v:AV) (m:List Int):Prop where
  lenF:lenF v=some m.length
  small:m.length≤1048576
  cells:m≠[]→∃ b off ext o cl,v = .slice b off m.length ext o∧h.cl b cl∧sub cl off m.length=some (fb m)
theorem ShowsU.chg {F:Nat→Prop} {h h':Heap} {v:AV} {m:List Int} (s:ShowsU h v m) (c:Chg F h h') (hf:∀ b,v.blk=some b→¬ F b):ShowsU h' v m:=
  ⟨s.lenF,s.small,fun hm=>have ⟨b,off,ext,o,cl,h1,h2,h3⟩:=s.cells hm; ⟨b,off,ext,o,cl,h1,c.cl h2 (hf b (by rw [h1]; rfl)),h3⟩⟩
def RowU (h:Heap) (v:AV) (l:List Int):Prop:=App h v 1 l.length (fb l)∨(l = []∧∃ b,v = .slice b 0 0 0 false∧Own h b [] 0)
theorem RowU.len {h:Heap} {v:AV} {l:List Int} (a:RowU h v l) (k:Int→ab):lz v k=k l.length:=by
  rcases a with a | ⟨rfl,b,rfl,_⟩
  · exact a.len k
  · rfl
theorem RowU.chg {F:Nat→Prop} {h h':Heap} {v:AV} {l:List Int} (a:RowU h v l) (c:Chg F h h') (hf:∀ b,v.blk=some b→¬ F b):RowU h' v l:=by
  rcases a with a | ⟨rfl,b,rfl,o⟩
  · exact .inl (a.chg c hf)
  · exact .inr ⟨rfl,b,rfl,c.own o (hf b rfl)⟩
theorem RowU.lt {h:Heap} {v:AV} {l:List Int} (a:RowU h v l) {b:Nat} (hb:v.blk=some b):b<h.nx:=by
  rcases a with a | ⟨rfl,c,rfl,o⟩
  · exact a.lt hb
  · cases hb; exact o.lt
theorem ajD {h:Heap} {v:AV} {l:List Int} (a:App h v 1 l.length (fb l)) (hl:l.length≤1048576):dh h .u64 v l:=by
  rcases a with ⟨rfl,h0,_⟩ | ⟨b,rfl,o,_,_⟩
  · rw [gh h0]; exact .nil
  · exact aaY o.cl (by omega) 0 true
theorem RowU.ints {h:Heap} {v:AV} {l:List Int} (a:RowU h v l) (hl:l.length≤1048576):dh h .u64 v l:=by
  rcases a with a | ⟨rfl,b,rfl,o⟩
  · exact ajD a hl
  · exact aaY (l:=[]) o.cl (by simp) 0 false
theorem RowU.cut {h:Heap} {v:AV} {l:List Int} (hl:RowU h v l) (hm:l.length≤1048576) {i:Nat} (hi:i<l.length) :
    ∃ y z,(∀ c,slK (.sl 1) v none (some (.int .i64 (i:Int))) none c=c y)∧(∀ c,slK (.sl 1) v (some (.int .i64 ((i+1:Nat):Int))) none none c=c z)∧ShowsU h y (l.take i)∧ShowsU h z (l.drop (i+1))∧(∀ b,y.blk=some b→v.blk=some b)∧∀ b,z.blk=some b→v.blk=some b:=by
  rcases hl with a | ⟨rfl,b,rfl,o⟩
  · rcases a with ⟨rfl,h0,_⟩ | ⟨b,rfl,ow,hr,h0⟩
    · omega
    have e1:=aoJ (b:=b) (len:=l.length) (ext:=0) (i:=i) (by omega) (by omega)
    have e2:=slV_hi (b:=b) (len:=l.length) (ext:=0) (i:=i+1) (by omega)
    have lt:(l.take i).length=i:=by rw [List.length_take]; omega
    have ld:(l.drop (i+1)).length=l.length-(i+1):=List.length_drop ..
    refine ⟨_,_,aeJ e1,aeJ e2,⟨by rw [lt]; rfl,by omega,fun _=>⟨b,0,l.length+0-i,true,_,by rw [lt],ow.cl,?_⟩⟩,?_,fun c e=>e,fun c e=>?_⟩
    · rw [lt,pN,List.drop_zero,if_pos (by rw [QL]; omega)]
      simp [fb,List.map_take]
    · by_cases h1:l.length+0=i+1
      · rw [if_pos h1]
        exact ⟨by rw [ld,show l.length-(i+1)=0 by omega]; rfl,by omega,fun hne=>(hne (List.drop_eq_nil_of_le (by omega))).elim⟩
      · rw [if_neg h1]
        refine ⟨by rw [ld]; rfl,by omega,fun _=>⟨b,i+1,0,true,_,by rw [ld],ow.cl,?_⟩⟩
        rw [ld,pN,if_pos (by rw [List.length_drop,QL]; omega),List.take_of_length_le (by rw [List.length_drop,QL]; omega)]
        simp [fb,List.map_drop]
    · split at e
      · cases e
      · exact e
  · simp at hi
theorem air {h:Heap} (hro:h.ro≤h.nx) {v:AV} {l:List Int} (hl:RowU h v l) {x:AV} {m:List Int} (hx:ShowsU h x m) (hm:l.length+m.length≤1048576) :
    aJ (px h 1 v x) fun v' h'=>RowU h' v' (l++m)∧(∀ c,v'.blk=some c→v.blk=some c∨h.nx≤c)∧Chg (fun c=>v.blk=some c) h h':=by
  by_cases e:m = []
  · subst e
    rw [List.append_nil]
    refine ⟨(v,h),⟨hl,fun c e=>.inl e,bo.refl.chg _⟩,fun k=>?_⟩
    unfold px
    have:tq h 1 v x=some (v,h):=by
      have hx':=hx.lenF
      rcases hl with (⟨rfl,_,_⟩ | ⟨b,rfl,_⟩) | ⟨_,b,rfl,_⟩
      all_goals
        simp only [tq,hx',List.length_nil]; rw [if_pos trivial]
    rw [this,Cy,tf,xK]; rfl
  · obtain ⟨b,off,ext,o,cl,rfl,hc,hs⟩:=hx.cells e
    have hpos:0<m.length:=gO.2 e
    have hs':sub cl off (m.length*1)=some (fb m):=by rw [Nat.mul_one]; exact hs
    rcases hl with hl | ⟨rfl,b0,rfl,ow⟩
    · have key:=SU (ext:=ext) (o:=o) hro hl hpos hc hs' hm
      refine key.mono ?_
      rintro v' h' ⟨h1,h2,h3⟩
      refine ⟨.inl ?_,fun c hc=>.inr (by rw [h2] at hc; cases hc; exact gp _),h3⟩
      have e1:fb (l++m)=fb l++fb m:=by simp [fb]
      rw [gQ,e1]
      exact h1
    · have hsh:LX h 1 m.length (.slice b off m.length ext o)=some (fb m):=by
        show (Option.casesOn (nU h b) none fun l=>sub l off (m.length*1):Option (List AV))=_
        rw [IR hc]; exact hs'
      refine ⟨(.slice h.nx 0 m.length 0 true,h.add (.cells (fb m) true 1)),⟨.inl (.inr ⟨h.nx,rfl,⟨by simp,by simpa using hro,by rw [Heap.fQ,if_pos rfl]; rfl⟩,by rw [List.nil_append,QL,Nat.mul_one],hpos⟩),fun c e=>.inr (by cases e; exact gp _),(bo.add).chg _⟩,fun k=>?_⟩
      unfold px
      have:tq h 1 (.slice b0 0 0 0 false) (.slice b off m.length ext o)=some (.slice h.nx 0 m.length 0 true,h.add (.cells (fb m) true 1)):=by
        simp only [tq,lenF]
        rw [if_neg (by omega),if_neg (by omega),if_neg (by unfold I8; simp at hm; omega),Lf ow]
        dsimp only
        rw [show sub ([]:List AV) 0 (0*1)=some [] from rfl]
        dsimp only
        rw [hsh]
        dsimp only
        rw [if_neg (by decide),ou,Heap.fP]
        simp
      rw [this,Cy,tf,xK]; rfl
theorem apO {h:Heap} {b:Nat} {x:Int} (hc:h.cl b [.int .u64 x]):ShowsU h (.slice b 0 1 0 false) [x]:=⟨rfl,by simp,fun _=>⟨b,0,0,false,_,rfl,hc,rfl⟩⟩
structure FSt (zc:br) (p:Nat) (M:List Int) (u:Nat) (hb h:Heap) (sp sm:Nat) (w:bX) (z:bf) (E:Frs) (T:List Int) (v9:AV) (l9:List Int) (v11:AV) (l:List Int):Prop where
  slab:bS h sp sm w z u (szU u) E
  ok:SOk zc p M u (szU u) (F0 u) E T z
  low:∀ d,fpS sp sm w z.fD.length E d→hb.nx≤d
  g:bo hb h
  first:Lst h v9 l9
  row:RowU h v11 l
  off9:∀ c,v9.blk=some c→¬ fpS sp sm w z.fD.length E c∧hb.nx≤c
  off11:∀ c,v11.blk=some c→¬ fpS sp sm w z.fD.length E c∧hb.nx≤c
  two:∀ c,v9.blk=some c→v11.blk≠some c
section
variable {zc:br} {p:Nat} {M:List Int} {u:Nat} {hb h h':Heap} {sp sm:Nat} {w w':bX} {z z':bf} {E E':Frs} {T T':List Int} {v9 v11 v':AV} {l9 l l':List Int}
theorem FSt.work (s:FSt zc p M u hb h sp sm w z E T v9 l9 v11 l) (i':bS h' sp sm w' z' u (szU u) E') (ok':SOk zc p M u (szU u) (F0 u) E' T' z') (hsub:∀ d,fpS sp sm w' z'.fD.length E' d→fpS sp sm w z.fD.length E d∨h.nx≤d) (c:Chg (fpS sp sm w z.fD.length E) h h'):FSt zc p M u hb h' sp sm w' z' E' T' v9 l9 v11 l:=by
  refine ⟨i',ok',fun d x=>?_,c.grow s.g s.low,s.first.chg c fun d e1 e2=>(s.off9 d e1).1 e2,s.row.chg c fun d e1 e2=>(s.off11 d e1).1 e2,fun d e=>⟨fun x=>?_,(s.off9 d e).2⟩,fun d e=>⟨fun x=>?_,(s.off11 d e).2⟩,s.two⟩
  · rcases hsub d x with x3 | x3
    · exact s.low d x3
    · exact gu s.g.nx x3
  · rcases hsub d x with x3 | x3
    · exact (s.off9 d e).1 x3
    · have:=(s.first.lt e).1; omega
  · rcases hsub d x with x3 | x3
    · exact (s.off11 d e).1 x3
    · have:=s.row.lt e; omega
theorem FSt.push (s:FSt zc p M u hb h sp sm w z E T v9 l9 v11 l) (hl:RowU h' v' l') (c:Chg (fun c=>v11.blk=some c) h h') (hv:∀ d,v'.blk=some d→v11.blk=some d∨h.nx≤d):FSt zc p M u hb h' sp sm w z E T v9 l9 v' l':=by
  refine ⟨s.slab.chg c fun d e1 e2=>(s.off11 d e2).1 e1,s.ok,s.low,c.grow s.g fun d e=>(s.off11 d e).2,s.first.chg c fun d e1 e2=>s.two d e1 e2,hl,s.off9,fun d e=>?_,fun d e e2=>?_⟩
  · rcases hv d e with x | x
    · exact s.off11 d x
    · exact ⟨fun x3=>by have:=s.slab.lt x3; omega,gu s.g.nx x⟩
  · rcases hv d e2 with x | x
    · exact s.two d e x
    · have:=(s.first.lt e).1; omega
theorem FSt.grow (s:FSt zc p M u hb h sp sm w z E T v9 l9 v11 l) (g:bo h h'):FSt zc p M u hb h' sp sm w z E T v9 l9 v11 l:=
  s.push (s.row.chg (g.chg fun _=>False) fun _ _ h=>h) (g.chg _) fun _ e=>.inl e
end
structure FEnv (n:Nat) (zc:br) (p:Nat) (M:List Int) (u:Nat) (hb:Heap):Prop where
  n7:70000<n
  ro:hb.ro≤hb.nx
  po:dq zc p
  may:NX zc=true
  use:4≤u∧u≤6
section
variable {n:Nat} {zc:br} {p:Nat} {M:List Int} {u:Nat} {hb h:Heap} {sp sm:Nat} {w:bX} {z:bf} {E:Frs} {T:List Int} {v9 v11:AV} {l9 l:List Int}
theorem FEnv.ok (v:FEnv n zc p M u hb) (s:FSt zc p M u hb h sp sm w z E T v9 l9 v11 l):eZ z∧M.length+E.length≤65536∧E.length≤4096∧T.length≤65536:=by
  have h1:=s.ok.a.len v.po v.may
  have h0:(NE u E).length=E.length:=by simp [NE]
  have h2:(E.map (·.1)).Nodup:=s.ok.key
  have h3:E.length≤4096:=by
    have h4:=s.ok.few (by have:=v.use; omega)
    have h5:=((S5 v.may v.po).lo u (by have:=v.use; omega) (by have:=v.use; omega)).2
    omega
  have h6:=s.ok.len.1
  obtain ⟨_,_,c3,_⟩:=Xv v.use
  have h7:E.length*F0 u≤4096*16:=Nat.mul_le_mul h3 c3
  refine ⟨s.ok.a.inv.inv.ok v.po ?_,by omega,h3,by omega⟩
  rw [W4]
  simp
  omega
end
end Go.Proofs.YtlgbmkemfinogaaGreat.Sh
