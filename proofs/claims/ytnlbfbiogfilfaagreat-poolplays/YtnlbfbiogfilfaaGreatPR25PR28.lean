/- Both pools tell the same. -/
import Derived.Test.YtnlbfbiogfilfaaGreatPR22PR24
set_option linter.all false
namespace Go.Proofs.YtnlbfbiogfilfaaGreat.Sh
open Go.Ai
theorem aol {use:Nat→Int} {e:Int × Int}:∀ {n:Nat},e∈Qh use n↔∃ f:Nat,f<n∧use f≠0∧e=((f:Int),use f)
  | 0=>⟨fun h=>by simp [Qh] at h,fun ⟨f,h,_⟩=>by omega⟩
  | n+1=>by
    have ih:=aol (use:=use) (e:=e) (n:=n)
    rw [Qh]
    constructor
    · intro h
      split at h
      · rename_i hu
        rcases i8.1 h with h | h
        · obtain ⟨f,h1,h2⟩:=ih.1 h
          exact ⟨f,by omega,h2⟩
        · exact ⟨n,by omega,hu,by simpa using h⟩
      · obtain ⟨f,h1,h2⟩:=ih.1 h
        exact ⟨f,by omega,h2⟩
    · rintro ⟨f,h1,h2,h3⟩
      by_cases e1:f=n
      · subst e1
        rw [if_pos h2]
        exact iR _ (by rw [h3]; simp)
      · have:=ih.2 ⟨f,by omega,h2,h3⟩
        split
        · exact iQ _ this
        · exact this
theorem abw {use:Nat→Int}:∀ n:Nat,(Qh use n).Pairwise fun a b=>a.1<b.1
  | 0=>.nil
  | n+1=>by
    rw [Qh]
    split
    · refine List.pairwise_append.2 ⟨abw n,by simp,fun a ha b hb=>?_⟩
      obtain ⟨f,h1,_,rfl⟩:=aol.1 ha
      simp at hb
      rw [hb]
      show (f:Int)<(n:Int)
      omega
    · exact abw n
theorem TW.mem {zc:bq} {p:Nat} {L:List (Int × Int)} {z:bW} {r:RZ} (t:TW zc p L z r) (a:PI zc p L z) (hm:PO zc=true) (po:dE zc p) {e:Int × Int}:e∈Qh r.use r.nu↔e∈L:=by
  rw [aol]
  constructor
  · rintro ⟨f,h1,h2,rfl⟩
    by_cases h:(f:Int)∈L.map (·.1)
    · obtain ⟨e,he,h3⟩:=ic.1 h
      have h4:=t.use e he
      rw [h3,iI] at h4
      rw [h4, ← h3]
      exact he
    · exact (h2 (t.free f h1 h)).elim
  · intro he
    obtain ⟨_,_,_,_,_,h0,h1⟩:=a.place hm po (ic.2 ⟨e,he,rfl⟩)
    have h2:=t.use e he
    have h3:=a.inv.rng e he
    have h4:=t.nu
    refine ⟨e.1.toNat,by omega,by rw [h2]; omega,?_⟩
    rw [h2,Int.toNat_of_nonneg h0]
theorem TW.perm {zc:bq} {p:Nat} {L:List (Int × Int)} {z:bW} {r:RZ} (t:TW zc p L z r) (a:PI zc p L z) (hm:PO zc=true) (po:dE zc p):(Qh r.use r.nu).Perm L:=
  (List.perm_ext_iff_of_nodup ((abw r.nu).imp fun h e=>by rw [e] at h; omega) (List.Pairwise.of_map (·.1) (fun _ _ h e=>h (by rw [e])) a.inv.inv.nodup)).2 fun e=>t.mem a hm po
theorem cU_own {use:Nat→Int} {u:Nat} (hu:u≠0):∀ n:Nat,cU use n u=(UM (Qh use n) u:Int)
  | 0=>rfl
  | n+1=>by
    rw [cU,Qh,cU_own hu n]
    by_cases h:use n=(u:Int)
    · rw [if_pos ⟨by omega,h⟩,if_pos (by omega),ahq]
      have:UM [((n:Int),use n)] u=1:=by simp [UM,h]
      omega
    · rw [if_neg fun h2=>h h2.2]
      split
      · rw [ahq]
        have:UM [((n:Int),use n)] u=0:=by simp [UM,h]
        omega
      · omega
theorem aBg {f g:Nat→Nat}:∀ n,(∀ i,i<n→f i=g i)→Em f n=Em g n
  | 0,_=>rfl
  | n+1,h=>by rw [Em,Em,aBg n fun i hi=>h i (by omega),h n (by omega)]
theorem TW.told {zc:bq} {p:Nat} {L:List (Int × Int)} {z:bW} {r:RZ} (t:TW zc p L z r) (a:PI zc p L z) (hm:PO zc=true) (po:dE zc p) {u:Nat} (hu:1≤u∧u≤6):aeg r u=z.gK u:=by
  unfold aeg
  rw [if_neg (by omega),cU_own (by omega),a.inv.cnt u (by omega)]
  have:=(t.perm a hm po).countP_eq fun e=>decide (e.2=(u:Int))
  unfold UM
  rw [this]
theorem TW.told0 {zc:bq} {p:Nat} {L:List (Int × Int)} {z:bW} {r:RZ} (t:TW zc p L z r) (a:PI zc p L z):aeg r 0=z.total-z.uses.length:=by
  unfold aeg
  rw [if_pos rfl,t.len a,a.inv.uses,a.inv.total, ← a.inv.sum]
  rw [aBg (f:=fun i=>adt (r.rb i) (r.rb i).n) (g:=Sh.gQ z) z.gI.length fun i hi=>t.gQ hi]
  omega
theorem TW.gK {zc:bq} {p:Nat} {L:List (Int × Int)} {z:bW} {r:RZ} (t:TW zc p L z r) (a:PI zc p L z) (hm:PO zc=true) (po:dE zc p):cC (aeg r)=(aez z).set 0 (.int .i64 (z.total-z.uses.length)):=by
  have:(aez z).set 0 (.int .i64 (z.total-z.uses.length))=cC fun k=>if k=0 then z.total-z.uses.length else z.gK k:=rfl
  rw [this]
  refine aqw fun k hk=>?_
  by_cases e:k=0
  · subst e; rw [if_pos rfl,t.told0 a]
  · rw [if_neg e,t.told a hm po ⟨by omega,by omega⟩]
theorem TW.freesL {zc:bq} {p:Nat} {L:List (Int × Int)} {z:bW} {r:RZ} (t:TW zc p L z r) (a:PI zc p L z):agr r=Sh.freesL z:=by
  unfold agr Sh.freesL
  rw [t.len a]
  refine List.map_congr_left fun i hi=>?_
  have:=t.gQ (i7.1 hi)
  show ((frR r i:Nat):Int)=_
  rw [this]
theorem TW.owned {zc:bq} {p:Nat} {L:List (Int × Int)} {z:bW} {r:RZ} (t:TW zc p L z r) (a:PI zc p L z) (hm:PO zc=true) (po:dE zc p) {R:List (Int × Int)} (o:OwnedOf z.uses R):R=Qh r.use r.nu:=by
  have hnd:=a.inv.inv.nodup
  have hs:(R.map (·.1)).Pairwise (· < ·):=by rw [o.keys,a.inv.uses]; exact aiO hnd
  have hR:R.Pairwise fun a b=>a.1<b.1:=List.pairwise_map.1 hs
  have hp:R.Perm (Qh r.use r.nu):=by
    refine (List.perm_ext_iff_of_nodup (hR.imp fun h e=>by rw [e] at h; omega) ((abw r.nu).imp fun h e=>by rw [e] at h; omega)).2 fun e=>?_
    rw [t.mem a hm po]
    constructor
    · intro he
      have:=o.mem e he
      rwa [a.inv.uses] at this
    · intro he
      have h1:e.1∈R.map (·.1):=by
        rw [o.keys,a.inv.uses]
        exact (Va _).mem_iff.2 (ic.2 ⟨e,he,rfl⟩)
      obtain ⟨d,hd,h2⟩:=ic.1 h1
      have h3:=o.mem d hd
      rw [a.inv.uses] at h3
      have:d=e:=by
        have h4:=t.use d h3
        have h5:=t.use e he
        rw [h2,h5] at h4
        exact Prod.ext h2 h4.symm
      rw [← this]; exact hd
  exact hp.eq_of_pairwise (fun a b _ _ h1 h2=>by omega) hR (abw r.nu)
theorem TW.whole {zc:bq} {p:Nat} {L:List (Int × Int)} {z:bW} {r:RZ} (t:TW zc p L z r) (a:PI zc p L z) (hm:PO zc=true) (po:dE zc p):((z.uses.length:Int)==z.gK 1)=true↔∀ f,f<r.nu→r.use f=0∨r.use f=1:=by
  rw [ij,a.inv.uses,a.inv.cnt 1 (by omega)]
  have h1:((L.length:Int)=(UM L ((1:Nat):Int):Int))↔∀ e∈L,e.2=1:=by
    unfold UM
    constructor
    · intro h
      have h2:L.countP (fun e=>decide (e.2=((1:Nat):Int)))=L.length:=by omega
      have h3:=List.countP_eq_length.1 h2
      intro e he
      simpa using h3 e he
    · intro h
      have h2:L.countP (fun e=>decide (e.2=((1:Nat):Int)))=L.length:=List.countP_eq_length.2 fun e he=>by simpa using h e he
      omega
  rw [h1]
  constructor
  · intro h f hf
    by_cases h2:r.use f=0
    · exact .inl h2
    · exact .inr (h _ ((t.mem a hm po).1 (aol.2 ⟨f,hf,h2,rfl⟩)))
  · intro h e he
    obtain ⟨f,h2,h3,rfl⟩:=aol.1 ((t.mem a hm po).2 he)
    rcases h f h2 with h4 | h4
    · exact (h3 h4).elim
    · exact h4
theorem TW.new {zc:bq} {p:Nat} (hm:PO zc=true) (po:dE zc p) {bs:Nat→cw} (mk:∀ j,j<(lI zc p).gH.length→∃ o,eM (VK zc (nz (lI zc p).gH j)) (VK zc (nz (lI zc p).gH j)) o (bs j)) {h h':ad} {w:RPP} {r:RZ} (n:RNew zc p h h' w r) :
    PI zc p [] (ain zc p bs)∧TW zc p [] (ain zc p bs) r:=by
  have hl:∀ i,i<(ain zc p bs).gI.length→i<(lI zc p).gH.length:=fun i hi=>hi
  have ht:∀ i,i<(ain zc p bs).gI.length→((ain zc p bs).gJ i).gL = []:=fun i hi=>by
    obtain ⟨o,m⟩:=mk i (hl i hi)
    exact m.ht
  have hnm:∀ i,i<(ain zc p bs).gI.length→fS ((ain zc p bs).gJ i):=fun i hi=>by
    obtain ⟨o,m⟩:=mk i (hl i hi)
    exact fS.new m
  refine ⟨⟨InvQ.new hm po mk,fun i hi=>⟨hnm i hi,by rw [ht i hi]; exact List.nodup_nil,fun e he=>(by rw [ht i hi] at he; cases he)⟩,fun e he=>(nomatch he),fun k _=>rfl⟩,
    ⟨n.cz,n.pt,n.nu,fun i hi=>?_,fun i hi=>?_,fun i hi e he=>(by rw [ht i hi] at he; cases he),fun e he=>(nomatch he),fun f _ _=>n.use f,by rw [n.img]; rfl⟩⟩
  · obtain ⟨o,m⟩:=mk i (hl i hi)
    obtain ⟨r1,r2,r3⟩:=n.rb i (by rw [n.pt]; exact hi)
    rw [ayq hm po (po.nz hi)] at m
    refine ⟨hnm i hi,fun x hx=>?_,fun x hx=>?_,by rw [r1]; exact (atm po).1⟩
    · rw [r1] at hx
      rw [r2 x hx,eq_comm,iz]
      show 1≤mult (bs i) (x:Int)
      rw [m.hm,if_pos ⟨by omega,by omega⟩]; exact iA 1
    · rw [r1] at hx
      show mult (bs i) x=0
      rw [m.hm,if_neg (by omega)]
  · exact (n.rb i (by rw [n.pt]; exact hi)).1
end Go.Proofs.YtnlbfbiogfilfaaGreat.Sh
/- What is told is held against what is told. -/
namespace Go.Proofs.YtnlbfbiogfilfaaGreat.Sh
open Go.Ai
theorem aE2 {n:Nat} {h:ad} {a b:AV} {l:List Int} (ha:dP h .i64 a l) (hb:dP h .i64 b l):∀ (q i:Nat),i≤l.length→l.length-i<q→
    aF (fun k=>wQ n k q a b (i:Int) h) fun r h'=>r=true∧h'=h:=by
  intro q
  induction q with
  | zero=>omega
  | succ q ih=>
    intro i hi hq
    simp only [ahk]
    unfold wP AU
    simp only [ha.len]
    refine aL.ifB (fun e=>?_) fun e=>by exact nT ⟨rfl,rfl⟩
    simp at e
    have hs:=ha.small
    have e1:(!(nz l i==nz l i))=false:=by simp
    simp only [au,ha.elN e,hb.elN e,e1,mt (show i≤9223372036854775806 by omega)]
    exact ih (i+1) (by omega) (by omega)
theorem auA {n:Nat} {h:ad} {a b:AV} {l:List Int} (hn:l.length<n) (ha:dP h .i64 a l) (hb:dP h .i64 b l):aF (aH n a b h) fun r h'=>r=true∧h'=h:=by
  unfold aH KQ Dk
  have e1:(!((l.length:Int)==(l.length:Int)))=false:=by simp
  simp only [au,ha.len,hb.len,e1]
  exact aE2 ha hb n 0 (by omega) (by omega)
def prF (R:List (Int × Int)) (i:Nat):List AV:=[.int .i64 (R.getD i (0,0)).1,.int .u8 (R.getD i (0,0)).2]
theorem aFB {h:ad} {v:AV} {R:List (Int × Int)} (a:App h v 2 R.length (prs R)) (hl:R.length≤1048576):eD h v 2 R.length (prF R):=by
  refine ⟨by omega,?_⟩
  rcases a with ⟨rfl,h0,_⟩ | ⟨b,rfl,o,hlen,_⟩
  · exact .inl ⟨rfl,h0⟩
  · refine .inr ⟨b,0,0,true,rfl,fun _=>⟨_,o.cl,fun i hi=>⟨by rw [azu]; omega,?_⟩⟩⟩
    rw [Nat.zero_add,prs_at R i hi]
    unfold prF
    rw [iL,iv hi]
    rfl
theorem eq_prs (x y:Int) (c:Bool→ah):aha (.plain [.int,.int]) (.agg [.int .i64 x,.int .u8 y]) (.agg [.int .i64 x,.int .u8 y]) c=c true:=by
  show oC (xi [.int,.int] [.int .i64 x,.int .u8 y] [.int .i64 x,.int .u8 y]) c=_
  have:xi [.int,.int] [.int .i64 x,.int .u8 y] [.int .i64 x,.int .u8 y]=some true:=by simp [xi,UK,Mr]
  rw [this]; rfl
theorem eq_cC (f:Nat→Int) (c:Bool→ah):aha (.plain [.int,.int,.int,.int,.int,.int,.int]) (.agg (cC f)) (.agg (cC f)) c=c true:=by
  show oC (xi [.int,.int,.int,.int,.int,.int,.int] (cC f) (cC f)) c=_
  have:xi [.int,.int,.int,.int,.int,.int,.int] (cC f) (cC f)=some true:=by simp [cC,xi,UK,Mr]
  rw [this]; rfl
theorem v_same_1 {n:Nat} {h:ad} {a b:AV} {R:List (Int × Int)} (hl:R.length≤1048576) (ha:App h a 2 R.length (prs R)) (hb:App h b 2 R.length (prs R)):∀ (q i:Nat),i≤R.length→R.length-i<q→
    aF (fun k=>uJ n k q a b (i:Int) h) fun r h'=>r=true∧h'=h:=by
  intro q
  induction q with
  | zero=>omega
  | succ q ih=>
    intro i hi hq
    simp only [acL]
    unfold uE ym
    simp only [ha.len]
    refine aL.ifB (fun e=>?_) fun e=>by exact nT ⟨rfl,rfl⟩
    simp at e
    have t1:X1 true true=false:=rfl
    simp only [au,(aFB ha hl).eld (i:=(i:Int)) (by omega) (by omega),(aFB hb hl).eld (i:=(i:Int)) (by omega) (by omega),iI,prF,eq_prs,mt (show i≤9223372036854775806 by omega)]
    exact ih (i+1) (by omega) (by omega)
theorem aE7 {n:Nat} {h:ad} {a b:AV} {R:List (Int × Int)} (hn:R.length<n) (hl:R.length≤1048576) (ha:App h a 2 R.length (prs R)) (hb:App h b 2 R.length (prs R)):aF (bO n a b h) fun r h'=>r=true∧h'=h:=by
  unfold bO FM zu
  have e1:(!((R.length:Int)==(R.length:Int)))=false:=by simp
  simp only [au,ha.len,hb.len,e1]
  exact v_same_1 hl ha hb n 0 (by omega) (by omega)
end Go.Proofs.YtnlbfbiogfilfaaGreat.Sh
/- Do both stand alike? -/
namespace Go.Proofs.YtnlbfbiogfilfaaGreat.Sh
open Go.Ai
theorem aFR {sz:Nat} {h:ad} {b o L e:Nat} {op:Bool} {i:Nat} (hi:i<L) (m:Nat) (u:AV) (k:AV→ad→ah):est sz h (.slice b o L e op) (i:Int) m u k=qT h (.ptr b (o+i*sz)) m u fun H=>k (.ptr b (o+i*sz)) H:=by
  unfold est agV
  rw [UX,aaZ]
  have:Nat.blt i L=true:=by rw [blt_eq]; simpa using hi
  rw [this,zw,rV]; rfl
theorem aA2 {h:ad} {v:AV} {l:List Int} (hl:Lst h v l) {i:Nat} (hi:i<l.length) (x:Int):aF (est 1 h v (i:Int) 1 (.int .i64 x)) fun _ h'=>Lst h' v (l.set i x)∧Chg (fun c=>v.blk=some c) h h':=by
  rcases hl with ⟨rfl,rfl⟩ | ⟨b,ext,rest,rfl,ow,hr,h0,hm⟩
  · simp at hi
  obtain ⟨h',p,hrun⟩:=uI (off:=0+i*1) (u:=.int .i64 x) ow (by rw [iZ,sX]; omega) rfl
  refine ⟨(.ptr b (0+i*1),h'),⟨.inr ⟨b,ext,rest,by rw [List.length_set],?_,hr,by rw [List.length_set]; exact h0,by rw [List.length_set]; exact hm⟩,p.chg.mono fun d _ e=>by rw [e]; rfl⟩,fun k=>?_⟩
  · have o:=p.own
    have:(dl l++rest).set (0+i*1) (.int .i64 x)=dl (l.set i x)++rest:=by
      rw [Nat.zero_add,Nat.mul_one,List.set_append_left _ _ (by rw [sX]; exact hi)]
      simp [dl,List.map_set]
    rw [this] at o
    exact o
  · rw [aFR hi]; exact hrun _
theorem aBi:∀ (cs l:List AV) (i:Nat),(L1 cs l i).length=l.length
  | [],l,i=>rfl
  | x::cs,l,i=>by
    show (L1 cs (l.set i x) (i+1)).length=_
    rw [aBi,List.length_set]
theorem aGV {h:ad} {v:AV} {sz L:Nat} {l:List AV} (hl:App h v sz L l) {i:Nat} (hi:i<L) {cs:List AV} (hc:cs.length=sz):aF (est sz h v (i:Int) sz (.agg cs)) fun _ h'=>(∃ l',App h' v sz L l')∧Chg (fun c=>v.blk=some c) h h':=by
  rcases hl with ⟨rfl,rfl,_⟩ | ⟨b,rfl,ow,hn,h0⟩
  · omega
  have hle:0+i*sz+sz≤l.length:=by
    rw [hn,Nat.zero_add, ← Nat.succ_mul]
    exact Nat.mul_le_mul_right _ hi
  obtain ⟨h',p,hrun⟩:=Um (off:=0+i*sz) ow hc hle
  refine ⟨(.ptr b (0+i*sz),h'),⟨⟨_,.inr ⟨b,rfl,p.own,?_,h0⟩⟩,p.chg.mono fun d _ e=>by rw [e]; rfl⟩,fun k=>?_⟩
  · rw [aBi]; exact hn
  · rw [aFR hi]; exact hrun _
abbrev kSt:=gF
theorem aGK {n:Nat} (hn:70000<n) {h:ad} (hro:h.ro≤h.nx) {w2:RPP} {r:RZ} (b2:dY h w2 r) (ok:ROk r) {x2 x6:AV} (l2:Lst h x2 (agr r)) (l6:App h x6 2 (Qh r.use r.nu).length (prs (Qh r.use r.nu))) (f2 f3 f4 f5 f6 f7) :
    aF (fun k:kSt=>su n (aH n) f2 f3 f4 f5 f6 f7 (bJ n) (bO n) (bG n) k (.ptr w2.p 0) x2 x6 h) fun x h'=>x=true∧be h h':=by
  have hol:=aun r.use r.nu
  have hnu:=ok.nu
  have hln:=ok.ln
  have hfl:(agr r).length=r.pt.gH.length:=by simp [agr]
  unfold su uU
  refine aF.bind (aDG (by omega) hro b2 ok) ?_
  rintro x29 h30 ⟨l29,hf29,g30⟩
  refine aF.bind (auA (by omega) (l2.grow g30).ints l29.ints) ?_
  rintro _ _ ⟨rfl,rfl⟩
  simp only [zw]
  refine aF.bind (aDE (by omega) (g30.le hro) (b2.grow g30) ok) ?_
  rintro x33 h34 ⟨a33,g34⟩
  refine aF.bind (aE7 (by omega) (by omega) (l6.grow (g30.trans g34)) a33) ?_
  rintro _ _ ⟨rfl,rfl⟩
  exact nT ⟨rfl,g30.trans g34⟩
theorem aF9 {n:Nat} (hn:70000<n) {h0:ad} (hro:h0.ro≤h0.nx) {w2:RPP} {r:RZ} (b2:dY h0 w2 r) (ok:ROk r) {x2 x6 v7:AV} (l2:Lst h0 x2 (agr r)) (l6:App h0 x6 2 (Qh r.use r.nu).length (prs (Qh r.use r.nu))) {L:Nat} (hL:L≤65536)
    (hd:∀ d,v7.blk=some d→¬ fpQ w2 r.pt.gH.length d∧x2.blk≠some d∧x6.blk≠some d) (f2 f3 f4 f5 f6 f7):∀ (q i:Nat) (h:ad),(∃ l,App h v7 2 L l)→Chg (fun c=>v7.blk=some c) h0 h→i≤L→L-i<q→
    aF (fun k:kSt=>uS n (aH n) f2 f3 f4 f5 f6 f7 (bJ n) (bO n) (bG n) k q (.ptr w2.p 0) x2 v7 x6 (i:Int) h) fun x h'=>x=true∧Chg (fun c=>v7.blk=some c) h0 h':=by
  intro q
  induction q with
  | zero=>omega
  | succ q ih=>
    intro i h ha c hi hq
    obtain ⟨l,ha⟩:=ha
    simp only [TJ]
    unfold vc
    simp only [ha.len]
    refine aL.ifB (fun e=>?_) fun e=>?_
    · rw [yA,iz] at e
      have bk:∀ K,uK [.int .i64 0,.int .u8 0] [(0,1,.int .i64 (-9))] K=K (.agg [.int .i64 (-9),.int .u8 0]):=fun K=>rfl
      simp only [bk]
      refine aF.bind (aGV ha (i:=i) (by omega) (cs:=[.int .i64 (-9),.int .u8 0]) rfl) ?_
      rintro _ h40 ⟨a40,c40⟩
      simp only [au,mt (show i≤9223372036854775806 by omega)]
      exact ih (i+1) h40 a40 (c.trans c40) (by omega) (by omega)
    · refine aL.mono (aGK hn (c.le hro) (b2.chg c fun d e1 e2=>(hd d e2).1 e1) ok (l2.chg c fun d e1 e2=>(hd d e2).2.1 e1) (l6.chg c fun d e1 e2=>(hd d e2).2.2 e1) f2 f3 f4 f5 f6 f7) ?_
      rintro ⟨x,h'⟩ ⟨e1,g⟩
      exact ⟨e1,c.trans (g.chg _)⟩
theorem aGT {n:Nat} (hn:70000<n) {h0:ad} (hro:h0.ro≤h0.nx) {w2:RPP} {r:RZ} (b2:dY h0 w2 r) (ok:ROk r) {x2 x6 v5 v7:AV} (l2:Lst h0 x2 (agr r)) (l6:App h0 x6 2 (Qh r.use r.nu).length (prs (Qh r.use r.nu))) {L:Nat} (hL:L≤65536) (ha:∃ l,App h0 v7 2 L l)
    (hd:∀ d,v7.blk=some d→¬ fpQ w2 r.pt.gH.length d∧x2.blk≠some d∧x6.blk≠some d) (hd5:∀ d,v5.blk=some d→¬ fpQ w2 r.pt.gH.length d∧x2.blk≠some d∧x6.blk≠some d∧v7.blk≠some d) {m:Nat} (hm:m≤16) (f2 f3 f4 f5 f6 f7):∀ (q i:Nat) (h:ad) (l:List Int),Lst h v5 l→l.length=m→Chg (fun c=>v5.blk=some c) h0 h→i≤m→m-i<q→
    aF (fun k:kSt=>uV n (aH n) f2 f3 f4 f5 f6 f7 (bJ n) (bO n) (bG n) k q (.ptr w2.p 0) v5 x2 v7 x6 (i:Int) h) fun x h'=>x=true∧Chg (fun c=>v5.blk=some c∨v7.blk=some c) h0 h':=by
  intro q
  induction q with
  | zero=>omega
  | succ q ih=>
    intro i h l hl hlm c hi hq
    simp only [To]
    unfold vg xz
    simp only [hl.len]
    refine aL.ifB (fun e=>?_) fun e=>?_
    · rw [yA,iz] at e
      refine aF.bind (aA2 hl (i:=i) (by omega) (-9)) ?_
      rintro _ h27 ⟨l27,c27⟩
      simp only [au,mt (show i≤9223372036854775806 by omega)]
      exact ih (i+1) h27 _ l27 (by rw [List.length_set]; exact hlm) (c.trans c27) (by omega) (by omega)
    · obtain ⟨la,ha⟩:=ha
      refine aL.mono (aF9 hn (c.le hro) (b2.chg c fun d e1 e2=>(hd5 d e2).1 e1) ok (l2.chg c fun d e1 e2=>(hd5 d e2).2.1 e1) (l6.chg c fun d e1 e2=>(hd5 d e2).2.2.1 e1) hL hd f2 f3 f4 f5 f6 f7 n 0 h ⟨la,ha.chg c fun d e1 e2=>(hd5 d e2).2.2.2 e1⟩ (be.refl.chg _) (by omega) (by omega)) ?_
      rintro ⟨x,h'⟩ ⟨e1,c2⟩
      exact ⟨e1,(c.mono fun d _ e=>.inl e).trans (c2.mono fun d _ e=>.inr e)⟩
theorem v_stand {n:Nat} (hn:70000<n) {zc:bq} {p:Nat} {h:ad} (hro:h.ro≤h.nx) {w:dN} {z:bW} {w2:RPP} {r:RZ} {L:List (Int × Int)} (b:cv h w z) (b2:dY h w2 r) (a:PI zc p L z) (t:TW zc p L z r) (hm:PO zc=true) (po:dE zc p) :
    aF (aY n (.ptr w.p 0) (.ptr w2.p 0) h) fun x h'=>x=true∧be h h':=by
  have ok:=t.ok a po
  have hlen:=a.len po
  have pok:=a.inv.inv.ok po (by rw [i6]; omega)
  have hu:=a.inv.uses
  have htot:=(atc po).2
  have hnd:(z.uses.map (·.1)).Nodup:=by rw [hu]; exact a.inv.inv.nodup
  have hk:∀ e∈z.uses,arZ e.1:=fun e he=>by
    rw [hu] at he
    obtain ⟨_,_,_,_,_,h0,h1⟩:=a.place hm po (ic.2 ⟨e,he,rfl⟩)
    have:=(atm po).2.2.2.2.1
    unfold arZ
    omega
  have hol:=aun r.use r.nu
  have hnu:=ok.nu
  have hln:=ok.ln
  have hfr:=t.freesL a
  have hfl:(agr r).length=r.pt.gH.length:=by simp [agr]
  unfold aY En zk
  refine aF.bind (aFL (by omega) hro b pok) ?_
  rintro x0 h1 ⟨l0,f0,g1⟩
  refine aF.bind (aFL (by omega) (g1.le hro) (b.grow g1) pok) ?_
  rintro x2 h3 ⟨l2,fr2,g3⟩
  have t3:=g1.trans g3
  refine aF.bind (aFC (t3.le hro) (b.grow t3) hk hnd (by rw [hu]; omega) (by rw [hu]; omega)) ?_
  rintro x4 h5 ⟨R,o4,a4,f4,g5⟩
  have t5:=t3.trans g5
  refine aF.bind (aFC (t5.le hro) (b.grow t5) hk hnd (by rw [hu]; omega) (by rw [hu]; omega)) ?_
  rintro x6 h7 ⟨R6,o6,a6,f6,g7⟩
  have t7:=t5.trans g7
  have eR:=t.owned a hm po o4
  have eR6:=t.owned a hm po o6
  subst eR eR6
  refine aF.bind (v_Counts (t7.le hro) (b.grow t7) (by rw [a.inv.total]; exact htot) (by rw [hu]; omega)) ?_
  rintro _ h9 ⟨rfl,g9⟩
  have t9:=t7.trans g9
  refine aF.bind (aAR (by omega) (t9.le hro) (b2.grow t9) ok) ?_
  rintro _ h11 ⟨rfl,g11⟩
  have t11:=t9.trans g11
  have x1:X1 true true=false:=rfl
  rw [← t.gK a hm po]
  simp only [eq_cC,x1,Bw]
  refine aF.bind (v_Whole (b.grow t11)) ?_
  rintro _ _ ⟨rfl,rfl⟩
  refine aF.bind (v_rWhole (by omega) (b2.grow t11) ok) ?_
  rintro x15 _ ⟨i15,rfl⟩
  have e15:x15=((z.uses.length:Int)==z.gK 1):=Bool.eq_iff_iff.2 (i15.trans (t.whole a hm po).symm)
  have e16:∀ c:Bool,X1 true (eqBB c c)=false:=fun c=>by cases c<;>rfl
  rw [e15,e16]
  unfold uZ
  simp only [Bw]
  refine aF.bind (aDG (by omega) (t11.le hro) (b2.grow t11) ok) ?_
  rintro x17 h18 ⟨l17,f17,g18⟩
  have t18:=t11.trans g18
  have g1_18:=g3.trans (g5.trans (g7.trans (g9.trans (g11.trans g18))))
  rw [hfr] at l17
  refine aF.bind (auA (by rw [← hfr]; omega) (l0.grow g1_18).ints l17.ints) ?_
  rintro _ _ ⟨rfl,rfl⟩
  unfold uQ
  simp only [au,Bool.not_true]
  refine aF.bind (aDE (by omega) (t18.le hro) (b2.grow t18) ok) ?_
  rintro x21 h22 ⟨a21,g22⟩
  have t22:=t18.trans g22
  have g5_22:=g7.trans (g9.trans (g11.trans (g18.trans g22)))
  have g7_22:=g9.trans (g11.trans (g18.trans g22))
  refine aF.bind (aE7 (by omega) (by omega) (a4.grow g5_22) a21) ?_
  rintro _ h23 ⟨rfl,rfl⟩
  unfold vh
  simp only [au,Bool.not_true]
  have n1:=g1.nx
  have n3:=g3.nx
  have n5:=g5.nx
  have b22:=b2.grow t22
  have l2':=l2.grow (g5.trans g5_22)
  rw [← hfr] at l2'
  have q0:∀ d,x0.blk=some d→h.nx≤d∧d<h1.nx:=fun d e=>⟨f0 d e,(l0.lt e).1⟩
  have q2:∀ d,x2.blk=some d→h1.nx≤d∧d<h3.nx:=fun d e=>⟨fr2 d e,(l2.lt e).1⟩
  have q4:∀ d,x4.blk=some d→h3.nx≤d∧d<h5.nx:=fun d e=>⟨f4 d e,a4.lt e⟩
  have q6:∀ d,x6.blk=some d→h5.nx≤d:=fun d e=>f6 d e
  have qw:∀ d,fpQ w2 r.pt.gH.length d→d<h.nx:=fun d e=>b2.lt e
  have hmine:=t.len a
  have lfl:(Sh.freesL z).length=r.pt.gH.length:=by rw [← hfr,hfl]
  refine aL.mono (aGT (m:=r.pt.gH.length) hn (t22.le hro) b22 ok l2' (a6.grow g7_22) (L:=(Qh r.use r.nu).length) (by omega) ⟨_,a4.grow g5_22⟩ (fun d e=>⟨fun e1=>?_,fun e1=>?_,fun e1=>?_⟩) (fun d e=>⟨fun e1=>?_,fun e1=>?_,fun e1=>?_,fun e1=>?_⟩) hln _ _ _ _ _ _ n 0 h23 _ (l0.grow (g1_18.trans g22)) lfl (be.refl.chg _) (by omega) (by omega)) ?_
  · have:=qw d e1; have:=q4 d e; omega
  · have:=q2 d e1; have:=q4 d e; omega
  · have:=q6 d e1; have:=q4 d e; omega
  · have:=qw d e1; have:=q0 d e; omega
  · have:=q2 d e1; have:=q0 d e; omega
  · have:=q6 d e1; have:=q0 d e; omega
  · have:=q4 d e1; have:=q0 d e; omega
  · rintro ⟨x,h'⟩ ⟨e1,c⟩
    refine ⟨e1,c.grow t22 fun d e=>?_⟩
    rcases e with e | e
    · exact (q0 d e).1
    · have:=q4 d e; omega
end Go.Proofs.YtnlbfbiogfilfaaGreat.Sh
/- Pools that are none; what is refused. -/
namespace Go.Proofs.YtnlbfbiogfilfaaGreat.Sh
open Go.Ai
theorem eq_nn (c:Bool→ah):aha (.nil .ptr) .nilptr .nilptr c=c true:=rfl
theorem agC {n:Nat} {h:ad} (k:Bool→ad→ah):bM n .nilptr h k=k false h:=by
  unfold bM L9 Fo yD
  have t1:(true ^^ true)=false:=rfl
  simp only [au,eq_nn,t1]
theorem afp {n:Nat} {h:ad} (k:Bool→ad→ah):aQ n .nilptr h k=k false h:=by
  unfold aQ yl uH qS
  have t1:(true ^^ true)=false:=rfl
  simp only [au,eq_nn,t1]
theorem n_PFree {n:Nat} {h:ad} (k:AV→ad→ah):dj n .nilptr h k=k .nilslice h:=by
  unfold dj Oz GN
  simp only [au,agC,Bool.not_false]
theorem aCX {n:Nat} {h:ad} (k:AV→ad→ah):bJ n .nilptr h k=k .nilslice h:=by
  unfold bJ yQ vw
  simp only [au,afp,Bool.not_false]
theorem n_Owned {n:Nat} {h:ad} (k:AV→ad→ah):dr n .nilptr h k=k .nilslice h:=by
  unfold dr Mk Fw
  simp only [au,agC,Bool.not_false]
theorem aDM {n:Nat} {h:ad} (k:AV→ad→ah):bG n .nilptr h k=k .nilslice h:=by
  unfold bG yn uL
  simp only [au,afp,Bool.not_false]
theorem n_Whole {n:Nat} {h:ad} (k:Bool→ad→ah):dm n .nilptr h k=k false h:=by
  unfold dm L4 FF yN
  simp only [au,agC]
theorem n_rWhole {n:Nat} {h:ad} (k:Bool→ad→ah):ca n .nilptr h k=k false h:=by
  unfold ca yf uO
  simp only [au,afp,Bool.not_false]
theorem n_Take {n:Nat} {h:ad} (u:Int) (k:Int→Int→ad→ah):bh n .nilptr u h k=k 0 1 h:=by
  unfold bh Hl Di
  simp only [au,agC,Bool.not_false]
theorem n_rTake {n:Nat} {h:ad} (u:Int) (k:Int→Int→ad→ah):aK n .nilptr u h k=k 0 1 h:=by
  unfold aK vx sH
  simp only [au,afp,Bool.not_false]
theorem n_Give {n:Nat} {h:ad} (f:Int) (k:Int→ad→ah):aZ n .nilptr f h k=k 1 h:=by
  unfold aZ Dt zf
  simp only [au,agC,Bool.not_false]
theorem n_rGive {n:Nat} {h:ad} (f:Int) (k:Int→ad→ah):aJ n .nilptr f h k=k 1 h:=by
  unfold aJ vv sF
  simp only [au,afp,Bool.not_false]
theorem n_Image {n:Nat} {h:ad} (k:AV→Int→ad→ah):ba n .nilptr h k=k .nilslice 1 h:=by
  unfold ba FG Bl
  simp only [au,agC,Bool.not_false]
theorem n_rImage {n:Nat} {h:ad} (k:AV→Int→ad→ah):aG n .nilptr h k=k .nilslice 1 h:=by
  unfold aG uB rU
  simp only [au,afp,Bool.not_false]
theorem aGP {n:Nat} {h:ad} (hro:h.ro≤h.nx):aF (bQ n .nilptr h) fun r h'=>r = .agg (cC fun _=>0)∧be h h':=by
  unfold bQ xg tY
  refine aF.bind (ahy hro _ 0) ?_
  rintro x0 h1 ⟨hx0,o0,g1⟩
  refine aF.bind (ahy (g1.le hro) _ 0) ?_
  rintro x2 h3 ⟨hx2,o2,g3⟩
  have l7:([.int .i64 0,.int .i64 0,.int .i64 0,.int .i64 0,.int .i64 0,.int .i64 0,.int .i64 0]:List AV).length=7:=rfl
  simp only [au,afp,Bool.not_false,jC o2.cl,afB l7]
  refine ed.bind (Um (o0.grow g3) l7 (by simp)) ?_
  intro h7 p7
  rw [Wq _ _ rfl] at p7
  simp only [au,jC p7.own.cl,afB l7]
  exact nT ⟨rfl,p7.grow (g1.trans g3) hx0⟩
theorem n_Counts {n:Nat} {h:ad} (hro:h.ro≤h.nx):aF (dp n .nilptr h) fun r h'=>r = .agg (cC fun _=>0)∧be h h':=by
  unfold dp IK D8
  refine aF.bind (ahy hro _ 0) ?_
  rintro x0 h1 ⟨hx0,o0,g1⟩
  have bk:∀ K,uK [.int .i64 0,.int .i64 0,.int .i64 0,.int .i64 0,.int .i64 0,.int .i64 0,.int .i64 0] [] K=K (.agg [.int .i64 0,.int .i64 0,.int .i64 0,.int .i64 0,.int .i64 0,.int .i64 0,.int .i64 0]):=fun K=>rfl
  have l7:([.int .i64 0,.int .i64 0,.int .i64 0,.int .i64 0,.int .i64 0,.int .i64 0,.int .i64 0]:List AV).length=7:=rfl
  simp only [au,agC,Bool.not_false,bk]
  refine ed.bind (Um o0 l7 (by simp)) ?_
  intro h7 p7
  rw [Wq _ _ rfl] at p7
  simp only [au,jC p7.own.cl,afB l7]
  exact nT ⟨rfl,p7.grow g1 hx0⟩
theorem n_eq {n:Nat} (hn:0<n) {h:ad}:aF (aH n .nilslice .nilslice h) fun r h'=>r=true∧h'=h:=auA (l:=[]) hn (Lst.nil (h:=h)).ints (Lst.nil (h:=h)).ints
theorem n_same {n:Nat} (hn:0<n) {h:ad}:aF (bO n .nilslice .nilslice h) fun r h'=>r=true∧h'=h:=aE7 (R:=[]) hn (Nat.zero_le _) App.nil App.nil
theorem aGA {n:Nat} (hn:1<n) {h:ad} (f2 f3 f4 f5 f6 f7):aF (fun k:kSt=>su n (aH n) f2 f3 f4 f5 f6 f7 (bJ n) (bO n) (bG n) k .nilptr .nilslice .nilslice h) fun x h'=>x=true∧h'=h:=by
  unfold su uU
  simp only [aCX,aDM]
  refine aF.bind (n_eq (by omega)) ?_
  rintro _ _ ⟨rfl,rfl⟩
  simp only [zw]
  refine aF.bind (n_same (by omega)) ?_
  rintro _ _ ⟨rfl,rfl⟩
  exact nT ⟨rfl,rfl⟩
theorem aFw (c:Int→ah):mX .nilslice c=c 0:=rfl
theorem aGh {n:Nat} (hn:1<n) {h:ad} (f2 f3 f4 f5 f6 f7) {q:Nat}:aF (fun k:kSt=>uS n (aH n) f2 f3 f4 f5 f6 f7 (bJ n) (bO n) (bG n) k (q+1) .nilptr .nilslice .nilslice .nilslice 0 h) fun x h'=>x=true∧h'=h:=by
  simp only [TJ]
  unfold vc
  simp only [aFw,yA,show decide ((0:Int)<0)=false from rfl,Bw]
  exact aGA hn ..
theorem aGf {n:Nat} (hn:1<n) {h:ad} (f2 f3 f4 f5 f6 f7) {q:Nat}:aF (fun k:kSt=>uV n (aH n) f2 f3 f4 f5 f6 f7 (bJ n) (bO n) (bG n) k (q+1) .nilptr .nilslice .nilslice .nilslice .nilslice 0 h) fun x h'=>x=true∧h'=h:=by
  simp only [To]
  unfold vg xz
  simp only [aFw,yA,show decide ((0:Int)<0)=false from rfl,Bw]
  obtain ⟨m,hm⟩:∃ m,n=m+1:=⟨n-1,by omega⟩
  have key:=aGh hn (h:=h) f2 f3 f4 f5 f6 f7 (q:=m)
  rw [← hm] at key
  exact key
theorem n_stand {n:Nat} (hn:1<n) {h:ad} (hro:h.ro≤h.nx):aF (aY n .nilptr .nilptr h) fun x h'=>x=true∧be h h':=by
  unfold aY En zk
  simp only [n_PFree,n_Owned]
  refine aF.bind (n_Counts hro) ?_
  rintro _ h9 ⟨rfl,g9⟩
  refine aF.bind (aGP (g9.le hro)) ?_
  rintro _ h11 ⟨rfl,g11⟩
  have x1:X1 true true=false:=rfl
  have x2:X1 true (eqBB false false)=false:=rfl
  simp only [eq_cC,x1,Bw]
  have w1:aF (dm n .nilptr h11) fun x h'=>x=false∧h'=h11:=⟨(false,h11),⟨rfl,rfl⟩,fun k=>n_Whole k⟩
  have w2:aF (ca n .nilptr h11) fun x h'=>x=false∧h'=h11:=⟨(false,h11),⟨rfl,rfl⟩,fun k=>n_rWhole k⟩
  refine aF.bind w1 ?_
  rintro _ _ ⟨rfl,rfl⟩
  refine aF.bind w2 ?_
  rintro _ _ ⟨rfl,rfl⟩
  rw [x2]
  unfold uZ
  simp only [Bw,aCX]
  refine aF.bind (n_eq (by omega)) ?_
  rintro _ _ ⟨rfl,rfl⟩
  unfold uQ
  simp only [au,Bool.not_true,aDM]
  refine aF.bind (n_same (by omega)) ?_
  rintro _ h20 ⟨rfl,rfl⟩
  unfold vh
  simp only [au,Bool.not_true]
  obtain ⟨m,hm⟩:∃ m,n=m+1:=⟨n-1,by omega⟩
  have key:=aGf hn (h:=h20) (dj n) (dm n) (dp n) (dr n) (bQ n) (ca n) (q:=m)
  rw [← hm] at key
  refine aL.mono key ?_
  rintro ⟨x,h'⟩ ⟨e1,e2⟩
  exact ⟨e1,by rw [show h'=h20 from e2]; exact g9.trans g11⟩
theorem aDR {n:Nat} {h:ad} {w:dN} {z:bW} (b:cv h w z) {u:Int} (hu:u<2∨6<u) (k:Int→Int→ad→ah):bh n (.ptr w.p 0) u h k=k 0 2 h:=by
  unfold bh Hl Di Ac
  simp only [au,PE b,Bool.not_true]
  by_cases e:u<2
  · rw [iO e]; rfl
  · have e2:6<u:=by omega
    rw [iJ e,iO e2]; rfl
theorem aBJ {n:Nat} {h:ad} {w:RPP} {z:RZ} (b:dY h w z) {u:Int} (hu:u<2∨6<u) (k:Int→Int→ad→ah):aK n (.ptr w.p 0) u h k=k 0 2 h:=by
  unfold aK vx sH rB
  simp only [au,N4 b,Bool.not_true]
  by_cases e:u<2
  · rw [iO e]; rfl
  · have e2:6<u:=by omega
    rw [iJ e,iO e2]; rfl
theorem axS {n:Nat} {h:ad} {w:dN} {z:bW} (b:cv h w z) (hc:0<z.gK 1) (k:AV→Int→ad→ah):ba n (.ptr w.p 0) h k=k .nilslice 91 h:=by
  unfold ba FG Bl
  have i1:∀ c,SA 1 7 (.ptr w.p 13) 1 c=c (.ptr w.p 14):=fun c=>UR (n:=7) (k:=1) (by omega) c
  have e1:(Lt z w.vm w.vb w.mu)[14]?=some (.int .i64 (z.gK 1)):=rfl
  simp only [au,PE b,Bool.not_true,i1,jC b.own.cl,e1,iO hc]
theorem aDe {n:Nat} {h:ad} {w:dN} {z:bW} (b:cv h w z) (hnd:(z.uses.map (·.1)).Nodup) {f:Int} (hm:(f,1)∈z.uses) (k:Int→ad→ah):aZ n (.ptr w.p 0) f h k=k 91 h:=by
  unfold aZ Dt zf xd
  have e1:((1:Int)==1)=true:=rfl
  simp only [au,PE b,Bool.not_true,jC b.own.cl,al2,ame b.uses hnd hm,e1]
end Go.Proofs.YtnlbfbiogfilfaaGreat.Sh
