/- Buddies, by the code. -/
import Derived.Test.YtnlbfbiogfilfaaGreatZUPlan4ZUCol
import Derived.Test.YtnlbfbiogfilfaaGreatAiLst
set_option linter.all false
namespace Go.Proofs.YtnlbfbiogfilfaaGreat.Sh
open Go.Ai
theorem axN {n:Nat} {h:Heap} {v:AV} {l:List Int} (hl:Lst h v l) {i:Nat} (hi:i<l.length) :
    Run1 (eo n v (i:Int) ((i+1:Nat):Int) h) fun v' h'=>Lst h' v' (l.eraseIdx i)∧v'.blk=v.blk∧Chg (fun c=>v.blk=some c) h h':=by
  rcases hl with ⟨rfl,rfl⟩ | ⟨b,ext,rest,rfl,ow,hr,h0,hm⟩
  · simp at hi
  unfold eo tK tX
  obtain ⟨r,hr1⟩:=slV_chk (b:=b) (len:=l.length) (ext:=ext) (i:=i) (j:=i+1) (by omega) (by omega)
  have e1:((i:Int)==((i+1:Nat):Int))=false:=by rw [beq_eq_false_iff_ne]; omega
  have hle:(l.eraseIdx i).length=l.length-1:=List.length_eraseIdx_of_lt hi
  have hcl:(ju l++rest).length=l.length+ext:=by simp [ju,hr]
  simp only [cJ,Nat.reduceAdd,aoX hr1,e1,aoX (az3 (b:=b) (len:=l.length) (ext:=ext) (i:=i) (by omega) h0),aoX (slV_hi (b:=b) (len:=l.length) (ext:=ext) (i:=i+1) (by omega))]
  have key:∃ h1,Own h1 b (zP (ju (l.drop (i+1))) (ju l++rest) i) 1∧Chg (fun c=>(AV.slice b 0 l.length ext true).blk=some c) h h1∧∀ c,mQ h 1 (.slice b 0 i (l.length+ext-i) true) (if l.length+ext=i+1 then .send b 0 (i+1) else .slice b (i+1) (l.length-(i+1)) ext true) c=c (.slice b 0 (l.length-1) (ext+1) true) h1:=by
    by_cases hlast:l.length=i+1
    · refine ⟨h,?_,⟨Nat.le_refl _,rfl,fun _ _ _=>rfl⟩,fun c=>?_⟩
      · have:l.drop (i+1) = []:=List.drop_eq_nil_of_le (by omega)
        rw [this]; exact ow
      · unfold mQ
        have:sB h 1 (.slice b 0 i (l.length+ext-i) true) (if l.length+ext=i+1 then .send b 0 (i+1) else .slice b (i+1) (l.length-(i+1)) ext true)=some (.slice b 0 (l.length-1) (ext+1) true,h):=by
          have:(AV.slice b 0 i (l.length+ext-i) true) = .slice b 0 (l.length-1) (ext+1) true:=by congr 1<;>omega
          rw [this]
          split
          · rfl
          · rw [show l.length-(i+1)=0 by omega]; rfl
        rw [this,Ih,pQ,yq]
    · have p:=al6 ow (zP (ju (l.drop (i+1))) (ju l++rest) i)
      refine ⟨_,p.own,p.chg.mono fun c _ e=>by rw [e]; rfl,fun c=>?_⟩
      rw [if_neg (by omega)]
      unfold mQ
      have hsh:VB h 1 (l.length-(i+1)) (.slice b (i+1) (l.length-(i+1)) ext true)=some (ju (l.drop (i+1))):=by
        show (Option.casesOn (ol h b) none fun l'=>sub l' (i+1) ((l.length-(i+1))*1):Option (List AV))=_
        rw [agn ow]
        show sub (ju l++rest) (i+1) ((l.length-(i+1))*1)=_
        rw [oB,if_pos (by rw [List.length_drop,hcl]; omega)]
        congr 1
        rw [List.drop_append_of_le_length (by rw [iI]; omega),List.take_append_of_le_length (by rw [List.length_drop,iI]; omega)]
        rw [List.take_of_length_le (by rw [List.length_drop,iI]; omega)]
        simp [ju,List.map_drop]
      have:sB h 1 (.slice b 0 i (l.length+ext-i) true) (.slice b (i+1) (l.length-(i+1)) ext true)=some (.slice b 0 (l.length-1) (ext+1) true,h.set b (.cells (zP (ju (l.drop (i+1))) (ju l++rest) i) true 1)):=by
        simp only [sB,lenF]
        rw [if_neg (by omega),if_pos (by omega),hsh]
        dsimp only
        rw [ahS ow]
        have h3:Nat.ble (0+(i+(l.length-(i+1)))*1) (mv (ju l++rest))=true:=by rw [jC,hcl]; exact Nat.ble_eq_true_of_le (by omega)
        rw [h3]
        dsimp only
        rw [qQ,Heap.setK_eq,Nat.zero_add,Nat.mul_one]
        have:(AV.slice b 0 (i+(l.length-(i+1))) (l.length+ext-i-(l.length-(i+1))) true) = .slice b 0 (l.length-1) (ext+1) true:=by congr 1<;>omega
        rw [this]
      rw [this,Ih,pQ,yq]
  obtain ⟨h1,ow1,c1,ek⟩:=key
  have e2:slV (.sl 1) (.slice b 0 (l.length-1) (ext+1) true) (some (.int .i64 ((l.length-1:Nat):Int))) (some (.int .i64 (l.length:Int))) none=some (.slice b (l.length-1) 1 ext true):=by
    rw [slV_mid (by omega) (by omega) (by omega)]
    congr 2<;>omega
  simp only [cJ,Nat.reduceAdd,ek,aoX e2]
  have p:=al6 ow1 (ju (l.eraseIdx i)++(.int .i64 0::rest))
  have e3:∀ c,arT h1 [.int .i64 0] (.slice b (l.length-1) 1 ext true) c=c (h1.set b (.cells (ju (l.eraseIdx i)++(.int .i64 0::rest)) true 1)):=by
    intro c
    unfold arT
    have:acd h1 [.int .i64 0] (.slice b (l.length-1) 1 ext true)=some (.undef,h1.set b (.cells (ju (l.eraseIdx i)++(.int .i64 0::rest)) true 1)):=by
      simp only [acd]
      rw [if_neg (by omega),ahS ow1]
      have h3:Nat.ble (l.length-1+1*mv [AV.int .i64 0]) (mv (zP (ju (l.drop (i+1))) (ju l++rest) i))=true:=by
        rw [jC,jC,Xo,hcl]; exact Nat.ble_eq_true_of_le (by simp; omega)
      rw [h3]
      dsimp only
      rw [qQ,Heap.setK_eq]
      show some (AV.undef,h1.set b (.cells ((zP (ju (l.drop (i+1))) (ju l++rest) i).set (l.length-1) (.int .i64 0)) true 1))=_
      rw [aBo hi]
    rw [this,Ih]
  simp only [cJ,Nat.reduceAdd,e3]
  refine je ⟨.inr ⟨b,ext+1,.int .i64 0::rest,?_,p.own,by simp [hr],by omega,by omega⟩,rfl,c1.trans (p.chg.mono fun c _ e=>by rw [e]; rfl)⟩
  rw [hle]
theorem avV {p m:Nat} {v v':Nat→AV} {h:Heap} (hv:∀ k,k<7→∀ c,(v' k).blk=some c→(v k).blk=some c∨h.nx≤c) {c:Nat} (hc:fpB p m v' c):fpB p m v c∨h.nx≤c:=by
  rcases hc with e | e | ⟨k,hk,e⟩
  · exact .inl (.inl e)
  · exact .inl (.inr (.inl e))
  · rcases hv k hk c e with e | e
    · exact .inl (.inr (.inr ⟨k,hk,e⟩))
    · exact .inr e
theorem v_put {n:Nat} {h:Heap} (hro:h.ro≤h.nx) {p m:Nat} {v:Nat→AV} {s:BudZ} (b:BudIn h p m v s) {k:Nat} (hk:k<7) (hn:(s.free k).length<n) (hm:(s.free k).length+1≤1048576) (x:Int) :
    Run0 (fY n (.ptr p 0) x (k:Int) h) fun h'=>∃ y i,alG (s.free k) x i∧BudIn h' p m (upd v k y) { s with free:=upd s.free k (Dz (s.free k) i x) }∧(∀ c,y.blk=some c→h.nx≤c)∧Chg (fpB p m v) h h':=by
  unfold fY HF HN
  simp only [cJ,Nat.reduceAdd,KO hk,bM b.own.cl,aiB _ _ _ hk]
  refine Run2.bind (v_BS (b.lst k hk).ints (by have:=(b.lst k hk).small; omega) hn x) ?_
  rintro _ _ _ ⟨rfl,i,rfl,hi,_⟩
  simp only [cJ,Nat.reduceAdd,KO hk,bM b.own.cl,aiB _ _ _ hk]
  refine Run1.bind (arS hro (fun k=>by rfl)) ?_
  rintro _ h2 ⟨rfl,o2,g2⟩
  refine Run1.bind (r_insert (g2.le hro) ((b.lst k hk).grow g2) hi.1 o2 hm) ?_
  rintro y h3 ⟨l3,b3,c3⟩
  have n2:=g2.nx
  have o3:Own h3 p (ahz s.n v m) 0:=c3.own (b.own.grow g2) fun e=>(b.lst k hk).ne b.own e rfl
  refine Run0.bind (G1 o3 (by show 2+k<10; omega) (by rcases l3 with ⟨rfl,_⟩ | ⟨d,e,r,rfl,_⟩<;>rfl)) ?_
  intro h4 p4
  have c13:=(g2.chg (fun c=>(v k).blk=some c)).trans c3
  obtain ⟨q1,q2⟩:=b.row hk c13 l3 (fun c e=>.inr (by rw [b3] at e; cases e; exact n2)) p4
  exact ret0 ⟨y,i,hi,q1,fun c e=>by rw [b3] at e; cases e; exact n2,q2⟩
theorem ayb (b o:Nat) (c:Bool→CRes):ajj (.nil .ptr) (.ptr b o) .nilptr c=c false:=rfl
structure BudRd (h:Heap) (p m:Nat) (v:Nat→AV) (s:BudZ):Prop where
  cl:h.cl p (ahz s.n v m)
  len:∀ k,k<7→∀ K,fH (v k) K=K (s.free k).length
  small:∀ k,k<7→(s.free k).length≤1048576
theorem _root_.Go.Ai.BudIn.rd {h:Heap} {p m:Nat} {v:Nat→AV} {s:BudZ} (b:BudIn h p m v s):BudRd h p m v s:=⟨b.own.cl,fun k hk=>(b.lst k hk).len,fun k hk=>(b.lst k hk).small⟩
theorem BudRd.shut {h:Heap} {p m:Nat} {v:Nat→AV} {s:BudZ} (b:BudRd h p m v s):BudRd (h.shut true) p m v s:=⟨b.cl,b.len,b.small⟩
theorem ayU {n:Nat} {h:Heap} {p m:Nat} {v:Nat→AV} {s:BudZ} (b:BudRd h p m v s) (k:Bool→Heap→CRes):fF n (.ptr p 0) h k=k false h:=by
  unfold fF FD FI BE BF
  simp only [cJ,Nat.reduceAdd,ayb,Bool.xor_false,bM b.cl,bud_0,Bool.not_true]
def fU (s:BudZ):Nat→Nat
  | 0=>0
  | i+1=>fU s i+(s.free i).length*2^i
theorem axx {s:BudZ} (hs:∀ k,k<7→(s.free k).length≤1048576):∀ i,i≤7→fU s i≤1048576*2^i
  | 0,_=>by simp [fU]
  | i+1,hi=>by
    have h1:=axx hs i (by omega)
    have h2:=Nat.mul_le_mul_right (2^i) (hs i (by omega))
    rw [fU,Nat.pow_succ]
    omega
theorem v_Free_1 {n:Nat} {h:Heap} {p m:Nat} {v:Nat→AV} {s:BudZ} (b:BudRd h p m v s) (f1):∀ (q i:Nat),i≤7→7-i<q→
    Run1 (fun k=>pF n f1 k q (fU s i) (.agg [v 0,v 1,v 2,v 3,v 4,v 5,v 6]) i h) fun r h'=>r=fU s 7∧h'=h:=by
  have hs:=b.small
  intro q
  induction q with
  | zero=>omega
  | succ q ih=>
    intro i hi hq
    simp only [afa]
    unfold uV uR BX
    refine RunG.ifB (fun e=>?_) fun e=>?_
    · simp at e
      have hv:[v 0,v 1,v 2,v 3,v 4,v 5,v 6][i]'(by simpa using (by omega:i<7))=v i:=by
        match i,(show i<7 by omega) with
        | 0,_=>rfl | 1,_=>rfl | 2,_=>rfl | 3,_=>rfl | 4,_=>rfl | 5,_=>rfl | 6,_=>rfl
      have hp:2^i≤2^6:=Nat.pow_le_pow_right (by omega) (by omega)
      have hp7:2^i*2≤2^7:=by rw [← Nat.pow_succ]; exact Nat.pow_le_pow_right (by omega) (by omega)
      have h1:=axx hs i (by omega)
      have h2:=Nat.mul_le_mul (hs i (by omega)) hp
      have h3:=Nat.mul_le_mul_left 1048576 hp
      have e1:IntKind.i64.wrap (aly .i64 ((s.free i).length:Int) ((i:Int)).toNat)=(((s.free i).length*2^i:Nat):Int):=by
        have:aly .i64 ((s.free i).length:Int) ((i:Int)).toNat=(((s.free i).length*2^i:Nat):Int):=by
          unfold aly
          rw [Int.toNat_natCast,show min i IntKind.i64.bits=i by show min i 64=i; omega]
          simp
        rw [this,jU (by omega) (by omega)]
      have e2:IntKind.i64.wrap ((fU s i:Int)+(((s.free i).length*2^i:Nat):Int))=((fU s (i+1):Nat):Int):=by
        rw [jU (by omega) (by omega),fU]; omega
      simp only [cJ,Nat.reduceAdd,axc (l:=[v 0,v 1,v 2,v 3,v 4,v 5,v 6]) (n:=7) (i:=i) rfl (by omega),hv,b.len i (by omega),TZ (Int.natCast_nonneg i),e1,e2,fW (show i≤9223372036854775806 by omega)]
      exact ih (i+1) (by omega) (by omega)
    · simp at e
      have:i=7:=by omega
      subst this
      exact je ⟨rfl,rfl⟩
theorem ayR {n:Nat} (hn:10<n) {h:Heap} {p m:Nat} {v:Nat→AV} {s:BudZ} (b:BudRd h p m v s):Run1 (gc n (.ptr p 0) h) fun r h'=>r=fU s 7∧h'=h:=by
  unfold gc Fk FM
  simp only [cJ,Nat.reduceAdd,ayU b,bM b.cl,bud_sub]
  exact v_Free_1 b _ n 0 (by omega) (by omega)
def tL (s:BudZ) (o k kk:Nat) (at_:Int) (rest:List Int):BudZ:={ s with free:=fun j=>if j=k then rest else if kk≤j∧j<k then [at_+2^j] else s.free j }
theorem aBh {i:Nat} {x:Int} (h:alG [] x i):Dz [] i x = [x]:=by
  have:i=0:=by have:=h.1; simpa using this
  subst this; rfl
theorem abE {j:Nat} (hj:j<7):IntKind.i64.wrap (aly .i64 1 ((j:Int)).toNat)=(2:Int)^j∧(2:Int)^j≤64∧1≤(2:Int)^j:=by
  match j,hj with
  | 0,_=>decide | 1,_=>decide | 2,_=>decide | 3,_=>decide | 4,_=>decide | 5,_=>decide | 6,_=>decide
theorem v_Take_1 {n:Nat} (hn:10<n) {p m o k:Nat} {s:BudZ} {at_:Int} {rest:List Int} (ha:0≤at_∧at_≤100000) (hk:k<7) (hemp:∀ j,o≤j→j<k→s.free j = []) (f1 f2) :
    ∀ (q kk:Nat) (h:Heap) (v:Nat→AV),h.ro≤h.nx→o≤kk→kk≤k→kk-o<q→BudIn h p m v (tL s o k kk at_ rest)→
    Run2 (fun K=>pK n f1 f2 (fY n) K q (.ptr p 0) (o:Int) (kk:Int) at_ h) fun r e h'=>r=at_∧e=0∧∃ v',BudIn h' p m v' { tL s o k o at_ rest with taken:=Wl at_ o s.taken }∧
      (∀ j,j<7→∀ c,(v' j).blk=some c→(v j).blk=some c∨h.nx≤c)∧Chg (fpB p m v) h h':=by
  intro q
  induction q with
  | zero=>omega
  | succ q ih=>
    intro kk h v hro h1 h2 h3 b
    simp only [afj]
    unfold uI uN BO
    refine RunG.ifB (fun e=>?_) fun e=>?_
    · simp at e
      have hw:IntKind.i64.wrap ((kk:Int)-1)=((kk-1:Nat):Int):=by rw [jU (by omega) (by omega)]; omega
      obtain ⟨p1,p2,p3⟩:=abE (show kk-1<7 by omega)
      have p4:IntKind.i64.wrap (at_+(2:Int)^(kk-1))=at_+(2:Int)^(kk-1):=jU (by omega) (by omega)
      simp only [cJ,Nat.reduceAdd,hw,TZ (Int.natCast_nonneg (kk-1)),p1,p4]
      have hfr:(tL s o k kk at_ rest).free (kk-1) = []:=by
        simp only [tL]
        rw [if_neg (by omega),if_neg (by omega)]
        exact hemp _ (by omega) (by omega)
      refine Run0.bind (v_put hro b (k:=kk-1) (by omega) (by rw [hfr]; simp; omega) (by rw [hfr]; simp) (at_+2^(kk-1))) ?_
      rintro h4 ⟨y,i,hi,b4,hy,c4⟩
      rw [hfr] at hi
      rw [hfr,aBh hi] at b4
      have hst:({ tL s o k kk at_ rest with free:=upd (tL s o k kk at_ rest).free (kk-1) [at_+2^(kk-1)] }:BudZ)=tL s o k (kk-1) at_ rest:=by
        simp only [tL,BudZ.mk.injEq,true_and,and_true]
        funext j
        by_cases ej:j=kk-1
        · subst ej
          rw [dC,if_neg (by omega),if_pos (by omega)]
        · rw [dh _ _ ej]
          by_cases e1:j=k
          · rw [if_pos e1,if_pos e1]
          · rw [if_neg e1,if_neg e1]
            by_cases e2:kk≤j∧j<k
            · rw [if_pos e2,if_pos (by omega)]
            · rw [if_neg e2,if_neg (by omega)]
      rw [hst] at b4
      refine RunG.mono (ih (kk-1) h4 (upd v (kk-1) y) (c4.le hro) (by omega) (by omega) (by omega) b4) ?_
      rintro ⟨r,e',h'⟩ ⟨q1,q2,v',q3,q4,q5⟩
      have hsub:∀ j,j<7→∀ c,(upd v (kk-1) y j).blk=some c→(v j).blk=some c∨h.nx≤c:=by
        intro j hj c e1
        by_cases ej:j=kk-1
        · subst ej; rw [dC] at e1; exact .inr (hy c e1)
        · rw [dh _ _ ej] at e1; exact .inl e1
      refine ⟨q1,q2,v',q3,fun j hj c e1=>?_,?_⟩
      · rcases q4 j hj c e1 with e2 | e2
        · exact hsub j hj c e2
        · exact .inr (Nat.le_trans c4.nx e2)
      · refine ⟨Nat.le_trans c4.nx q5.nx,q5.ro.trans c4.ro,fun c hc hf=>?_⟩
        rw [q5.old c (Nat.lt_of_lt_of_le hc c4.nx) fun e1=>?_,c4.old c hc hf]
        rcases avV hsub e1 with e2 | e2
        · exact hf e2
        · omega
    · simp at e
      have:kk=o:=by omega
      subst this
      simp only [cJ,Nat.reduceAdd,bM b.own.cl,bud_9]
      refine Run0.bind (ax1 b.map at_ (kk:Int)) ?_
      rintro h4 ⟨m4,c4⟩
      refine XA ⟨rfl,rfl,v,⟨c4.own b.own (fun e=>b.map.ne b.own e.symm),m4,fun j hj=>(b.lst j hj).chg c4 fun c e1=>(b.lst j hj).neM b.map e1,b.dis⟩,fun j hj c e1=>.inl e1,c4.mono fun c _ e1=>.inr (.inl e1)⟩
def Takes (h:Heap) (p m:Nat) (v:Nat→AV) (s:BudZ) (o:Nat) (r e:Int) (h':Heap):Prop:=
  (r=0∧e=90∧h'=h∧∀ j,o≤j→j<7→s.free j = [])∨
  (e=0∧∃ k rest v',o≤k∧k<7∧s.free k=r::rest∧(∀ j,o≤j→j<k→s.free j = [])∧BudIn h' p m v' { tL s o k o r rest with taken:=Wl r o s.taken }∧
    (∀ j,j<7→∀ c,(v' j).blk=some c→(v j).blk=some c∨h.nx≤c)∧Chg (fpB p m v) h h')
def ar6 (s:BudZ):Prop:=∀ k,k<7→∀ x∈s.free k,0≤x∧x≤100000
theorem v_Take_3 {n:Nat} (hn:10<n) {h:Heap} (hro:h.ro≤h.nx) {p m o:Nat} {v:Nat→AV} {s:BudZ} (hs:ar6 s) (b:BudIn h p m v s) (f1) :
    ∀ (q k:Nat),o≤k→k≤7→7-k<q→(∀ j,o≤j→j<k→s.free j = [])→
    Run2 (fun K=>pJ n f1 (eo n) (fY n) K q (.ptr p 0) (o:Int) (k:Int) h) (Takes h p m v s o):=by
  intro q
  induction q with
  | zero=>omega
  | succ q ih=>
    intro k h1 h2 h3 hemp
    simp only [afo]
    unfold uG uT Bx BA BL
    refine RunG.ifB (fun e=>?_) fun e=>?_
    · simp at e
      have hk:k<7:=by omega
      have e6:decide ((6:Int)<(k:Int))=false:=by simp; omega
      simp only [cJ,Nat.reduceAdd,KO hk,bM b.own.cl,aiB _ _ _ hk,(b.lst k hk).len,e6,fW (show k≤9223372036854775806 by omega)]
      refine RunG.ifB (fun e1=>?_) fun e1=>?_
      · simp at e1
        refine ih (k+1) (by omega) (by omega) (by omega) fun j hj hj'=>?_
        by_cases ej:j=k
        · subst ej; exact e1
        · exact hemp j hj (by omega)
      · simp at e1
        obtain ⟨x,rest,hx⟩:∃ x rest,s.free k=x::rest:=by
          cases hq:s.free k with
          | nil=>exact (e1 hq).elim
          | cons x rest=>exact ⟨x,rest,rfl⟩
        have hpos:0<(s.free k).length:=by rw [hx]; simp
        have hnz:nz (s.free k) 0=x:=by rw [hx]; rfl
        have hel:=(b.lst k hk).ints.elN (i:=0) hpos
        rw [hnz] at hel
        have hel':∀ K,Lw .i64 1 h (v k) 0 K=K (elP (v k) 1 0) x:=hel
        simp only [cJ,Nat.reduceAdd,hel']
        refine Run1.bind (axN (n:=n) (b.lst k hk) (i:=0) hpos) ?_
        rintro y h4 ⟨l4,b4,c4⟩
        have o4:Own h4 p (ahz s.n v m) 0:=c4.own b.own fun e=>(b.lst k hk).ne b.own e rfl
        refine Run0.bind (G1 o4 (by show 2+k<10; omega) (by rcases l4 with ⟨rfl,_⟩ | ⟨d,e,r,rfl,_⟩<;>rfl)) ?_
        intro h5 p5
        obtain ⟨q1,q2⟩:=b.row hk c4 l4 (fun c e=>.inl (by rw [b4] at e; exact e)) p5
        have hd:(s.free k).eraseIdx 0=rest:=by rw [hx]; rfl
        rw [hd] at q1
        have hst:({ s with free:=upd s.free k rest }:BudZ)=tL s o k k x rest:=by
          simp only [tL,BudZ.mk.injEq,true_and,and_true]
          funext j
          by_cases ej:j=k
          · subst ej; rw [dC,if_pos rfl]
          · rw [dh _ _ ej,if_neg ej,if_neg (by omega)]
        rw [hst] at q1
        have hxs:=hs k hk x (by rw [hx]; simp)
        refine RunG.mono (v_Take_1 hn (o:=o) (k:=k) hxs hk hemp f1 (eo n) n k h5 _ (q2.le hro) h1 (Nat.le_refl _) (by omega) q1) ?_
        rintro ⟨r,e',h'⟩ ⟨r1,r2,v',r3,r4,r5⟩
        have hsub:∀ j,j<7→∀ c,(upd v k y j).blk=some c→(v j).blk=some c∨h.nx≤c:=by
          intro j hj c e1
          by_cases ej:j=k
          · subst ej; rw [dC,b4] at e1; exact .inl e1
          · rw [dh _ _ ej] at e1; exact .inl e1
        dsimp only at r1 r2
        subst r1 r2
        refine .inr ⟨rfl,k,rest,v',h1,hk,hx,hemp,r3,fun j hj c e1=>?_,?_⟩
        · rcases r4 j hj c e1 with e2 | e2
          · exact hsub j hj c e2
          · exact .inr (Nat.le_trans q2.nx e2)
        · refine ⟨Nat.le_trans q2.nx r5.nx,r5.ro.trans q2.ro,fun c hc hf=>?_⟩
          rw [r5.old c (Nat.lt_of_lt_of_le hc q2.nx) fun e1=>?_,q2.old c hc hf]
          rcases avV hsub e1 with e2 | e2
          · exact hf e2
          · omega
    · simp at e
      have:k=7:=by omega
      subst this
      simp only [cJ,Nat.reduceAdd]
      exact XA (.inl ⟨rfl,rfl,rfl,hemp⟩)
theorem v_Take {n:Nat} (hn:10<n) {h:Heap} (hro:h.ro≤h.nx) {p m o:Nat} {v:Nat→AV} {s:BudZ} (hs:ar6 s) (b:BudIn h p m v s) (ho:o<7):Run2 (me n (.ptr p 0) (o:Int) h) (Takes h p m v s o):=by
  unfold me Fm F6 Bz B1
  have e1:decide ((o:Int)<0)=false:=by simp
  have e2:decide ((6:Int)<(o:Int))=false:=by simp; omega
  simp only [cJ,Nat.reduceAdd,ayU b.rd,e1,e2]
  exact v_Take_3 hn hro hs b _ n o (by omega) (by omega) (by omega) fun j h1 h2=>by omega
end Go.Proofs.YtnlbfbiogfilfaaGreat.Sh
/- A new buddy, by the code. -/
namespace Go.Proofs.YtnlbfbiogfilfaaGreat.Sh
open Go.Ai
def pH (k:Nat) (l:List Int) (x:Int):Nat:=l.countP fun a=>decide (a≤x∧x<a+2^k)
def mult (s:BudZ) (x:Int):Nat:=pH 0 (s.free 0) x+pH 1 (s.free 1) x+pH 2 (s.free 2) x+pH 3 (s.free 3) x+pH 4 (s.free 4) x+pH 5 (s.free 5) x+pH 6 (s.free 6) x
structure Making (n at_ o:Nat) (s:BudZ):Prop where
  hn:s.n=n
  ht:s.taken = []
  hm:∀ x,mult s x=if 0≤x∧x<at_ then 1 else 0
  hs:∀ k,k<7→∀ a∈s.free k,0≤a∧a<n
  hl:∀ k,k<7→(s.free k).length≤at_
  hb:0<at_→∀ j,j<7→2^j≤n→∃ k,j≤k∧k<7∧s.free k≠[]
  ho:o<7
  hf:at_=0→∀ j,j<7→2^j≤n→j≤o
  sum:fU s 7=at_
  nal:at_%2^o=0
  nfr:∀ k,k<7→∀ a∈s.free k,a%2^k=0∧a+2^k≤at_
  ninc:∀ k,k<7→(s.free k).Pairwise (· < ·)
  nsm:∀ k,k<6→(s.free k).length≤1
  nlow:∀ k,k<o→s.free k = []
  nrem:o<6→n<at_+2^(o+1)
  nle:o<6→s.free o≠[]→n<at_+2^o
theorem arQ (s:BudZ) (k:Nat) (a:Int):∀ i,fU { s with free:=upd s.free k (s.free k++[a]) } i=fU s i+if k<i then 2^k else 0
  | 0=>rfl
  | i+1=>by
    rw [fU,fU,arQ s k a i]
    by_cases e:i=k
    · subst e
      rw [if_neg (by omega),if_pos (by omega)]
      show _+(upd s.free i (s.free i++[a]) i).length*_=_
      rw [dC,List.length_append,List.length_singleton,Nat.add_mul]
      omega
    · show _+(upd s.free k (s.free k++[a]) i).length*_=_
      rw [dh _ _ e]
      by_cases h:k<i
      · rw [if_pos h,if_pos (by omega)]; omega
      · rw [if_neg h,if_neg (by omega)]; omega
theorem mult_upd {s:BudZ} {k:Nat} (hk:k<7) (a:Int) (x:Int):mult { s with free:=upd s.free k (s.free k++[a]) } x=mult s x+if a≤x∧x<a+2^k then 1 else 0:=by
  have e:∀ j,pH j (upd s.free k (s.free k++[a]) j) x=pH j (s.free j) x+if j=k then (if a≤x∧x<a+2^k then 1 else 0) else 0:=by
    intro j
    by_cases hj:j=k
    · subst hj
      rw [dC,if_pos rfl]
      unfold pH
      rw [List.countP_append]
      congr 1
      by_cases h:a≤x∧x<a+2^j<;>simp [List.countP_cons,h]
    · rw [dh _ _ hj,if_neg hj,Nat.add_zero]
  unfold mult
  simp only [e]
  match k,hk with
  | 0,_=>simp; omega
  | 1,_=>simp; omega
  | 2,_=>simp; omega
  | 3,_=>simp; omega
  | 4,_=>simp; omega
  | 5,_=>simp; omega
  | 6,_=>simp; omega
theorem aca {j:Nat} (hj:j<7):((2^j:Nat):Int)=(2:Int)^j∧1≤2^j∧2^j≤64:=by
  match j,hj with
  | 0,_=>decide | 1,_=>decide | 2,_=>decide | 3,_=>decide | 4,_=>decide | 5,_=>decide | 6,_=>decide
theorem Making.step {n at_ o:Nat} {s:BudZ} (mk:Making n at_ o s) (hn:at_+2^o≤n):Making n (at_+2^o) o { s with free:=upd s.free o (s.free o++[(at_:Int)]) }:=by
  have ho:=mk.ho
  obtain ⟨p0,p1,p2⟩:=aca ho
  refine ⟨mk.hn,mk.ht,fun x=>?_,fun k hk a ha=>?_,fun k hk=>?_,fun _ j hj hjn=>?_,ho,fun h=>by omega,by rw [arQ,mk.sum,if_pos ho],by rw [Nat.add_mod_right]; exact mk.nal,fun k hk a ha=>?_,fun k hk=>?_,fun k hk=>?_,fun k hk=>?_,fun h6=>by have:=mk.nrem h6; omega,fun h6 _=>by have:=mk.nrem h6; rw [Nat.pow_succ] at this; omega⟩
  · rw [mult_upd ho,mk.hm, ← p0]
    by_cases h1:0≤x∧x<at_
    · rw [if_pos h1,if_neg (by omega),if_pos (by omega)]
    · rw [if_neg h1]
      by_cases h2:(at_:Int)≤x∧x<at_+((2^o:Nat):Int)
      · rw [if_pos h2,if_pos (by omega)]
      · rw [if_neg h2,if_neg (by omega)]
  · by_cases e:k=o
    · subst e
      have ha':a∈upd s.free k (s.free k++[(at_:Int)]) k:=ha
      rw [dC,List.mem_append,List.mem_singleton] at ha'
      rcases ha' with h | h
      · exact mk.hs k hk a h
      · subst h; omega
    · have ha':a∈upd s.free o (s.free o++[(at_:Int)]) k:=ha
      rw [dh _ _ e] at ha'
      exact mk.hs k hk a ha'
  · by_cases e:k=o
    · subst e
      show (upd s.free k (s.free k++[(at_:Int)]) k).length≤_
      rw [dC,List.length_append,List.length_singleton]
      have:=mk.hl k hk
      omega
    · show (upd s.free o (s.free o++[(at_:Int)]) k).length≤_
      rw [dh _ _ e]
      have:=mk.hl k hk
      omega
  · by_cases h0:at_=0
    · refine ⟨o,mk.hf h0 j hj hjn,ho,?_⟩
      show upd s.free o (s.free o++[(at_:Int)]) o≠[]
      rw [dC]; simp
    · obtain ⟨k,h1,h2,h3⟩:=mk.hb (by omega) j hj hjn
      refine ⟨k,h1,h2,?_⟩
      show upd s.free o (s.free o++[(at_:Int)]) k≠[]
      by_cases e:k=o
      · subst e; rw [dC]; simp
      · rw [dh _ _ e]; exact h3
  · by_cases e:k=o
    · subst e
      have ha':a∈upd s.free k (s.free k++[(at_:Int)]) k:=ha
      rw [dC,List.mem_append,List.mem_singleton] at ha'
      rcases ha' with h | h
      · obtain ⟨h1,h2⟩:=mk.nfr k hk a h
        exact ⟨h1,by omega⟩
      · subst h
        have:=mk.nal
        refine ⟨?_,by omega⟩
        rw [← p0]; omega
    · have ha':a∈upd s.free o (s.free o++[(at_:Int)]) k:=ha
      rw [dh _ _ e] at ha'
      obtain ⟨h1,h2⟩:=mk.nfr k hk a ha'
      exact ⟨h1,by omega⟩
  · by_cases e:k=o
    · subst e
      show (upd s.free k (s.free k++[(at_:Int)]) k).Pairwise _
      rw [dC,List.pairwise_append]
      refine ⟨mk.ninc k hk,by simp,fun c hc d hd=>?_⟩
      simp at hd
      subst hd
      have h2:=(mk.nfr k hk c hc).2
      have h3:=(aca hk).2.1
      have h4:=(aca hk).1
      omega
    · show (upd s.free o (s.free o++[(at_:Int)]) k).Pairwise _
      rw [dh _ _ e]
      exact mk.ninc k hk
  · by_cases e:k=o
    · subst e
      show (upd s.free k (s.free k++[(at_:Int)]) k).length≤1
      rw [dC]
      have h0:s.free k = []:=by
        by_cases h:s.free k = []
        · exact h
        · have:=mk.nle hk h; omega
      rw [h0]; simp
    · show (upd s.free o (s.free o++[(at_:Int)]) k).length≤1
      rw [dh _ _ e]
      exact mk.nsm k hk
  · show upd s.free o (s.free o++[(at_:Int)]) k = []
    rw [dh _ _ (by omega)]
    exact mk.nlow k hk
theorem Making.fall {n at_ o:Nat} {s:BudZ} (mk:Making n at_ o s) (ha:at_<n) (hn:n<at_+2^o):0<o∧Making n at_ (o-1) s:=by
  have h0:0<o:=by
    rcases Nat.eq_zero_or_pos o with h | h
    · subst h; simp at hn; omega
    · exact h
  refine ⟨h0,mk.hn,mk.ht,mk.hm,mk.hs,mk.hl,mk.hb,by have:=mk.ho; omega,fun h j hj hjn=>?_,mk.sum,by
    have h1:=mk.nal
    have h2:2^o=2^(o-1)*2:=by rw [← Nat.pow_succ]; congr 1; omega
    rw [h2] at h1
    exact Nat.mod_eq_zero_of_dvd (Nat.dvd_trans (Nat.dvd_mul_right _ _) (Nat.dvd_of_mod_eq_zero h1)),mk.nfr,mk.ninc,mk.nsm,fun k hk=>mk.nlow k (by omega),fun _=>by rw [show o-1+1=o by omega]; exact hn,fun _ h=>(h (mk.nlow (o-1) (by omega))).elim⟩
  have h1:=mk.hf h j hj hjn
  by_cases e:j=o
  · subst e; omega
  · omega
def ak6 (h0 h:Heap) (p m:Nat) (v:Nat→AV) (s:BudZ):Prop:=BudIn h p m v s∧(∀ c,fpB p m v c→h0.nx≤c)∧Grow h0 h
theorem v_New_3 {R:Type} {ap:nw→R→CRes} {Q:R→Prop} {n N at_:Nat} {h0:Heap} (hro0:h0.ro≤h0.nx) {p m:Nat} {v:Nat→AV} {s:BudZ} {h:Heap} (b:ak6 h0 h p m v s) (hN:N≤4096) (ha:at_<N) {J:nw→Int→AV→Int→Int→Heap→CRes}
    (hJ:∀ o' h' v' s',ak6 h0 h' p m v' s'→Making N (at_+2^o') o' s'→at_+2^o'≤N→RunG ap (fun k=>J k N (.ptr p 0) ((at_+2^o':Nat):Int) (o':Int) h') Q) :
    ∀ (w o:Nat),o<w→Making N at_ o s→RunG ap (fun k=>Bl n k (J k) w N (.ptr p 0) (at_:Int) (o:Int) h) Q:=by
  intro w
  induction w with
  | zero=>omega
  | succ w ih=>
    intro o hw mk
    simp only [at6]
    unfold OP O5 XX
    have ho:=mk.ho
    obtain ⟨p0,p1,p2⟩:=aca ho
    obtain ⟨q1,q2,q3⟩:=abE ho
    have e1:IntKind.i64.wrap ((at_:Int)+(2:Int)^o)=((at_+2^o:Nat):Int):=by rw [jU (by omega) (by omega)]; omega
    simp only [cJ,Nat.reduceAdd,TZ (Int.natCast_nonneg o),q1,e1]
    refine RunG.ifB (fun e=>?_) fun e=>?_
    · simp only [decide_eq_true_eq] at e
      obtain ⟨h1,h2⟩:=mk.fall ha (by omega)
      have e2:IntKind.i64.wrap ((o:Int)-1)=((o-1:Nat):Int):=by rw [jU (by omega) (by omega)]; omega
      rw [e2]
      exact ih (o-1) (by omega) h2
    · simp only [decide_eq_false_iff_not] at e
      obtain ⟨bi,hf,g⟩:=b
      have hro:=g.le hro0
      simp only [cJ,Nat.reduceAdd,KO ho,bM bi.own.cl,aiB _ _ _ ho]
      refine Run1.bind (Ip (fun k=>by rfl)) ?_
      rintro _ h2 ⟨rfl,c2,g2⟩
      have hlen:=mk.hl o ho
      refine Run1.bind (aiJ (g2.le hro) ((bi.lst o ho).grow g2) c2 (by omega)) ?_
      rintro y h3 ⟨l3,b3,c3⟩
      have o3:Own h3 p (ahz s.n v m) 0:=c3.own (bi.own.grow g2) fun e=>(bi.lst o ho).ne bi.own e rfl
      refine Run0.bind (G1 o3 (by show 2+o<10; omega) (by rcases l3 with ⟨rfl,_⟩ | ⟨d,e,r,rfl,_⟩<;>rfl)) ?_
      intro h4 p4
      have c13:=(g2.chg (fun c=>(v o).blk=some c)).trans c3
      have hy:∀ c,y.blk=some c→(v o).blk=some c∨h.nx≤c:=fun c e=>by
        rcases b3 c e with h | h
        · exact .inl h
        · exact .inr (Nat.le_trans g2.nx h)
      obtain ⟨r1,r2⟩:=bi.row ho c13 l3 hy p4
      have hn:at_+2^o≤N:=by omega
      refine hJ o h4 _ _ ⟨r1,fun c hc=>?_,r2.grow g hf⟩ (mk.step hn) hn
      have hsub:∀ j,j<7→∀ c,(upd v o y j).blk=some c→(v j).blk=some c∨h.nx≤c:=by
        intro j hj c e1
        by_cases ej:j=o
        · subst ej; rw [dC] at e1; exact hy c e1
        · rw [dh _ _ ej] at e1; exact .inl e1
      rcases avV hsub hc with e2 | e2
      · exact hf c e2
      · exact Nat.le_trans g.nx e2
theorem v_New_1 {n N:Nat} (hn:10<n) (hN:N≤4096) {h0:Heap} (hro0:h0.ro≤h0.nx) {p m:Nat}:∀ (q at_ o:Nat) (h:Heap) (v:Nat→AV) (s:BudZ),ak6 h0 h p m v s→Making N at_ o s→at_≤N→N-at_<q→
    Run2 (fun k=>Bp n k q N (.ptr p 0) (at_:Int) (o:Int) h) fun r e h'=>r = .ptr p 0∧e=0∧∃ v' s' o',ak6 h0 h' p m v' s'∧Making N N o' s':=by
  intro q
  induction q with
  | zero=>omega
  | succ q ih=>
    intro at_ o h v s b mk ha hq
    simp only [aur]
    unfold OR OV X6
    refine RunG.ifB (fun e=>?_) fun e=>?_
    · simp at e
      refine v_New_3 (J:=fun k=>Bp n k q) hro0 b hN e (fun o' h' v' s' b' mk' hle=>?_) n o (by have:=mk.ho; omega) mk
      obtain ⟨p0,p1,p2⟩:=aca mk'.ho
      exact ih _ o' h' v' s' b' mk' hle (by omega)
    · simp at e
      have:at_=N:=by omega
      subst this
      exact XA ⟨rfl,rfl,v,s,o,b,mk⟩
theorem v_New {n N:Nat} (hn:10<n) (hN:N≤4096) (hnN:N<n) {h:Heap} (hro:h.ro≤h.nx):Run2 (DC n (N:Int) h) fun r e h'=>e=0∧∃ p m v s o,r = .ptr p 0∧ak6 h h' p m v s∧Making N N o s:=by
  unfold DC af0 afH Ys Yd
  have e1:decide ((N:Int)<0)=false:=by simp
  have e2:decide ((4096:Int)<(N:Int))=false:=by simp; omega
  simp only [cJ,Nat.reduceAdd,e1,e2,uE]
  have hm:MapI (h.add (.mp [])) h.nx .i64 []:=⟨by simp,by simpa using hro,by rw [Heap.get_add,if_pos rfl]; rfl⟩
  have g1:Grow h (h.add (.mp [])):=Grow.add
  have hb:∀ K,yL [.bool false,.int .i64 0,.nilslice,.nilslice,.nilslice,.nilslice,.nilslice,.nilslice,.nilslice,.nilmap] [(0,1,.bool true),(1,1,.int .i64 (N:Int)),(9,1,.map h.nx)] K=K (.agg (ahz N (fun _=>.nilslice) h.nx)):=fun K=>rfl
  simp only [cJ,Nat.reduceAdd,hb]
  have box:Run1 (Dh (h.add (.mp [])) (.agg (ahz N (fun _=>.nilslice) h.nx))) fun x h'=>Own h' x (ahz N (fun _=>.nilslice) h.nx) 0∧(h.add (.mp [])).nx≤x∧Grow (h.add (.mp [])) h':=
    ⟨((h.add (.mp [])).nx,(h.add (.mp [])).add (.cells (ahz N (fun _=>.nilslice) h.nx) true 0)),⟨⟨by simp,by simp; omega,by rw [Heap.get_add,if_pos rfl]⟩,Nat.le_refl _,Grow.add⟩,fun k=>at1 ..⟩
  refine Run1.bind box ?_
  rintro x h2 ⟨ox,hx,g2⟩
  have hx':h.nx≤x:=Nat.le_trans g1.nx hx
  have b:ak6 h h2 x h.nx (fun _=>.nilslice) ⟨N,fun _=>[],[]⟩:=by
    refine ⟨⟨ox,hm.chg (g2.chg fun _=>False) (fun h=>h),fun k hk=>.nil,fun j k _ _ _ c e=>by cases e⟩,fun c hc=>?_,g1.trans g2⟩
    rcases hc with e | e | ⟨k,hk,e⟩
    · subst e; exact hx'
    · subst e; exact Nat.le_refl _
    · cases e
  have mk:Making N 0 6 ⟨N,fun _=>[],[]⟩:=by
    refine ⟨rfl,rfl,fun y=>?_,fun k hk a ha=>(nomatch ha),fun k hk=>Nat.le_refl 0,fun h=>absurd h (by omega),by omega,fun _ j hj _=>by omega,by simp [fU],by simp,fun k hk a ha=>(nomatch ha),fun k hk=>.nil,fun k hk=>Nat.zero_le _,fun k hk=>rfl,fun h=>absurd h (by omega),fun h=>absurd h (by omega)⟩
    rw [if_neg (by simp)]; rfl
  refine RunG.mono (v_New_1 hn hN hro n 0 6 h2 _ _ b mk (by omega) (by omega)) ?_
  rintro ⟨r,e,h'⟩ ⟨rfl,rfl,v',s',o',b',mk'⟩
  exact ⟨rfl,x,h.nx,v',s',o',rfl,b',mk'⟩
end Go.Proofs.YtnlbfbiogfilfaaGreat.Sh
