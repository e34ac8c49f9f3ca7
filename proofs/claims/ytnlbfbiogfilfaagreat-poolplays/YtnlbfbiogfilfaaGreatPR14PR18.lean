/- The document's buddy: its lists are those of the one form. -/
import Derived.Test.YtnlbfbiogfilfaaGreatPQFnPR13
set_option linter.all false
namespace Go.Proofs.YtnlbfbiogfilfaaGreat.Sh
open Go.Ai
structure fL (r:RB) (s:cw):Prop where
  norm:fS s
  op:∀ x,x<r.n→r.op x=decide (1≤mult s (x:Int))
  off:∀ x:Int,(r.n:Int)≤x→mult s x=0
  small:r.n≤4096
theorem fL.opens {r:RB} {s:cw} (t:fL r s) {at_ k:Nat}:ao5 r at_ (2^k)=true↔OpenB s (at_:Int) k:=by
  have hc:((2^k:Nat):Int)=(2:Int)^k:=by simp
  have hp:=Nat.one_le_two_pow (n:=k)
  unfold ao5 OpenB
  rw [iw,iz,jb]
  constructor
  · rintro ⟨h1,h2⟩ x h3 h4
    obtain ⟨y,rfl⟩:=iM (show 0≤x by omega)
    have:=h2 y (List.mem_range'_1.2 ⟨by omega,by omega⟩)
    rw [t.op y (by omega),iz] at this
    exact this
  · intro h
    have hle:at_+2^k≤r.n:=by
      rcases io r.n (at_+2^k) with h1 | h1
      · have h2:=h (at_+2^k-1) (by omega) (by omega)
        have:=t.off ((at_:Int)+2^k-1) (by omega)
        omega
      · exact h1
    refine ⟨hle,fun y hy=>?_⟩
    have hy':=List.mem_range'_1.1 hy
    rw [t.op y (by omega),iz]
    exact h y (by omega) (by omega)
structure L7 (h:ad) (b:Nat) (vs:Nat→AV) (ls:Nat→List Int):Prop where
  own:Own h b ((List.range 7).map vs) 0
  lst:∀ k,k<7→Lst h (vs k) (ls k)
  dis:∀ j k,j<7→k<7→j≠k→∀ c,(vs j).blk=some c→(vs k).blk≠some c
theorem L7.at_ {vs:Nat→AV} {k:Nat} (hk:k<7):((List.range 7).map vs)[k]?=some (vs k):=by simp [List.getElem?_range hk]
theorem L7.cong {h:ad} {b:Nat} {vs:Nat→AV} {ls ls':Nat→List Int} (l:L7 h b vs ls) (e:∀ k,k<7→ls' k=ls k):L7 h b vs ls':=⟨l.own,fun k hk=>by rw [e k hk]; exact l.lst k hk,l.dis⟩
theorem L7.grow {h h':ad} {b:Nat} {vs:Nat→AV} {ls:Nat→List Int} (l:L7 h b vs ls) (g:be h h'):L7 h' b vs ls:=⟨l.own.grow g,fun k hk=>(l.lst k hk).grow g,l.dis⟩
def fp7 (b:Nat) (vs:Nat→AV) (c:Nat):Prop:=c=b∨∃ k,k<7∧(vs k).blk=some c
abbrev kRL:=fV
theorem aEE {R:Type} {ap:kRL→R→ah} {Q:R→Prop} {n:Nat} {h0 h:ad} (hro:h0.ro≤h0.nx) {p b:Nat} {vs:Nat→AV} {ls:Nat→List Int} (l:L7 h b vs ls) (hlow:∀ c,fp7 b vs c→h0.nx≤c) (g:be h0 h) {at_ j:Nat} (ha:at_≤100000) (hj:j<7) (hlen:(ls j).length≤100000) (f1) {J:kRL→AV→AV→Int→ad→ah}
    (hJ:∀ h' vs',L7 h' b vs' (upd ls j (ls j++[(at_:Int)]))→(∀ c,fp7 b vs' c→h0.nx≤c)→be h0 h'→aL ap (fun k=>J k (.ptr p 0) (Yu b 7) ((at_+2^j:Nat):Int) h') Q) :
    aL ap (fun k=>qL n f1 k (J k) (.ptr p 0) (Yu b 7) (at_:Int) (j:Int) h) Q:=by
  unfold qL
  obtain ⟨p0,p1,p2⟩:=Ov hj
  obtain ⟨q1,q2,q3⟩:=aaQ hj
  simp only [aFH hj l.own.cl (L7.at_ hj)]
  refine aF.bind (Dv (fun k=>by rfl)) ?_
  rintro _ h13 ⟨rfl,c13,g13⟩
  have l13:=l.grow g13
  have gg:=g.trans g13
  refine aF.bind (aaA (gg.le hro) (l13.lst j hj) c13 (by omega)) ?_
  rintro v' h15 ⟨l15,b15,c15⟩
  have nb:∀ k,k<7→(vs k).blk≠some b:=fun k hk e=>by
    rcases l.lst k hk with ⟨e1,_⟩ | ⟨d,e1,rr,e2,ow,_⟩
    · rw [e1] at e; cases e
    · rw [e2] at e; cases e
      have:=l.own.get.symm.trans ow.get
      simp at this
  have o15:Own h15 b ((List.range 7).map vs) 0:=c15.own l13.own (nb j hj)
  simp only [aeZ hj]
  refine ed.bind (uI o15 (by simp; exact hj) (by rcases l15 with ⟨rfl,_⟩ | ⟨d,e,rr,rfl,_⟩<;>rfl)) ?_
  intro h17 p17
  have hset:((List.range 7).map vs).set j v'=(List.range 7).map (upd vs j v'):=by
    apply List.ext_getElem?
    intro i
    rw [List.getElem?_set]
    by_cases hi:i<7
    · have eR:((List.range 7).map (upd vs j v'))[i]?=some (upd vs j v' i):=L7.at_ hi
      have eL:((List.range 7).map vs)[i]?=some (vs i):=L7.at_ hi
      rw [eR]
      by_cases e:j=i
      · subst e; rw [if_pos rfl,if_pos (by simp; exact hj),lm]
      · rw [if_neg e,eL,kX _ _ (fun h=>e h.symm)]
    · have e1:((List.range 7).map (upd vs j v'))[i]?=none:=iK (by simp; omega)
      rw [e1,if_neg (by omega)]
      exact iK (by simp; omega)
  have o17:=p17.own
  rw [hset] at o17
  have w1:IntKind.i64.wrap ((at_:Int)+2^j)=((at_+2^j:Nat):Int):=by rw [rK (by omega) (by omega)]; omega
  simp only [au,IL (il j),q1,w1]
  have n13:=g13.nx
  have blt:b<h13.nx:=l13.own.lt
  have hv':∀ c,v'.blk=some c→(vs j).blk=some c∨h13.nx≤c:=b15
  have vlt:∀ k,k<7→∀ c,(vs k).blk=some c→c<h13.nx:=fun k hk c e=>((l13.lst k hk).lt e).1
  have vb:∀ c,v'.blk=some c→c≠b:=fun c e=>by
    rcases hv' c e with h1 | h1
    · intro e2; subst e2; exact nb j hj h1
    · omega
  refine hJ h17 (upd vs j v') ⟨o17,fun k hk=>?_,fun i k hi hk hik c e1 e2=>?_⟩ (fun c hc=>?_) ?_
  · by_cases e:k=j
    · subst e; rw [lm,lm]; exact l15.chg p17.chg fun c e1 e2=>vb c e1 e2
    · rw [kX _ _ e,kX _ _ e]
      exact ((l13.lst k hk).chg c15 fun c e1 e2=>l.dis k j hk hj e c e1 e2).chg p17.chg fun c e1 e2=>nb k hk (by rw [← e2]; exact e1)
  · by_cases ei:i=j
    · subst ei
      rw [lm] at e1
      rw [kX _ _ (fun h=>hik h.symm)] at e2
      rcases hv' c e1 with h1 | h1
      · exact l.dis i k hi hk hik c h1 e2
      · have:=vlt k hk c e2; omega
    · rw [kX _ _ ei] at e1
      by_cases ek:k=j
      · subst ek
        rw [lm] at e2
        rcases hv' c e2 with h1 | h1
        · exact l.dis i k hi hk hik c e1 h1
        · have:=vlt i hi c e1; omega
      · rw [kX _ _ ek] at e2
        exact l.dis i k hi hk hik c e1 e2
  · have hg:=gg.nx
    rcases hc with rfl | ⟨k,hk,e⟩
    · exact hlow _ (.inl rfl)
    · by_cases ek:k=j
      · subst ek
        rw [lm] at e
        rcases hv' c e with h1 | h1
        · exact hlow c (.inr ⟨k,hk,h1⟩)
        · omega
      · rw [kX _ _ ek] at e
        exact hlow c (.inr ⟨k,hk,e⟩)
  · exact p17.grow (c15.grow gg fun c e=>hlow c (.inr ⟨j,hj,e⟩)) (hlow b (.inl rfl))
end Go.Proofs.YtnlbfbiogfilfaaGreat.Sh
/- The document's buddy: all of its lists. -/
namespace Go.Proofs.YtnlbfbiogfilfaaGreat.Sh
open Go.Ai
theorem sh2_wrap {k:Nat} (hk:k<6):IntKind.i64.wrap (an4 .i64 2 ((k:Int)).toNat)=(2:Int)^(k+1):=by
  rcases ago (show k<7 by omega) with rfl | rfl | rfl | rfl | rfl | rfl | rfl<;>first | (exfalso; omega) | decide
theorem aFh {R:Type} {ap:kRL→R→ah} {Q:R→Prop} {n:Nat} (hn:6000<n) {h0 h:ad} (hro:h0.ro≤h0.nx) {p bo bt b:Nat} {r:RB} {s:cw} (rb:fe h p bo bt r) (t:fL r s) {vs:Nat→AV} {ls:Nat→List Int} (l:L7 h b vs ls) (hlow:∀ c,fp7 b vs c→h0.nx≤c) (g:be h0 h) {at_ j:Nat} (ha:at_≤5000) (hj:j<7) (hm:(at_:Int)∈s.free j) (hlen:(ls j).length≤100000) {J:kRL→AV→AV→Int→ad→ah}
    (hJ:∀ h' vs',L7 h' b vs' (upd ls j (ls j++[(at_:Int)]))→(∀ c,fp7 b vs' c→h0.nx≤c)→be h0 h'→aL ap (fun k=>J k (.ptr p 0) (Yu b 7) ((at_+2^j:Nat):Int) h') Q):∀ (q k0:Nat),k0≤j→j-k0<q→
    aL ap (fun k=>sW n (ci n) k (J k) q (.ptr p 0) (Yu b 7) (at_:Int) (k0:Int) h) Q:=by
  intro q
  have fin:aL ap (fun k=>qL n (ci n) k (J k) (.ptr p 0) (Yu b 7) (at_:Int) (j:Int) h) Q:=aEE hro l hlow g (by omega) hj hlen _ hJ
  obtain ⟨a0,a1⟩:=t.norm.al j hj _ hm
  induction q with
  | zero=>omega
  | succ q ih=>
    intro k0 hk hq
    simp only [Yl]
    unfold sJ sV sT
    have hp1:=UU (k0+1)
    by_cases h6:k0<6
    · have t6:decide ((k0:Int)<6)=true:=iO (by omega)
      have hmod:((at_:Int)).tmod (2^(k0+1))=(at_:Int)%2^(k0+1):=Int.tmod_eq_emod_of_nonneg (by omega)
      simp only [au,t6,IL (il k0),sh2_wrap h6,aqo (show ((2:Int)^(k0+1))≠0 by omega),hmod,mt (show k0≤9223372036854775806 by omega)]
      by_cases hkj:k0<j
      · have e1:((at_:Int)%2^(k0+1)==0)=true:=by rw [ij]; exact al_down hj (by omega) a1
        rw [e1]
        simp only [zw]
        refine aF.bind (aFy rb (by have:=t.small; omega) hn (by omega) (by omega)) ?_
        rintro x h24 ⟨rfl,rfl⟩
        have e2:ao5 r at_ (2^(k0+1))=true:=t.opens.2 (OpenB.of hj hm (by omega))
        rw [e2]
        simp only [zw]
        exact ih (k0+1) (by omega) (by omega)
      · have:k0=j:=by omega
        subst this
        by_cases e1:(at_:Int)%2^(k0+1)=0
        · rw [ij.2 e1]
          simp only [zw]
          refine aF.bind (aFy rb (by have:=t.small; omega) hn (by omega) (by omega)) ?_
          rintro x h24 ⟨rfl,rfl⟩
          have e2:ao5 r at_ (2^(k0+1))=false:=by
            cases hq:ao5 r at_ (2^(k0+1)) with
            | false=>rfl
            | true=>exact (t.norm.stops h6 hm e1 (t.opens.1 hq)).elim
          rw [e2]
          simp only [Bw]
          exact fin
        · rw [iT.2 e1]
          simp only [Bw]
          exact fin
    · have:k0=j:=by omega
      subst this
      have t6:decide ((k0:Int)<6)=false:=iJ (by omega)
      simp only [au,t6]
      exact fin
theorem aHi {s:cw} (v:fS s) {N:Nat} (off:∀ x:Int,(N:Int)≤x→mult s x=0) {at_:Int} {k:Nat} (hk:k<7):(aie s at_ k).length≤N:=by
  have h1:(aie s at_ k).length≤(s.free k).length:=List.length_filter_le ..
  have h2:∀ a∈s.free k,0≤a∧a<(N:Int):=fun a ha=>by
    refine ⟨(v.al k hk a ha).1,?_⟩
    rcases Int.lt_or_le a N with h | h
    · exact h
    · have:=off a h
      have hp:=UU k
      have:=Nd hk ha (iS a) (by omega)
      omega
  have:=ao3 (v.inc k hk) h2
  omega
theorem v_rLists {n:Nat} (hn:6000<n) {h:ad} (hro:h.ro≤h.nx) {p bo bt:Nat} {r:RB} {s:cw} (rb:fe h p bo bt r) (t:fL r s):aF (cu n (.ptr p 0) h) fun v h'=>∃ b vs,v=Yu b 7∧L7 h' b vs s.free∧be h h':=by
  unfold cu Da xm
  refine aF.bind (r_mkC hro .nilslice (n:=7) (by omega)) ?_
  rintro _ h1 ⟨rfl,o1,g1⟩
  have key:∀ (q at_:Nat) (h':ad) (vs:Nat→AV),L7 h' h.nx vs (aie s (at_:Int))→(∀ c,fp7 h.nx vs c→h.nx≤c)→be h h'→Clear s (at_:Int)→at_≤4200→4200-at_<q→
      aF (fun k=>qK n (ci n) k q (.ptr p 0) (Yu h.nx 7) (at_:Int) h') fun v h''=>∃ b vs,v=Yu b 7∧L7 h'' b vs s.free∧be h h'':=by
    intro q
    induction q with
    | zero=>omega
    | succ q ih=>
      intro at_ h' vs l hlow g c ha hq
      have rb':=rb.grow g
      simp only [Yz]
      unfold sM vN
      simp only [au,jC rb'.own.cl,rb_0,aeF]
      refine aL.ifB (fun e=>?_) fun e=>?_
      · rw [iz] at e
        have hlt:at_<r.n:=by omega
        simp only [azt hlt rb'.op.cl (azL hlt)]
        rw [t.op at_ hlt]
        have hsm:=t.small
        refine aL.ifB (fun e1=>?_) fun e1=>?_
        · rw [Bool.not_eq_true',iD] at e1
          have h0:mult s (at_:Int)=0:=by omega
          simp only [au,mt (show at_≤9223372036854775806 by omega)]
          refine ih (at_+1) h' vs (l.cong fun k hk=>?_) hlow g (by have:=c.skip h0; simpa using this) (by omega) (by omega)
          have:=aEz h0 hk
          simpa using this
        · rw [Bool.not_eq_false',iz] at e1
          obtain ⟨j,hj,hm⟩:=t.norm.begins c e1
          have hc:((2^j:Nat):Int)=(2:Int)^j:=by simp
          have h2:=Ov hj
          have hpos:=Nat.one_le_two_pow (n:=j)
          have hc2:(((at_+2^j:Nat)):Int)=(at_:Int)+2^j:=by omega
          refine aFh hn hro rb' t l hlow g (by omega) hj hm (by have:=aHi t.norm t.off (at_:=(at_:Int)) hj; omega) (J:=fun k=>qK n (ci n) k q) (fun h'' vs' l' hlow' g'=>?_) n 0 (by omega) (by omega)
          refine ih (at_+2^j) h'' vs' (l'.cong fun k hk=>?_) hlow' g' (by rw [hc2]; exact c.next t.norm hj hm) ?_ (by omega)
          · rw [hc2,aDD t.norm hj hm hk]
            by_cases e2:k=j
            · subst e2; rw [if_pos rfl,lm]
            · rw [if_neg e2,kX _ _ e2]
          · omega
      · rw [iD] at e
        exact nT ⟨_,vs,rfl,l.cong fun k hk=>(aGL t.off (by omega) hk).symm,g⟩
  have l1:L7 h1 h.nx (fun _=>.nilslice) (aie s ((0:Nat):Int)):=by
    refine ⟨o1,fun k hk=>?_,fun j k _ _ _ c e=>by cases e⟩
    have:aie s ((0:Nat):Int) k = []:=List.filter_eq_nil_iff.2 fun a ha=>by
      have:=(t.norm.al k hk a ha).1
      simp; omega
    rw [this]
    exact .nil
  exact key n 0 h1 _ l1 (fun c hc=>by
    rcases hc with rfl | ⟨k,_,e⟩
    · exact iA _
    · cases e) g1 (Clear.zero t.norm) (by omega) (by omega)
end Go.Proofs.YtnlbfbiogfilfaaGreat.Sh
/- The document's buddy: a block taken, a block given back. -/
namespace Go.Proofs.YtnlbfbiogfilfaaGreat.Sh
open Go.Ai
def setOp (r:RB) (a m:Nat) (x:Bool):RB:={ r with op:=fun y=>if a≤y∧y<a+m then x else r.op y }
theorem axP (r:RB) (a:Nat) (x:Bool):setOp r a 0 x=r:=by
  unfold setOp
  have:(fun y=>if a≤y∧y<a+0 then x else r.op y)=r.op:=funext fun y=>if_neg (by omega)
  rw [this]
theorem ayb (r:RB) (a m:Nat) (x:Bool):({ setOp r a m x with op:=upd (setOp r a m x).op (a+m) x }:RB)=setOp r a (m+1) x:=by
  unfold setOp
  have:upd (fun y=>if a≤y∧y<a+m then x else r.op y) (a+m) x=fun y=>if a≤y∧y<a+(m+1) then x else r.op y:=funext fun y=>by
    by_cases e:y=a+m
    · subst e; rw [lm,if_pos (by omega)]
    · rw [kX _ _ e]
      by_cases h:a≤y∧y<a+m
      · rw [if_pos h,if_pos (by omega)]
      · rw [if_neg h,if_neg (by omega)]
  dsimp only
  rw [this]
theorem aGD {n:Nat} {h0:ad} {p bo bt:Nat} {r:RB} {a o:Nat} (ho:o<7) (hin:a+2^o≤r.n) (hs:r.n≤5000):∀ (q m:Nat) (h:ad),fe h p bo bt (setOp r a m false)→Chg (fpR p bo bt) h0 h→m≤2^o→2^o-m<q→
    dM (fun k=>tf n (cu n) k q (.ptr p 0) (o:Int) (a:Int) ((a+m:Nat):Int) h) fun v e h'=>v=(a:Int)∧e=0∧fe h' p bo bt { setOp r a (2^o) false with tk:=upd r.tk a ((1+o:Nat):Int) }∧Chg (fpR p bo bt) h0 h':=by
  intro q
  obtain ⟨p0,p1,p2⟩:=Ov ho
  obtain ⟨q1,q2,q3⟩:=aaQ ho
  have w1:IntKind.i64.wrap ((a:Int)+2^o)=((a+2^o:Nat):Int):=by rw [rK (by omega) (by omega)]; omega
  induction q with
  | zero=>omega
  | succ q ih=>
    intro m h b c hm hq
    simp only [ZB]
    unfold tj wI
    simp only [au,IL (il o),q1,w1]
    have hrn:(setOp r a m false).n=r.n:=rfl
    refine aL.ifB (fun e=>?_) fun e=>?_
    · rw [iz] at e
      have hlt:a+m<r.n:=by omega
      simp only [au,jC b.own.cl,rb_0]
      simp only [aeZ (show a+m<(setOp r a m false).n from hlt)]
      refine ed.bind (uI b.op (by rw [aqL]; exact hlt) rfl) ?_
      intro h20 p20
      have b2:=b.setOp hlt p20
      rw [ayb] at b2
      rw [mt (show a+m≤9223372036854775806 by omega)]
      exact ih (m+1) h20 b2 (c.trans (p20.chg.mono fun d _ e=>.inr (.inl e))) (by omega) (by omega)
    · rw [iD] at e
      have:m=2^o:=by omega
      subst this
      have hlt:a<r.n:=by omega
      have w2:IntKind.i64.wrap (1+(o:Int))=((1+o:Nat):Int):=by rw [rK (by omega) (by omega)]; omega
      simp only [au,jC b.own.cl,rb_1,w2]
      simp only [aeZ (show a<(setOp r a (2^o) false).n from hlt)]
      refine ed.bind (uI b.tk (by rw [atZ]; exact hlt) rfl) ?_
      intro h14 p14
      exact KS ⟨rfl,rfl,b.setTk hlt p14,c.trans (p14.chg.mono fun d _ e=>.inr (.inr e))⟩
def RTakes (h:ad) (p bo bt:Nat) (r:RB) (s:cw) (o:Nat) (v e:Int) (h':ad):Prop:=
  (e=90∧v=0∧be h h'∧∀ j,o≤j→j<7→s.free j = [])∨
  (e=0∧∃ k rest,o≤k∧k<7∧s.free k=v::rest∧(∀ j,o≤j→j<k→s.free j = [])∧∃ a:Nat,v=(a:Int)∧a+2^o≤r.n∧fe h' p bo bt { setOp r a (2^o) false with tk:=upd r.tk a ((1+o:Nat):Int) }∧Chg (fpR p bo bt) h h')
theorem aFW {n:Nat} (hn:6000<n) {h:ad} (hro:h.ro≤h.nx) {p bo bt:Nat} {r:RB} {s:cw} (b:fe h p bo bt r) (t:fL r s) {o:Nat} (ho:o<7):dM (cy n (.ptr p 0) (o:Int) h) (RTakes h p bo bt r s o):=by
  unfold cy DB yj tH
  have e1:decide ((o:Int)<0)=false:=iJ (by omega)
  have e2:decide ((6:Int)<(o:Int))=false:=iJ (by omega)
  have hsm:=t.small
  simp only [au,e1,e2]
  refine aF.bind (v_rLists hn hro b t) ?_
  rintro _ h1 ⟨lb,vs,rfl,l,g⟩
  have b1:=b.grow g
  have key:∀ (q k0:Nat),o≤k0→k0≤7→7-k0<q→(∀ j,o≤j→j<k0→s.free j = [])→
      dM (fun k=>tp n (cu n) k q (.ptr p 0) (o:Int) (Yu lb 7) (k0:Int) h1) (RTakes h p bo bt r s o):=by
    intro q
    induction q with
    | zero=>omega
    | succ q ih=>
      intro k0 h1' h2 hq hemp
      simp only [aag]
      unfold tQ wy
      refine aL.ifB (fun e=>?_) fun e=>?_
      · rw [amE,yA,Bool.not_eq_true',iD] at e
        have hk:k0<7:=by omega
        simp only [aFH hk l.own.cl (L7.at_ hk),(l.lst k0 hk).len]
        simp only [au,mt (show k0≤9223372036854775806 by omega)]
        refine aL.ifB (fun e3=>?_) fun e3=>?_
        · rw [ij] at e3
          have h0:s.free k0 = []:=iq (by omega)
          refine ih (k0+1) (by omega) (by omega) (by omega) fun j hj hj'=>?_
          by_cases ej:j=k0
          · subst ej; exact h0
          · exact hemp j hj (by omega)
        · rw [iT] at e3
          have hpos:0<(s.free k0).length:=by omega
          obtain ⟨x,rest,hx⟩:∃ x rest,s.free k0=x::rest:=by
            cases hq2:s.free k0 with
            | nil=>rw [hq2] at hpos; simp at hpos
            | cons x rest=>exact ⟨x,rest,rfl⟩
          have hel:=(l.lst k0 hk).ints.elN hpos
          have hnz:nz (s.free k0) 0=x:=by rw [hx]; rfl
          rw [hnz] at hel
          have hel':∀ K,Ga .i64 1 h1 (vs k0) 0 K=K (elP (vs k0) 1 0) x:=hel
          have hm:x∈s.free k0:=by rw [hx]; exact iV ..
          obtain ⟨x0,x1⟩:=t.norm.al k0 hk x hm
          obtain ⟨a,rfl⟩:=iM x0
          have p0:=(Ov ho).1
          have pk:=(Ov hk).1
          have hpk:=aFX h1'
          have hpo:=UU o
          have hin:a+2^o≤r.n:=by
            rcases io r.n (a+2^o) with h3 | h3
            · have hpos2:=Nat.one_le_two_pow (n:=o)
              have h4:=t.off ((a:Int)+2^o-1) (by omega)
              have h5:=Nd hk hm (show (a:Int)≤(a:Int)+2^o-1 by omega) (by omega)
              omega
            · exact h3
          simp only [hel']
          have z:fe h1 p bo bt (setOp r a 0 false):=by rw [axP]; exact b1
          refine aL.mono (aGD ho hin (by omega) n 0 h1 z (be.refl.chg _) (by omega) (by have:=(Ov ho).2.2; omega)) ?_
          rintro ⟨v,e',h'⟩ ⟨r1,r2,r3,r4⟩
          refine .inr ⟨r2,k0,rest,h1',hk,by rw [hx]; exact congrArg (· :: rest) r1.symm,hemp,a,r1,hin,r3,?_⟩
          exact (g.chg _).trans r4
      · rw [amE,yA,Bool.not_eq_false',iz] at e
        have:k0=7:=by omega
        subst this
        exact KS (.inl ⟨rfl,rfl,g,hemp⟩)
  exact key n o (iA _) (by omega) (by omega) fun j h1 h2=>by omega
end Go.Proofs.YtnlbfbiogfilfaaGreat.Sh
/- The document's buddy: a place given back; what it tells stays what a buddy has free. -/
namespace Go.Proofs.YtnlbfbiogfilfaaGreat.Sh
open Go.Ai
def akZ (r:RB) (a:Nat):RB:={ setOp r a 1 true with tk:=upd r.tk a 0 }
def akp (r:RB) (a o:Nat):RB:={ setOp r a (2^o) false with tk:=upd r.tk a ((1+o:Nat):Int) }
theorem v_rGive {n:Nat} (hn:2<n) {h:ad} {p bo bt:Nat} {r:RB} (b:fe h p bo bt r) (hs:r.n≤5000) {a:Nat} (ha:a<r.n) (ht:r.tk a=1):aF (cO n (.ptr p 0) (a:Int) 0 h) fun e h'=>e=0∧fe h' p bo bt (akZ r a)∧Chg (fpR p bo bt) h h':=by
  unfold cO DN xR tS tu tD
  have e1:decide ((0:Int)<0)=false:=rfl
  have e2:decide ((6:Int)<0)=false:=rfl
  have e3:decide ((a:Int)<0)=false:=iJ (by omega)
  have e4:decide ((a:Int)<(r.n:Int))=true:=iO (by omega)
  have w1:IntKind.i64.wrap (1+0)=1:=rfl
  have e5:((1:Int)==1)=true:=rfl
  simp only [au,e1,e2,e3,jC b.own.cl,rb_0,rb_1,aeF,e4,Bool.not_true,ajN ha b.tk.cl (aEh ha),ht,w1,e5]
  simp only [aeZ ha]
  refine ed.bind (uI b.tk (by rw [atZ]; exact ha) rfl) ?_
  intro h1 p1
  have b1:=b.setTk ha p1
  obtain ⟨m,rfl⟩:∃ m,n=m+1:=⟨n-1,by omega⟩
  obtain ⟨m,rfl⟩:∃ k,m=k+1:=⟨m-1,by omega⟩
  have q0:IntKind.i64.wrap (an4 .i64 1 ((0:Int)).toNat)=1:=by decide
  have w2:IntKind.i64.wrap ((a:Int)+1)=((a+1:Nat):Int):=mt (by omega)
  have e6:decide ((a:Int)<((a+1:Nat):Int))=true:=iO (by omega)
  have e7:decide (((a+1:Nat):Int)<((a+1:Nat):Int))=false:=iJ (by omega)
  simp only [ZD]
  unfold tL wx
  simp only [au,IL (show (0:Int)≤0 by omega),q0,w2,e6,e7,jC b1.own.cl,rb_0]
  have ha1:a<({ r with tk:=upd r.tk a 0 }:RB).n:=ha
  simp only [aeZ ha]
  refine ed.bind (uI b1.op (by rw [aqL]; exact ha1) rfl) ?_
  intro h2 p2
  have b2:=b1.setOp ha1 p2
  refine nT ⟨rfl,?_,(p1.chg.mono fun d _ e=>.inr (.inr e)).trans (p2.chg.mono fun d _ e=>.inr (.inl e))⟩
  have:({ ({ r with tk:=upd r.tk a 0 }:RB) with op:=upd ({ r with tk:=upd r.tk a 0 }:RB).op a true }:RB)=akZ r a:=by
    unfold akZ
    have:=ayb r a 0 true
    rw [axP] at this
    have e:upd r.op a true=(setOp r a 1 true).op:=by rw [← this]; rfl
    show ({ n:=r.n,op:=upd r.op a true,tk:=upd r.tk a 0 }:RB)=_
    rw [e]; rfl
  rw [← this]
  exact b2
theorem fL.take {r:RB} {s:cw} (t:fL r s) {o k:Nat} {a:Nat} {rest:List Int} {kv:List (Int × Int)} (hok:o≤k) (hk:k<7) (hx:s.free k=(a:Int)::rest) (hemp:∀ j,o≤j→j<k→s.free j = []):fL (akp r a o) { Dq s o k o (a:Int) rest with gL:=kv }:=by
  have nn:=t.norm.take hok hk hx hemp
  have hm:∀ x,mult { Dq s o k o (a:Int) rest with gL:=kv } x+inB a x o=mult s x:=fun x=>aqI hok hk hx hemp x
  have hc:((2^o:Nat):Int)=(2:Int)^o:=by simp
  refine ⟨⟨nn.inc,nn.al,nn.np,nn.one⟩,fun x hx'=>?_,fun x hx'=>?_,t.small⟩
  · have h1:=hm (x:Int)
    have h2:=t.op x hx'
    have h3:=t.norm.one (x:Int)
    show (if a≤x∧x<a+2^o then false else r.op x)=_
    by_cases e:a≤x∧x<a+2^o
    · have:inB (a:Int) (x:Int) o=1:=by unfold inB; rw [if_pos (by omega)]
      rw [if_pos e,eq_comm,iD]
      omega
    · have:inB (a:Int) (x:Int) o=0:=by unfold inB; rw [if_neg (by omega)]
      rw [if_neg e,h2]
      congr 1
      rw [← h1,this]; rfl
  · have h1:=hm x
    have:=t.off x hx'
    omega
theorem fL.give {r:RB} {s s':cw} (t:fL r s) {a:Nat} (ha:a<r.n) (g:GaveS s (a:Int) s'):fL (akZ r a) s':=by
  refine ⟨g.norm,fun x hx=>?_,fun x hx=>?_,t.small⟩
  · have h1:=g.mult (x:Int)
    have h2:=t.op x hx
    show (if a≤x∧x<a+1 then true else r.op x)=_
    by_cases e:a≤x∧x<a+1
    · have:inB (a:Int) (x:Int) 0=1:=by unfold inB; rw [if_pos (by simp; omega)]
      rw [if_pos e,eq_comm,iz]
      omega
    · have:inB (a:Int) (x:Int) 0=0:=by unfold inB; rw [if_neg (by simp; omega)]
      rw [if_neg e,h2]
      congr 1
      rw [h1,this]; rfl
  · have h1:=g.mult x
    have h2:=t.off x hx
    have:inB (a:Int) x 0=0:=by
      have hx2:(r.n:Int)≤x:=hx
      unfold inB; rw [if_neg (by simp; omega)]
    omega
theorem azo (f g:Nat→Nat):∀ n,Em (fun x=>f x+g x) n=Em f n+Em g n
  | 0=>rfl
  | n+1=>by rw [Em,Em,Em,azo f g n]; omega
theorem aFt {a k:Nat}:∀ n,Em (fun x=>inB (a:Int) (x:Int) k) n=min (n-a) (2^k)
  | 0=>by simp [Em]
  | n+1=>by
    rw [Em,aFt n]
    have hc:((2^k:Nat):Int)=(2:Int)^k:=by simp
    by_cases e:a≤n∧n<a+2^k
    · have:inB (a:Int) (n:Int) k=1:=by unfold inB; rw [if_pos (by omega)]
      omega
    · have:inB (a:Int) (n:Int) k=0:=by unfold inB; rw [if_neg (by omega)]
      omega
theorem aBc {k n:Nat}:∀ {l:List Int},(∀ a∈l,0≤a∧a+2^k≤(n:Int))→Em (fun x=>yu k l (x:Int)) n=l.length*2^k
  | [],_=>by
    have:(fun x:Nat=>yu k [] (x:Int))=fun _=>0:=rfl
    rw [this,alC (b:=0) n fun _ _=>rfl]; simp
  | a::l,h=>by
    obtain ⟨h1,h2⟩:=h a (iV ..)
    obtain ⟨b,rfl⟩:=iM h1
    have e:(fun x:Nat=>yu k ((b:Int)::l) (x:Int))=fun x:Nat=>yu k l (x:Int)+inB (b:Int) (x:Int) k:=funext fun x=>agp ..
    have hc:((2^k:Nat):Int)=(2:Int)^k:=by simp
    rw [e,azo,aBc fun c hc=>h c (ig _ hc),aFt,List.length_cons,Nat.add_mul]
    omega
theorem azx {s:cw} {n:Nat}:∀ m,(∀ k,k<m→∀ a∈s.free k,0≤a∧a+2^k≤(n:Int))→Em (fun x=>tO s (x:Int) m) n=pW s m
  | 0,_=>by
    have:(fun x:Nat=>tO s (x:Int) 0)=fun _=>0:=rfl
    rw [this,alC (b:=0) n fun _ _=>rfl]; simp [pW]
  | m+1,h=>by
    have e:(fun x:Nat=>tO s (x:Int) (m+1))=fun x:Nat=>tO s (x:Int) m+yu m (s.free m) (x:Int):=rfl
    rw [e,azo,azx m fun k hk=>h k (by omega),aBc (h m (by omega)),pW]
theorem aDn {r:RB} {f:Nat→Nat}:∀ n,(∀ x,x<n→(if r.op x then 1 else 0)=f x)→adt r n=Em f n
  | 0,_=>rfl
  | n+1,h=>by rw [adt,Em,aDn n fun x hx=>h x (by omega),h n (by omega)]
theorem fL.count {r:RB} {s:cw} (t:fL r s):adt r r.n=pW s 7:=by
  rw [aDn (f:=fun x=>mult s (x:Int)) r.n fun x hx=>?_]
  · have e:(fun x:Nat=>mult s (x:Int))=fun x:Nat=>tO s (x:Int) 7:=funext fun x=>ae7 ..
    rw [e]
    refine azx 7 fun k hk a ha=>⟨(t.norm.al k hk a ha).1,?_⟩
    rcases Int.lt_or_le (r.n:Int) (a+2^k) with h | h
    · have h1:=t.off (max (r.n:Int) a) (by omega)
      have hp:=UU k
      have:=Nd hk ha (x:=max (r.n:Int) a) (by omega) (by omega)
      omega
    · exact h
  · have h1:=t.norm.one (x:Int)
    rw [t.op x hx]
    by_cases e:1≤mult s (x:Int)
    · rw [iO e]; show 1=_; omega
    · rw [iJ e]; show 0=_; omega
end Go.Proofs.YtnlbfbiogfilfaaGreat.Sh
/- The document's pool in the heap: what is asked of it. -/
namespace Go.Proofs.YtnlbfbiogfilfaaGreat.Sh
open Go.Ai
structure RZ where
  zc:bq
  pt:eK
  nu:Nat
  use:Nat→Int
  img:Bool
  rb:Nat→RB
structure RPP where
  p:Nat
  t:AV
  pp:AV
  vm:AV
  vl:AV
  ub:Nat
  bp:Nat→Nat
  bo:Nat→Nat
  bt:Nat→Nat
def rpC (w:RPP) (z:RZ):List AV:=Hx z.zc w.t w.pp++(Ij z.pt w.vm++[w.vl,Yu w.ub z.nu,.bool z.img,.bool true])
theorem rp_1 (w:RPP) (z:RZ):(rpC w z)[1]?=some (.int .i64 z.zc.gG):=rfl
theorem rp_17 (w:RPP) (z:RZ):(rpC w z)[17]?=some w.vm:=rfl
theorem rp_18 (w:RPP) (z:RZ):(rpC w z)[18]?=some (.int .i64 z.pt.order):=rfl
theorem rp_19 (w:RPP) (z:RZ):(rpC w z)[19]?=some (.int .i64 z.pt.user):=rfl
theorem rp_20 (w:RPP) (z:RZ):(rpC w z)[20]?=some (.int .i64 z.pt.tables):=rfl
theorem rp_21 (w:RPP) (z:RZ):(rpC w z)[21]?=some (.int .i64 z.pt.spaces):=rfl
theorem rp_22 (w:RPP) (z:RZ):(rpC w z)[22]?=some (.int .i64 z.pt.gO):=rfl
theorem rp_23 (w:RPP) (z:RZ):(rpC w z)[23]?=some (.int .i64 z.pt.gN):=rfl
theorem awD (w:RPP) (z:RZ):(rpC w z)[25]?=some w.vl:=rfl
theorem awQ (w:RPP) (z:RZ):(rpC w z)[26]?=some (Yu w.ub z.nu):=rfl
theorem rp_27 (w:RPP) (z:RZ):(rpC w z)[27]?=some (.bool z.img):=rfl
theorem rp_28 (w:RPP) (z:RZ):(rpC w z)[28]?=some (.bool true):=rfl
def auY (z:RZ):List AV:=(List.range z.nu).map fun i=>.int .u8 (z.use i)
theorem akq (z:RZ):(auY z).length=z.nu:=by simp [auY]
theorem amb {z:RZ} {i:Nat} (hi:i<z.nu):(auY z)[i]?=some (.int .u8 (z.use i)):=by simp [auY,List.getElem?_range hi]
theorem useC_set {z:RZ} {i:Nat} (hi:i<z.nu) (x:Int):(auY z).set i (.int .u8 x)=auY { z with use:=upd z.use i x }:=by
  apply List.ext_getElem?
  intro j
  rw [List.getElem?_set]
  by_cases hj:j<z.nu
  · have e1:(auY { z with use:=upd z.use i x })[j]?=some (.int .u8 (upd z.use i x j)):=amb (z:={ z with use:=upd z.use i x }) hj
    rw [e1]
    by_cases e:i=j
    · subst e; rw [if_pos rfl,if_pos (by rw [akq]; exact hi),lm]
    · rw [if_neg e,amb hj,kX _ _ (fun h=>e h.symm)]
  · have e1:(auY { z with use:=upd z.use i x })[j]?=none:=iK (by rw [akq]; show z.nu≤j; omega)
    rw [e1,if_neg (by omega)]
    exact iK (by rw [akq]; omega)
def fpS (w:RPP) (i:Nat):Nat→Prop:=fpR (w.bp i) (w.bo i) (w.bt i)
structure dY (h:ad) (w:RPP) (z:RZ):Prop where
  own:Own h w.p (rpC w z) 0
  gI:App h w.vm 1 z.pt.gH.length (dl z.pt.gH)
  gJ:App h w.vl 1 z.pt.gH.length ((List.range z.pt.gH.length).map fun i=>.ptr (w.bp i) 0)
  use:Own h w.ub (auY z) 0
  each:∀ i,i<z.pt.gH.length→fe h (w.bp i) (w.bo i) (w.bt i) (z.rb i)
  disj:∀ i j,i<z.pt.gH.length→j<z.pt.gH.length→i≠j→∀ c,fpS w i c→¬ fpS w j c
  apart:∀ i,i<z.pt.gH.length→∀ c,fpS w i c→c≠w.p∧c≠w.ub∧w.vm.blk≠some c∧w.vl.blk≠some c
  pu:w.p≠w.ub
  two:∀ c,w.vm.blk=some c→w.vl.blk≠some c
def fpQ (w:RPP) (L:Nat) (c:Nat):Prop:=c=w.p∨c=w.ub∨w.vm.blk=some c∨w.vl.blk=some c∨∃ i,i<L∧fpS w i c
theorem dY.chg {F:Nat→Prop} {h h':ad} {w:RPP} {z:RZ} (b:dY h w z) (c:Chg F h h') (hf:∀ d,fpQ w z.pt.gH.length d→¬ F d):dY h' w z:=
  ⟨c.own b.own (hf _ (.inl rfl)),b.gI.chg c fun d e=>hf d (.inr (.inr (.inl e))),b.gJ.chg c fun d e=>hf d (.inr (.inr (.inr (.inl e)))),c.own b.use (hf _ (.inr (.inl rfl))),
    fun i hi=>(b.each i hi).chg c fun d e=>hf d (.inr (.inr (.inr (.inr ⟨i,hi,e⟩)))),b.disj,b.apart,b.pu,b.two⟩
theorem dY.grow {h h':ad} {w:RPP} {z:RZ} (b:dY h w z) (g:be h h'):dY h' w z:=b.chg (g.chg fun _=>False) fun _ _ h=>h
theorem dY.lt {h:ad} {w:RPP} {z:RZ} (b:dY h w z) {c:Nat} (hc:fpQ w z.pt.gH.length c):c<h.nx:=by
  rcases hc with e | e | e | e | ⟨i,hi,e⟩
  · subst e; exact b.own.lt
  · subst e; exact b.use.lt
  · exact b.gI.lt e
  · exact b.gJ.lt e
  · exact (b.each i hi).lt e
theorem apj {h:ad} {v:AV} {L c d:Nat} {l cs:List AV} (a:App h v 1 L l) (o:Own h c cs 0) (e:v.blk=some d):d≠c:=by
  rcases a with ⟨rfl,_⟩ | ⟨b,rfl,ow,_⟩
  · cases e
  · cases e
    rintro rfl
    have:=ow.get.symm.trans o.get
    simp at this
theorem dY.bud {h:ad} {w:RPP} {z:RZ} (b:dY h w z) {i:Nat} (hi:i<z.pt.gH.length):∀ k:AV→AV→ah,eld 1 h w.vl (i:Int) 1 false k=k (elP w.vl 1 i) (.ptr (w.bp i) 0):=by
  intro k
  rcases b.gJ with ⟨e1,e2,_⟩ | ⟨c,e1,o,_,_⟩
  · omega
  · rw [e1]
    unfold eld agV
    rw [UX,aaZ]
    have:Nat.blt i z.pt.gH.length=true:=by rw [blt_eq]; simpa using hi
    rw [this,zw,rV]
    dsimp only
    rw [aak,jC o.cl]
    have:((List.range z.pt.gH.length).map fun i=>AV.ptr (w.bp i) 0)[Nat.add 0 (Nat.mul i 1)]?=some (.ptr (w.bp i) 0):=by
      rw [show Nat.add 0 (Nat.mul i 1)=i by simp]
      simp [ja,List.getElem?_range hi]
    rw [this,Aa]
    simp [elP]
theorem app_ints {h:ad} {v:AV} {l:List Int} (a:App h v 1 l.length (dl l)) (hs:l.length≤1048576):dP h .i64 v l:=by
  rcases a with ⟨rfl,h0,_⟩ | ⟨b,rfl,o,_,h2⟩
  · exact ⟨by omega,.inl ⟨rfl,h0⟩⟩
  · refine ⟨by omega,.inr ⟨b,0,0,true,rfl,fun _=>⟨_,o.cl,fun i hi=>?_⟩⟩⟩
    rw [Nat.zero_add,Nat.mul_one]
    refine ⟨by rw [sX]; omega,?_⟩
    rw [iH (by rw [sX]; exact hi)]
    simp [dl,un hi]
theorem dY.col {h:ad} {w:RPP} {z:RZ} (b:dY h w z) {i:Nat} (hi:i<z.pt.gH.length) (hs:z.pt.gH.length≤16):∀ k:AV→Int→ah,Ga .i64 1 h w.vm (i:Int) k=k (elP w.vm 1 i) (nz z.pt.gH i):=(app_ints b.gI (by omega)).elN hi
theorem N4 {n:Nat} {h:ad} {w:RPP} {z:RZ} (b:dY h w z) (k:Bool→ad→ah):aQ n (.ptr w.p 0) h k=k true h:=by
  unfold aQ yl uH qS
  have t1:(true ^^ false)=true:=rfl
  have t2:(false ^^ true)=true:=rfl
  simp only [au,axR,t1,t2,jC b.own.cl,rp_28]
theorem aD0 {n:Nat} {h:ad} {w:RPP} {z:RZ} (b:dY h w z) (hs:z.pt.gH.length≤16) {i:Nat} (hi:i<z.pt.gH.length) {x:Int} (hx:0≤x*z.zc.gG∧x*z.zc.gG≤100000) (hc:0≤nz z.pt.gH i∧nz z.pt.gH i≤100) (k:Int→ad→ah) :
    ce n (.ptr w.p 0) (i:Int) x h k=k (x*z.zc.gG+nz z.pt.gH i) h:=by
  unfold ce DK xU
  have w1:IntKind.i64.wrap (x*z.zc.gG)=x*z.zc.gG:=rK (by omega) (by omega)
  have w2:IntKind.i64.wrap (x*z.zc.gG+nz z.pt.gH i)=x*z.zc.gG+nz z.pt.gH i:=rK (by omega) (by omega)
  simp only [au,jC b.own.cl,rp_1,rp_17,b.col hi hs,w1,w2]
theorem v_rquota {n:Nat} {h:ad} {w:RPP} {z:RZ} (b:dY h w z) {u:Nat} (h2:2≤u) (h6:u≤6) (k:Int→ad→ah) :
    dn n (.ptr w.p 0) (u:Int) h k=k (avR z.pt u) h:=by
  unfold dn DI yh
  have c:=jC b.own.cl
  match u,h2,h6 with
  | 2,_,_=>simp only [au,c,rp_19]; rfl
  | 3,_,_=>simp only [au,c,rp_20]; rfl
  | 4,_,_=>simp only [au,c,rp_21]; rfl
  | 5,_,_=>simp only [au,c,rp_22]; rfl
  | 6,_,_=>simp only [au,c,rp_23]; rfl
def agr (z:RZ):List Int:=(List.range z.pt.gH.length).map fun i=>(adt (z.rb i) (z.rb i).n:Int)
structure ROk (z:RZ):Prop where
  ln:z.pt.gH.length≤16
  small:∀ i,i<z.pt.gH.length→(z.rb i).n≤4096
  nu:z.nu≤4096
  use:∀ f,f<z.nu→0≤z.use f∧z.use f≤6
theorem aFg {n:Nat} (hn:5000<n) {w:RPP} {z:RZ} (ok:ROk z) {h0:ad} (hro:h0.ro≤h0.nx) (b0:dY h0 w z) (f1):∀ (q i:Nat) (h:ad) (v:AV),be h0 h→Lst h v ((List.range i).map fun i=>(adt (z.rb i) (z.rb i).n:Int))→(∀ c,v.blk=some c→h0.nx≤c)→
    i≤z.pt.gH.length→z.pt.gH.length-i<q→
    aF (fun k=>ua n f1 (bB n) k q (.ptr w.p 0) v (i:Int) h) fun r h'=>Lst h' r (agr z)∧(∀ c,r.blk=some c→h0.nx≤c)∧be h0 h':=by
  intro q
  induction q with
  | zero=>omega
  | succ q ih=>
    intro i h v g hv hf hi hq
    have b:=b0.grow g
    have hln:=ok.ln
    simp only [ab0]
    unfold uf xq
    simp only [au,jC b.own.cl,awD,b.gJ.len]
    refine aL.ifB (fun e=>?_) fun e=>?_
    · rw [iz] at e
      have hlt:i<z.pt.gH.length:=by omega
      have hs:=ok.small i hlt
      simp only [au,b.bud hlt]
      refine aF.bind (axK (b.each i hlt).rd (by omega) (by omega)) ?_
      rintro _ _ ⟨rfl,rfl⟩
      refine aF.bind (Dv (fun k=>by rfl)) ?_
      rintro _ h2 ⟨rfl,c2,g2⟩
      refine aF.bind (aaA ((g.trans g2).le hro) (hv.grow g2) c2 (by simp; omega)) ?_
      rintro v' h3 ⟨l3,b3,c3⟩
      rw [mt (show i≤9223372036854775806 by omega)]
      refine ih (i+1) h3 v' (c3.grow (g.trans g2) hf) ?_ (fun c e1=>?_) (by omega) (by omega)
      · rw [List.range_succ,i9]
        exact l3
      · rcases b3 c e1 with e2 | e2
        · exact hf c e2
        · have:=(g.trans g2).nx; omega
    · rw [iD] at e
      have:i=z.pt.gH.length:=by omega
      subst this
      exact nT ⟨hv,hf,g⟩
theorem aDG {n:Nat} (hn:5000<n) {h:ad} (hro:h.ro≤h.nx) {w:RPP} {z:RZ} (b:dY h w z) (ok:ROk z) :
    aF (bJ n (.ptr w.p 0) h) fun r h'=>Lst h' r (agr z)∧(∀ c,r.blk=some c→h.nx≤c)∧be h h':=by
  unfold bJ yQ vw
  simp only [au,N4 b,Bool.not_true]
  exact aFg hn ok hro b _ n 0 h .nilslice .refl .nil (fun c e=>by cases e) (by omega) (by have:=ok.ln; omega)
def cU (use:Nat→Int):Nat→Nat→Int
  | 0,_=>0
  | i+1,u=>cU use i u+if use i≠0∧use i=(u:Int) then 1 else 0
theorem cU_in (use:Nat→Int) (u:Nat):∀ i,0≤cU use i u∧cU use i u≤i
  | 0=>by simp [cU]
  | i+1=>by have:=cU_in use u i; rw [cU]; split<;>omega
theorem aEP {n:Nat} {h:ad} {w:RPP} {z:RZ} (ok:ROk z) (b:dY h w z) (f1):∀ (q i:Nat),i≤z.nu→z.nu-i<q→
    aF (fun k=>qU n f1 k q (.ptr w.p 0) (i:Int) h) fun r h'=>(r=true↔∀ f,i≤f→f<z.nu→z.use f=0∨z.use f=1)∧h'=h:=by
  intro q
  induction q with
  | zero=>omega
  | succ q ih=>
    intro i hi hq
    have hnu:=ok.nu
    simp only [aap]
    unfold tg wG tv
    simp only [au,jC b.own.cl,awQ,aeF]
    refine aL.ifB (fun e=>?_) fun e=>?_
    · rw [iz] at e
      have hlt:i<z.nu:=by omega
      simp only [au,ajN hlt b.use.cl (amb hlt),mt (show i≤9223372036854775806 by omega)]
      have next:(z.use i=0∨z.use i=1)→aF (fun k=>qU n f1 k q (.ptr w.p 0) ((i+1:Nat):Int) h) fun r h'=>(r=true↔∀ f,i≤f→f<z.nu→z.use f=0∨z.use f=1)∧h'=h:=by
        intro hu
        refine aL.mono (ih (i+1) (by omega) (by omega)) ?_
        rintro ⟨r,h'⟩ ⟨r1,r2⟩
        refine ⟨r1.trans ⟨fun hh f h1 h2=>?_,fun hh f h1 h2=>hh f (by omega) h2⟩,r2⟩
        by_cases ef:f=i
        · subst ef; exact hu
        · exact hh f (by omega) h2
      refine aL.ifB (fun e1=>?_) fun e1=>?_
      · rw [Bool.not_eq_true',iT] at e1
        refine aL.ifB (fun e2=>?_) fun e2=>?_
        · rw [Bool.not_eq_true',iT] at e2
          refine nT ⟨⟨fun hb=>(nomatch hb),fun hh=>?_⟩,rfl⟩
          rcases hh i (iA _) hlt with h1 | h1
          · exact (e1 h1).elim
          · exact (e2 h1).elim
        · rw [Bool.not_eq_false',ij] at e2
          exact next (.inr e2)
      · rw [Bool.not_eq_false',ij] at e1
        exact next (.inl e1)
    · rw [iD] at e
      exact nT ⟨⟨fun _ f h1 h2=>by omega,fun _=>rfl⟩,rfl⟩
theorem v_rWhole {n:Nat} (hn:5000<n) {h:ad} {w:RPP} {z:RZ} (b:dY h w z) (ok:ROk z) :
    aF (ca n (.ptr w.p 0) h) fun r h'=>(r=true↔∀ f,f<z.nu→z.use f=0∨z.use f=1)∧h'=h:=by
  unfold ca yf uO
  simp only [au,N4 b,Bool.not_true]
  have hnu:=ok.nu
  refine aL.mono (aEP ok b _ n 0 (by omega) (by omega)) ?_
  rintro ⟨r,h'⟩ ⟨r1,r2⟩
  exact ⟨r1.trans ⟨fun hh f h2=>hh f (by omega) h2,fun hh f _ h2=>hh f h2⟩,r2⟩
end Go.Proofs.YtnlbfbiogfilfaaGreat.Sh
