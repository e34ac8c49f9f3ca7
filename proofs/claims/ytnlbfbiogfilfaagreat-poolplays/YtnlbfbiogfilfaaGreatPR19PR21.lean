/- The document's pool: how many frames have which use, and which. -/
import Derived.Test.YtnlbfbiogfilfaaGreatPR14PR18
set_option linter.all false
namespace Go.Proofs.YtnlbfbiogfilfaaGreat.Sh
open Go.Ai
def cC (c:Nat→Int):List AV:=[.int .i64 (c 0),.int .i64 (c 1),.int .i64 (c 2),.int .i64 (c 3),.int .i64 (c 4),.int .i64 (c 5),.int .i64 (c 6)]
theorem cC_at (c:Nat→Int) {k:Nat} (hk:k<7):(cC c)[k]?=some (.int .i64 (c k)):=by
  match k,hk with
  | 0,_=>rfl | 1,_=>rfl | 2,_=>rfl | 3,_=>rfl | 4,_=>rfl | 5,_=>rfl | 6,_=>rfl
theorem cC_set (c:Nat→Int) (x:Int) {k:Nat} (hk:k<7):(cC c).set k (.int .i64 x)=cC (upd c k x):=by
  match k,hk with
  | 0,_=>rfl | 1,_=>rfl | 2,_=>rfl | 3,_=>rfl | 4,_=>rfl | 5,_=>rfl | 6,_=>rfl
theorem aqw {c c':Nat→Int} (h:∀ k,k<7→c k=c' k):cC c=cC c':=by
  unfold cC
  rw [h 0 (by omega),h 1 (by omega),h 2 (by omega),h 3 (by omega),h 4 (by omega),h 5 (by omega),h 6 (by omega)]
def aeg (z:RZ):Nat→Int:=fun u=>if u=0 then (Em (fun i=>adt (z.rb i) (z.rb i).n) z.pt.gH.length:Int) else cU z.use z.nu u
def cAt (z:RZ) (i:Nat):Nat→Int:=fun u=>if u=0 then 0 else cU z.use i u
def fAt (z:RZ) (i:Nat):Nat→Int:=fun u=>if u=0 then (Em (fun i=>adt (z.rb i) (z.rb i).n) i:Int) else cU z.use z.nu u
theorem ayD {z:RZ} (ok:ROk z):∀ m,m≤z.pt.gH.length→Em (fun i=>adt (z.rb i) (z.rb i).n) m≤m*4096
  | 0,_=>by simp [Em]
  | m+1,hm=>by
    have h1:=ayD ok m (by omega)
    have h2:=ok.small m (by omega)
    have h3:=axA (z.rb m) (z.rb m).n
    rw [Em,Nat.add_mul]; omega
theorem aCN {n:Nat} (hn:5000<n) {w:RPP} {z:RZ} (ok:ROk z) {h0:ad} (b0:dY h0 w z) (f1) {x0 x2:Nat} {c0:List AV} (hc0:c0.length=7) (l0:h0.nx≤x0) (l2:h0.nx≤x2) (hne:x0≠x2):∀ (q i:Nat) (h:ad),be h0 h→Own h x0 c0 0→Own h x2 (cC (fAt z i)) 0→
    i≤z.pt.gH.length→z.pt.gH.length-i<q→
    aF (fun k=>sP n f1 (bB n) k q (.ptr w.p 0) (.ptr x0 0) (.ptr x2 0) (i:Int) h) fun r h'=>r = .agg (cC (aeg z))∧be h0 h':=by
  intro q
  induction q with
  | zero=>omega
  | succ q ih=>
    intro i h g o0 o2 hi hq
    have b:=b0.grow g
    have hln:=ok.ln
    simp only [Yv]
    unfold sR vI
    have i0:∀ c,SA 1 7 (.ptr x2 0) 0 c=c (.ptr x2 (0+0)):=fun c=>UR (n:=7) (k:=0) (by omega) c
    simp only [au,jC b.own.cl,awD,b.gJ.len]
    refine aL.ifB (fun e=>?_) fun e=>?_
    · rw [iz] at e
      have hlt:i<z.pt.gH.length:=by omega
      have hs:=ok.small i hlt
      have hfr:=axA (z.rb i) (z.rb i).n
      have hsum:=ayD ok i (by omega)
      have ec:(cC (fAt z i))[0]?=some (.int .i64 (Em (fun i=>adt (z.rb i) (z.rb i).n) i:Int)):=rfl
      simp only [au,i0,jC o2.cl,ec,b.bud hlt]
      refine aF.bind (axK (b.each i hlt).rd.shut (by omega) (by omega)) ?_
      rintro _ _ ⟨rfl,rfl⟩
      have w1:IntKind.i64.wrap ((Em (fun i=>adt (z.rb i) (z.rb i).n) i:Int)+(adt (z.rb i) (z.rb i).n:Int))=(Em (fun i=>adt (z.rb i) (z.rb i).n) (i+1):Int):=by
        rw [rK (by omega) (by omega),Em]; omega
      simp only [au,aqF,w1,i0,mt (show i≤9223372036854775806 by omega)]
      refine ed.bind (uI o2 (by show 0<7; omega) rfl) ?_
      intro h41 p41
      have o41:=p41.own
      rw [cC_set _ _ (show 0<7 by omega)] at o41
      refine ih (i+1) h41 (p41.grow g l2) (p41.ownO hne o0) ?_ (by omega) (by omega)
      have:cC (fAt z (i+1))=cC (upd (fAt z i) 0 (Em (fun i=>adt (z.rb i) (z.rb i).n) (i+1):Int)):=aqw fun k _=>by
        by_cases ek:k=0
        · subst ek; rw [lm]; rfl
        · rw [kX _ _ ek]; unfold fAt; rw [if_neg ek,if_neg ek]
      rw [this]
      exact o41
    · rw [iD] at e
      have:i=z.pt.gH.length:=by omega
      subst this
      have e7:(cC (fAt z z.pt.gH.length))=cC (aeg z):=aqw fun k _=>rfl
      have l7:(cC (fAt z z.pt.gH.length)).length=7:=rfl
      simp only [au,jC o2.cl,afB l7]
      refine ed.bind (Um o0 l7 (by omega)) ?_
      intro h26 p26
      rw [Wq _ _ (by rw [l7]; omega)] at p26
      simp only [au,jC p26.own.cl,afB l7]
      exact nT ⟨by rw [e7],p26.grow g l0⟩
theorem aDC {n:Nat} (hn:5000<n) {w:RPP} {z:RZ} (ok:ROk z) {h0:ad} (b0:dY h0 w z) (f1) {x0 x2:Nat} {c0:List AV} (hc0:c0.length=7) (l0:h0.nx≤x0) (l2:h0.nx≤x2) (hne:x0≠x2):∀ (q i:Nat) (h:ad),be h0 h→Own h x0 c0 0→Own h x2 (cC (cAt z i)) 0→
    i≤z.nu→z.nu-i<q→
    aF (fun k=>sN n f1 (bB n) k q (.ptr w.p 0) (.ptr x0 0) (.ptr x2 0) (i:Int) h) fun r h'=>r = .agg (cC (aeg z))∧be h0 h':=by
  intro q
  induction q with
  | zero=>omega
  | succ q ih=>
    intro i h g o0 o2 hi hq
    have b:=b0.grow g
    have hln:=ok.ln
    have hnu:=ok.nu
    simp only [Yn]
    unfold sO sL
    simp only [au,jC b.own.cl,awQ,aeF]
    refine aL.ifB (fun e=>?_) fun e=>?_
    · rw [iz] at e
      have hlt:i<z.nu:=by omega
      obtain ⟨u0,u6⟩:=ok.use i hlt
      obtain ⟨u,hu⟩:=iM u0
      simp only [au,ajN hlt b.use.cl (amb hlt),mt (show i≤9223372036854775806 by omega)]
      refine aL.ifB (fun e1=>?_) fun e1=>?_
      · rw [Bool.not_eq_true',iT] at e1
        have hu7:u<7:=by omega
        have hin:=cU_in z.use u i
        have ec:(cC (cAt z i))[u]?=some (.int .i64 (cU z.use i u)):=by
          rw [cC_at _ hu7]; unfold cAt; rw [if_neg (by omega)]
        have w1:IntKind.i64.wrap (cU z.use i u+1)=cU z.use i u+1:=rK (by omega) (by omega)
        rw [hu]
        simp only [au,UR hu7,jC o2.cl,Nat.zero_add,ec,w1]
        refine ed.bind (uI o2 (by show u<7; omega) rfl) ?_
        intro h24 p24
        have o24:=p24.own
        rw [cC_set _ _ hu7] at o24
        refine ih (i+1) h24 (p24.grow g l2) (p24.ownO hne o0) ?_ (by omega) (by omega)
        have:cC (cAt z (i+1))=cC (upd (cAt z i) u (cU z.use i u+1)):=aqw fun k _=>by
          by_cases ek:k=u
          · subst ek; rw [lm]; unfold cAt; rw [if_neg (by omega),cU,if_pos ⟨e1,hu⟩]
          · rw [kX _ _ ek]; unfold cAt
            by_cases ek0:k=0
            · rw [if_pos ek0,if_pos ek0]
            · rw [if_neg ek0,if_neg ek0,cU,if_neg (fun hh=>ek (by have:=hh.2; omega)),Int.add_zero]
        rw [this]
        exact o24
      · rw [Bool.not_eq_false',ij] at e1
        refine ih (i+1) h g o0 ?_ (by omega) (by omega)
        have:cC (cAt z (i+1))=cC (cAt z i):=aqw fun k _=>by
          unfold cAt
          by_cases ek0:k=0
          · rw [if_pos ek0,if_pos ek0]
          · rw [if_neg ek0,if_neg ek0,cU,if_neg (fun hh=>hh.1 e1),Int.add_zero]
        rw [this]
        exact o2
    · rw [iD] at e
      have:i=z.nu:=by omega
      subst this
      unfold vC
      have:cC (cAt z z.nu)=cC (fAt z 0):=aqw fun k _=>rfl
      rw [this] at o2
      exact aCN hn ok b0 f1 hc0 l0 l2 hne n 0 h g o0 o2 (by omega) (by omega)
theorem aAR {n:Nat} (hn:5000<n) {h:ad} (hro:h.ro≤h.nx) {w:RPP} {z:RZ} (b:dY h w z) (ok:ROk z) :
    aF (bQ n (.ptr w.p 0) h) fun r h'=>r = .agg (cC (aeg z))∧be h h':=by
  unfold bQ xg tY
  have hnu:=ok.nu
  refine aF.bind (ahy hro _ 0) ?_
  rintro x0 h1 ⟨hx0,o0,g1⟩
  refine aF.bind (ahy (g1.le hro) _ 0) ?_
  rintro x2 h3 ⟨hx2,o2,g3⟩
  have b3:=b.grow (g1.trans g3)
  have hl:=o0.lt
  have hg1:=g1.nx
  simp only [au,N4 b3,Bool.not_true]
  have:([.int .i64 0,.int .i64 0,.int .i64 0,.int .i64 0,.int .i64 0,.int .i64 0,.int .i64 0]:List AV)=cC (cAt z 0):=rfl
  rw [this] at o2
  exact aDC hn ok b _ (c0:=[.int .i64 0,.int .i64 0,.int .i64 0,.int .i64 0,.int .i64 0,.int .i64 0,.int .i64 0]) rfl hx0 (by omega) (by omega) n 0 h3 (g1.trans g3) (o0.grow g3) o2 (by omega) (by omega)
def Qh (use:Nat→Int):Nat→List (Int × Int)
  | 0=>[]
  | i+1=>if use i≠0 then Qh use i++[((i:Int),use i)] else Qh use i
theorem aun (use:Nat→Int):∀ i,(Qh use i).length≤i
  | 0=>by simp [Qh]
  | i+1=>by have:=aun use i; rw [Qh]; split<;>simp<;>omega
theorem aEF {n:Nat} {w:RPP} {z:RZ} (ok:ROk z) {h0:ad} (hro:h0.ro≤h0.nx) (b0:dY h0 w z) (f1):∀ (q i:Nat) (h:ad) (v:AV),be h0 h→App h v 2 (Qh z.use i).length (prs (Qh z.use i))→(∀ c,v.blk=some c→h0.nx≤c)→
    i≤z.nu→z.nu-i<q→
    aF (fun k=>tK n f1 k q (.ptr w.p 0) v (i:Int) h) fun r h'=>App h' r 2 (Qh z.use z.nu).length (prs (Qh z.use z.nu))∧be h0 h':=by
  intro q
  induction q with
  | zero=>omega
  | succ q ih=>
    intro i h v g ha hlow hi hq
    have b:=b0.grow g
    have hnu:=ok.nu
    simp only [aae]
    unfold tJ wv tI
    simp only [au,jC b.own.cl,awQ,aeF]
    refine aL.ifB (fun e=>?_) fun e=>?_
    · rw [iz] at e
      have hlt:i<z.nu:=by omega
      have bk:∀ (x y:Int) K,uK [.int .i64 0,.int .u8 0] [(0,1,.int .i64 x),(1,1,.int .u8 y)] K=K (.agg [.int .i64 x,.int .u8 y]):=fun x y K=>rfl
      simp only [au,ajN hlt b.use.cl (amb hlt),mt (show i≤9223372036854775806 by omega),bk]
      refine aL.ifB (fun e1=>?_) fun e1=>?_
      · rw [Bool.not_eq_true',iT] at e1
        refine aF.bind (Dv (fun k=>by rfl)) ?_
        rintro _ h15 ⟨rfl,c15,g15⟩
        have gg:=g.trans g15
        have hl:=aun z.use i
        refine aF.bind (afw (gg.le hro) (ha.grow g15) (n:=1) (by decide) c15 (new:=[.int .i64 (i:Int),.int .u8 (z.use i)]) (by rw [zj]; rfl) (by omega)) ?_
        rintro v' h17 ⟨a17,b17,c17⟩
        have e2:Qh z.use (i+1)=Qh z.use i++[((i:Int),z.use i)]:=by rw [Qh,if_pos e1]
        refine ih (i+1) h17 v' (c17.grow gg fun c hc=>hlow c hc) ?_ (fun c hc=>?_) (by omega) (by omega)
        · rw [e2,azc,iZ]; exact a17
        · rw [b17] at hc
          cases hc
          exact gg.nx
      · rw [Bool.not_eq_false',ij] at e1
        have e2:Qh z.use (i+1)=Qh z.use i:=by rw [Qh,if_neg (fun hh=>hh e1)]
        refine ih (i+1) h v g ?_ hlow (by omega) (by omega)
        rw [e2]; exact ha
    · rw [iD] at e
      have:i=z.nu:=by omega
      subst this
      exact nT ⟨ha,g⟩
theorem aDE {n:Nat} (hn:5000<n) {h:ad} (hro:h.ro≤h.nx) {w:RPP} {z:RZ} (b:dY h w z) (ok:ROk z) :
    aF (bG n (.ptr w.p 0) h) fun r h'=>App h' r 2 (Qh z.use z.nu).length (prs (Qh z.use z.nu))∧be h h':=by
  unfold bG yn uL
  have hnu:=ok.nu
  simp only [au,N4 b,Bool.not_true]
  exact aEF ok hro b _ n 0 h .nilslice .refl App.nil (fun c e=>by cases e) (by omega) (by omega)
end Go.Proofs.YtnlbfbiogfilfaaGreat.Sh
/- The document's pool: a frame taken, the image taken. -/
namespace Go.Proofs.YtnlbfbiogfilfaaGreat.Sh
open Go.Ai
theorem dY.setUse {h h':ad} {w:RPP} {z:RZ} (b:dY h w z) {f:Nat} (hf:f<z.nu) {x:Int} (p:Put h w.ub ((auY z).set f (.int .u8 x)) 0 h'):dY h' w { z with use:=upd z.use f x }:=by
  have o:=p.own
  rw [useC_set hf] at o
  exact ⟨p.chg.own b.own b.pu,b.gI.chg p.chg fun d e=>apj b.gI b.use e,b.gJ.chg p.chg fun d e=>apj b.gJ b.use e,o,fun i hi=>(b.each i hi).chg p.chg fun d e=>(b.apart i hi d e).2.1,b.disj,b.apart,b.pu,b.two⟩
theorem dY.setImg {h h':ad} {w:RPP} {z:RZ} (b:dY h w z) (p:Put h w.p ((rpC w z).set 27 (.bool true)) 0 h'):dY h' w { z with img:=true }:=
  ⟨p.own,b.gI.chg p.chg fun d e=>apj b.gI b.own e,b.gJ.chg p.chg fun d e=>apj b.gJ b.own e,p.chg.own b.use fun e=>b.pu e.symm,fun i hi=>(b.each i hi).chg p.chg fun d e=>(b.apart i hi d e).1,b.disj,b.apart,b.pu,b.two⟩
theorem dY.setRB {h h':ad} {w:RPP} {z:RZ} (b:dY h w z) {i:Nat} (hi:i<z.pt.gH.length) {r':RB} (bn:fe h' (w.bp i) (w.bo i) (w.bt i) r') (c:Chg (fpS w i) h h'):dY h' w { z with rb:=upd z.rb i r' }:=by
  refine ⟨c.own b.own fun e=>(b.apart i hi _ e).1 rfl,b.gI.chg c fun d e1 e2=>(b.apart i hi d e2).2.2.1 e1,b.gJ.chg c fun d e1 e2=>(b.apart i hi d e2).2.2.2 e1,c.own b.use fun e=>(b.apart i hi _ e).2.1 rfl,fun j hj=>?_,b.disj,b.apart,b.pu,b.two⟩
  show fe h' _ _ _ (upd z.rb i r' j)
  by_cases e:j=i
  · subst e; rw [lm]; exact bn
  · rw [kX _ _ e]
    exact (b.each j hj).chg c fun d e1 e2=>b.disj j i hj hi e d e1 e2
theorem fpS_Q {w:RPP} {L i:Nat} (hi:i<L):∀ d,fpS w i d→fpQ w L d:=fun d e=>.inr (.inr (.inr (.inr ⟨i,hi,e⟩)))
abbrev frR (z:RZ) (i:Nat):Nat:=adt (z.rb i) (z.rb i).n
structure RRoom (z:RZ):Prop where
  co:0<z.zc.gG∧z.zc.gG≤16
  col:∀ i,i<z.pt.gH.length→0≤nz z.pt.gH i∧nz z.pt.gH i<z.zc.gG
  at_:∀ i,i<z.pt.gH.length→∀ a:Nat,a<(z.rb i).n→(a:Int)*z.zc.gG+nz z.pt.gH i<z.nu
theorem RRoom.frame {z:RZ} (m:RRoom z) (ok:ROk z) {i a:Nat} (hi:i<z.pt.gH.length) (ha:a<(z.rb i).n):∃ F:Nat,F<z.nu∧(a:Int)*z.zc.gG+nz z.pt.gH i=F∧0≤(a:Int)*z.zc.gG∧(a:Int)*z.zc.gG≤4096:=by
  have h1:=m.at_ i hi a ha
  have h2:=m.col i hi
  have h3:=m.co
  have h4:=ok.nu
  have h5:0≤(a:Int)*z.zc.gG:=Int.mul_nonneg (by omega) (by omega)
  obtain ⟨F,hF⟩:=iM (show 0≤(a:Int)*z.zc.gG+nz z.pt.gH i by omega)
  exact ⟨F,by omega,hF,h5,by omega⟩
abbrev kRPT:=ge
theorem aEx {n:Nat} (hn:5000<n) {R:Type} {ap:kRPT→R→ah} {Q:R→Prop} {h:ad} {w:RPP} {z:RZ} (b:dY h w z) (ok:ROk z) {u:Int} (f1 f2 f3 f5 f6)
    (hgo:∀ best,Best (frR z) z.pt.gH.length best→aL ap (fun k=>ud n f1 f2 f3 (bB n) f5 f6 k (.ptr w.p 0) u (best:Int) h) Q) :
    ∀ (q i best:Nat),best<z.pt.gH.length→best≤i→i≤z.pt.gH.length→z.pt.gH.length-i<q→(∀ j,j<i→frR z j≤frR z best)→(∀ j,j<best→frR z j<frR z best)→
    aL ap (fun k=>tV n f1 f2 f3 (bB n) f5 f6 k q (.ptr w.p 0) u (best:Int) (i:Int) h) Q:=by
  intro q
  have hln:=ok.ln
  induction q with
  | zero=>omega
  | succ q ih=>
    intro i best hb hbi hi hq h1 h2
    simp only [abo]
    unfold tX tZ
    simp only [au,jC b.own.cl,awD,b.gJ.len]
    refine aL.ifB (fun e=>?_) fun e=>?_
    · rw [iz] at e
      have hlt:i<z.pt.gH.length:=by omega
      have s1:=ok.small i hlt
      have s2:=ok.small best hb
      simp only [au,b.bud hlt]
      refine aF.bind (axK (b.each i hlt).rd.shut (by omega) (by omega)) ?_
      rintro _ _ ⟨rfl,rfl⟩
      rw [aqF]
      simp only [au,jC b.own.cl,awD,b.bud hb]
      refine aF.bind (axK (b.each best hb).rd (by omega) (by omega)) ?_
      rintro _ _ ⟨rfl,rfl⟩
      simp only [au,mt (show i≤9223372036854775806 by omega)]
      refine aL.ifB (fun e1=>?_) fun e1=>?_
      · rw [iz] at e1
        have e1':frR z best<frR z i:=by unfold frR; omega
        refine ih (i+1) i hlt (by omega) (by omega) (by omega) (fun j hj=>?_) (fun j hj=>?_)
        · by_cases ej:j=i
          · subst ej; exact iA _
          · have:=h1 j (by omega)
            omega
        · have:=h1 j hj
          omega
      · rw [iD] at e1
        have e1':frR z i≤frR z best:=by unfold frR; omega
        refine ih (i+1) best hb (by omega) (by omega) (by omega) (fun j hj=>?_) h2
        by_cases ej:j=i
        · subst ej; exact e1'
        · exact h1 j (by omega)
    · rw [iD] at e
      have:i=z.pt.gH.length:=by omega
      subst this
      exact hgo best ⟨hb,h1,h2⟩
def RPTk (h:ad) (w:RPP) (z:RZ) (S:Nat→cw) (u:Nat) (f e:Int) (h':ad):Prop:=
  (avR z.pt u≤aeg z u∧f=0∧e=4∧be h h')∨
  (aeg z u<avR z.pt u∧∃ best,Best (frR z) z.pt.gH.length best∧
    (((∀ j,j<7→(S best).free j = [])∧f=0∧e=4∧be h h')∨
     ∃ (k:Nat) (rest:List Int) (a F:Nat),k<7∧(S best).free k=(a:Int)::rest∧(∀ j,j<k→(S best).free j = [])∧a<(z.rb best).n∧e=0∧f=(F:Int)∧(F:Int)=(a:Int)*z.zc.gG+nz z.pt.gH best∧F<z.nu∧
       dY h' w { z with rb:=upd z.rb best (akp (z.rb best) a 0),use:=upd z.use F u }∧Chg (fpQ w z.pt.gH.length) h h'))
theorem azb {n:Nat} (hn:6000<n) {h:ad} (hro:h.ro≤h.nx) {w:RPP} {z:RZ} (b:dY h w z) (ok:ROk z) (rm:RRoom z) (hne:0<z.pt.gH.length) {S:Nat→cw} (ts:∀ i,i<z.pt.gH.length→fL (z.rb i) (S i)) {u:Nat} (hu2:2≤u) (hu:u≤6) :
    dM (aK n (.ptr w.p 0) (u:Int) h) (RPTk h w z S u):=by
  unfold aK vx sH rB
  have e1:decide ((u:Int)<2)=false:=iJ (by omega)
  have e2:decide ((6:Int)<(u:Int))=false:=iJ (by omega)
  have hln:=ok.ln
  simp only [au,N4 b,Bool.not_true,e1,e2]
  refine aF.bind (aAR (by omega) hro b ok) ?_
  rintro _ h3 ⟨rfl,g3⟩
  have b3:=b.grow g3
  have hi7:∀ K,apC 1 7 false (.agg (cC (aeg z))) (u:Int) K=K (.int .i64 (aeg z u)):=by
    intro K
    rw [aCq (n:=7) rfl (show u<7 by omega)]
    congr 1
    have:=cC_at (aeg z) (show u<7 by omega)
    rw [iv (show u<(cC (aeg z)).length by show u<7; omega)] at this
    exact Option.some.inj this
  simp only [au,hi7,v_rquota b3 hu2 hu]
  refine aL.ifB (fun e=>?_) fun e=>?_
  · rw [Bool.not_eq_true',iD] at e
    exact KS (.inl ⟨by omega,rfl,rfl,g3⟩)
  rw [Bool.not_eq_false',iz] at e
  refine aEx (by omega) b3 ok _ _ _ _ _ (fun best hbest=>?_) n 1 0 hne (by omega) (by omega) (by omega) (fun j hj=>by rw [show j=0 by omega]; exact iA _) (fun j hj=>by omega)
  unfold ud
  simp only [au,jC b3.own.cl,awD,b3.bud hbest.1]
  refine dM.bind (aFW (o:=0) hn (g3.le hro) (b3.each best hbest.1) (ts best hbest.1) (by omega)) ?_
  rintro v er h14 (⟨rfl,rfl,g14,hemp⟩ | ⟨rfl,k,rest,_,hk,hx,hemp,a,rfl,hin,bn,c14⟩)
  · refine KS (.inr ⟨e,best,hbest,.inl ⟨fun j hj=>hemp j (by omega) hj,rfl,rfl,g3.trans g14⟩⟩)
  · have ha:a<(z.rb best).n:=hin
    obtain ⟨F,hF,eF,f0,f1⟩:=rm.frame ok hbest.1 ha
    have b14:=b3.setRB hbest.1 bn c14
    obtain ⟨c0,c1⟩:=rm.col best hbest.1
    have hco:=rm.co
    have fr:=aD0 (n:=n) b14 (i:=best) (x:=(a:Int)) hln hbest.1 ⟨f0,by show (a:Int)*z.zc.gG≤_; omega⟩ ⟨c0,by show nz z.pt.gH best≤_; omega⟩
    have t0:∀ (A B:ah),ifB (!((0:Int)==0)) A B=B:=fun _ _=>rfl
    have eF':(a:Int)*({ z with rb:=upd z.rb best { setOp (z.rb best) a (2^0) false with tk:=upd (z.rb best).tk a ((1+0:Nat):Int) } }:RZ).zc.gG+nz ({ z with rb:=upd z.rb best { setOp (z.rb best) a (2^0) false with tk:=upd (z.rb best).tk a ((1+0:Nat):Int) } }:RZ).pt.gH best=(F:Int):=eF
    simp only [au,t0,fr,eF',jC b14.own.cl,awQ]
    simp only [aeZ hF]
    refine ed.bind (uI b14.use (by rw [akq]; exact hF) rfl) ?_
    intro h20 p20
    have b20:=b14.setUse hF p20
    refine KS (.inr ⟨e,best,hbest,.inr ⟨k,rest,a,F,hk,hx,fun j hj=>hemp j (by omega) hj,ha,rfl,rfl,eF.symm,hF,b20,?_⟩⟩)
    exact (g3.chg _).trans ((c14.mono fun d _ e=>fpS_Q hbest.1 d e).trans (p20.chg.mono fun d _ e=>.inr (.inl e)))
end Go.Proofs.YtnlbfbiogfilfaaGreat.Sh
/- The document's pool: a frame given back; the image. -/
namespace Go.Proofs.YtnlbfbiogfilfaaGreat.Sh
open Go.Ai
theorem awy {n:Nat} {h:ad} {w:RPP} {z:RZ} (b:dY h w z) (ok:ROk z) {f:Int} (hf:f<0∨(z.nu:Int)≤f∨z.use f.toNat=0∨z.use f.toNat=1):aF (aJ n (.ptr w.p 0) f h) fun r h'=>r=91∧h'=h:=by
  unfold aJ vv sF rE rC rI
  simp only [au,N4 b,Bool.not_true,jC b.own.cl,awQ,aeF]
  refine aL.ifB (fun e=>nT ⟨rfl,rfl⟩) fun e=>?_
  rw [iD] at e
  obtain ⟨F,rfl⟩:=iM (show 0≤f by omega)
  by_cases hF:F<z.nu
  · have e1:decide ((F:Int)<(z.nu:Int))=true:=iO (by omega)
    rw [iI] at hf
    simp only [au,e1,Bool.not_true,ajN hF b.use.cl (amb hF)]
    refine aL.ifB (fun e2=>nT ⟨rfl,rfl⟩) fun e2=>?_
    rw [iT] at e2
    refine aL.ifB (fun e3=>nT ⟨rfl,rfl⟩) fun e3=>?_
    rw [iT] at e3
    omega
  · have e1:decide ((F:Int)<(z.nu:Int))=false:=iJ (by omega)
    simp only [au,e1,Bool.not_false]
    exact nT ⟨rfl,rfl⟩
abbrev kRPG:=gd
theorem aEm {n:Nat} (hn:5000<n) {w:RPP} {z:RZ} (ok:ROk z) (rm:RRoom z) {h0:ad} (f1) {F i0 a:Nat} (hF:F<z.nu) (hi0:i0<z.pt.gH.length) (hc:nz z.pt.gH i0=(F:Int)%z.zc.gG) (inj:∀ j,j<z.pt.gH.length→nz z.pt.gH j=(F:Int)%z.zc.gG→j=i0) (ha:(F:Int)/z.zc.gG=a) (han:a<(z.rb i0).n) (ht:(z.rb i0).tk a=1) :
    ∀ (q i:Nat) (h:ad),dY h w (if i≤i0 then z else { z with rb:=upd z.rb i0 (akZ (z.rb i0) a) })→Chg (fpQ w z.pt.gH.length) h0 h→i≤z.pt.gH.length→z.pt.gH.length-i<q→
    aF (fun k:kRPG=>tW n f1 (cO n) k q (.ptr w.p 0) (F:Int) (i:Int) h) fun r h'=>r=0∧dY h' w { z with rb:=upd z.rb i0 (akZ (z.rb i0) a),use:=upd z.use F 0 }∧Chg (fpQ w z.pt.gH.length) h0 h':=by
  intro q
  have hln:=ok.ln
  have hnu:=ok.nu
  have hco:=rm.co
  induction q with
  | zero=>omega
  | succ q ih=>
    intro i h b c hi hq
    simp only [ab8]
    unfold ue xk tU
    obtain ⟨z',hz',hpt,hzc,hnu'⟩:∃ z',z'=(if i≤i0 then z else { z with rb:=upd z.rb i0 (akZ (z.rb i0) a) })∧z'.pt=z.pt∧z'.zc=z.zc∧z'.nu=z.nu:=⟨_,rfl,by split<;>rfl,by split<;>rfl,by split<;>rfl⟩
    rw [← hz'] at b
    have hlen:z'.pt.gH.length=z.pt.gH.length:=by rw [hpt]
    have bl:=b.gJ.len
    rw [hlen] at bl
    simp only [au,jC b.own.cl,awD,bl]
    refine aL.ifB (fun e=>?_) fun e=>?_
    · rw [iz] at e
      have hlt:i<z.pt.gH.length:=by omega
      have hcol:=b.col (i:=i) (by rw [hlen]; exact hlt) (by rw [hlen]; exact hln)
      rw [hpt] at hcol
      have hmod:((F:Int)).tmod z.zc.gG=(F:Int)%z.zc.gG:=Int.tmod_eq_emod_of_nonneg (by omega)
      have hco1:(rpC w z')[1]?=some (.int .i64 z.zc.gG):=by rw [rp_1,hzc]
      simp only [au,rp_17,hcol,hco1,aqo (show z.zc.gG≠0 by omega),hmod,mt (show i≤9223372036854775806 by omega)]
      refine aL.ifB (fun e1=>?_) fun e1=>?_
      · rw [ij] at e1
        have:i=i0:=inj i hlt e1
        subst this
        rw [if_pos (iA i)] at hz'
        subst hz'
        have hdiv:((F:Int)).tdiv z'.zc.gG=(a:Int):=by rw [Int.tdiv_eq_ediv_of_nonneg (by omega),ha]
        have s1:=ok.small i hlt
        have w1:IntKind.i64.wrap (a:Int)=(a:Int):=rK (by omega) (by omega)
        simp only [au,b.bud hlt,ah7 (show z'.zc.gG≠0 by omega),hdiv,w1]
        refine aF.bind (v_rGive (by omega) (b.each i hlt) (by omega) han ht) ?_
        rintro _ h38 ⟨rfl,bn,c38⟩
        have b38:=b.setRB hlt bn c38
        refine ih (i+1) h38 ?_ (c.trans (c38.mono fun d _ e=>fpS_Q hlt d e)) (by omega) (by omega)
        rw [if_neg (by omega)]
        exact b38
      · rw [iT] at e1
        refine ih (i+1) h ?_ c (by omega) (by omega)
        have:i≠i0:=fun e2=>e1 (by rw [e2]; exact hc)
        by_cases e3:i≤i0
        · rw [if_pos e3] at hz'
          rw [if_pos (by omega), ← hz']; exact b
        · rw [if_neg e3] at hz'
          rw [if_neg (by omega), ← hz']; exact b
    · rw [iD] at e
      have:i=z.pt.gH.length:=by omega
      rw [if_neg (by omega)] at hz'
      subst hz'
      simp only [au,awQ]
      simp only [aeZ hF]
      refine ed.bind (uI b.use (by rw [akq]; exact hF) rfl) ?_
      intro h16 p16
      exact nT ⟨rfl,b.setUse hF p16,c.trans (p16.chg.mono fun d _ e=>.inr (.inl e))⟩
theorem v_rPGive {n:Nat} (hn:5000<n) {h:ad} {w:RPP} {z:RZ} (b:dY h w z) (ok:ROk z) (rm:RRoom z) {F i0 a:Nat} (hF:F<z.nu) (hu:2≤z.use F) (hi0:i0<z.pt.gH.length) (hc:nz z.pt.gH i0=(F:Int)%z.zc.gG) (inj:∀ j,j<z.pt.gH.length→nz z.pt.gH j=(F:Int)%z.zc.gG→j=i0) (ha:(F:Int)/z.zc.gG=a) (han:a<(z.rb i0).n) (ht:(z.rb i0).tk a=1) :
    aF (aJ n (.ptr w.p 0) (F:Int) h) fun r h'=>r=0∧dY h' w { z with rb:=upd z.rb i0 (akZ (z.rb i0) a),use:=upd z.use F 0 }∧Chg (fpQ w z.pt.gH.length) h h':=by
  unfold aJ vv sF rE rC rI
  have e0:decide ((F:Int)<0)=false:=iJ (by omega)
  have e1:decide ((F:Int)<(z.nu:Int))=true:=iO (by omega)
  have e2:(z.use F==0)=false:=iT.2 (by omega)
  have e3:(z.use F==1)=false:=iT.2 (by omega)
  have hln:=ok.ln
  simp only [au,N4 b,Bool.not_true,jC b.own.cl,awQ,aeF,e0,e1,ajN hF b.use.cl (amb hF),e2,e3]
  exact aEm hn ok rm _ hF hi0 hc inj ha han ht n 0 h (by rw [if_pos (Nat.zero_le _)]; exact b) (be.refl.chg _) (by omega) (by omega)
def are (use:Nat→Int) (co c a:Int):Nat→Nat→Int
  | 0=>use
  | j+1=>upd (are use co c a j) ((a+(j:Int))*co+c).toNat 1
abbrev kRPI:=f8
theorem aDJ {n:Nat} {w:RPP} {z:RZ} (ok:ROk z) (rm:RRoom z) {h0:ad} (f1 f2) {o a:Nat} (ho:o<7) (hord:z.pt.order=(o:Int)) (hne:0<z.pt.gH.length) (hin:a+2^o≤(z.rb 0).n):∀ (q j:Nat) (h:ad) (v:AV),h.ro≤h.nx→dY h w { z with use:=are z.use z.zc.gG (nz z.pt.gH 0) (a:Int) j }→Chg (fpQ w z.pt.gH.length) h0 h→
    Lst h v (pC z.zc.gG (nz z.pt.gH 0) (a:Int) j)→(∀ d,v.blk=some d→h0.nx≤d∧¬ fpQ w z.pt.gH.length d)→j≤2^o→2^o-j<q→
    dM (fun k:kRPI=>ti n f1 f2 (ce n) k q (.ptr w.p 0) (a:Int) v (j:Int) h) fun r e h'=>e=0∧Lst h' r (pC z.zc.gG (nz z.pt.gH 0) (a:Int) (2^o))∧dY h' w { z with use:=are z.use z.zc.gG (nz z.pt.gH 0) (a:Int) (2^o) }∧(∀ d,r.blk=some d→h0.nx≤d∧¬ fpQ w z.pt.gH.length d)∧Chg (fun d=>fpQ w z.pt.gH.length d∨h0.nx≤d) h0 h':=by
  intro q
  obtain ⟨p0,p1,p2⟩:=Ov ho
  obtain ⟨q1,q2,q3⟩:=aaQ ho
  have hln:=ok.ln
  have hnu:=ok.nu
  have hsm:=ok.small 0 hne
  induction q with
  | zero=>omega
  | succ q ih=>
    intro j h v hro b c hv hvf hj hq
    simp only [ZG]
    unfold tN ww
    have h18:(rpC w { z with use:=are z.use z.zc.gG (nz z.pt.gH 0) (a:Int) j })[18]?=some (.int .i64 (o:Int)):=by rw [rp_18]; show some (AV.int .i64 z.pt.order)=_; rw [hord]
    simp only [au,jC b.own.cl,h18,IL (il o),q1]
    refine aL.ifB (fun e=>?_) fun e=>?_
    · rw [iz] at e
      have hlt:j<2^o:=by omega
      have w1:IntKind.i64.wrap ((a:Int)+(j:Int))=((a+j:Nat):Int):=by rw [rK (by omega) (by omega)]; omega
      obtain ⟨F,hF,eF,f0,f3⟩:=rm.frame ok hne (show a+j<(z.rb 0).n by omega)
      obtain ⟨c0,c1⟩:=rm.col 0 hne
      have hco:=rm.co
      have fr:=aD0 (n:=n) b (i:=0) (x:=((a+j:Nat):Int)) hln hne ⟨f0,by show ((a+j:Nat):Int)*z.zc.gG≤_; omega⟩ ⟨c0,by show nz z.pt.gH 0≤_; omega⟩
      have fr':∀ k:Int→ad→ah,ce n (.ptr w.p 0) 0 ((a+j:Nat):Int) h k=k (F:Int) h:=fun k=>by
        have:=fr k
        rw [show ((a+j:Nat):Int)*({ z with use:=are z.use z.zc.gG (nz z.pt.gH 0) (a:Int) j }:RZ).zc.gG+nz ({ z with use:=are z.use z.zc.gG (nz z.pt.gH 0) (a:Int) j }:RZ).pt.gH 0=(F:Int) from eF] at this
        exact this
      have eF2:((a:Int)+(j:Int))*z.zc.gG+nz z.pt.gH 0=(F:Int):=by rw [← eF]; congr 2
      simp only [au,w1,fr',jC b.own.cl,awQ]
      simp only [aeZ hF]
      refine ed.bind (uI b.use (by rw [akq]; exact hF) rfl) ?_
      intro h26 p26
      have b26:=b.setUse hF p26
      refine aF.bind (Dv (fun k=>by rfl)) ?_
      rintro _ h28 ⟨rfl,c28,g28⟩
      have hv26:=hv.chg p26.chg fun d e1 e2=>(hvf d e1).2 (.inr (.inl e2))
      have b28:=b26.grow g28
      have hro26:=p26.chg.le hro
      refine aF.bind (aaA (g28.le hro26) (hv26.grow g28) c28 (by rw [CN]; omega)) ?_
      rintro v' h30 ⟨l30,bb30,c30⟩
      have b30:=b28.chg c30 fun d e1 e2=>(hvf d e2).2 e1
      simp only [au,mt (show j≤9223372036854775806 by omega)]
      have hn0:h0.nx≤h28.nx:=iE (iE c.nx p26.chg.nx) g28.nx
      have c':Chg (fpQ w z.pt.gH.length) h0 h28:=(c.trans (p26.chg.mono fun d _ e=>.inr (.inl e))).trans (g28.chg _)
      refine ih (j+1) h30 v' (c30.le (g28.le hro26)) ?_ ⟨iE c'.nx c30.nx,c30.ro.trans c'.ro,fun d hd hf=>?_⟩ ?_ (fun d e1=>?_) (by omega) (by omega)
      · have:are z.use z.zc.gG (nz z.pt.gH 0) (a:Int) (j+1)=upd (are z.use z.zc.gG (nz z.pt.gH 0) (a:Int) j) F 1:=by rw [are,eF2,iI]
        rw [this]; exact b30
      · rw [c30.old d (iy hd c'.nx) fun e1=>?_,c'.old d hd hf]
        have:=(hvf d e1).1
        omega
      · rw [We,eF2]; exact l30
      · rcases bb30 d e1 with e2 | e2
        · exact hvf d e2
        · refine ⟨by omega,fun e3=>?_⟩
          have:=b28.lt e3
          omega
    · rw [iD] at e
      have:j=2^o:=by omega
      subst this
      exact KS ⟨rfl,hv,b,hvf,c.mono fun d _ e=>.inl e⟩
def RPIm (h:ad) (w:RPP) (z:RZ) (s:cw) (o:Nat) (r:AV) (e:Int) (h':ad):Prop:=
  ((∀ j,o≤j→j<7→s.free j = [])∧r = .nilslice∧e=4∧be h h')∨
  (∃ (k:Nat) (rest:List Int) (a:Nat),o≤k∧k<7∧s.free k=(a:Int)::rest∧(∀ j,o≤j→j<k→s.free j = [])∧a+2^o≤(z.rb 0).n∧e=0∧Lst h' r (pC z.zc.gG (nz z.pt.gH 0) (a:Int) (2^o))∧
    dY h' w { z with rb:=upd z.rb 0 (akp (z.rb 0) a o),use:=are z.use z.zc.gG (nz z.pt.gH 0) (a:Int) (2^o),img:=true }∧(∀ d,r.blk=some d→h.nx≤d)∧Chg (fpQ w z.pt.gH.length) h h')
theorem axn {n:Nat} {h:ad} {w:RPP} {z:RZ} (b:dY h w z) (hi:z.img=true):dM (aG n (.ptr w.p 0) h) fun r e h'=>r = .nilslice∧e=91∧h'=h:=by
  unfold aG uB rU
  have h27:(rpC w z)[27]?=some (.bool true):=by rw [rp_27,hi]
  simp only [au,N4 b,Bool.not_true,jC b.own.cl,h27]
  exact KS ⟨rfl,rfl,rfl⟩
theorem aBa {n:Nat} (hn:6000<n) {h:ad} (hro:h.ro≤h.nx) {w:RPP} {z:RZ} (b:dY h w z) (ok:ROk z) (rm:RRoom z) (hi:z.img=false) {o:Nat} (ho:o<7) (hord:z.pt.order=(o:Int)) (hne:0<z.pt.gH.length) {s:cw} (ts:fL (z.rb 0) s) :
    dM (aG n (.ptr w.p 0) h) (RPIm h w z s o):=by
  unfold aG uB rU
  have h27:(rpC w z)[27]?=some (.bool false):=by rw [rp_27,hi]
  have h18:(rpC w z)[18]?=some (.int .i64 (o:Int)):=by rw [rp_18,hord]
  obtain ⟨p0,p1,p2⟩:=Ov ho
  have b0:∀ k:AV→AV→ah,eld 1 h w.vl 0 1 false k=k (elP w.vl 1 0) (.ptr (w.bp 0) 0):=b.bud hne
  simp only [au,N4 b,Bool.not_true,jC b.own.cl,h27,awD,b0,h18]
  refine dM.bind (aFW hn hro (b.each 0 hne) ts ho) ?_
  rintro x e h13 (⟨rfl,rfl,g,hemp⟩ | ⟨rfl,k,rest,hk1,hk2,hx,hemp,a,rfl,hin,bn,c13⟩)
  · exact KS (.inl ⟨hemp,rfl,rfl,g⟩)
  · have b13:=b.setRB hne bn c13
    have t0:∀ (A B:ah),ifB (!((0:Int)==0)) A B=B:=fun _ _=>rfl
    simp only [au,t0,aut]
    refine ed.bind (uI b13.own (by show 27<29; omega) rfl) ?_
    intro h15 p15
    have b15:=b13.setImg p15
    have c15:Chg (fpQ w z.pt.gH.length) h h15:=(c13.mono fun d _ e=>fpS_Q hne d e).trans (p15.chg.mono fun d _ e=>.inl e)
    have en:∀ r:RB,(akp r a o).n=r.n:=fun r=>rfl
    have ok':ROk { z with rb:=upd z.rb 0 (akp (z.rb 0) a o),img:=true }:=by
      refine ⟨ok.ln,fun i hi'=>?_,ok.nu,ok.use⟩
      show (upd z.rb 0 _ i).n≤4096
      by_cases e:i=0
      · subst e; rw [lm]; exact ok.small 0 hne
      · rw [kX _ _ e]; exact ok.small i hi'
    have rm':RRoom { z with rb:=upd z.rb 0 (akp (z.rb 0) a o),img:=true }:=by
      refine ⟨rm.co,rm.col,fun i hi' x hx=>?_⟩
      have hx':x<(upd z.rb 0 (akp (z.rb 0) a o) i).n:=hx
      by_cases e:i=0
      · subst e; rw [lm] at hx'; exact rm.at_ 0 hne x hx'
      · rw [kX _ _ e] at hx'; exact rm.at_ i hi' x hx'
    refine aL.mono (aDJ (a:=a) ok' rm' _ _ ho hord hne (by show a+2^o≤(upd z.rb 0 _ 0).n; rw [lm]; exact hin) n 0 h15 .nilslice (c15.le hro) b15 (be.refl.chg _) (by simpa [pC] using Lst.nil) (fun d e=>by cases e) (by omega) (by omega)) ?_
    rintro ⟨r,e,h'⟩ ⟨r1,r2,r3,r4,r5⟩
    refine .inr ⟨k,rest,a,hk1,hk2,hx,hemp,hin,r1,r2,r3,fun d e=>?_,?_⟩
    · have:=(r4 d e).1; have:=c15.nx; omega
    · refine ⟨iE c15.nx r5.nx,r5.ro.trans c15.ro,fun d hd hf=>?_⟩
      rw [r5.old d (iy hd c15.nx) fun e1=>?_,c15.old d hd hf]
      rcases e1 with e1 | e1
      · exact hf e1
      · have:=c15.nx; omega
end Go.Proofs.YtnlbfbiogfilfaaGreat.Sh
