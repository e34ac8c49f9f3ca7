/- Take and Give upon the state; what is held lies apart; all given back. -/
import Derived.Test.YtlgbmkemfinogaaGreatLS9LS12
import Derived.Test.YtlgbmkemfinogaaGreatAiLstLUBud
import Derived.ChangeArms
set_option linter.all false
namespace Go.Proofs.YtlgbmkemfinogaaGreat.Sh
open Go.Ai
section
variable {n:Nat} {zc:br} {p:Nat} {M:List Int} {u:Nat} {hb h:Heap} {sp sm:Nat} {w:bX} {z:bf} {E:Frs} {T:List Int} {v9 v11:AV} {l9 l:List Int}
theorem v_FTake (v:FEnv n zc p M u hb) (s:FSt zc p M u hb h sp sm w z E T v9 l9 v11 l) :
    dY (bq n (.ptr sp 0) h) fun a e h'=>(e=0∧(T.length:Int)<mh (jk zc p) u*F0 u∧∃ w' z' E',w'.p=w.p∧FSt zc p M u hb h' sp sm w' z' E' (T++[a]) v9 l9 v11 l)∨(e=4∧a=0∧h'=h∧¬ (T.length:Int)<mh (jk zc p) u*F0 u):=by
  obtain ⟨o1,o2,o3,o4⟩:=v.ok s
  obtain ⟨c1,c2,c3,c4⟩:=Xv v.use
  have hn:=v.n7
  have hu:=v.use
  refine aR.mono (v_STake (by omega) (s.g.le v.ro) s.slab o1 (by omega) s.ok.key (s.ok.rng v.po) (by omega) s.ok.row c1 c2 (by omega) c4 (s.ok.fresh v.po v.may (by omega) s.slab.pool)) ?_
  rintro ⟨a,e,h'⟩ ht
  rcases ht with ⟨f,b,row,i,he,hi,rfl,rfl,s',c'⟩ | ⟨hno,⟨rfl,e1,rfl,f,hp⟩ | ⟨rfl,f,h1,bv',best,k,at_,rest,b,hp,hbest,k0,hk7,hx,hemp,hf,hq,rfl,s',hb',fp',c'⟩⟩
  · refine .inl ⟨rfl,s.ok.less (by omega) he hi,w,z,_,rfl,s.work s' (s.ok.take he hi) (fun d hd=>.inl ?_) c'⟩
    rcases hd with hd | hd | ⟨e,he',rfl⟩ | hd
    · exact .inl hd
    · exact .inr (.inl hd)
    · obtain ⟨e2,h2,_,h4,_⟩:=Eg he'
      exact .inr (.inr (.inl ⟨e2,h2,h4⟩))
    · exact .inr (.inr (.inr hd))
  · obtain ⟨e4,hfull⟩:=s.ok.full v.po v.may (by omega) hno s.slab.pool hp e1
    exact .inr ⟨e4,rfl,rfl,by omega⟩
  · obtain ⟨ok',hlt⟩:=s.ok.open (b:=b) v.po (by omega) c4 hno hq hbest.1 hk7 hx hemp hf
    refine .inl ⟨rfl,hlt,{ w with bv:=bv' },_,_,rfl,s.work s' ok' (fun d hd=>?_) c'⟩
    rcases hd with hd | hd | ⟨e,he',rfl⟩ | hd
    · exact .inl (.inl hd)
    · exact .inl (.inr (.inl hd))
    · obtain ⟨e2,h2,_,h4,_⟩:=Eg he'
      rw [h4]
      rcases gT.1 h2 with h2 | h2
      · exact .inl (.inr (.inr (.inl ⟨e2,h2,rfl⟩)))
      · simp at h2
        subst h2
        exact .inr hb'
    · rcases fp' d hd with h2 | h2
      · exact .inl (.inr (.inr (.inr h2)))
      · exact .inr h2
theorem aoy (v:FEnv n zc p M u hb) (s:FSt zc p M u hb h sp sm w z E T v9 l9 v11 l) {k:Nat} (hk:k<T.length) :
    aJ (aZ n (.ptr sp 0) (nz T k) h) fun r h'=>r=0∧∃ w' z' E',w'.p=w.p∧FSt zc p M u hb h' sp sm w' z' E' (T.eraseIdx k) v9 l9 v11 l∧
      ∃ (f:Int) (i:Nat),nz T k=f*256+i*szU u∧(0≤f∧f<4096)∧i<F0 u∧(f∉E'.map (·.1)∨∃ b row,(f,b,row)∈E'∧row[i]?=some false):=by
  obtain ⟨o1,o2,o3,o4⟩:=v.ok s
  obtain ⟨c1,c2,c3,c4⟩:=Xv v.use
  have hn:=v.n7
  have hu:=v.use
  obtain ⟨f,b,row,i,he,hi,hat⟩:=s.ok.has hk
  have hrl:row.length=F0 u:=s.ok.row _ he
  have hil:i<row.length:=(gr.1 hi).1
  have hf:=s.ok.rng v.po _ he
  have hfm:f∈(NE u E).map (·.1):=by rw [Yg]; exact fY.2 ⟨_,he,rfl⟩
  rw [hat]
  refine aR.mono (v_SGive (cnt:=F0 u) (G:=fun z'=>z'.fD=z.fD∧eL zc p M (xJ f (NE u E)) z') (s.g.le v.ro) s.slab s.ok.key c1 c2 (by omega) (by omega) hf he hrl hi fun h1 hro1 p1=>?_) ?_
  · refine aR.mono (v_PGiveA hn hro1 p1 s.ok.a v.po v.may hfm) ?_
    rintro ⟨r,h'⟩ ⟨r1,w',z',r2,r3,r4,r5,r6,r7⟩
    exact ⟨r1,w',z',r2,by rw [r3],⟨r3,r5⟩,r4,r6,r7⟩
  · rintro ⟨r,h'⟩ ⟨rfl,c',h1⟩
    rcases h1 with ⟨hon,s'⟩ | ⟨hoff,w',z',r2,r3,⟨_,r5⟩,s',r6⟩
    · refine ⟨rfl,w,z,_,rfl,s.work s' (s.ok.give hk he hi hat hon) (fun d hd=>.inl ?_) c',f,i,rfl,hf,by omega,.inr ⟨b,row.set i false,?_,?_⟩⟩
      · rcases hd with hd | hd | ⟨e,he',rfl⟩ | hd
        · exact .inl hd
        · exact .inr (.inl hd)
        · obtain ⟨e2,h2,_,h4,_⟩:=Eg he'
          exact .inr (.inr (.inl ⟨e2,h2,h4⟩))
        · exact .inr (.inr (.inr hd))
      · unfold CG
        exact fY.2 ⟨_,he,by rw [if_pos rfl]⟩
      · exact List.getElem?_set_self hil
    · refine ⟨rfl,w',z',_,r2,s.work s' (s.ok.giveF hk he hi hat hoff r5) (fun d hd=>?_) c',f,i,rfl,hf,by omega,.inl fun hm=>?_⟩
      · rcases hd with hd | hd | ⟨e,he',rfl⟩ | hd
        · exact .inl (.inl hd)
        · exact .inl (.inr (.inl hd))
        · exact .inl (.inr (.inr (.inl ⟨e,(Pn.1 he').1,rfl⟩)))
        · rw [r3] at hd
          rcases r6 d hd with h2 | h2
          · exact .inl (.inr (.inr (.inr h2)))
          · exact .inr h2
      · obtain ⟨e,he',h2⟩:=fY.1 hm
        exact (Pn.1 he').2 h2
theorem v_Fr_7 (v:FEnv n zc p M u hb) {v1:AV} {i:Nat} (hi:i≤1000) {v10:Int} (s:FSt zc p M u hb h sp sm w z E T v9 l9 v11 T) {J:eW→bA} {Q:Bool × Heap→Prop}
    (hJ:∀ h',FSt zc p M u hb h' sp sm w z E T v9 l9 v11 T→aR ap1 (fun k=>J k v1 (.ptr w.p 0) (u:Int) (.ptr sp 0) v9 v10 v11 ((i+1:Nat):Int) h') Q) :
    aR ap1 (fun k=>lA n (cE n) (ba n) (aM n) (aU n) (bH n) (bz n) (qY be) (bj n) (cF n) (aW n) (aL n) (bq n) (aZ n) (bG n) (aX n) k (J k) v1 (.ptr w.p 0) (u:Int) (.ptr sp 0) v9 v10 v11 (i:Int) h) Q:=by
  obtain ⟨o1,o2,o3,o4⟩:=v.ok s
  obtain ⟨c1,c2,c3,c4⟩:=Xv v.use
  have hn:=v.n7
  have hu:=v.use
  unfold lA nF
  refine aJ.bind (v_Held (by omega) (s.g.le v.ro) s.slab s.ok.key (s.ok.rng v.po) o3 s.ok.row c1 c2 c3) ?_
  rintro r h1 ⟨a1,b1,g1⟩
  have hp:=s.ok.held
  have hpl:=hp.length_eq
  have t0:(!(((zM (szU u) E (om (E.map (·.1)))).length:Int)==(T.length:Int)))=false:=by rw [hpl]; simp
  simp only [au,App.len a1,s.row.len,t0]
  have s1:=s.grow g1
  have huses:z.uses=img M (NE u E):=s.ok.a.inv.uses
  have hmem:∀ a,a∈zM (szU u) E (om (E.map (·.1)))↔∃ e∈E,∃ j:Nat,e.2.2[j]?=some true∧a=e.1*256+(j:Int)*szU u:=fun a=>by rw [(ajP s.ok.key).mem_iff]; exact ag7
  have hjc:∀ e∈E,∀ j:Nat,e.2.2[j]?=some true→j<F0 u:=fun e he j hj=>by
    have:=(gr.1 hj).1
    rw [s.ok.row e he] at this
    exact this
  have li:Lies (zM (szU u) E (om (E.map (·.1)))) (szU u) (F0 u):=by
    refine ⟨held_gap c1 c2 s.ok.row s.ok.key,fun a ha=>?_⟩
    obtain ⟨e,he,j,hj,rfl⟩:=(hmem a).1 ha
    obtain ⟨r1,r2⟩:=s.ok.rng v.po e he
    exact ⟨e.1.toNat,j,by omega,hjc e he j hj,by rw [Int.toNat_of_nonneg r1]⟩
  refine aJ.bind (v_apart (K:=E.map (·.1)) hn (s1.g.le v.ro) s1.slab.pool (fun e he=>?_) ?_ ?_ hu (ajD a1 (by omega)) (App.len a1) (by omega) li s.ok.key (fun f=>?_) (fun f=>?_) ?_ (by omega)) ?_
  · rw [huses] at he
    have h2:=s.ok.a.inv.inv.own v.po (f:=e.1) (fY.2 ⟨e,he,rfl⟩)
    unfold Kg; omega
  · rw [huses]; exact s.ok.a.inv.inv.nodup
  · rw [huses]
    have:(img M (NE u E)).length=M.length+E.length:=by simp [Sh.img,NE]
    omega
  · rw [fY,fY]
    constructor
    · rintro ⟨e,he,rfl⟩
      obtain ⟨j,hj⟩:=List.mem_iff_getElem?.1 (s.ok.one e he)
      obtain ⟨p1,p2⟩:=BO c1 c2 (hjc e he j hj)
      exact ⟨_,(hmem _).2 ⟨e,he,j,hj,rfl⟩,by omega⟩
    · rintro ⟨a,ha,rfl⟩
      obtain ⟨e,he,j,hj,rfl⟩:=(hmem a).1 ha
      obtain ⟨p1,p2⟩:=BO c1 c2 (hjc e he j hj)
      exact ⟨e,he,by omega⟩
  · rw [huses,fY]
    unfold Sh.img
    rw [gT,fY]
    constructor
    · rintro ⟨e,he,rfl⟩
      exact .inr (fY.2 ⟨e,he,rfl⟩)
    · rintro (⟨x,_,h2⟩ | h2)
      · have:=congrArg (·.2) h2
        dsimp only at this
        omega
      · obtain ⟨e,he,h3⟩:=fY.1 h2
        exact ⟨e,he,congrArg (·.1) h3⟩
  · rw [huses,s.ok.cntE (by omega),gR]
  · rintro _ h2 ⟨rfl,g2⟩
    simp only [au,Bool.not_true,kP (show i≤9223372036854775806 by omega)]
    exact hJ h2 (s1.grow g2)
theorem _root_.Go.Ai.Lst.shows {h:Heap} {v:AV} {l:List Int} (s:Lst h v l):Shows h v l:=by
  refine ⟨?_,s.len,s.small,fun hne=>?_⟩
  · rcases s with ⟨rfl,rfl⟩ | ⟨b,ext,rest,rfl,_⟩<;>rfl
  · rcases s with ⟨_,rfl⟩ | ⟨b,ext,rest,rfl,ow,hr,h0,hm⟩
    · exact (hne rfl).elim
    · refine ⟨b,0,ext,true,_,rfl,ow.cl,?_⟩
      rw [pN,List.drop_zero,if_pos (by simp [nW]),List.take_append_of_le_length (by rw [nW]; omega),List.take_of_length_le (by rw [nW]; omega)]
theorem v_Fr_2 (v:FEnv n zc p M u hb) {z0:bf} (a0:eL zc p M [] z0) (s:FSt zc p M u hb h sp sm w z E [] v9 (Ja z0) v11 l) :
    aJ (fun k=>nD n (cE n) (ba n) (aM n) (aU n) (bH n) (bz n) (qY be) (bj n) (cF n) (aW n) (aL n) (bq n) (aZ n) (bG n) (aX n) k (.ptr w.p 0) (.ptr sp 0) v9 h) fun r h'=>r=true∧bo hb h':=by
  obtain ⟨o1,o2,o3,o4⟩:=v.ok s
  obtain ⟨c1,c2,c3,c4⟩:=Xv v.use
  have hn:=v.n7
  have hE:=s.ok.nil
  subst hE
  have a1:eL zc p M [] z:=s.ok.a
  unfold nD nA ny
  refine aJ.bind (v_Whole s.slab.pool) ?_
  rintro _ h1 ⟨rfl,rfl⟩
  have t0:((z.uses.length:Int)==z.fF 1)=true:=by
    rw [a1.cnt1,a1.inv.uses]
    simp [Sh.img]
  rw [t0]
  simp only [tO]
  refine aJ.bind (aoI (by omega) (s.g.le v.ro) s.slab.pool o1) ?_
  rintro x h2 ⟨l2,_,g2⟩
  have s2:=s.grow g2
  have hfr:Ja z=Ja z0:=by
    have lk:=like_of a0 a1
    unfold Ja
    rw [lk.fD]
    refine List.map_congr_left fun i hi=>?_
    rw [lk.fL (gS.1 hi)]
  rw [hfr] at l2
  have hlen:(Ja z0).length<n:=by
    have:(Ja z0).length=z0.fD.length:=by simp [Ja]
    have h3:=(adb a0.inv.inv v.po).2.2.1
    omega
  refine aJ.bind (v_EqInts hlen l2.shows s2.first.shows) ?_
  rintro _ h3 ⟨rfl,rfl⟩
  simp only [tO]
  refine aJ.bind (v_Held (by omega) (s2.g.le v.ro) s2.slab s2.ok.key (s2.ok.rng v.po) o3 s2.ok.row c1 c2 c3) ?_
  rintro r h4 ⟨a4,b4,g4⟩
  have hp:=s2.ok.held.length_eq
  have t1:(((zM (szU u) [] (om (([]:Frs).map (·.1)))).length:Int)==0)=true:=by rw [hp]; rfl
  simp only [au,App.len a4,t1]
  exact mQ ⟨rfl,s2.g.trans g4⟩
end
end Go.Proofs.YtlgbmkemfinogaaGreat.Sh
/- SlabFrames: the rounds. -/
namespace Go.Proofs.YtlgbmkemfinogaaGreat.Sh
open Go.Ai
section
variable {n:Nat} {zc:br} {p:Nat} {M:List Int} {u:Nat} {hb:Heap} {sp sm:Nat} {v9:AV} {z0:bf}
theorem v_Fr_3 (v:FEnv n zc p M u hb) (a0:eL zc p M [] z0) {v11:AV} {T0:List Int} (hT:T0.length≤65536) {P:Nat}:∀ (q j:Nat) (h:Heap) (w:bX) (z:bf) (E:Frs),FSt zc p M u hb h sp sm w z E (T0.drop j) v9 (Ja z0) v11 T0→w.p=P→j≤T0.length→T0.length-j<q→
    aJ (fun k=>nC n (cE n) (ba n) (aM n) (aU n) (bH n) (bz n) (qY be) (bj n) (cF n) (aW n) (aL n) (bq n) (aZ n) (bG n) (aX n) k q (.ptr P 0) (.ptr sp 0) v9 v11 (j:Int) h) fun r h'=>r=true∧bo hb h':=by
  intro q
  induction q with
  | zero=>omega
  | succ q ih=>
    intro j h w z E s hP hj hq
    simp only [Km]
    unfold nG
    simp only [s.row.len]
    refine aR.ifB (fun e=>?_) fun e=>?_
    · rw [nw,gn] at e
      have hlt:j<T0.length:=by omega
      have el:=(s.row.ints (by omega)).elN hlt
      have h0:0<(T0.drop j).length:=by rw [List.length_drop]; omega
      have hnz:nz (T0.drop j) 0=nz T0 j:=by
        rw [nQ h0,nQ hlt,List.getElem_drop]; rfl
      have her:(T0.drop j).eraseIdx 0=T0.drop (j+1):=by
        rw [gx hlt]; rfl
      simp only [el]
      have key:=aoy v s h0
      rw [hnz,her] at key
      refine aJ.bind key ?_
      rintro _ h1 ⟨rfl,w',z',E',e1,s',_⟩
      have c3:(!((0:Int)==0))=false:=rfl
      simp only [au,c3,kP (show j≤9223372036854775806 by omega)]
      exact ih (j+1) h1 w' z' E' s' (e1.trans hP) (by omega) (by omega)
    · rw [nw,gt] at e
      have:j=T0.length:=by omega
      subst this
      rw [List.drop_length] at s
      subst hP
      exact v_Fr_2 v a0 s
def DoS (h:Heap) (v:AV) (m:Nat) (K W A:Nat→Int):Prop:=dF h v 3 m (fun i=>[.int .i64 (K i),.int .i64 (W i),.int .u64 (A i)])∧∀ i,i<m→0≤A i
theorem DoS.grow {h h':Heap} {v:AV} {m:Nat} {K W A:Nat→Int} (d:DoS h v m K W A) (g:bo h h'):DoS h' v m K W A:=⟨d.1.grow g,d.2⟩
theorem DoS.at_ {h:Heap} {v:AV} {m:Nat} {K W A:Nat→Int} (d:DoS h v m K W A) {i:Nat} (hi:i<m):(∃ a,∀ c:AV→Int→ab,Rh 3 v (i:Int) (fun x=>nR .i64 0 h x c)=c a (K i))∧∃ a,∀ c:AV→Int→ab,Rh 3 v (i:Int) (fun x=>nR .u64 2 h x c)=c a (A i):=by
  obtain ⟨s,_⟩:=d
  obtain ⟨b,off,l,d1,d2,d3,d4⟩:=s.at_ (i:=(i:Int)) (by omega) (by omega)
  rw [gy] at d4
  have d5:l[off+0]?=some (.int .i64 (K i)):=by
    have:=congrArg (·[0]?) d4
    simp only [List.getElem?_take,List.getElem?_drop] at this
    simpa using this
  have d7:l[off+2]?=some (.int .u64 (A i)):=by
    have:=congrArg (·[2]?) d4
    simp only [List.getElem?_take,List.getElem?_drop] at this
    simpa using this
  exact ⟨⟨_,fun c=>by rw [s.ia (by omega) (by omega),d1,agn d2 d5]⟩,⟨_,fun c=>by rw [s.ia (by omega) (by omega),d1,agn d2 d7]⟩⟩
theorem v_Fr_5 (v:FEnv n zc p M u hb) (a0:eL zc p M [] z0) {v1:AV} {m:Nat} {K W A:Nat→Int} (hd:DoS hb v1 m K W A) {P:Nat}:∀ (q i:Nat) (h:Heap) (w:bX) (z:bf) (E:Frs) (T:List Int) (v11:AV),FSt zc p M u hb h sp sm w z E T v9 (Ja z0) v11 T→w.p=P→i≤100→100-i<q→
    aJ (fun k=>la n (cE n) (ba n) (aM n) (aU n) (bH n) (bz n) (qY be) (bj n) (cF n) (aW n) (aL n) (bq n) (aZ n) (bG n) (aX n) k q v1 (.ptr P 0) (u:Int) (.ptr sp 0) v9 (mh (jk zc p) u*F0 u) v11 (i:Int) h) fun r h'=>r=true∧bo hb h':=by
  intro q
  have hn:=v.n7
  induction q with
  | zero=>omega
  | succ q ih=>
    intro i h w z E T v11 s hP hi hq
    obtain ⟨o1,o2,o3,o4⟩:=v.ok s
    obtain ⟨c1,c2,c3,c4⟩:=Xv v.use
    simp only [Lx]
    unfold nJ
    have hd':=hd.grow s.g
    simp only [hd'.1.len]
    have fin:aJ (fun k=>lT n (cE n) (ba n) (aM n) (aU n) (bH n) (bz n) (qY be) (bj n) (cF n) (aW n) (aL n) (bq n) (aZ n) (bG n) (aX n) k (la n (cE n) (ba n) (aM n) (aU n) (bH n) (bz n) (qY be) (bj n) (cF n) (aW n) (aL n) (bq n) (aZ n) (bG n) (aX n) k q) v1 (.ptr P 0) (u:Int) (.ptr sp 0) v9 (mh (jk zc p) u*F0 u) v11 (i:Int) false h) fun r h'=>r=true∧bo hb h':=by
      unfold lT py
      simp only [B6]
      exact v_Fr_3 v a0 (by omega) n 0 h w z E (by rw [List.drop_zero]; exact s) hP (by omega) (by omega)
    have r7:∀ (h:Heap) (w:bX) (z:bf) (E:Frs) (T:List Int) (v11:AV),i<100→FSt zc p M u hb h sp sm w z E T v9 (Ja z0) v11 T→w.p=P→aJ (fun k=>lA n (cE n) (ba n) (aM n) (aU n) (bH n) (bz n) (qY be) (bj n) (cF n) (aW n) (aL n) (bq n) (aZ n) (bG n) (aX n) k (la n (cE n) (ba n) (aM n) (aU n) (bH n) (bz n) (qY be) (bj n) (cF n) (aW n) (aL n) (bq n) (aZ n) (bG n) (aX n) k q) v1 (.ptr P 0) (u:Int) (.ptr sp 0) v9 (mh (jk zc p) u*F0 u) v11 (i:Int) h) fun r h'=>r=true∧bo hb h':=by
      intro h w z E T v11 hi2 s hP
      subst hP
      exact v_Fr_7 v (by omega) s (J:=fun k=>la n (cE n) (ba n) (aM n) (aU n) (bH n) (bz n) (qY be) (bj n) (cF n) (aW n) (aL n) (bq n) (aZ n) (bG n) (aX n) k q) fun h' s'=>ih (i+1) h' w z E T v11 s' rfl (by omega) (by omega)
    refine aR.ifB (fun e=>?_) fun _=>fin
    simp at e
    by_cases h100:i<100
    · have t100:ltF (i:Int) 100=true:=by rw [nw]; simp; omega
      simp only [t100]
      obtain ⟨⟨aK,hK⟩,⟨aA,hA⟩⟩:=hd'.at_ e
      have hA0:=hd.2 i e
      unfold lT
      simp only [tO,hK]
      refine aJ.bind (v_Within (m:=3) (by omega)) ?_
      rintro r2 h2 ⟨_,rfl⟩
      have r10:∀ b:Bool,(b=false→0<T.length)→aJ (fun k=>ml n (cE n) (ba n) (aM n) (aU n) (bH n) (bz n) (qY be) (bj n) (cF n) (aW n) (aL n) (bq n) (aZ n) (bG n) (aX n) k (la n (cE n) (ba n) (aM n) (aU n) (bH n) (bz n) (qY be) (bj n) (cF n) (aW n) (aL n) (bq n) (aZ n) (bG n) (aX n) k q) v1 (.ptr P 0) (u:Int) (.ptr sp 0) v9 (mh (jk zc p) u*F0 u) v11 (i:Int) b h2) fun r h'=>r=true∧bo hb h':=by
        intro b hb0
        unfold ml
        refine aR.ifB (fun _=>?_) fun eb=>?_
        · refine dY.bind (v_FTake v s) ?_
          rintro a er h3 ht
          simp only [s.row.len]
          unfold lZ
          rcases ht with ⟨rfl,hlt,w',z',E',k1,s'⟩ | ⟨rfl,rfl,rfl,hge⟩
          · have e0:decide ((T.length:Int)<mh (jk zc p) u*F0 u)=true:=gF hlt
            have e1:((true==true) ^^ true)=false:=rfl
            have e2:((0:Int)==0)=true:=rfl
            have e3:(!true)=false:=rfl
            simp only [au,e0,e1,e2,e3]
            refine aJ.bind (Co (l:=[.int .u64 a]) (fun k=>by rfl)) ?_
            rintro _ h4 ⟨rfl,c4',g4⟩
            have s4:=s'.grow g4
            refine aJ.bind (air (s4.g.le v.ro) s4.row (apO c4') (by simp; omega)) ?_
            rintro v' h5 ⟨l5,b5,c5⟩
            exact r7 h5 w' z' E' _ v' h100 (s4.push l5 c5 b5) (k1.trans hP)
          · have e0:decide ((T.length:Int)<mh (jk zc p) u*F0 u)=false:=gz hge
            have e1:((false==false) ^^ true)=false:=rfl
            have e2:((4:Int)==0)=false:=rfl
            have e3:((4:Int)==4)=true:=rfl
            have e4:((0:Int)==0)=true:=rfl
            have e5:(!true)=false:=rfl
            have e6:(!false)=true:=rfl
            simp only [au,e0,e1,e2,e3,e4,e5,e6]
            exact r7 _ w z E T v11 h100 s hP
        · have hpos:=hb0 eb
          have w0:IntKind.u64.wrap (T.length:Int)=(T.length:Int):=ag4 (by omega) (by omega)
          have m0:(A i).tmod (T.length:Int)=A i%(T.length:Int):=Int.tmod_eq_emod_of_nonneg hA0
          have m1:=Int.emod_nonneg (A i) (show (T.length:Int)≠0 by omega)
          have m2:=Int.emod_lt_of_pos (A i) (show (0:Int)<(T.length:Int) by omega)
          obtain ⟨j,hj⟩:=gE m1
          rw [hj] at m2
          have hjl:j<T.length:=by omega
          have w1:IntKind.i64.wrap (j:Int)=(j:Int):=mP (by omega) (by omega)
          have hel:=(s.row.ints (by omega)).elN hjl
          simp only [hA]
          simp only [au,s.row.len,w0,JP (show (T.length:Int)≠0 by omega),m0,hj,w1,hel]
          refine aJ.bind (aoy v s hjl) ?_
          rintro _ h3 ⟨rfl,w',z',E',k1,s',f,pl,hat,hf,hpl,hno⟩
          have hel2:=(s'.row.ints (by omega)).elN hjl
          have t0:(!((0:Int)==0))=false:=rfl
          have t91:(!((91:Int)==91))=false:=rfl
          simp only [au,t0,hel2]
          rw [hat]
          refine aJ.bind (aod s'.slab s'.ok.key c1 c2 (by omega) hf hpl hno) ?_
          rintro _ h4 ⟨rfl,rfl⟩
          unfold nE
          simp only [wy,Ue,t91,B6]
          refine aJ.bind (aat (s'.g.le v.ro) (l:=[]) (fun k=>by rfl)) ?_
          rintro _ h5 ⟨rfl,o5,g5⟩
          have s5:=s'.grow g5
          obtain ⟨y,zz,cy,cz,sh1,sh2,by1,by2⟩:=s5.row.cut (by omega) hjl
          simp only [cy]
          have hyl:(T.take j).length≤65536:=by rw [List.length_take]; omega
          refine aJ.bind (air (l:=[]) (s5.g.le v.ro) (.inr ⟨rfl,_,rfl,o5⟩) sh1 (by simp; omega)) ?_
          rintro x6 h6 ⟨l6,b6,c6⟩
          have hn5:s'.slab=s'.slab:=rfl
          have new6:∀ d,x6.blk=some d→h4.nx≤d:=fun d hd=>by
            rcases b6 d hd with h7 | h7
            · cases h7; exact gp _
            · exact gu g5.nx h7
          have g46:bo h4 h6:=c6.grow g5 fun d hd=>by cases hd; exact gp _
          have hz6:ShowsU h6 zz (T.drop (j+1)):=sh2.chg c6 fun d hd e=>by
            cases e
            have:=s'.row.lt (by2 _ hd)
            omega
          simp only [au,kP (show j≤9223372036854775806 by omega),cz]
          rw [List.nil_append] at l6
          refine aJ.bind (air ((s'.g.trans g46).le v.ro) l6 hz6 (by simp; omega)) ?_
          rintro x7 h7 ⟨l7,b7,c7⟩
          rw [← List.eraseIdx_eq_take_drop_succ] at l7
          have g47:bo h4 h7:=c7.grow g46 fun d hd=>new6 d hd
          refine r7 h7 w' z' E' _ x7 h100 (s'.push l7 (g47.chg _) fun d hd=>.inr ?_) (k1.trans hP)
          rcases b7 d hd with h8 | h8
          · exact new6 d h8
          · exact gu g46.nx h8
      refine aR.ifB (fun _=>r10 true fun h=>nomatch h) fun _=>?_
      simp only [s.row.len]
      refine r10 _ fun h=>?_
      rw [wy] at h
      simp at h
      exact gO.2 h
    · have t100:ltF (i:Int) 100=false:=by rw [nw]; simp; omega
      simp only [t100]
      exact fin
end
end Go.Proofs.YtlgbmkemfinogaaGreat.Sh
/- SlabFrames: the whole. -/
namespace Go.Proofs.YtlgbmkemfinogaaGreat.Sh
open Go.Ai
def ahN (zc:br) (t pp:AV) (p fi:Int):List AV:=Bt zc t pp++[.int .i64 p,.int .u8 fi]
theorem partS_0 (zc:br) (t pp:AV) (p fi:Int):sub (ahN zc t pp p fi) 0 17=some (Bt zc t pp):=by rw [pN]; rfl
theorem partS_16 (zc:br) (t pp:AV) (p fi:Int):(ahN zc t pp p fi)[16]?=some pp:=rfl
theorem am2 (zc:br) (t pp:AV) (p fi:Int):(ahN zc t pp p fi)[17]?=some (.int .i64 p):=rfl
theorem partS_18 (zc:br) (t pp:AV) (p fi:Int):(ahN zc t pp p fi)[18]?=some (.int .u8 fi):=rfl
theorem alv {n:Nat} (hn:70000<n) {zc:br} (hfit:Fits n zc) {h:Heap} (hro:h.ro≤h.nx) {t pp:AV} (ht:dh h .i64 t zc.fH) (hpp:Parts h pp zc.parts) (p:Int) {fi:Int} (hfi:0≤fi∧fi<256) {v1:AV} {m:Nat} {K W A:Nat→Int} (hd:DoS h v1 m K W A) :
    aJ (c8 n (.agg (ahN zc t pp p fi)) v1 h) fun r h'=>r=true∧bo h h':=by
  unfold c8 uc qJ
  refine aJ.bind (AO ..) ?_
  rintro x h1 ⟨hb,g⟩
  have hw:∀ K:AV→Heap→ab,qY be [] h1 K=K (.bool true) h1:=fun K=>rfl
  have hro1:=g.le hro
  have ht1:=ht.grow g
  have hp1:=hpp.grow g
  have t1:(!true)=false:=rfl
  simp only [au,hw,t1,iR hb,partS_0,am2,Nat.zero_add]
  refine dY.bind (v_PNew (by omega) hfit hro1 (Cfg.mk' ht1 hp1) p) ?_
  rintro r2 e2 h2 ⟨g2,q2⟩
  rcases q2 with ⟨a1,a2,rfl⟩ | ⟨rfl,a2,w,bs,rfl,mk,hmk⟩
  · have c1:(!(e2==0))=true:=by simpa using a1
    have nn:∀ c:Bool→ab,Tt (.nil .ptr) .nilptr .nilptr c=c true:=fun c=>rfl
    simp only [au,c1,nn]
    exact mQ ⟨rfl,g.trans g2⟩
  · have hm1:NX zc=true:=by
      unfold LV at a2
      cases hmay:NX zc with
      | true=>rfl
      | false=>rw [hmay] at a2; simp at a2
    have hp0:0≤p∧p<zc.parts.length:=by
      unfold LV at a2
      rw [hm1,if_pos rfl] at a2
      by_cases hh:0≤p∧p<zc.parts.length
      · exact hh
      · rw [if_neg hh] at a2; omega
    obtain ⟨pn,rfl⟩:=gE hp0.1
    have hpl:pn<zc.parts.length:=by have:=hp0.2; omega
    have po:=amm hm1 hpl
    have qo:=S5 hm1 po
    simp only [gy] at mk hmk
    have pin:bF h2 w (HM zc pn bs):=mk.pool
    have c2:(!((0:Int)==0))=false:=rfl
    simp only [wy,Ue,c2,B6]
    refine dY.bind (v_ImageA (by omega) hm1 po (g2.le hro1) pin hmk) ?_
    rintro x14 e14 h16 ⟨rfl,M,w',z1,k1,k2,k3,k4,k5,k6,k7,k8,k9,k10,k11⟩
    have flow:∀ d,fpP w z1.fD.length d→h1.nx≤d:=fun d hd=>mk.low d (by rw [k2] at hd; exact hd)
    have flt:∀ d,fpP w z1.fD.length d→d<h2.nx:=fun d hd=>pin.lt (by
      have hL:z1.fD.length=(HM zc pn bs).fD.length:=by rw [k2]; rfl
      rw [← hL]; exact hd)
    have g16:bo h1 h16:=k11.grow g2 flow
    have hu:=useU_ok fi
    generalize hU:useU fi=u at hu
    have c16:=g16.cl hb
    have hM:0<M.length:=by rw [k5]; exact Nat.two_pow_pos _
    have hML:M.length≤65536:=by
      have:=k7.len po hm1
      omega
    have huse:z1.uses.length≤1000000:=by
      rw [k7.inv.uses]
      simp [Sh.img]
      omega
    simp only [au,iR c16,partS_18,Nat.zero_add,u_use n hfi,hU]
    rw [← k1]
    refine dY.bind (v_SNew (g16.le hro1) k6 (by rw [k7.inv.total]; exact (acC po).2) huse (by rw [k7.cnt1]; omega) hu) ?_
    rintro r17 e17 h17 ⟨rfl,sp,sm,rfl,s1,s2,s3,g17⟩
    have hro17:=(g16.trans g17).le hro1
    have ok1:eZ z1:=k7.inv.inv.ok po (by rw [W4]; simp; omega)
    simp only [au,c2]
    refine aJ.bind (aoI (by omega) hro17 s3.pool ok1) ?_
    rintro x18 h18 ⟨l18,b18,g18⟩
    have g118:=(g16.trans g17).trans g18
    obtain ⟨hps0,S,hps,hin⟩:=hp1.grow g118
    have hel:∀ K,eld 8 h18 pp (pn:Int) 8 true K=K (elP pp 8 (pn:Int)) (.agg (A3 (zc.parts.getD pn default) (S pn))):=fun K=>hps.eld (i:=(pn:Int)) (by omega) (by omega) K
    simp only [au,iR (g118.cl hb),partS_16,am2,Nat.zero_add,hel]
    refine aJ.bind (v_quota hu) ?_
    rintro _ h19 ⟨rfl,g19⟩
    refine aJ.bind (aoP hu) ?_
    rintro _ h20 ⟨rfl,g20⟩
    obtain ⟨c1,c2',c3,c4⟩:=Xv hu
    have q0:Int.tdiv 256 (szU u)=(F0 u:Int):=by rw [← c1,Int.mul_tdiv_cancel _ (by omega)]
    have w0:IntKind.u64.wrap (F0 u:Int)=(F0 u:Int):=ag4 (by omega) (by omega)
    have w1:IntKind.i64.wrap (F0 u:Int)=(F0 u:Int):=mP (by omega) (by omega)
    have hlo:=qo.lo u (by omega) (by omega)
    have hq:mh (zc.parts.getD pn default) u=mh (jk zc pn) u:=rfl
    have hmul:0≤mh (jk zc pn) u*(F0 u:Int)∧mh (jk zc pn) u*(F0 u:Int)≤65536:=by
      have:=Int.mul_le_mul hlo.2 (show (F0 u:Int)≤16 by omega) (by omega) (by omega)
      exact ⟨Int.mul_nonneg hlo.1 (by omega),by omega⟩
    have w2:IntKind.i64.wrap (mh (jk zc pn) u*(F0 u:Int))=mh (jk zc pn) u*(F0 u:Int):=mP (by omega) (by omega)
    simp only [au,N6 (show szU u≠0 by omega),q0,w0,w1,hq,w2]
    have g120:=(g118.trans g19).trans g20
    have g1820:=g19.trans g20
    have env:FEnv n zc pn M u h1:=⟨hn,hro1,po,hm1,hu⟩
    have s0:FSt zc pn M u h1 h20 sp sm w' z1 [] [] x18 (Ja z1) .nilslice []:=by
      have low:∀ d,fpS sp sm w' z1.fD.length [] d→h1.nx≤d∧d<h17.nx:=fun d hd=>by
        refine ⟨?_,s3.lt hd⟩
        rcases hd with rfl | rfl | ⟨e,he,_⟩ | hd
        · exact gu g16.nx s1
        · exact gu g16.nx s2
        · cases he
        · rcases k10 d hd with h7 | h7
          · exact flow d h7
          · exact gu g2.nx h7
      refine ⟨(s3.grow g18).grow g1820,⟨k7,fun e he=>(nomatch he),fun e he=>(nomatch he),.refl _⟩,fun d hd=>(low d hd).1,g120,l18.chg (g1820.chg fun _=>False) fun _ _ h=>h,.inl .nil,fun d e1=>⟨fun e2=>?_,?_⟩,fun d e1=>(by cases e1),fun d _ e1=>(by cases e1)⟩
      · have:=b18 d e1; have:=(low d e2).2; omega
      · have:=b18 d e1; exact gu (g16.trans g17).nx this
    refine aR.mono (v_Fr_5 env k7 (hd.grow g) n 0 h20 w' z1 [] [] .nilslice s0 rfl (by omega) (by omega)) ?_
    rintro ⟨r,h'⟩ ⟨e1,e2⟩
    exact ⟨e1,g.trans e2⟩
end Go.Proofs.YtlgbmkemfinogaaGreat.Sh
/- What the input's data is, cell by cell: numbers, bools, slices of such; out of what a row's reading says. -/
namespace Go.Ai
inductive Kds where
  | nil
  | bool (r:Kds)
  | int (k:IntKind) (r:Kds)
  | slice (e r:Kds)
def Kds.len:Kds→Nat
  | .nil=>0
  | .bool r=>r.len+1
  | .int _ r=>r.len+1
  | .slice _ r=>r.len+1
def Kds.app:Kds→Kds→Kds
  | .nil,s=>s
  | .bool r,s=>.bool (r.app s)
  | .int k r,s=>.int k (r.app s)
  | .slice e r,s=>.slice e (r.app s)
theorem Kds.len_app:∀ a b:Kds,(a.app b).len=a.len+b.len
  | .nil,b=>by simp [Kds.app,Kds.len]
  | .bool r,b=>by simp [Kds.app,Kds.len,Kds.len_app r b]; omega
  | .int _ r,b=>by simp [Kds.app,Kds.len,Kds.len_app r b]; omega
  | .slice _ r,b=>by simp [Kds.app,Kds.len,Kds.len_app r b]; omega
structure Wd where
  K:Nat
  N:Nat
  odds:List Addr
structure Wd.Le (a b:Wd):Prop where
  K:a.K≤b.K
  N:a.N≤b.N
  odds:∀ x∈a.odds,x∈b.odds
def Wd.join (a b:Wd):Wd:=⟨a.K+b.K,a.N+b.N,a.odds++b.odds⟩
theorem Wd.le_l (a b:Wd):Wd.Le a (a.join b):=⟨Nat.le_add_right _ _,Nat.le_add_right _ _,fun _ h=>gH _ h⟩
theorem Wd.le_r (a b:Wd):Wd.Le b (a.join b):=⟨Nat.le_add_left _ _,Nat.le_add_left _ _,fun _ h=>gI _ h⟩
theorem Wd.range {Q:Nat→Wd→Prop} (mono:∀ i D D',Wd.Le D D'→Q i D→Q i D'):∀ n,(∀ i,i<n→∃ D,Q i D)→∃ D,∀ i,i<n→Q i D
  | 0,_=>⟨⟨0,0,[]⟩,fun i h=>by omega⟩
  | n+1,h=>by
    obtain ⟨D1,h1⟩:=Wd.range mono n fun i hi=>h i (by omega)
    obtain ⟨D2,h2⟩:=h n (by omega)
    refine ⟨D1.join D2,fun i hi=>?_⟩
    by_cases e:i=n
    · subst e; exact mono _ _ _ (Wd.le_r D1 D2) h2
    · exact mono _ _ _ (Wd.le_l D1 D2) (h1 i (by omega))
def eB (w:World) (D:Wd):Kds→List Value→Prop
  | .nil,[]=>True
  | .bool r,v::t=>(∃ b,v = .bool b)∧eB w D r t
  | .int k r,v::t=>(∃ n,v = .int k n∧k.min≤n∧n≤k.max)∧eB w D r t
  | .slice e r,v::t=>(v = .slice none 0 0∨(∃ a,a∈D.odds∧v = .slice (some a) 0 0)∨
      ∃ b off len cap,v = .slice (some ⟨b,off,none⟩) len cap∧len≤cap∧cap≤9223372036854775807∧(0<cap∧0<e.len)∧off<D.K∧b<D.N∧cap<D.K∧
        ∀ i,i<cap→∃ cs,(∀ j,j<e.len→w.cell? ⟨b,off+i*e.len+j,none⟩=cs[j]?)∧eB w D e cs)∧eB w D r t
  | _,_=>False
theorem eB.length {w:World} {D:Wd}:∀ {k:Kds} {l:List Value},eB w D k l→l.length=k.len
  | .nil,[],_=>rfl
  | .bool r,v::t,h=>by rw [List.length_cons,Kds.len,eB.length (k:=r) h.2]
  | .int _ r,v::t,h=>by rw [List.length_cons,Kds.len,eB.length (k:=r) h.2]
  | .slice _ r,v::t,h=>by rw [List.length_cons,Kds.len,eB.length (k:=r) h.2]
  | .nil,_::_,h=>h.elim
  | .bool _,[],h=>h.elim
  | .int _ _,[],h=>h.elim
  | .slice _ _,[],h=>h.elim
theorem eB.mono {w:World} {D D':Wd} (d:Wd.Le D D'):∀ {k:Kds} {l:List Value},eB w D k l→eB w D' k l
  | .nil,[],_=>trivial
  | .bool r,v::t,h=>⟨h.1,eB.mono d (k:=r) h.2⟩
  | .int _ r,v::t,h=>⟨h.1,eB.mono d (k:=r) h.2⟩
  | .slice e r,v::t,h=>by
    refine ⟨?_,eB.mono d (k:=r) h.2⟩
    rcases h.1 with h1 | ⟨a,h1,h2⟩ | ⟨b,off,len,cap,h1,h2,h3,h4,h5,h6,h7,h8⟩
    · exact .inl h1
    · exact .inr (.inl ⟨a,d.odds a h1,h2⟩)
    · refine .inr (.inr ⟨b,off,len,cap,h1,h2,h3,h4,gm h5 d.K,gm h6 d.N,gm h7 d.K,fun i hi=>?_⟩)
      obtain ⟨cs,h9,h10⟩:=h8 i hi
      exact ⟨cs,h9,eB.mono d (k:=e) h10⟩
  | .nil,_::_,h=>h.elim
  | .bool _,[],h=>h.elim
  | .int _ _,[],h=>h.elim
  | .slice _ _,[],h=>h.elim
theorem eB.app {w:World} {D:Wd} {s:Kds} {m:List Value} (g:eB w D s m):∀ {k:Kds} {l:List Value},eB w D k l→eB w D (k.app s) (l++m)
  | .nil,[],_=>g
  | .bool r,v::t,h=>⟨h.1,eB.app g (k:=r) h.2⟩
  | .int _ r,v::t,h=>⟨h.1,eB.app g (k:=r) h.2⟩
  | .slice e r,v::t,h=>⟨h.1,eB.app g (k:=r) h.2⟩
  | .nil,_::_,h=>h.elim
  | .bool _,[],h=>h.elim
  | .int _ _,[],h=>h.elim
  | .slice _ _,[],h=>h.elim
def ag6 (g:TypeId→Option Kds) (sz:TypeId→Nat):Nat→List Field→Option Kds
  | _,[]=>some .nil
  | o,f::fs=>if f.offset=o then (g f.type).bind fun l=>if l.len=sz f.type then (ag6 g sz (o+l.len) fs).map fun r=>l.app r else none else none
def aif (P:Program):Nat→TypeId→Option Kds
  | 0,_=>none
  | n+1,t=>match P.underlying t with
    | some .bool=>some (.bool .nil)
    | some (.int k)=>some (.int k .nil)
    | some (.slice e)=>(aif P n e).bind fun l=>if l.len=P.cellsOf e∧l.len≠0 then some (.slice l .nil) else none
    | some (.struct fs)=>(ag6 (aif P n) P.cellsOf 0 fs.toList).bind fun r=>if r.len=P.cellsOf t then some r else none
    | _=>none
theorem has_fs {w:World} {g:TypeId→Option Kds} {sz:TypeId→Nat} {cs:List Value}:∀ (fs:List Field) (o:Nat) (r:Kds),ag6 g sz o fs=some r→o+r.len≤cs.length→
    (∀ f∈fs,∀ l,g f.type=some l→∃ D,eB w D l ((cs.drop f.offset).take (sz f.type)))→∃ D,eB w D r ((cs.drop o).take r.len)
  | [],o,r,h,_,_=>by
    cases h
    exact ⟨⟨0,0,[]⟩,by simp [Kds.len,eB]⟩
  | f::fs,o,r,h,hl,hall=>by
    unfold ag6 at h
    split at h
    · rename_i ho
      subst ho
      cases hg:g f.type with
      | none=>rw [hg] at h; cases h
      | some l=>
        rw [hg,Option.bind_some] at h
        split at h
        · rename_i hsz
          simp only [fV] at h
          obtain ⟨r',hr',rfl⟩:=h
          rw [Kds.len_app] at hl
          obtain ⟨D1,h1⟩:=hall f (gM ..) l hg
          obtain ⟨D2,h2⟩:=has_fs (w:=w) (cs:=cs) fs _ _ hr' (by omega) fun f' hf'=>hall f' (f0 _ hf')
          refine ⟨D1.join D2,?_⟩
          have:=eB.app (h2.mono (Wd.le_r D1 D2)) (h1.mono (Wd.le_l D1 D2))
          rw [← hsz] at this
          rw [Kds.len_app,List.take_add,List.drop_drop]
          exact this
        · cases h
    · cases h
theorem afo {H:Type} {enc:TypeId × Value→H} {P:Program} {w:World}:∀ (m:Nat) (t:TypeId) (k:Kds),aif P m t=some k→∀ (fuel:Nat) (cs:List Value) (x:DataW H × List MemPlace),
    DataW.trod enc P w 0 (fun _=>true) true fuel t cs=some x→∃ D,eB w D k cs:=by
  intro m
  induction m with
  | zero=>intro t k h; cases h
  | succ m ih=>
    intro t k h fuel cs x hx
    unfold aif at h
    split at h
    · rename_i ht
      cases h
      obtain ⟨b,rfl,_⟩:=DataW.trod_bool ht hx
      exact ⟨⟨0,0,[]⟩,⟨b,rfl⟩,trivial⟩
    · rename_i q ht
      cases h
      obtain ⟨n,rfl,_,hw⟩:=DataW.trod_int ht hx
      simp only [Lit.wf,gl,gn] at hw
      exact ⟨⟨0,0,[]⟩,⟨n,rfl,hw⟩,trivial⟩
    · rename_i e ht
      cases hf:aif P m e with
      | none=>rw [hf] at h; cases h
      | some l=>
        rw [hf,Option.bind_some] at h
        split at h
        · rename_i hl
          obtain ⟨hl,hl0⟩:=hl
          cases h
          rcases DataW.trod_slice ht hx with ⟨rfl,_⟩ | ⟨a,len,cap,elems,rest,n,_,rfl,_,_,hlc,hcm,hel,hat,hrest,_⟩
          · exact ⟨⟨0,0,[]⟩,.inl rfl,trivial⟩
          · by_cases h0:cap=0
            · subst h0
              obtain rfl:len=0:=by omega
              exact ⟨⟨0,0,[a]⟩,.inr (.inl ⟨a,by simp,rfl⟩),trivial⟩
            · obtain ⟨hrl,hrat⟩:=hrest rfl
              have hall:∀ i,i<cap→∃ cs x,w.cells? 0 (a.add (i*P.cellsOf e)) (P.cellsOf e)=some cs∧DataW.trod enc P w 0 (fun _=>true) true n e cs=some x:=by
                intro i hi
                by_cases hlt:i<len
                · have h1:=hat i hlt
                  have hlt':i<elems.length:=by omega
                  rw [gk hlt',gj] at h1
                  obtain ⟨cs,h2,h3⟩:=h1
                  exact ⟨cs,_,h2,h3⟩
                · have h1:=hrat (i-len) (by omega)
                  have hlt':i-len<rest.length:=by omega
                  rw [gk hlt',gj] at h1
                  obtain ⟨cs,h2,h3⟩:=h1
                  rw [show len+(i-len)=i by omega] at h2
                  exact ⟨cs,_,h2,h3⟩
              obtain ⟨b,off,spot⟩:=a
              have hspot:spot=none:=by
                obtain ⟨cs,_,h2,_⟩:=hall 0 (by omega)
                obtain ⟨_,h3,h4⟩:=World.cells?_some h2
                have h5:=h4 0 (by omega)
                rw [gk (by omega)] at h5
                rw [Nat.zero_mul] at h5
                simpa [Addr.add] using World.cell?_spot h5
              subst hspot
              have hcs:∀ i,i<cap→∃ D,∃ cs,(∀ j,j<l.len→w.cell? ⟨b,off+i*l.len+j,none⟩=cs[j]?)∧eB w D l cs:=by
                intro i hi
                obtain ⟨cs,y,h2,h3⟩:=hall i hi
                obtain ⟨_,h4,h5⟩:=World.cells?_some h2
                obtain ⟨D,h6⟩:=ih e l hf n cs y h3
                refine ⟨D,cs,fun j hj=>?_,h6⟩
                have:=h5 j (by omega)
                rw [Addr.add_lit,Addr.add_lit] at this
                rw [hl]
                exact this
              obtain ⟨D,hD⟩:=Wd.range (Q:=fun i D=>∃ cs,(∀ j,j<l.len→w.cell? ⟨b,off+i*l.len+j,none⟩=cs[j]?)∧eB w D l cs)
                (fun i D D' d ⟨cs,h1,h2⟩=>⟨cs,h1,h2.mono d⟩) cap hcs
              refine ⟨D.join ⟨off+cap+1,b+1,[]⟩,.inr (.inr ⟨b,off,len,cap,rfl,hlc,by unfold maxLen at hcm; omega,⟨by omega,by omega⟩,?_,?_,?_,fun i hi=>?_⟩),trivial⟩
              · show off<D.K+(off+cap+1); omega
              · show b<D.N+(b+1); omega
              · show cap<D.K+(off+cap+1); omega
              · obtain ⟨cs,h1,h2⟩:=hD i hi
                exact ⟨cs,h1,h2.mono (Wd.le_l _ _)⟩
        · cases h
    · rename_i fs ht
      cases hf:ag6 (aif P m) P.cellsOf 0 fs.toList with
      | none=>rw [hf] at h; cases h
      | some r=>
        rw [hf,Option.bind_some] at h
        split at h
        · rename_i hr
          cases h
          obtain ⟨xs,n,_,_,hl,hxs,hat⟩:=DataW.trod_struct ht hx
          obtain ⟨D,hD⟩:=has_fs (w:=w) (cs:=cs) _ _ _ hf (by omega) (fun f hf' l hg=>by
            obtain ⟨i,hi,rfl⟩:=List.mem_iff_getElem.1 hf'
            have h1:=hat i fs.toList[i] (by simp)
            have:i<xs.length:=by simpa [hxs] using hi
            rw [gk this] at h1
            exact ih _ _ hg n _ _ h1)
          refine ⟨D,?_⟩
          rw [List.drop_zero,List.take_of_length_le (by omega)] at hD
          exact hD
        · cases h
    · cases h
end Go.Ai
