/- A new buddy, by the code. -/
import Derived.Test.YtlgbmkemfinogaaGreatAiLstLUBud
set_option linter.all false
namespace Go.Proofs.YtlgbmkemfinogaaGreat.Sh
open Go.Ai
def ru (k:Nat) (l:List Int) (x:Int):Nat:=l.countP fun a=>decide (a≤x∧x<a+2^k)
def mult (s:cw) (x:Int):Nat:=ru 0 (s.free 0) x+ru 1 (s.free 1) x+ru 2 (s.free 2) x+ru 3 (s.free 3) x+ru 4 (s.free 4) x+ru 5 (s.free 5) x+ru 6 (s.free 6) x
structure dx (n at_ o:Nat) (s:cw):Prop where
  hn:s.n=n
  ht:s.fG = []
  hm:∀ x,mult s x=if 0≤x∧x<at_ then 1 else 0
  hs:∀ k,k<7→∀ a∈s.free k,0≤a∧a<n
  hl:∀ k,k<7→(s.free k).length≤at_
  hb:0<at_→∀ j,j<7→2^j≤n→∃ k,j≤k∧k<7∧s.free k≠[]
  ho:o<7
  hf:at_=0→∀ j,j<7→2^j≤n→j≤o
  sum:lR s 7=at_
  nal:at_%2^o=0
  nfr:∀ k,k<7→∀ a∈s.free k,a%2^k=0∧a+2^k≤at_
  ninc:∀ k,k<7→(s.free k).Pairwise (· < ·)
  nsm:∀ k,k<6→(s.free k).length≤1
  nlow:∀ k,k<o→s.free k = []
  nrem:o<6→n<at_+2^(o+1)
  nle:o<6→s.free o≠[]→n<at_+2^o
theorem ahw (s:cw) (k:Nat) (a:Int):∀ i,lR { s with free:=upd s.free k (s.free k++[a]) } i=lR s i+if k<i then 2^k else 0
  | 0=>rfl
  | i+1=>by
    rw [lR,lR,ahw s k a i]
    by_cases e:i=k
    · subst e
      rw [if_neg (by omega),if_pos (by omega)]
      show _+(upd s.free i (s.free i++[a]) i).length*_=_
      rw [jY,gQ,List.length_singleton,Nat.add_mul]
      omega
    · show _+(upd s.free k (s.free k++[a]) i).length*_=_
      rw [jL _ _ e]
      by_cases h:k<i
      · rw [if_pos h,if_pos (by omega)]; omega
      · rw [if_neg h,if_neg (by omega)]; omega
theorem mult_upd {s:cw} {k:Nat} (hk:k<7) (a:Int) (x:Int):mult { s with free:=upd s.free k (s.free k++[a]) } x=mult s x+if a≤x∧x<a+2^k then 1 else 0:=by
  have e:∀ j,ru j (upd s.free k (s.free k++[a]) j) x=ru j (s.free j) x+if j=k then (if a≤x∧x<a+2^k then 1 else 0) else 0:=by
    intro j
    by_cases hj:j=k
    · subst hj
      rw [jY,if_pos rfl]
      unfold ru
      rw [List.countP_append]
      congr 1
      by_cases h:a≤x∧x<a+2^j<;>simp [List.countP_cons,h]
    · rw [jL _ _ hj,if_neg hj,Nat.add_zero]
  unfold mult
  simp only [e]
  match k,hk with
  | 0,_=>simp; omega
  | 1,_=>simp; omega
  | 2,_=>simp; omega
  | 3,_=>simp; omega
  | 4,_=>simp; omega
  | 5,_=>simp; omega
  | 6,_=>simp; omega
theorem Wx {j:Nat} (hj:j<7):((2^j:Nat):Int)=(2:Int)^j∧1≤2^j∧2^j≤64:=by
  match j,hj with
  | 0,_=>decide | 1,_=>decide | 2,_=>decide | 3,_=>decide | 4,_=>decide | 5,_=>decide | 6,_=>decide
theorem dx.step {n at_ o:Nat} {s:cw} (mk:dx n at_ o s) (hn:at_+2^o≤n):dx n (at_+2^o) o { s with free:=upd s.free o (s.free o++[(at_:Int)]) }:=by
  have ho:=mk.ho
  obtain ⟨p0,p1,p2⟩:=Wx ho
  refine ⟨mk.hn,mk.ht,fun x=>?_,fun k hk a ha=>?_,fun k hk=>?_,fun _ j hj hjn=>?_,ho,fun h=>by omega,by rw [ahw,mk.sum,if_pos ho],by rw [Nat.add_mod_right]; exact mk.nal,fun k hk a ha=>?_,fun k hk=>?_,fun k hk=>?_,fun k hk=>?_,fun h6=>by have:=mk.nrem h6; omega,fun h6 _=>by have:=mk.nrem h6; rw [Nat.pow_succ] at this; omega⟩
  · rw [mult_upd ho,mk.hm, ← p0]
    by_cases h1:0≤x∧x<at_
    · rw [if_pos h1,if_neg (by omega),if_pos (by omega)]
    · rw [if_neg h1]
      by_cases h2:(at_:Int)≤x∧x<at_+((2^o:Nat):Int)
      · rw [if_pos h2,if_pos (by omega)]
      · rw [if_neg h2,if_neg (by omega)]
  · by_cases e:k=o
    · subst e
      have ha':a∈upd s.free k (s.free k++[(at_:Int)]) k:=ha
      rw [jY,gT,List.mem_singleton] at ha'
      rcases ha' with h | h
      · exact mk.hs k hk a h
      · subst h; omega
    · have ha':a∈upd s.free o (s.free o++[(at_:Int)]) k:=ha
      rw [jL _ _ e] at ha'
      exact mk.hs k hk a ha'
  · by_cases e:k=o
    · subst e
      show (upd s.free k (s.free k++[(at_:Int)]) k).length≤_
      rw [jY,gQ,List.length_singleton]
      have:=mk.hl k hk
      omega
    · show (upd s.free o (s.free o++[(at_:Int)]) k).length≤_
      rw [jL _ _ e]
      have:=mk.hl k hk
      omega
  · by_cases h0:at_=0
    · refine ⟨o,mk.hf h0 j hj hjn,ho,?_⟩
      show upd s.free o (s.free o++[(at_:Int)]) o≠[]
      rw [jY]; simp
    · obtain ⟨k,h1,h2,h3⟩:=mk.hb (by omega) j hj hjn
      refine ⟨k,h1,h2,?_⟩
      show upd s.free o (s.free o++[(at_:Int)]) k≠[]
      by_cases e:k=o
      · subst e; rw [jY]; simp
      · rw [jL _ _ e]; exact h3
  · by_cases e:k=o
    · subst e
      have ha':a∈upd s.free k (s.free k++[(at_:Int)]) k:=ha
      rw [jY,gT,List.mem_singleton] at ha'
      rcases ha' with h | h
      · obtain ⟨h1,h2⟩:=mk.nfr k hk a h
        exact ⟨h1,by omega⟩
      · subst h
        have:=mk.nal
        refine ⟨?_,by omega⟩
        rw [← p0]; omega
    · have ha':a∈upd s.free o (s.free o++[(at_:Int)]) k:=ha
      rw [jL _ _ e] at ha'
      obtain ⟨h1,h2⟩:=mk.nfr k hk a ha'
      exact ⟨h1,by omega⟩
  · by_cases e:k=o
    · subst e
      show (upd s.free k (s.free k++[(at_:Int)]) k).Pairwise _
      rw [jY,List.pairwise_append]
      refine ⟨mk.ninc k hk,by simp,fun c hc d hd=>?_⟩
      simp at hd
      subst hd
      have h2:=(mk.nfr k hk c hc).2
      have h3:=(Wx hk).2.1
      have h4:=(Wx hk).1
      omega
    · show (upd s.free o (s.free o++[(at_:Int)]) k).Pairwise _
      rw [jL _ _ e]
      exact mk.ninc k hk
  · by_cases e:k=o
    · subst e
      show (upd s.free k (s.free k++[(at_:Int)]) k).length≤1
      rw [jY]
      have h0:s.free k = []:=by
        by_cases h:s.free k = []
        · exact h
        · have:=mk.nle hk h; omega
      rw [h0]; simp
    · show (upd s.free o (s.free o++[(at_:Int)]) k).length≤1
      rw [jL _ _ e]
      exact mk.nsm k hk
  · show upd s.free o (s.free o++[(at_:Int)]) k = []
    rw [jL _ _ (by omega)]
    exact mk.nlow k hk
theorem dx.fall {n at_ o:Nat} {s:cw} (mk:dx n at_ o s) (ha:at_<n) (hn:n<at_+2^o):0<o∧dx n at_ (o-1) s:=by
  have h0:0<o:=by
    rcases Nat.eq_zero_or_pos o with h | h
    · subst h; simp at hn; omega
    · exact h
  refine ⟨h0,mk.hn,mk.ht,mk.hm,mk.hs,mk.hl,mk.hb,by have:=mk.ho; omega,fun h j hj hjn=>?_,mk.sum,by
    have h1:=mk.nal
    have h2:2^o=2^(o-1)*2:=by rw [← Nat.pow_succ]; congr 1; omega
    rw [h2] at h1
    exact Nat.mod_eq_zero_of_dvd (Nat.dvd_trans (Nat.dvd_mul_right _ _) (Nat.dvd_of_mod_eq_zero h1)),mk.nfr,mk.ninc,mk.nsm,fun k hk=>mk.nlow k (by omega),fun _=>by rw [show o-1+1=o by omega]; exact hn,fun _ h=>(h (mk.nlow (o-1) (by omega))).elim⟩
  have h1:=mk.hf h j hj hjn
  by_cases e:j=o
  · subst e; omega
  · omega
def aaV (h0 h:Heap) (p m:Nat) (v:Nat→AV) (s:cw):Prop:=dk h p m v s∧(∀ c,fpB p m v c→h0.nx≤c)∧bo h0 h
theorem v_New_3 {R:Type} {ap:bt→R→ab} {Q:R→Prop} {n N at_:Nat} {h0:Heap} (hro0:h0.ro≤h0.nx) {p m:Nat} {v:Nat→AV} {s:cw} {h:Heap} (b:aaV h0 h p m v s) (hN:N≤4096) (ha:at_<N) {J:bt→Int→AV→Int→Int→Heap→ab}
    (hJ:∀ o' h' v' s',aaV h0 h' p m v' s'→dx N (at_+2^o') o' s'→at_+2^o'≤N→aR ap (fun k=>J k N (.ptr p 0) ((at_+2^o':Nat):Int) (o':Int) h') Q) :
    ∀ (w o:Nat),o<w→dx N at_ o s→aR ap (fun k=>EG n k (J k) w N (.ptr p 0) (at_:Int) (o:Int) h) Q:=by
  intro w
  induction w with
  | zero=>omega
  | succ w ih=>
    intro o hw mk
    simp only [aiZ]
    unfold ED Kb
    have ho:=mk.ho
    obtain ⟨p0,p1,p2⟩:=Wx ho
    obtain ⟨q1,q2,q3⟩:=Yz ho
    have e1:IntKind.i64.wrap ((at_:Int)+(2:Int)^o)=((at_+2^o:Nat):Int):=by rw [mP (by omega) (by omega)]; omega
    simp only [au,ND (gd o),q1,e1]
    refine aR.ifB (fun e=>?_) fun e=>?_
    · simp only [gn] at e
      obtain ⟨h1,h2⟩:=mk.fall ha (by omega)
      have e2:IntKind.i64.wrap ((o:Int)-1)=((o-1:Nat):Int):=by rw [mP (by omega) (by omega)]; omega
      rw [e2]
      exact ih (o-1) (by omega) h2
    · simp only [gt] at e
      obtain ⟨bi,hf,g⟩:=b
      have hro:=g.le hro0
      simp only [au,DC ho,iR bi.own.cl,Yj _ _ _ ho]
      refine aJ.bind (Co (fun k=>by rfl)) ?_
      rintro _ h2 ⟨rfl,c2,g2⟩
      have hlen:=mk.hl o ho
      refine aJ.bind (aee (g2.le hro) ((bi.lst o ho).grow g2) c2 (by omega)) ?_
      rintro y h3 ⟨l3,b3,c3⟩
      have o3:Own h3 p (VS s.n v m) 0:=c3.own (bi.own.grow g2) fun e=>(bi.lst o ho).ne bi.own e rfl
      refine dz.bind (wd o3 (by show 2+o<10; omega) (by rcases l3 with ⟨rfl,_⟩ | ⟨d,e,r,rfl,_⟩<;>rfl)) ?_
      intro h4 p4
      have c13:=(g2.chg (fun c=>(v o).blk=some c)).trans c3
      have hy:∀ c,y.blk=some c→(v o).blk=some c∨h.nx≤c:=fun c e=>by
        rcases b3 c e with h | h
        · exact .inl h
        · exact .inr (gu g2.nx h)
      obtain ⟨r1,r2⟩:=bi.row ho c13 l3 hy p4
      have hn:at_+2^o≤N:=by omega
      refine hJ o h4 _ _ ⟨r1,fun c hc=>?_,r2.grow g hf⟩ (mk.step hn) hn
      have hsub:∀ j,j<7→∀ c,(upd v o y j).blk=some c→(v j).blk=some c∨h.nx≤c:=by
        intro j hj c e1
        by_cases ej:j=o
        · subst ej; rw [jY] at e1; exact hy c e1
        · rw [jL _ _ ej] at e1; exact .inl e1
      rcases aly hsub hc with e2 | e2
      · exact hf c e2
      · exact gu g.nx e2
theorem v_New_1 {n N:Nat} (hn:10<n) (hN:N≤4096) {h0:Heap} (hro0:h0.ro≤h0.nx) {p m:Nat}:∀ (q at_ o:Nat) (h:Heap) (v:Nat→AV) (s:cw),aaV h0 h p m v s→dx N at_ o s→at_≤N→N-at_<q→
    dY (fun k=>Ag n k q N (.ptr p 0) (at_:Int) (o:Int) h) fun r e h'=>r = .ptr p 0∧e=0∧∃ v' s' o',aaV h0 h' p m v' s'∧dx N N o' s':=by
  intro q
  induction q with
  | zero=>omega
  | succ q ih=>
    intro at_ o h v s b mk ha hq
    simp only [ai7]
    unfold En JV
    refine aR.ifB (fun e=>?_) fun e=>?_
    · simp at e
      refine v_New_3 (J:=fun k=>Ag n k q) hro0 b hN e (fun o' h' v' s' b' mk' hle=>?_) n o (by have:=mk.ho; omega) mk
      obtain ⟨p0,p1,p2⟩:=Wx mk'.ho
      exact ih _ o' h' v' s' b' mk' hle (by omega)
    · simp at e
      have:at_=N:=by omega
      subst this
      exact K6 ⟨rfl,rfl,v,s,o,b,mk⟩
theorem v_New {n N:Nat} (hn:10<n) (hN:N≤4096) (hnN:N<n) {h:Heap} (hro:h.ro≤h.nx):dY (eC n (N:Int) h) fun r e h'=>e=0∧∃ p m v s o,r = .ptr p 0∧aaV h h' p m v s∧dx N N o s:=by
  unfold eC Xa P4 EA
  have e1:decide ((N:Int)<0)=false:=by simp
  have e2:decide ((4096:Int)<(N:Int))=false:=by simp; omega
  simp only [au,e1,e2,AJ]
  have hm:ft (h.add (.mp [])) h.nx .i64 []:=⟨by simp,by simpa using hro,by rw [Heap.fQ,if_pos rfl]; rfl⟩
  have g1:bo h (h.add (.mp [])):=bo.add
  have hb:∀ K,tw [.bool false,.int .i64 0,.nilslice,.nilslice,.nilslice,.nilslice,.nilslice,.nilslice,.nilslice,.nilmap] [(0,1,.bool true),(1,1,.int .i64 (N:Int)),(9,1,.map h.nx)] K=K (.agg (VS N (fun _=>.nilslice) h.nx)):=fun K=>rfl
  simp only [au,hb]
  have box:aJ (A5 (h.add (.mp [])) (.agg (VS N (fun _=>.nilslice) h.nx))) fun x h'=>Own h' x (VS N (fun _=>.nilslice) h.nx) 0∧(h.add (.mp [])).nx≤x∧bo (h.add (.mp [])) h':=
    ⟨((h.add (.mp [])).nx,(h.add (.mp [])).add (.cells (VS N (fun _=>.nilslice) h.nx) true 0)),⟨⟨by simp,by simp; omega,by rw [Heap.fQ,if_pos rfl]⟩,gp _,bo.add⟩,fun k=>abT ..⟩
  refine aJ.bind box ?_
  rintro x h2 ⟨ox,hx,g2⟩
  have hx':h.nx≤x:=gu g1.nx hx
  have b:aaV h h2 x h.nx (fun _=>.nilslice) ⟨N,fun _=>[],[]⟩:=by
    refine ⟨⟨ox,hm.chg (g2.chg fun _=>False) (fun h=>h),fun k hk=>.nil,fun j k _ _ _ c e=>by cases e⟩,fun c hc=>?_,g1.trans g2⟩
    rcases hc with e | e | ⟨k,hk,e⟩
    · subst e; exact hx'
    · subst e; exact gp _
    · cases e
  have mk:dx N 0 6 ⟨N,fun _=>[],[]⟩:=by
    refine ⟨rfl,rfl,fun y=>?_,fun k hk a ha=>(nomatch ha),fun k hk=>gp 0,fun h=>absurd h (by omega),by omega,fun _ j hj _=>by omega,by simp [lR],by simp,fun k hk a ha=>(nomatch ha),fun k hk=>.nil,fun k hk=>Nat.zero_le _,fun k hk=>rfl,fun h=>absurd h (by omega),fun h=>absurd h (by omega)⟩
    rw [if_neg (by simp)]; rfl
  refine aR.mono (v_New_1 hn hN hro n 0 6 h2 _ _ b mk (by omega) (by omega)) ?_
  rintro ⟨r,e,h'⟩ ⟨rfl,rfl,v',s',o',b',mk'⟩
  exact ⟨rfl,x,h.nx,v',s',o',rfl,b',mk'⟩
end Go.Proofs.YtlgbmkemfinogaaGreat.Sh
/- Pools, by the code. -/
namespace Go.Proofs.YtlgbmkemfinogaaGreat.Sh
open Go.Ai
theorem dh.slice {h:Heap} {v:AV} {l:List Int} (hv:dh h .i64 v l) (hne:l≠[]):∃ b off ext o cl,v = .slice b off l.length ext o∧h.cl b cl∧sub cl off l.length=some (cH l):=by
  obtain ⟨_,⟨rfl,h0⟩ | ⟨b,off,ext,o,rfl,hx⟩⟩:=hv
  · exact (hne (gh h0)).elim
  have hpos:0<l.length:=gO.2 hne
  obtain ⟨cl,hc,hi⟩:=hx hpos
  refine ⟨b,off,ext,o,cl,rfl,hc,?_⟩
  have hend:=(hi (l.length-1) (by omega)).1
  rw [pN,if_pos (by rw [List.length_drop]; omega)]
  congr 1
  apply List.ext_getElem?
  intro j
  by_cases hj:j<l.length
  · have h2:=congrArg (·[0]?) (hi j hj).2
    simp only [Nat.mul_one,List.getElem?_cons_zero] at h2
    rw [List.getElem?_take,if_pos (by omega),List.getElem?_drop] at h2
    rw [List.getElem?_take,if_pos hj,List.getElem?_drop]
    simp only [cH,gV,gk hj,Option.map_some]
    rw [nQ hj] at h2
    simpa using h2
  · rw [List.getElem?_take,if_neg hj,gA (by rw [nW]; omega)]
theorem v_Clone {n:Nat} {h:Heap} (hro:h.ro≤h.nx) {v:AV} {l:List Int} (hv:dh h .i64 v l) (hne:l≠[]) (hm:l.length≤1048576) :
    aJ (cP n v h) fun v' h'=>Lst h' v' l∧(∀ c,v'.blk=some c→h.nx≤c)∧bo h h':=by
  unfold cP vA ri
  obtain ⟨b,off,ext,o,cl,rfl,hc,hs⟩:=dh.slice hv hne
  have hpos:0<l.length:=gO.2 hne
  have e1:∀ c,Tt (.nil .sl) (.slice b off l.length ext o) .nilslice c=c false:=fun c=>rfl
  simp only [au,e1,Bool.xor_false]
  refine aJ.bind (aat (l:=[]) hro (fun k=>by rfl)) ?_
  rintro _ h2 ⟨rfl,o2,g2⟩
  have hro2:=g2.le hro
  have hc2:=g2.cl hc
  refine ⟨(.slice h2.nx 0 l.length 0 true,h2.add (.cells (cH l) true 1)),⟨.inr ⟨h2.nx,0,[],rfl,⟨by simp,by simpa using hro2,by rw [Heap.fQ,if_pos rfl]; simp⟩,rfl,by omega,by omega⟩,fun c e=>by cases e; exact g2.nx,g2.trans bo.add⟩,fun k=>?_⟩
  unfold px
  have:tq h2 1 (.slice h.nx 0 0 0 false) (.slice b off l.length ext o)=some (.slice h2.nx 0 l.length 0 true,h2.add (.cells (cH l) true 1)):=by
    have hsh:LX h2 1 l.length (.slice b off l.length ext o)=some (cH l):=by
      show (Option.casesOn (nU h2 b) none fun l'=>sub l' off (l.length*1):Option (List AV))=_
      rw [IR hc2,Nat.mul_one]; exact hs
    simp only [tq,lenF]
    rw [if_neg (by omega),if_neg (by omega),if_neg (by unfold I8; omega),Lf o2]
    dsimp only
    rw [show sub ([]:List AV) 0 (0*1)=some [] from rfl]
    dsimp only
    rw [hsh]
    dsimp only
    rw [if_neg (by simp),ou,Heap.fP,Nat.zero_add]
    rfl
  rw [this]
  dsimp only
  rw [Cy,tf,xK]; rfl
structure bf where
  fB:Int
  order:Int
  total:Int
  fD:List Int
  fK:Nat→Int
  fF:Nat→Int
  uses:List (Int × Int)
  fE:Nat→cw
def zw (z:bf) (vm vb:AV) (mu:Nat):List AV:=[.int .i64 z.fB,vm,.int .i64 z.order,.int .i64 (z.fK 0),.int .i64 (z.fK 1),.int .i64 (z.fK 2),.int .i64 (z.fK 3),.int .i64 (z.fK 4),.int .i64 (z.fK 5),.int .i64 (z.fK 6),
  .int .i64 z.total,vb,.map mu,.int .i64 (z.fF 0),.int .i64 (z.fF 1),.int .i64 (z.fF 2),.int .i64 (z.fF 3),.int .i64 (z.fF 4),.int .i64 (z.fF 5),.int .i64 (z.fF 6)]
theorem pool_0 (z:bf) (vm vb:AV) (mu:Nat):(zw z vm vb mu)[0]?=some (.int .i64 z.fB):=rfl
theorem aoe (z:bf) (vm vb:AV) (mu:Nat):(zw z vm vb mu)[1]?=some vm:=rfl
theorem pool_2 (z:bf) (vm vb:AV) (mu:Nat):(zw z vm vb mu)[2]?=some (.int .i64 z.order):=rfl
theorem pool_10 (z:bf) (vm vb:AV) (mu:Nat):(zw z vm vb mu)[10]?=some (.int .i64 z.total):=rfl
theorem Yi (z:bf) (vm vb:AV) (mu:Nat):(zw z vm vb mu)[11]?=some vb:=rfl
theorem ab6 (z:bf) (vm vb:AV) (mu:Nat):(zw z vm vb mu)[12]?=some (.map mu):=rfl
theorem pool_q (z:bf) (vm vb:AV) (mu:Nat) {k:Nat} (hk:k<7):(zw z vm vb mu)[3+k]?=some (.int .i64 (z.fK k)):=by
  match k,hk with
  | 0,_=>rfl | 1,_=>rfl | 2,_=>rfl | 3,_=>rfl | 4,_=>rfl | 5,_=>rfl | 6,_=>rfl
theorem aoo (z:bf) (vm vb:AV) (mu:Nat) {k:Nat} (hk:k<7):(zw z vm vb mu)[13+k]?=some (.int .i64 (z.fF k)):=by
  match k,hk with
  | 0,_=>rfl | 1,_=>rfl | 2,_=>rfl | 3,_=>rfl | 4,_=>rfl | 5,_=>rfl | 6,_=>rfl
theorem apD (z:bf) (vm vb:AV) (mu:Nat) (x:Int) {k:Nat} (hk:k<7):(zw z vm vb mu).set (13+k) (.int .i64 x)=zw { z with fF:=upd z.fF k x } vm vb mu:=by
  match k,hk with
  | 0,_=>rfl | 1,_=>rfl | 2,_=>rfl | 3,_=>rfl | 4,_=>rfl | 5,_=>rfl | 6,_=>rfl
structure bX where
  p:Nat
  vm:AV
  vb:AV
  mu:Nat
  bp:Nat→Nat
  bm:Nat→Nat
  bv:Nat→Nat→AV
def fpI (w:bX) (i:Nat):Nat→Prop:=fpB (w.bp i) (w.bm i) (w.bv i)
structure bF (h:Heap) (w:bX) (z:bf):Prop where
  own:Own h w.p (zw z w.vm w.vb w.mu) 0
  fD:Lst h w.vm z.fD
  fE:App h w.vb 1 z.fD.length ((List.range z.fD.length).map fun i=>.ptr (w.bp i) 0)
  uses:ft h w.mu .u8 z.uses
  each:∀ i,i<z.fD.length→dk h (w.bp i) (w.bm i) (w.bv i) (z.fE i)
  disj:∀ i j,i<z.fD.length→j<z.fD.length→i≠j→∀ c,fpI w i c→¬ fpI w j c
  apart:∀ i,i<z.fD.length→∀ c,fpI w i c→c≠w.p∧c≠w.mu∧w.vm.blk≠some c∧w.vb.blk≠some c
  two:∀ c,w.vm.blk=some c→w.vb.blk≠some c
def fpP (w:bX) (L:Nat) (c:Nat):Prop:=c=w.p∨c=w.mu∨w.vm.blk=some c∨w.vb.blk=some c∨∃ i,i<L∧fpI w i c
theorem bF.chg {F:Nat→Prop} {h h':Heap} {w:bX} {z:bf} (b:bF h w z) (c:Chg F h h') (hf:∀ d,fpP w z.fD.length d→¬ F d):bF h' w z:=
  ⟨c.own b.own (hf _ (.inl rfl)),b.fD.chg c fun d e=>hf d (.inr (.inr (.inl e))),b.fE.chg c fun d e=>hf d (.inr (.inr (.inr (.inl e)))),b.uses.chg c (hf _ (.inr (.inl rfl))),
    fun i hi=>(b.each i hi).chg c fun d e=>hf d (.inr (.inr (.inr (.inr ⟨i,hi,e⟩)))),b.disj,b.apart,b.two⟩
theorem bF.grow {h h':Heap} {w:bX} {z:bf} (b:bF h w z) (g:bo h h'):bF h' w z:=b.chg (g.chg fun _=>False) fun _ _ h=>h
theorem bF.bud {h:Heap} {w:bX} {z:bf} (b:bF h w z) {i:Nat} (hi:i<z.fD.length):∀ k:AV→AV→ab,eld 1 h w.vb (i:Int) 1 false k=k (elP w.vb 1 i) (.ptr (w.bp i) 0):=by
  intro k
  rcases b.fE with ⟨e1,e2,_⟩ | ⟨c,e1,o,_,_⟩
  · omega
  · rw [e1]
    unfold eld Rh
    rw [KR,NL]
    have:Nat.blt i z.fD.length=true:=by rw [blt_eq]; simpa using hi
    rw [this,tO,nd]
    dsimp only
    rw [agI,iR o.cl]
    have:((List.range z.fD.length).map fun i=>AV.ptr (w.bp i) 0)[Nat.add 0 (Nat.mul i 1)]?=some (.ptr (w.bp i) 0):=by
      rw [show Nat.add 0 (Nat.mul i 1)=i by simp]
      simp [gV,List.getElem?_range hi]
    rw [this,pX]
    simp [elP]
theorem bF.blen {h:Heap} {w:bX} {z:bf} (b:bF h w z) (k:Int→ab):lz w.vb k=k z.fD.length:=b.fE.len k
theorem O6 {n:Nat} {h:Heap} {w:bX} {z:bf} (b:bF h w z) (k:Bool→Heap→ab):bu n (.ptr w.p 0) h k=k true h:=by
  unfold bu FD y0 sC
  have e1:∀ c,Tt (.nil .mp) (.map w.mu) .nilmap c=c false:=fun c=>rfl
  have t1:(false ^^ true)=true:=rfl
  simp only [au,ac8,t1,iR b.own.cl,ab6,e1]
theorem bF.mup {h:Heap} {w:bX} {z:bf} (b:bF h w z):w.mu≠w.p:=b.uses.ne b.own
theorem bF.vmp {h:Heap} {w:bX} {z:bf} (b:bF h w z) {c:Nat} (e:w.vm.blk=some c):c≠w.p∧c≠w.mu:=⟨b.fD.ne b.own e,b.fD.neM b.uses e⟩
theorem bF.vbp {h:Heap} {w:bX} {z:bf} (b:bF h w z) {c:Nat} (e:w.vb.blk=some c):c≠w.p∧c≠w.mu:=by
  rcases b.fE with ⟨e1,_,_⟩ | ⟨d,e1,o,_,_⟩
  · rw [e1] at e; cases e
  · rw [e1] at e
    cases e
    refine ⟨?_,fun e2=>?_⟩
    · rintro rfl
      have:=b.own.get.symm.trans o.get
      simp at this
    · rw [e2] at o
      exact b.uses.ne o rfl
theorem bF.setUses {h h':Heap} {w:bX} {z:bf} (b:bF h w z) {kv:List (Int × Int)} (c:Chg (· = w.mu) h h') (hm:ft h' w.mu .u8 kv):bF h' w { z with uses:=kv }:=
  ⟨c.own b.own (fun e=>b.mup e.symm),b.fD.chg c fun d e=>(b.vmp e).2,b.fE.chg c fun d e=>(b.vbp e).2,hm,fun i hi=>(b.each i hi).chg c fun d e=>(b.apart i hi d e).2.1,b.disj,b.apart,b.two⟩
theorem bF.setCount {h h':Heap} {w:bX} {z:bf} (b:bF h w z) {k:Nat} (hk:k<7) {x:Int} (p:Put h w.p ((zw z w.vm w.vb w.mu).set (13+k) (.int .i64 x)) 0 h'):bF h' w { z with fF:=upd z.fF k x }:=by
  have o:=p.own
  rw [apD _ _ _ _ _ hk] at o
  exact ⟨o,b.fD.chg p.chg fun d e=>(b.vmp e).1,b.fE.chg p.chg fun d e=>(b.vbp e).1,b.uses.chg p.chg b.mup,fun i hi=>(b.each i hi).chg p.chg fun d e=>(b.apart i hi d e).1,b.disj,b.apart,b.two⟩
theorem bF.lt {h:Heap} {w:bX} {z:bf} (b:bF h w z) {c:Nat} (hc:fpP w z.fD.length c):c<h.nx:=by
  rcases hc with e | e | e | e | ⟨i,hi,e⟩
  · subst e; exact b.own.lt
  · subst e; exact b.uses.lt
  · exact (b.fD.lt e).1
  · exact b.fE.lt e
  · exact (b.each i hi).lt e
def mF (co c at_:Int) (j:Nat):List Int:=(List.range j).map fun (i:Nat)=>(at_+(i:Int))*co+c
theorem ach (co c at_:Int) (j:Nat):mF co c at_ (j+1)=mF co c at_ j++[(at_+(j:Int))*co+c]:=by simp [mF,List.range_succ]
theorem uT (co c at_:Int) (j:Nat):(mF co c at_ j).length=j:=by simp [mF]
def ajw (u:Int) (l:List Int) (kv:List (Int × Int)):List (Int × Int):=l.foldl (fun kv f=>LJ f u kv) kv
theorem ap3 {n:Nat} {w:bX} {L i u N:Nat} {at_ c:Int} (hu:u<7) (hN:N≤100) (hat:0≤at_) (f1):∀ (q j:Nat) (h:Heap) (z:bf) (v:AV),h.ro≤h.nx→bF h w z→z.fD.length=L→i<L→nz z.fD i=c→0≤c→c<z.fB→jC z.fB 1 16=true→
    (at_+(N:Int)-1)*z.fB+c≤4095→0≤z.fF u→z.fF u+(N:Int)≤1000000000+(j:Int)→Lst h v (mF z.fB c at_ j)→(∀ d,v.blk=some d→¬ fpP w L d)→j≤N→N-j<q→
    dY (fun k=>sE n f1 (dQ n) k q (.ptr w.p 0) (i:Int) (u:Int) at_ v (N:Int) (j:Int) h) fun r e h'=>e=0∧Lst h' r (mF z.fB c at_ N)∧(∀ d,r.blk=some d→v.blk=some d∨h.nx≤d)∧
      bF h' w { z with uses:=ajw u ((mF z.fB c at_ N).drop j) z.uses,fF:=upd z.fF u (z.fF u+((N-j:Nat):Int)) }∧Chg (fun d=>fpP w L d∨v.blk=some d) h h':=by
  intro q
  induction q with
  | zero=>omega
  | succ q ih=>
    intro j h z v hro b hL hi hc hc0 hc1 hco hmax hcnt hcnt2 hv hvf hj hq
    simp only [Xu]
    unfold sF vM
    refine aR.ifB (fun e=>?_) fun e=>?_
    · simp at e
      have hco':=hco
      simp [jC] at hco'
      have m1:(at_+(j:Int))*z.fB≤(at_+(N:Int)-1)*z.fB:=Int.mul_le_mul_of_nonneg_right (by omega) (by omega)
      have m2:(at_+(j:Int))*1≤(at_+(j:Int))*z.fB:=Int.mul_le_mul_of_nonneg_left (by omega) (by omega)
      have e1:IntKind.i64.wrap (at_+(j:Int))=at_+(j:Int):=mP (by omega) (by omega)
      have e2:IntKind.i64.wrap (z.fF u+1)=z.fF u+1:=mP (by omega) (by omega)
      have hel:=b.fD.ints.elN (i:=i) (by omega)
      rw [hc] at hel
      simp only [au,iR b.own.cl,pool_0,aoe,ab6,hel,e1,u_Frame n hco hc0 hc1 (show 0≤at_+(j:Int) by omega) (show (at_+(j:Int))*z.fB+c≤4095 by omega)]
      have t0:∀ (A B:ab),ifB (!((0:Int)==0)) A B=B:=fun _ _=>rfl
      simp only [t0]
      refine dz.bind (amG b.uses _ _) ?_
      rintro h2 ⟨m2',c2⟩
      have b2:=b.setUses c2 m2'
      simp only [au,DC hu,iR b2.own.cl,aoo _ _ _ _ hu,e2]
      refine dz.bind (wd b2.own (by show 13+u<20; omega) rfl) ?_
      intro h3 p3
      have b3:=b2.setCount hu p3
      have hro3:h3.ro≤h3.nx:=p3.chg.le (c2.le hro)
      refine aJ.bind (Co (fun k=>by rfl)) ?_
      rintro _ h4 ⟨rfl,c4,g4⟩
      have b4:=b3.grow g4
      have hfv:=hvf
      have hv2:=hv.chg c2 fun d e1 e2=>hvf d e1 (.inr (.inl e2))
      have hv3:=hv2.chg p3.chg fun d e1 e2=>hvf d e1 (.inl e2)
      have hv4:=hv3.grow g4
      have hlen:(mF z.fB c at_ j).length=j:=uT ..
      refine aJ.bind (aee (g4.le hro3) hv4 c4 (by omega)) ?_
      rintro v' h5 ⟨l5,hb5,c5⟩
      rw [← ach] at l5
      have n4:h.nx≤h4.nx:=gu (gu c2.nx p3.chg.nx) g4.nx
      have b5:=b4.chg c5 fun d e1 e2=>hvf d e2 (by rw [← hL]; exact e1)
      simp only [au,kP (show j≤9223372036854775806 by omega)]
      have hz':((z.fF u+1)+((N-(j+1):Nat):Int))=z.fF u+((N-j:Nat):Int):=by omega
      refine aR.mono (ih (j+1) h5 _ v' (c5.le (g4.le hro3)) b5 hL hi hc hc0 hc1 hco hmax (by show 0≤upd _ _ _ _; rw [jY]; omega) (by show upd _ _ _ _+_≤_; rw [jY]; omega) l5 (fun d e1 e2=>?_) (by omega) (by omega)) ?_
      · rcases hb5 d e1 with e3 | e3
        · exact hvf d e3 e2
        · have:=b.lt (by rw [hL]; exact e2)
          omega
      · rintro ⟨r,er,h'⟩ ⟨q1,q2,q3,q4,q5⟩
        refine ⟨q1,q2,fun d e1=>?_,?_,?_⟩
        · rcases q3 d e1 with e3 | e3
          · rcases hb5 d e3 with e4 | e4
            · exact .inl e4
            · exact .inr (by omega)
          · exact .inr (by have:=c5.nx; omega)
        · have hd:(mF z.fB c at_ N).drop j=((at_+(j:Int))*z.fB+c)::(mF z.fB c at_ N).drop (j+1):=by
            rw [gx (by rw [uT]; omega)]
            congr 1
            simp [mF]
          have hu2:upd (upd z.fF u (z.fF u+1)) u ((upd z.fF u (z.fF u+1)) u+((N-(j+1):Nat):Int))=upd z.fF u (z.fF u+((N-j:Nat):Int)):=by
            funext k
            rw [jY,hz']
            unfold upd
            split<;>rfl
          dsimp only at q4 ⊢
          rw [hu2] at q4
          rw [hd]
          exact q4
        · have a1:Chg (fun d=>fpP w L d∨v.blk=some d) h h5:=(c2.mono fun d _ e=>.inl (.inr (.inl e))).trans ((p3.chg.mono fun d _ e=>.inl (.inl e)).trans ((g4.chg _).trans (c5.mono fun d _ e=>.inr e)))
          refine ⟨gu a1.nx q5.nx,q5.ro.trans a1.ro,fun d hd hf=>?_⟩
          rw [q5.old d (gm hd a1.nx) fun e1=>?_,a1.old d hd hf]
          rcases e1 with e1 | e1
          · exact hf (.inl e1)
          · rcases hb5 d e1 with e3 | e3
            · exact hf (.inr e3)
            · omega
    · simp at e
      have:j=N:=by omega
      subst this
      refine K6 ⟨rfl,hv,fun d e=>.inl e,?_,⟨gp _,rfl,fun _ _ _=>rfl⟩⟩
      have e1:(mF z.fB c at_ j).drop j = []:=List.drop_eq_nil_of_le (by rw [uT]; omega)
      have e2:upd z.fF u (z.fF u+((j-j:Nat):Int))=z.fF:=by
        funext k
        unfold upd
        split
        · rename_i hk; subst hk; simp
        · rfl
      dsimp only
      rw [e1,e2]
      exact b
theorem bF.setBud {h h':Heap} {w:bX} {z:bf} (b:bF h w z) {i:Nat} (hi:i<z.fD.length) {v':Nat→AV} {s':cw} (bn:dk h' (w.bp i) (w.bm i) v' s')
    (hsub:∀ j,j<7→∀ c,(v' j).blk=some c→(w.bv i j).blk=some c∨h.nx≤c) (c:Chg (fpI w i) h h') :
    bF h' { w with bv:=upd w.bv i v' } { z with fE:=upd z.fE i s' }∧∀ d,fpP { w with bv:=upd w.bv i v' } z.fD.length d→fpP w z.fD.length d∨h.nx≤d:=by
  have fi:∀ d,fpI { w with bv:=upd w.bv i v' } i d→fpI w i d∨h.nx≤d:=by
    intro d hd
    unfold fpI at hd ⊢
    dsimp only at hd
    rw [jY] at hd
    exact aly hsub hd
  have fo:∀ j,j≠i→fpI { w with bv:=upd w.bv i v' } j=fpI w j:=by
    intro j hj
    unfold fpI
    dsimp only
    rw [jL _ _ hj]
  refine ⟨⟨c.own b.own fun e=>(b.apart i hi _ e).1 rfl,b.fD.chg c fun d e1 e2=>(b.apart i hi d e2).2.2.1 e1,b.fE.chg c fun d e1 e2=>(b.apart i hi d e2).2.2.2 e1,b.uses.chg c fun e=>(b.apart i hi _ e).2.1 rfl,fun j hj=>?_,fun j k hj hk hjk d e1 e2=>?_,fun j hj d e1=>?_,b.two⟩,fun d hd=>?_⟩
  · by_cases e:j=i
    · subst e
      show dk h' (w.bp j) (w.bm j) (upd w.bv j v' j) (upd z.fE j s' j)
      rw [jY,jY]; exact bn
    · show dk h' (w.bp j) (w.bm j) (upd w.bv i v' j) (upd z.fE i s' j)
      rw [jL _ _ e,jL _ _ e]
      exact (b.each j hj).chg c fun d e1 e2=>b.disj j i hj hi e d e1 e2
  · by_cases ej:j=i
    · subst ej
      rw [fo k (fun e=>hjk e.symm)] at e2
      rcases fi d e1 with e3 | e3
      · exact b.disj j k hj hk hjk d e3 e2
      · have:=(b.each k hk).lt e2
        omega
    · rw [fo j ej] at e1
      by_cases ek:k=i
      · subst ek
        rcases fi d e2 with e3 | e3
        · exact b.disj j k hj hk hjk d e1 e3
        · have:=(b.each j hj).lt e1
          omega
      · rw [fo k ek] at e2
        exact b.disj j k hj hk hjk d e1 e2
  · by_cases ej:j=i
    · subst ej
      rcases fi d e1 with e3 | e3
      · exact b.apart j hj d e3
      · refine ⟨?_,?_,fun e4=>?_,fun e4=>?_⟩
        · intro e4
          have e5:d=w.p:=e4
          have:=b.own.lt
          omega
        · intro e4
          have e5:d=w.mu:=e4
          have:=b.uses.lt
          omega
        · have:=(b.fD.lt e4).1; omega
        · have:=b.fE.lt e4; omega
    · rw [fo j ej] at e1
      exact b.apart j hj d e1
  · rcases hd with e | e | e | e | ⟨j,hj,e⟩
    · exact .inl (.inl e)
    · exact .inl (.inr (.inl e))
    · exact .inl (.inr (.inr (.inl e)))
    · exact .inl (.inr (.inr (.inr (.inl e))))
    · by_cases ej:j=i
      · subst ej
        rcases fi d e with e3 | e3
        · exact .inl (.inr (.inr (.inr (.inr ⟨j,hj,e3⟩))))
        · exact .inr e3
      · rw [fo j ej] at e
        exact .inl (.inr (.inr (.inr (.inr ⟨j,hj,e⟩))))
structure eZ (z:bf):Prop where
  co:jC z.fB 1 16=true
  ne:0<z.fD.length
  ln:z.fD.length≤16
  fD:∀ i,i<z.fD.length→0≤nz z.fD i∧nz z.fD i<z.fB
  room:∀ i,i<z.fD.length→∀ k,k<7→∀ a∈(z.fE i).free k,0≤a∧(a+2^k-1)*z.fB+nz z.fD i≤4095
  cnt:∀ k,0≤z.fF k∧z.fF k≤900000000
theorem eZ.small {z:bf} (o:eZ z) {i:Nat} (hi:i<z.fD.length):ahW (z.fE i):=by
  intro k hk x hx
  obtain ⟨h1,h2⟩:=o.room i hi k hk x hx
  have h3:=(o.fD i hi).1
  have hco:=o.co
  simp [jC] at hco
  obtain ⟨p1,p2,p3⟩:=Yz hk
  have m1:(x+2^k-1)*1≤(x+2^k-1)*z.fB:=Int.mul_le_mul_of_nonneg_left (by omega) (by omega)
  omega
def d9 (z:bf) (i o u k:Nat) (a:Int) (rest:List Int):bf:=
  { z with fE:=upd z.fE i { uv (z.fE i) o k o a rest with fG:=LJ a o (z.fE i).fG },uses:=ajw u (mF z.fB (nz z.fD i) a (2^o)) z.uses,fF:=upd z.fF u (z.fF u+((2^o:Nat):Int)) }
def Taken (h:Heap) (w:bX) (z:bf) (i o u:Nat) (r:AV) (e:Int) (h':Heap):Prop:=
  (e=4∧r = .nilslice∧h'=h∧∀ j,o≤j→j<7→(z.fE i).free j = [])∨
  (e=0∧∃ k a rest bv',o≤k∧k<7∧(z.fE i).free k=a::rest∧(∀ j,o≤j→j<k→(z.fE i).free j = [])∧Lst h' r (mF z.fB (nz z.fD i) a (2^o))∧(∀ d,r.blk=some d→h.nx≤d∧¬ fpP { w with bv:=bv' } z.fD.length d)∧
    bF h' { w with bv:=bv' } (d9 z i o u k a rest)∧(∀ d,fpP { w with bv:=bv' } z.fD.length d→fpP w z.fD.length d∨h.nx≤d)∧Chg (fpP w z.fD.length) h h')
theorem aoV {n:Nat} (hn:100<n) {h:Heap} (hro:h.ro≤h.nx) {w:bX} {z:bf} (b:bF h w z) (ok:eZ z) {i o u:Nat} (hi:i<z.fD.length) (ho:o<7) (hu:u<7) :
    dY (cX n (.ptr w.p 0) (i:Int) (o:Int) (u:Int) h) (Taken h w z i o u):=by
  unfold cX FB zb
  simp only [au,iR b.own.cl,Yi,b.bud hi]
  refine dY.bind (v_Take (by omega) hro (ok.small hi) (b.each i hi) ho) ?_
  rintro a er h2 (⟨rfl,rfl,rfl,hemp⟩ | ⟨rfl,k,rest,v',h1,hk,hx,hemp,bn,hsub,c2⟩)
  · exact K6 (.inl ⟨rfl,rfl,rfl,hemp⟩)
  · obtain ⟨p0,p1,p2⟩:=Wx ho
    obtain ⟨q1,q2,q3⟩:=Yz ho
    obtain ⟨b2,hf2⟩:=b.setBud hi bn hsub c2
    have t0:∀ (A B:ab),ifB (!((0:Int)==0)) A B=B:=fun _ _=>rfl
    simp only [au,t0,ND (gd o),q1]
    rw [← p0]
    obtain ⟨r1,r2⟩:=ok.room i hi k hk a (by rw [hx]; simp)
    have hco:=ok.co
    simp [jC] at hco
    have hpk:(2:Int)^o≤2^k:=by
      have:=Nat.pow_le_pow_right (show 0<2 by omega) h1
      have e1:=(Wx hk).1
      omega
    have m1:(a+((2^o:Nat):Int)-1)*z.fB≤(a+2^k-1)*z.fB:=Int.mul_le_mul_of_nonneg_right (by omega) (by omega)
    have hcnt:=ok.cnt u
    refine aR.mono (ap3 (w:={ w with bv:=upd w.bv i v' }) (L:=z.fD.length) (c:=nz z.fD i) hu (by omega) r1 (dc n) n 0 h2 _ .nilslice (c2.le hro) b2 rfl hi rfl (ok.fD i hi).1 (ok.fD i hi).2 ok.co (by show (a+((2^o:Nat):Int)-1)*z.fB+nz z.fD i≤4095; omega) hcnt.1 (by show z.fF u+_≤_; omega) (by simpa [mF] using Lst.nil) (fun d e=>by cases e) (by omega) (by omega)) ?_
    rintro ⟨r,er,h'⟩ ⟨s1,s2,s3,s4,s5⟩
    refine .inr ⟨s1,k,a,rest,_,h1,hk,hx,hemp,s2,fun d e=>?_,s4,hf2,?_⟩
    · rcases s3 d e with e1 | e1
      · cases e1
      · exact ⟨gu c2.nx e1,fun e2=>by have:=b2.lt e2; omega⟩
    · refine ⟨gu c2.nx s5.nx,s5.ro.trans c2.ro,fun d hd hf=>?_⟩
      rw [s5.old d (gm hd c2.nx) fun e1=>?_,c2.old d hd fun e1=>hf (.inr (.inr (.inr (.inr ⟨i,hi,e1⟩))))]
      rcases e1 with e1 | e1
      · rcases hf2 d e1 with e2 | e2
        · exact hf e2
        · omega
      · cases e1
theorem v_Image {n:Nat} (hn:100<n) {h:Heap} (hro:h.ro≤h.nx) {w:bX} {z:bf} (b:bF h w z) (ok:eZ z) {o:Nat} (ho:o<7) (hz:z.order=(o:Int)) (hc:z.fF 1=0) :
    dY (ba n (.ptr w.p 0) h) (Taken h w z 0 o 1):=by
  unfold ba FA yR
  have i1:∀ c,FY 1 7 (.ptr w.p 13) 1 c=c (.ptr w.p 14):=fun c=>DC (n:=7) (k:=1) (by omega) c
  have e1:(zw z w.vm w.vb w.mu)[14]?=some (.int .i64 (z.fF 1)):=rfl
  have e2:decide ((0:Int)<0)=false:=rfl
  simp only [au,O6 b,Bool.not_true,i1,iR b.own.cl,e1,hc,e2,pool_2,hz]
  exact aoV hn hro b ok ok.ne ho (u:=1) (by omega)
def Best (f:Nat→Nat) (L b:Nat):Prop:=b<L∧(∀ j,j<L→f j≤f b)∧∀ j,j<b→f j<f b
abbrev fL (z:bf) (i:Nat):Nat:=lR (z.fE i) 7
theorem ajE (h:Heap):(h.shut true).back h.ro=h:=by cases h; rfl
theorem apq {n:Nat} (hn:100<n) {R:Type} {ap:abX→R→ab} {Q:R→Prop} {h:Heap} {w:bX} {z:bf} (b:bF h w z) {u:Int} (f1 f2) (hL:z.fD.length≤9223372036854775807)
    (hgo:∀ best,Best (fL z) z.fD.length best→aR ap (fun k=>tP n f1 f2 (bT n) k (.ptr w.p 0) u (best:Int) h) Q) :
    ∀ (q i best:Nat),best<z.fD.length→best≤i→i≤z.fD.length→z.fD.length-i<q→(∀ j,j<i→fL z j≤fL z best)→(∀ j,j<best→fL z j<fL z best)→
    aR ap (fun k=>tG n f1 f2 (bT n) k q (.ptr w.p 0) u (best:Int) w.vb z.fD.length (i:Int) h) Q:=by
  intro q
  induction q with
  | zero=>omega
  | succ q ih=>
    intro i best hb hbi hi hq h1 h2
    simp only [YE]
    unfold tJ tX
    refine aR.ifB (fun e=>?_) fun e=>?_
    · simp at e
      have t1:=fun K=>(b.bud (i:=i) e) K
      have t2:=fun K=>(b.bud (i:=best) hb) K
      simp only [au,t1]
      refine aJ.bind (anJ (by omega) (b.each i e).rd.shut) ?_
      rintro _ _ ⟨rfl,rfl⟩
      rw [ajE]
      simp only [au,iR b.own.cl,Yi,t2]
      refine aJ.bind (anJ (by omega) (b.each best hb).rd) ?_
      rintro _ _ ⟨rfl,rfl⟩
      rw [kP (show i≤9223372036854775806 by omega)]
      refine aR.ifB (fun e1=>?_) fun e1=>?_
      · simp at e1
        refine ih (i+1) i e (by omega) (by omega) (by omega) (fun j hj=>?_) (fun j hj=>?_)
        · by_cases ej:j=i
          · subst ej; exact gp _
          · have:=h1 j (by omega)
            show lR _ _≤lR _ _
            have h3:lR (z.fE j) 7≤lR (z.fE best) 7:=this
            omega
        · have h3:lR (z.fE j) 7≤lR (z.fE best) 7:=h1 j hj
          show lR _ _<lR _ _
          omega
      · simp at e1
        refine ih (i+1) best hb (by omega) (by omega) (by omega) (fun j hj=>?_) h2
        by_cases ej:j=i
        · subst ej; exact e1
        · exact h1 j (by omega)
    · simp at e
      have:i=z.fD.length:=by omega
      subst this
      exact hgo best ⟨hb,h1,h2⟩
def Xl (h:Heap) (w:bX) (z:bf) (u:Nat) (f e:Int) (h':Heap):Prop:=
  (z.fK u≤z.fF u∧f=0∧e=4∧h'=h)∨(z.fF u<z.fK u∧∃ best r,Best (fL z) z.fD.length best∧Taken h w z best 0 u r e h'∧
    (e≠0→f=0)∧(e=0→∀ k a rest,(∀ j,0≤j→j<k→(z.fE best).free j = [])→(z.fE best).free k=a::rest→f=a*z.fB+nz z.fD best))
theorem v_PTake {n:Nat} (hn:100<n) {h:Heap} (hro:h.ro≤h.nx) {w:bX} {z:bf} (b:bF h w z) (ok:eZ z) {u:Nat} (hu2:2≤u) (hu:u<7) :
    dY (dG n (.ptr w.p 0) (u:Int) h) (Xl h w z u):=by
  unfold dG Hi AZ tH
  have e1:decide ((u:Int)<2)=false:=by simp; omega
  have e2:decide ((6:Int)<(u:Int))=false:=by simp; omega
  simp only [au,O6 b,Bool.not_true,e1,e2,DC hu,iR b.own.cl,aoo _ _ _ _ hu,pool_q _ _ _ _ hu,Yi,b.blen]
  refine aR.ifB (fun e=>?_) fun e=>?_
  · simp at e
    exact K6 (.inl ⟨e,rfl,rfl,rfl⟩)
  simp at e
  have hln:=ok.ln
  refine apq hn b _ _ (by omega) (fun best hbest=>?_) n 0 0 ok.ne (by omega) (by omega) (by omega) (fun j hj=>by omega) (fun j hj=>by omega)
  unfold tP
  refine dY.bind (aoV hn hro b ok hbest.1 (o:=0) (by omega) hu) ?_
  rintro r er h' ht
  refine aR.ifB (fun e3=>?_) fun e3=>?_
  · simp at e3
    exact K6 (.inr ⟨e,best,r,hbest,ht,fun _=>rfl,fun h0=>(e3 h0).elim⟩)
  · simp at e3
    subst e3
    have ht':=ht
    rcases ht' with ⟨h0,_⟩ | ⟨_,k,a,rest,bv',h1,hk,hx,hemp,hl,_⟩
    · cases h0
    have hf:mF z.fB (nz z.fD best) a (2^0) = [a*z.fB+nz z.fD best]:=by simp [mF]
    rw [hf] at hl
    have hel:=hl.ints.elN (i:=0) (by simp)
    have hel':∀ K,EE .i64 1 h' r 0 K=K (elP r 1 0) (a*z.fB+nz z.fD best):=hel
    simp only [au,hel']
    refine K6 (.inr ⟨e,best,r,hbest,ht,fun h0=>(h0 rfl).elim,fun _ k' a' rest' hemp' hx'=>?_⟩)
    have hkk:k'=k:=by
      rcases gc k' k with h2 | h2 | h2
      · rw [hemp k' (by omega) h2] at hx'; cases hx'
      · exact h2
      · rw [hemp' k (by omega) h2] at hx; cases hx
    subst hkk
    rw [hx] at hx'
    cases hx'
    rfl
def Ja (z:bf):List Int:=(List.range z.fD.length).map fun i=>(fL z i:Int)
theorem apu {n:Nat} (hn:100<n) {w:bX} {z:bf} (ok:eZ z) {h0:Heap} (hro:h0.ro≤h0.nx) (b0:bF h0 w z) (f1):∀ (q i:Nat) (h:Heap) (v:AV),bo h0 h→Lst h v ((List.range i).map fun i=>(fL z i:Int))→(∀ c,v.blk=some c→h0.nx≤c)→
    i≤z.fD.length→z.fD.length-i<q→
    aJ (fun k=>tK n f1 (bT n) k q v w.vb z.fD.length (i:Int) h) fun r h'=>Lst h' r (Ja z)∧(∀ c,r.blk=some c→h0.nx≤c)∧bo h0 h':=by
  intro q
  induction q with
  | zero=>omega
  | succ q ih=>
    intro i h v g hv hf hi hq
    simp only [Y2]
    unfold tQ xc
    have b:=b0.grow g
    refine aR.ifB (fun e=>?_) fun e=>?_
    · simp at e
      have t1:=fun K=>(b.bud (i:=i) e) K
      simp only [au,t1]
      refine aJ.bind (anJ (by omega) (b.each i e).rd) ?_
      rintro _ _ ⟨rfl,rfl⟩
      refine aJ.bind (Co (fun k=>by rfl)) ?_
      rintro _ h2 ⟨rfl,c2,g2⟩
      have hln:=ok.ln
      refine aJ.bind (aee ((g.trans g2).le hro) (hv.grow g2) c2 (by simp; omega)) ?_
      rintro v' h3 ⟨l3,b3,c3⟩
      rw [kP (show i≤9223372036854775806 by omega)]
      refine ih (i+1) h3 v' (c3.grow (g.trans g2) hf) ?_ (fun c e1=>?_) (by omega) (by omega)
      · rw [List.range_succ,gU]
        exact l3
      · rcases b3 c e1 with e2 | e2
        · exact hf c e2
        · have:=(g.trans g2).nx; omega
    · simp at e
      have:i=z.fD.length:=by omega
      subst this
      exact mQ ⟨hv,hf,g⟩
theorem aoI {n:Nat} (hn:100<n) {h:Heap} (hro:h.ro≤h.nx) {w:bX} {z:bf} (b:bF h w z) (ok:eZ z) :
    aJ (bH n (.ptr w.p 0) h) fun r h'=>Lst h' r (Ja z)∧(∀ c,r.blk=some c→h.nx≤c)∧bo h h':=by
  unfold bH Hx AI
  simp only [au,O6 b,Bool.not_true,iR b.own.cl,Yi,b.blen]
  exact apu hn ok hro b _ n 0 h .nilslice .refl .nil (fun c e=>by cases e) (by omega) (by have:=ok.ln; omega)
end Go.Proofs.YtlgbmkemfinogaaGreat.Sh
