/- A slab's Take. -/
import Derived.Test.YtlgbmkemfinogaaGreatLAPoolLS4
set_option linter.all false
namespace Go.Proofs.YtlgbmkemfinogaaGreat.Sh
open Go.Ai
theorem anT (p u:Nat) (sz:Int) (m:Nat):(Tj p u sz m)[0]?=some (.ptr p 0):=rfl
theorem slab_1 (p u:Nat) (sz:Int) (m:Nat):(Tj p u sz m)[1]?=some (.int .u8 u):=rfl
theorem ahn (p u:Nat) (sz:Int) (m:Nat):(Tj p u sz m)[2]?=some (.int .i64 sz):=rfl
theorem TX (p u:Nat) (sz:Int) (m:Nat):(Tj p u sz m)[3]?=some (.map m):=rfl
theorem keysZ_N (es:List (AV × AV)):ahY es=L1 es:=rfl
theorem sortZ_N (l:List Int):amb (am8 l)=X9 (om l):=rfl
section
variable {h:Heap} {sp sm:Nat} {w:bX} {z:bf} {u:Nat} {sz:Int} {E:Frs}
theorem alZ {h:Heap}:∀ {E:Frs},(∀ e∈E,Own h e.2.1 (e.2.2.map AV.bool) 0)→(∀ e∈E,e.2.2.length≤1000000)→adB h (OR (kvE E))=some (E.map fun e=>decide (false∈e.2.2))
  | [],_,_=>rfl
  | e::E,h1,h2=>by
    have o:=h1 e (gM ..)
    have ih:=alZ (E:=E) (fun x hx=>h1 x (f0 _ hx)) fun x hx=>h2 x (f0 _ hx)
    show (match aca h (abn e.2.1 e.2.2.length),adB h (OR (kvE E)) with
      | some t,some ts=>some (t::ts)
      | _,_=>none:Option (List Bool))=_
    rw [ih,show aca h (abn e.2.1 e.2.2.length)=some (decide (false∈e.2.2)) from openO_of o.lt (Lf o) (h2 e (gM ..))]
    rfl
theorem v_Least (s:bS h sp sm w z u sz E) (hn:(E.map (·.1)).Nodup) (hk:∀ e∈E,Kg e.1) (hl:E.length≤1000000) (hr:∀ e∈E,e.2.2.length≤1000000) :
    ∃ a t,Least (fun x=>∃ e∈E,e.1=x∧false∈e.2.2) a t∧∀ k,qY cU [.map sm,.func 47 [] []] h k=k (.tuple [.int .i64 a,.bool t]) h:=by
  have hz:=adT (E.map (·.1)) (E.map fun e=>decide (false∈e.2.2)) (fun _=>False) 0 false (by simp) (.inl ⟨rfl,rfl,fun _ h=>h⟩)
  have e0:(fun y=>False∨(y,true)∈(E.map (·.1)).zip (E.map fun e=>decide (false∈e.2.2)))=fun x=>∃ e∈E,e.1=x∧false∈e.2.2:=by
    funext y
    rw [List.zip_map',fY]
    simp [Prod.ext_iff]
  rw [e0] at hz
  refine ⟨_,_,hz,fun k=>?_⟩
  have e1:agf 47 [.map sm,.func 47 [] []] h=some (.tuple [.int .i64 (Bp (E.map (·.1)) (E.map fun e=>decide (false∈e.2.2)) 0 false).1,.bool (Bp (E.map (·.1)) (E.map fun e=>decide (false∈e.2.2)) 0 false).2]):=by
    unfold agf
    dsimp only
    rw [s.map.at_,show Nat.beq 47 47=true from rfl]
    dsimp only
    rw [keysZ_N,ahT (kv:=kvE E) (fun e he=>by obtain ⟨e',he',rfl⟩:=fY.1 he; exact hk e' he'),alZ s.rows hr,Ph]
    dsimp only
    rw [sortZ_N,Qi (Ei hn),mU,gR,fW hl]
    rfl
  unfold qY cU Tv
  rw [e1]
def First (row:List Bool) (i:Nat):Prop:=i<row.length∧row[i]?=some false∧∀ j,j<i→row[j]?=some true
theorem First.of {row:List Bool} {r:Int} (h:IsAt row false r) (hm:false∈row):∃ i:Nat,r=(i:Int)∧First row i:=by
  rcases h with ⟨_,h⟩ | ⟨i,hi,rfl,e,hj⟩
  · exact (h hm).elim
  · refine ⟨i,rfl,hi,by rw [gk hi,e],fun j hj'=>?_⟩
    have:=hj j hj'
    rw [gk (by omega)]
    cases hq:row[j] with
    | true=>rfl
    | false=>exact (this hq).elim
theorem BO {cnt i:Nat} {sz:Int} (hc:(cnt:Int)*sz=256) (hz:0<sz) (hi:i<cnt):0≤(i:Int)*sz∧(i:Int)*sz+sz≤256:=by
  have h1:((i:Int)+1)*sz≤(cnt:Int)*sz:=Int.mul_le_mul_of_nonneg_right (by omega) (by omega)
  have h2:0≤(i:Int)*sz:=Int.mul_nonneg (by omega) (by omega)
  rw [Int.add_mul,Int.one_mul] at h1
  omega
theorem ajJ {n:Nat} (s:bS h sp sm w z u sz E) (hn:(E.map (·.1)).Nodup) {cnt:Nat} (hc:(cnt:Int)*sz=256) (hz:0<sz) (hc16:cnt≤256) (hcn:cnt<n) {f:Int} (hf:0≤f∧f<4096) {b:Nat} {row:List Bool} (hlen:row.length=cnt) (he:(f,b,row)∈E) (hm:false∈row) (f1 f2 f3) :
    dY (fun k=>q7 n f1 f2 f3 (bw n) (cW n) k (.ptr sp 0) f h) fun a e h'=>∃ i,First row i∧a=f*256+i*sz∧e=0∧bS h' sp sm w z u sz (CG f i true E)∧Chg (· = b) h h':=by
  unfold q7
  simp only [au,iR s.own.cl,TX,s.look hn he]
  have o:Own h b (row.map AV.bool) 0:=s.rows _ he
  refine aJ.bind (alJ (Own.bols o) (by omega) (by omega) false) ?_
  rintro r _ ⟨hr,rfl⟩
  obtain ⟨i,rfl,hi⟩:=First.of hr hm
  simp only [au,iR s.own.cl,TX,s.look hn he,aot hi.1]
  refine dz.bind (wd o (by rw [gR]; exact hi.1) rfl) ?_
  intro h' p
  have s':=s.setRow hn he p
  obtain ⟨p1,p2⟩:=BO hc hz (by rw [← hlen]; exact hi.1:i<cnt)
  have w1:IntKind.i64.wrap ((i:Int)*sz)=(i:Int)*sz:=mP (by omega) (by omega)
  simp only [au,iR s'.own.cl,ahn,w1,anb n hf (show 0≤(i:Int)*sz∧(i:Int)*sz<256 by omega)]
  exact K6 ⟨i,hi,rfl,rfl,s',p.chg⟩
theorem bS.setPool (s:bS h sp sm w z u sz E) {h':Heap} {w':bX} {z':bf} (b:bF h' w' z') (hp:w'.p=w.p) (hfp:∀ d,fpP w' z'.fD.length d→fpP w z.fD.length d∨h.nx≤d) (c:Chg (fpP w z.fD.length) h h'):bS h' sp sm w' z' u sz E:=by
  have nin:∀ d,(d=sp∨d=sm∨∃ e∈E,d=e.2.1)→¬ fpP w z.fD.length d:=by
    rintro d hd hf
    obtain ⟨h1,h2,h3⟩:=s.sep d hf
    rcases hd with e | e | ⟨x,hx,e⟩
    · exact h1 e
    · exact h2 e
    · exact h3 x hx e
  refine ⟨by rw [hp]; exact c.own s.own (nin _ (.inl rfl)),s.map.chg c (nin _ (.inr (.inl rfl))),fun e he=>c.own (s.rows e he) (nin _ (.inr (.inr ⟨e,he,rfl⟩))),s.dis,b,fun d hd=>?_,s.sepR⟩
  rcases hfp d hd with h1 | h1
  · exact s.sep d h1
  · have l1:=s.own.lt
    have l2:=s.map.lt
    refine ⟨by omega,by omega,fun e he=>?_⟩
    have l3:=(s.rows e he).lt
    omega
theorem bS.more (s:bS h sp sm w z u sz E) {h1 h2:Heap} (g:bo h h1) {b:Nat} (hb:h.nx≤b) {row:List Bool} (o:Own h1 b (row.map AV.bool) 0) {f:Int} (m:fj h2 sm (kvE E++[(f,abn b row.length)])) (c:Chg (· = sm) h1 h2):bS h2 sp sm w z u sz (E++[(f,b,row)]):=by
  have s1:=s.grow g
  have hbm:b≠sm:=by have:=s.map.lt; omega
  have hbs:b≠sp:=by have:=s.own.lt; omega
  refine ⟨c.own s1.own fun e=>s1.mapS e.symm,by simpa [kvE] using m,fun e he=>?_,?_,s1.pool.chg c fun d hd e=>(s1.sep d hd).2.1 e,fun d hd=>⟨(s1.sep d hd).1,(s1.sep d hd).2.1,fun e he=>?_⟩,fun e he=>?_⟩
  · rcases gT.1 he with he | he
    · exact c.own (s1.rows e he) fun e'=>s1.mapR he e'
    · simp at he; subst he
      exact c.own o hbm
  · rw [gU,gP]
    refine ⟨s.dis,by simp,fun x hx y hy=>?_⟩
    obtain ⟨e,he,rfl⟩:=fY.1 hx
    simp at hy
    have:=(s.rows e he).lt
    omega
  · rcases gT.1 he with he | he
    · exact (s1.sep d hd).2.2 e he
    · simp at he; subst he
      have:=s.lt (.inr (.inr (.inr hd)))
      show d≠b
      omega
  · rcases gT.1 he with he | he
    · exact s.sepR e he
    · simp at he; subst he; exact hbs
def STakes (h:Heap) (sp sm:Nat) (w:bX) (z:bf) (u:Nat) (sz:Int) (cnt:Nat) (E:Frs) (a e:Int) (h':Heap):Prop:=
  (∃ f b row i,(f,b,row)∈E∧First row i∧a=f*256+i*sz∧e=0∧bS h' sp sm w z u sz (CG f i true E)∧Chg (fpS sp sm w z.fD.length E) h h')∨
  ((∀ e∈E,false∉e.2.2)∧((a=0∧e≠0∧h'=h∧∃ f,Xl h w z u f e h)∨
    (e=0∧∃ f h1 bv' best k at_ rest b,Xl h w z u f 0 h1∧Best (fL z) z.fD.length best∧0≤k∧k<7∧(z.fE best).free k=at_::rest∧(∀ j,0≤j→j<k→(z.fE best).free j = [])∧f=at_*z.fB+nz z.fD best∧z.fF u<z.fK u∧a=f*256∧
      bS h' sp sm { w with bv:=bv' } (d9 z best 0 u k at_ rest) u sz (CG f 0 true (E++[(f,b,List.replicate cnt false)]))∧h.nx≤b∧(∀ d,fpP { w with bv:=bv' } z.fD.length d→fpP w z.fD.length d∨h.nx≤d)∧Chg (fpS sp sm w z.fD.length E) h h')))
theorem v_STake {n:Nat} (hn100:300<n) (hro:h.ro≤h.nx) (s:bS h sp sm w z u sz E) (ok:eZ z) (hu:2≤u∧u<7) (hn:(E.map (·.1)).Nodup) (hk:∀ e∈E,0≤e.1∧e.1<4096) (hl:E.length≤1000000) {cnt:Nat} (hrow:∀ e∈E,e.2.2.length=cnt) (hc:(cnt:Int)*sz=256) (hz:0<sz) (hc16:cnt≤256) (hc1:1≤cnt)
    (hfresh:∀ f h1,Xl h w z u f 0 h1→f∉E.map (·.1)∧0≤f∧f<4096) :
    dY (bq n (.ptr sp 0) h) (STakes h sp sm w z u sz cnt E):=by
  unfold bq Gg AS
  obtain ⟨a,t,hL,hrun⟩:=v_Least s hn (fun e he=>by have:=hk e he; unfold Kg; omega) hl fun e he=>by rw [hrow e he]; omega
  have x0:∀ k,extK 0 (.tuple [.int .i64 a,.bool t]) k=k (.int .i64 a):=fun k=>rfl
  have x1:∀ k,extK 1 (.tuple [.int .i64 a,.bool t]) k=k (.bool t):=fun k=>rfl
  simp only [au,abv s hz,Bool.not_true,iR s.own.cl,TX,hrun,x0,x1]
  refine aR.ifB (fun e=>?_) fun e=>?_
  · have et:t=false:=by simpa using e
    subst et
    have hno:∀ e∈E,false∉e.2.2:=by
      rcases hL with ⟨_,_,h⟩ | ⟨h,_⟩
      · exact fun e he hm=>h e.1 ⟨e,he,rfl,hm⟩
      · cases h
    simp only [au,iR s.own.cl,anT,slab_1]
    refine dY.bind (v_PTake (by omega) hro s.pool ok hu.1 hu.2) ?_
    rintro f er h16 hp
    refine aR.ifB (fun e1=>?_) fun e1=>?_
    · have e2:er≠0:=by simpa using e1
      have hh:h16=h:=by
        rcases hp with ⟨_,_,_,hh⟩ | ⟨_,best,r,_,ht,_⟩
        · exact hh
        · rcases ht with ⟨_,_,hh,_⟩ | ⟨h0,_⟩
          · exact hh
          · exact (e2 h0).elim
      subst hh
      exact K6 (.inr ⟨hno,.inl ⟨rfl,e2,rfl,f,hp⟩⟩)
    · have e2:er=0:=by simpa using e1
      subst e2
      obtain ⟨f1,f2⟩:=hfresh f h16 hp
      have hp':=hp
      rcases hp with ⟨_,_,h0,_⟩ | ⟨hq,best,r,hbest,ht,_,hf⟩
      · cases h0
      rcases ht with ⟨h0,_⟩ | ⟨_,k,at_,rest,bv',k0,hk7,hx,hemp,_,_,b16,fp16,c16⟩
      · cases h0
      have hfe:=hf rfl k at_ rest hemp hx
      have s16:bS h16 sp sm { w with bv:=bv' } (d9 z best 0 u k at_ rest) u sz E:=s.setPool b16 rfl fp16 c16
      have hro16:=c16.le hro
      have q1:IntKind.i64.wrap (Int.tdiv 256 sz)=(cnt:Int):=by
        have:Int.tdiv 256 sz=(cnt:Int):=by
          rw [← hc,Int.mul_tdiv_cancel _ (by omega)]
        rw [this,mP (by omega) (by omega)]
      have q2:∀ c:Int→ab,VN .i64 256 sz c=c (cnt:Int):=fun c=>by rw [N6 (by omega),q1]
      simp only [au,iR s16.own.cl,TX,ahn,q2]
      refine aJ.bind (r_mkC hro16 (.bool false) (n:=cnt) (by omega)) ?_
      rintro _ h23 ⟨rfl,o23,g23⟩
      have s23:=s16.grow g23
      refine dz.bind (r_putA s23.map (k:=f) (by rw [Ph]; exact f1) (abn h16.nx cnt)) ?_
      rintro h24 ⟨m24,c24⟩
      have o23':Own h23 h16.nx ((List.replicate cnt false).map AV.bool) 0:=by rw [List.map_replicate]; exact o23
      have s24:bS h24 sp sm { w with bv:=bv' } (d9 z best 0 u k at_ rest) u sz (E++[(f,h16.nx,List.replicate cnt false)]):=s16.more g23 (gp _) o23' (by rw [List.length_replicate]; exact m24) c24
      have hn24:((E++[(f,h16.nx,List.replicate cnt false)]).map (·.1)).Nodup:=by
        rw [gU,gP]
        refine ⟨hn,by simp,fun x hx y hy=>?_⟩
        simp at hy
        rintro rfl
        exact f1 (by rw [← hy]; exact hx)
      have hnx:h.nx≤h16.nx:=c16.nx
      refine aR.mono (ajJ s24 hn24 hc hz hc16 (by omega) f2 (by rw [List.length_replicate]) (gI _ (List.mem_singleton.2 rfl)) (List.mem_replicate.2 ⟨by omega,rfl⟩) _ _ _) ?_
      rintro ⟨a',e',h'⟩ ⟨i,hi,e3,e4,s',c'⟩
      dsimp only at e3 e4 s' c'
      subst e3 e4
      have hi0:i=0:=by
        rcases Nat.eq_zero_or_pos i with h0 | h0
        · exact h0
        · have:=hi.2.2 0 h0
          rw [List.getElem?_replicate] at this
          split at this<;>simp at this
      subst hi0
      refine .inr ⟨hno,.inr ⟨rfl,f,h16,bv',best,k,at_,rest,h16.nx,hp',hbest,k0,hk7,hx,hemp,hfe,hq,by simp,s',hnx,fp16,?_⟩⟩
      have a1:Chg (fpS sp sm w z.fD.length E) h h16:=c16.mono fun d _ hd=>.inr (.inr (.inr hd))
      have a2:Chg (fpS sp sm w z.fD.length E) h h23:=a1.trans (g23.chg _)
      have a3:Chg (fpS sp sm w z.fD.length E) h h24:=a2.trans (c24.mono fun d _ hd=>.inr (.inl hd))
      refine ⟨gu a3.nx c'.nx,c'.ro.trans a3.ro,fun d hd hnf=>?_⟩
      rw [c'.old d (gm hd a3.nx) (by omega)]
      exact a3.old d hd hnf
  · have et:t=true:=by simpa using e
    subst et
    rcases hL with ⟨h0,_⟩ | ⟨_,⟨⟨f,b,row⟩,he,rfl,hm⟩,_⟩
    · cases h0
    refine aR.mono (ajJ s hn hc hz hc16 (by omega) (hk _ he) (hrow _ he) he hm _ _ _) ?_
    rintro ⟨a',e',h'⟩ ⟨i,hi,e3,e4,s',c'⟩
    dsimp only at e3 e4 s' c'
    subst e3 e4
    exact .inl ⟨f,b,row,i,he,hi,rfl,rfl,s',c'.mono fun d _ hd=>.inr (.inr (.inl ⟨_,he,hd⟩))⟩
end
end Go.Proofs.YtlgbmkemfinogaaGreat.Sh
/- A slab's Give. -/
namespace Go.Proofs.YtlgbmkemfinogaaGreat.Sh
open Go.Ai
theorem ajB (n:Nat) {f o:Int} (hf:0≤f∧f<4096) (ho:0≤o∧o<256) (h:Heap) (k:Int→Int→Int→Heap→ab):ec n (f*256+o) h k=k f o 0 h:=by
  obtain ⟨a,rfl⟩:=gE hf.1
  obtain ⟨b,rfl⟩:=gE ho.1
  have e:((a:Int)*256+(b:Int))=((a*256+b:Nat):Int):=by omega
  rw [e,u_AFrame n (by omega),show (a*256+b)/256=a by omega,show (a*256+b)%256=b by omega]
section
variable {h:Heap} {sp sm:Nat} {w:bX} {z:bf} {u:Nat} {sz:Int} {E:Frs}
theorem aoU {i:Nat} {sz:Int} (hz:0<sz):Int.tmod ((i:Int)*sz) sz=0:=Int.mul_tmod_left ..
theorem aoD {i:Nat} {sz:Int} (hz:0<sz):Int.tdiv ((i:Int)*sz) sz=(i:Int):=Int.mul_tdiv_cancel _ (by omega)
theorem aod {n:Nat} (s:bS h sp sm w z u sz E) (hn:(E.map (·.1)).Nodup) {cnt:Nat} (hc:(cnt:Int)*sz=256) (hz:0<sz) (hc16:cnt≤256) {f:Int} (hf:0≤f∧f<4096) {i:Nat} (hi:i<cnt)
    (hno:f∉E.map (·.1)∨∃ b row,(f,b,row)∈E∧row[i]?=some false):aJ (aZ n (.ptr sp 0) (f*256+i*sz) h) fun r h'=>r=91∧h'=h:=by
  unfold aZ AM wl ra q8
  obtain ⟨p1,p2⟩:=BO hc hz hi
  have t0:(!((0:Int)==0))=false:=rfl
  simp only [au,abv s hz,Bool.not_true,ajB n hf (show 0≤(i:Int)*sz∧(i:Int)*sz<256 by omega),t0,iR s.own.cl,TX]
  rcases hno with hno | ⟨b,row,he,hr⟩
  · have lk:∀ (v:AV) (c:AV→Bool→ab),xk h (.cell .int) v (.map sm) (.int .i64 f) c=c v false:=s.map.lookN (by rw [Ph]; exact hno)
    simp only [au,lk,Bool.not_false]
    exact mQ ⟨rfl,rfl⟩
  · have q1:IntKind.i64.wrap (i:Int)=(i:Int):=mP (by omega) (by omega)
    have q2:∀ c:Int→ab,VN .i64 ((i:Int)*sz) sz c=c (i:Int):=fun c=>by rw [N6 (by omega),aoD hz,q1]
    have q3:∀ c:Int→ab,afN .i64 ((i:Int)*sz) sz c=c 0:=fun c=>by rw [JP (by omega),aoU hz]
    obtain ⟨hil,hir⟩:=gr.1 hr
    have o:Own h b (row.map AV.bool) 0:=s.rows _ he
    obtain ⟨a,ea⟩:=(Own.bols o).eld hil
    simp only [au,s.look hn he,Bool.not_true,ahn,q3,t0,q2,ea,hir,Bool.not_false]
    exact mQ ⟨rfl,rfl⟩
def VF (f:Int) (E:Frs):Frs:=E.filter fun e=>decide (e.1≠f)
theorem delE_kv (f:Int) (E:Frs):kvE (VF f E)=ah3 f (kvE E):=by
  unfold kvE VF ah3
  rw [List.filter_map]
  rfl
theorem Pn {f:Int} {E:Frs} {e:Int × Nat × List Bool}:e∈VF f E↔e∈E∧e.1≠f:=by simp [VF]
theorem delE_put (f:Int) (i:Nat) (x:Bool) (E:Frs):VF f (CG f i x E)=VF f E:=by
  unfold VF CG
  induction E with
  | nil=>rfl
  | cons e E ih=>
    rw [List.map_cons]
    by_cases h:e.1=f
    · rw [if_pos h,List.filter_cons_of_neg (by simp [h]),List.filter_cons_of_neg (by simp [h]),ih]
    · rw [if_neg h,List.filter_cons_of_pos (by simp [h]),List.filter_cons_of_pos (by simp [h]),ih]
theorem bS.delRow (s:bS h sp sm w z u sz E) {f:Int} {h':Heap} (m:fj h' sm (ah3 f (kvE E))) (c:Chg (· = sm) h h'):bS h' sp sm w z u sz (VF f E):=by
  refine ⟨c.own s.own fun e=>s.mapS e.symm,by rw [delE_kv]; exact m,fun e he=>?_,?_,s.pool.chg c fun d hd e=>(s.sep d hd).2.1 e,fun d hd=>⟨(s.sep d hd).1,(s.sep d hd).2.1,fun e he=>(s.sep d hd).2.2 e (Pn.1 he).1⟩,fun e he=>s.sepR e (Pn.1 he).1⟩
  · have:=(Pn.1 he).1
    exact c.own (s.rows e this) fun e'=>s.mapR this e'
  · exact s.dis.sublist (List.filter_sublist.map _)
def SGives (h:Heap) (sp sm:Nat) (w:bX) (z:bf) (u:Nat) (sz:Int) (E:Frs) (f:Int) (row:List Bool) (i:Nat) (G:bf→Prop) (r:Int) (h':Heap):Prop:=
  r=0∧Chg (fpS sp sm w z.fD.length E) h h'∧((true∈row.set i false∧bS h' sp sm w z u sz (CG f i false E))∨
   (true∉row.set i false∧∃ w' z',w'.p=w.p∧z'.fD.length=z.fD.length∧G z'∧bS h' sp sm w' z' u sz (VF f E)∧∀ d,fpP w' z.fD.length d→fpP w z.fD.length d∨h.nx≤d))
theorem v_SGive {n:Nat} (hro:h.ro≤h.nx) (s:bS h sp sm w z u sz E) (hn:(E.map (·.1)).Nodup) {cnt:Nat} (hc:(cnt:Int)*sz=256) (hz:0<sz) (hc16:cnt≤256) (hcn:cnt<n) {f:Int} (hf:0≤f∧f<4096) {b:Nat} {row:List Bool} (he:(f,b,row)∈E) (hlen:row.length=cnt) {i:Nat} (hr:row[i]?=some true) {G:bf→Prop}
    (hg:∀ h,h.ro≤h.nx→bF h w z→aJ (db n (.ptr w.p 0) f h) fun r h'=>r=0∧∃ w' z',w'.p=w.p∧z'.fD.length=z.fD.length∧G z'∧bF h' w' z'∧(∀ d,fpP w' z.fD.length d→fpP w z.fD.length d∨h.nx≤d)∧Chg (fpP w z.fD.length) h h') :
    aJ (aZ n (.ptr sp 0) (f*256+i*sz) h) (SGives h sp sm w z u sz E f row i G):=by
  unfold aZ AM wl ra q8
  obtain ⟨hil,hir⟩:=gr.1 hr
  obtain ⟨p1,p2⟩:=BO hc hz (by omega:i<cnt)
  have t0:(!((0:Int)==0))=false:=rfl
  have q1:IntKind.i64.wrap (i:Int)=(i:Int):=mP (by omega) (by omega)
  have q2:∀ c:Int→ab,VN .i64 ((i:Int)*sz) sz c=c (i:Int):=fun c=>by rw [N6 (by omega),aoD hz,q1]
  have q3:∀ c:Int→ab,afN .i64 ((i:Int)*sz) sz c=c 0:=fun c=>by rw [JP (by omega),aoU hz]
  have o:Own h b (row.map AV.bool) 0:=s.rows _ he
  obtain ⟨a,ea⟩:=(Own.bols o).eld hil
  simp only [au,abv s hz,Bool.not_true,ajB n hf (show 0≤(i:Int)*sz∧(i:Int)*sz<256 by omega),t0,iR s.own.cl,TX,s.look hn he,ahn,q3,q2,ea,hir,aot hil]
  refine dz.bind (wd o (by rw [gR]; exact hil) rfl) ?_
  intro h22 p22
  have s22:=s.setRow hn he p22
  have c22:Chg (fpS sp sm w z.fD.length E) h h22:=p22.chg.mono fun d _ hd=>.inr (.inr (.inl ⟨_,he,hd⟩))
  have o22:Own h22 b ((row.set i false).map AV.bool) 0:=by rw [List.map_set]; exact p22.own
  have b22:Bols h22 (abn b row.length) (row.set i false):=by
    have:=Own.bols o22
    rw [List.length_set] at this
    exact this
  refine aJ.bind (afj b22 (by rw [List.length_set]; omega) (by rw [List.length_set]; omega) true) ?_
  rintro r24 _ ⟨rfl,rfl⟩
  refine aR.ifB (fun e=>?_) fun e=>?_
  · exact mQ ⟨rfl,c22,.inl ⟨by simpa using e,s22⟩⟩
  · simp only [au,iR s22.own.cl,TX,anT]
    have hn22:((kvE (CG f i false E)).map (·.1)).Nodup:=by rw [Ph,aeq]; exact hn
    refine dz.bind (r_delA s22.map hn22 f) ?_
    rintro h27 ⟨m27,c27⟩
    have s27:=s22.delRow m27 c27
    rw [delE_put] at s27
    have hro27:=(c22.trans (c27.mono (G:=fpS sp sm w z.fD.length E) fun d _ hd=>.inr (.inl hd))).le hro
    simp only [au,iR s27.own.cl,anT]
    refine aJ.bind (hg h27 hro27 s27.pool) ?_
    rintro _ h' ⟨rfl,w',z',e1,e2,g,b',fp',c'⟩
    have s':=s27.setPool b' e1 (by rw [e2]; exact fp') c'
    have a2:Chg (fpS sp sm w z.fD.length E) h h27:=c22.trans (c27.mono fun d _ hd=>.inr (.inl hd))
    refine mQ ⟨rfl,a2.trans (c'.mono fun d _ hd=>.inr (.inr (.inr hd))),.inr ⟨by simpa using e,w',z',e1,e2,g,s',fun d hd=>?_⟩⟩
    rcases fp' d hd with h1 | h1
    · exact .inl h1
    · exact .inr (gu a2.nx h1)
end
end Go.Proofs.YtlgbmkemfinogaaGreat.Sh
/- What a slab holds. -/
namespace Go.Proofs.YtlgbmkemfinogaaGreat.Sh
open Go.Ai
def fb (l:List Int):List AV:=l.map (.int .u64)
def yN (f sz:Int):Nat→List Bool→List Int
  | _,[]=>[]
  | i,b::t=>(if b=true then [f*256+(i:Int)*sz] else [])++yN f sz (i+1) t
theorem aqa {f sz:Int} {row:List Bool} {i:Nat} (hi:i<row.length):yN f sz i (row.drop i)=(if row[i]=true then [f*256+(i:Int)*sz] else [])++yN f sz (i+1) (row.drop (i+1)):=by
  rw [gx hi]; rfl
theorem WR (f sz:Int):∀ (i:Nat) (row:List Bool),(yN f sz i row).length≤row.length
  | _,[]=>gp _
  | i,b::t=>by
    have:=WR f sz (i+1) t
    simp only [yN,gQ,List.length_cons]
    split<;>simp<;>omega
def am9 (E:Frs) (f:Int):List Bool:=match E.find? fun e=>decide (e.1=f) with
  | some e=>e.2.2
  | none=>[]
theorem aed {E:Frs} (hn:(E.map (·.1)).Nodup) {f:Int} {b:Nat} {row:List Bool} (he:(f,b,row)∈E):am9 E f=row:=by
  unfold am9
  cases hq:E.find? fun e=>decide (e.1=f) with
  | none=>
    have:=List.find?_eq_none.1 hq _ he
    simp at this
  | some e=>
    have h1:=List.mem_of_find?_eq_some hq
    have h2:=List.find?_some hq
    have h3:e.1=f:=by simpa using h2
    have:=xb hn h1 he h3
    subst this
    rfl
def zM (sz:Int) (E:Frs) (ks:List Int):List Int:=ks.flatMap fun f=>yN f sz 0 (am9 E f)
theorem aol (sz:Int) (E:Frs) (ks:List Int) (f:Int):zM sz E (ks++[f])=zM sz E ks++yN f sz 0 (am9 E f):=by simp [zM]
section
variable {h:Heap} {sp sm:Nat} {w:bX} {z:bf} {u:Nat} {sz:Int} {E:Frs}
theorem ap4 {h0 h h':Heap} {v v':AV} {l:List Int} (s:dh h .i64 v l) (hv:∀ c,v.blk=some c→c<h0.nx) (c:Chg (fun d=>v'.blk=some d) h h') (hv':∀ c,v'.blk=some c→h0.nx≤c):dh h' .i64 v l:=by
  obtain ⟨p1,p2⟩:=s
  refine ⟨p1,?_⟩
  rcases p2 with p2 | ⟨bb,off,ext,opn,p3,p4⟩
  · exact .inl p2
  · refine .inr ⟨bb,off,ext,opn,p3,fun h0'=>?_⟩
    obtain ⟨l,p5,p6⟩:=p4 h0'
    refine ⟨l,c.cl p5 fun hbad=>?_,p6⟩
    have y1:=hv' bb hbad
    have y2:=hv bb (by rw [p3]; rfl)
    omega
theorem v_Held_3 {n:Nat} {R:Type} {ap:fk→R→ab} {Q:R→Prop} {h0:Heap} (hro:h0.ro≤h0.nx) (s:bS h0 sp sm w z u sz E) (hn:(E.map (·.1)).Nodup) {cnt:Nat} (hc:(cnt:Int)*sz=256) (hz:0<sz) (hc16:cnt≤256) {f:Int} (hf:0≤f∧f<4096) {b:Nat} {row:List Bool} (he:(f,b,row)∈E) (hlen:row.length=cnt) (f1 f2 f3) {v18:AV} {ks:List Int} {v19 v20:Int} (hv18:∀ c,v18.blk=some c→c<h0.nx)
    {J:fk→YP} {N:Nat} (hN:N≤100000) (xs:List Int) (hx:xs.length≤N)
    (go:∀ v3 h,bo h0 h→dh h .i64 v18 ks→App h v3 1 (xs++yN f sz 0 row).length (fb (xs++yN f sz 0 row))→(∀ c,v3.blk=some c→h0.nx≤c)→aR ap (fun k=>tL n f1 f2 (cW n) f3 k (J k) (.ptr sp 0) v3 v18 v19 v20 h) Q) :
    ∀ (q i:Nat) (h:Heap) (v:AV) (ys:List Int),bo h0 h→dh h .i64 v18 ks→App h v 1 (xs++ys).length (fb (xs++ys))→(∀ c,v.blk=some c→h0.nx≤c)→ys++yN f sz i (row.drop i)=yN f sz 0 row→i≤cnt→cnt-i<q→
    aR ap (fun k=>tF n f1 f2 (cW n) f3 k (J k) q (.ptr sp 0) v f v18 v19 v20 (abn b cnt) (cnt:Int) (i:Int) h) Q:=by
  intro q
  induction q with
  | zero=>omega
  | succ q ih=>
    intro i h v ys g h18 ha hlow hys hi hq
    simp only [YT]
    unfold tI
    refine aR.ifB (fun e=>?_) fun e=>?_
    · rw [nw,gn] at e
      have hic:i<cnt:=by omega
      have s1:=s.grow g
      have o1:Own h b (row.map AV.bool) 0:=s1.rows _ he
      have bb:=Own.bols o1
      have hil:i<row.length:=by omega
      obtain ⟨a,ea⟩:=bb.eld hil
      simp only [hlen] at ea
      obtain ⟨p1,p2⟩:=BO hc hz hic
      have w1:IntKind.i64.wrap ((i:Int)*sz)=(i:Int)*sz:=mP (by omega) (by omega)
      rw [aqa hil] at hys
      simp only [au,ea,iR s1.own.cl,ahn,w1,anb n hf (show 0≤(i:Int)*sz∧(i:Int)*sz<256 by omega)]
      unfold tS tY
      have t1:((0:Int)==0)=true:=rfl
      refine aR.ifB (fun e1=>?_) fun e1=>?_
      · rw [if_pos e1] at hys
        simp only [au,t1]
        refine aJ.bind (Co (l:=[.int .u64 (f*256+(i:Int)*sz)]) (fun k=>by rfl)) ?_
        rintro _ h27 ⟨rfl,c27,g27⟩
        have gg:=g.trans g27
        have hyl:(xs++ys).length≤N+256:=by
          have h1:=congrArg List.length hys
          have h2:=WR f sz 0 row
          simp only [gQ] at h1 ⊢
          omega
        refine aJ.bind (SU (gg.le hro) (ha.grow g27) (n:=1) (by decide) c27 (new:=[.int .u64 (f*256+(i:Int)*sz)]) (by rw [pN]; rfl) (by omega)) ?_
        rintro v' h29 ⟨a29,b29,c29⟩
        have hg29:bo h0 h29:=c29.grow gg fun c hc=>hlow c hc
        simp only [au,kP (show i≤9223372036854775806 by omega)]
        refine ih (i+1) h29 v' (ys++[f*256+(i:Int)*sz]) hg29 (ap4 (h18.grow g27) hv18 c29 hlow) ?_ (fun c hc=>?_) (by rw [← hys]; simp) (by omega) (by omega)
        · have:(xs++(ys++[f*256+(i:Int)*sz])).length=(xs++ys).length+1:=by simp; omega
          rw [this,show fb (xs++(ys++[f*256+(i:Int)*sz]))=fb (xs++ys)++[.int .u64 (f*256+(i:Int)*sz)] by simp [fb]]
          exact a29
        · rw [b29] at hc
          cases hc
          exact gg.nx
      · rw [if_neg (by rw [e1]; decide)] at hys
        simp only [au,kP (show i≤9223372036854775806 by omega)]
        exact ih (i+1) h v ys g h18 ha hlow (by rw [← hys]; simp) (by omega) (by omega)
    · rw [nw,gt] at e
      have:i=cnt:=by omega
      subst this
      rw [← hlen,List.drop_length,yN,List.append_nil] at hys
      subst hys
      exact go v h g h18 ha hlow
theorem v_Held_1 {n:Nat} (hn300:300<n) {h0:Heap} (hro:h0.ro≤h0.nx) (s:bS h0 sp sm w z u sz E) (hn:(E.map (·.1)).Nodup) (hk:∀ e∈E,0≤e.1∧e.1<4096) {cnt:Nat} (hrow:∀ e∈E,e.2.2.length=cnt) (hc:(cnt:Int)*sz=256) (hz:0<sz) (hc16:cnt≤16) {v18:AV} (hv18:∀ c,v18.blk=some c→c<h0.nx) {ks:List Int} (hks:∀ k∈ks,k∈E.map (·.1)) (hkl:ks.length≤4096) (f1 f2 f3) :
    ∀ (q j:Nat) (h:Heap) (v:AV),bo h0 h→dh h .i64 v18 ks→App h v 1 (zM sz E (ks.take j)).length (fb (zM sz E (ks.take j)))→(∀ c,v.blk=some c→h0.nx≤c)→(zM sz E (ks.take j)).length≤j*16→j≤ks.length→ks.length-j<q→
    aJ (fun k=>tN n f1 f2 (cW n) f3 k q (.ptr sp 0) v v18 (ks.length:Int) (j:Int) h) fun r h'=>App h' r 1 (zM sz E ks).length (fb (zM sz E ks))∧(∀ c,r.blk=some c→h0.nx≤c)∧bo h0 h':=by
  intro q
  induction q with
  | zero=>omega
  | succ q ih=>
    intro j h v g h18 ha hlow hlen hj hq
    simp only [YV]
    unfold tD wZ
    refine aR.ifB (fun e=>?_) fun e=>?_
    · rw [nw,gn] at e
      have hjl:j<ks.length:=by omega
      have s1:=s.grow g
      have hkm:ks[j]∈E.map (·.1):=hks _ (gL hjl)
      obtain ⟨⟨f,b,row⟩,he,hfe⟩:=fY.1 hkm
      have hfe':nz ks j=f:=by rw [nQ hjl]; exact hfe.symm
      have hrl:row.length=cnt:=hrow _ he
      have rl:∀ c,lz (abn b row.length) c=c (row.length:Int):=fun c=>rfl
      simp only [au,h18.elN hjl,iR s1.own.cl,TX,hfe',s1.look hn he,rl,hrl]
      have hsn:zM sz E (ks.take (j+1))=zM sz E (ks.take j)++yN f sz 0 row:=by
        rw [List.take_add_one,gk hjl,Option.toList_some,aol, ← hfe]
        dsimp only
        rw [aed hn he]
      refine v_Held_3 (h0:=h0) hro s hn hc hz (by omega) (hk _ he) he hrl _ _ _ hv18 (N:=j*16) (by omega) (zM sz E (ks.take j)) hlen (fun v3 h3 g3 h18' a3 low3=>?_) n 0 h v [] g h18 (by rw [List.append_nil]; exact ha) hlow (by rw [List.nil_append,List.drop_zero]) (by omega) (by omega)
      unfold tL
      simp only [au,kP (show j≤9223372036854775806 by omega)]
      rw [← hsn] at a3
      refine ih (j+1) h3 v3 g3 h18' a3 low3 ?_ (by omega) (by omega)
      rw [hsn,gQ]
      have:=WR f sz 0 row
      omega
    · rw [nw,gt] at e
      have:j=ks.length:=by omega
      subst this
      rw [List.take_length] at ha
      exact mQ ⟨ha,hlow,g⟩
theorem v_Held {n:Nat} (hn5:5000<n) (hro:h.ro≤h.nx) (s:bS h sp sm w z u sz E) (hn:(E.map (·.1)).Nodup) (hk:∀ e∈E,0≤e.1∧e.1<4096) (hl:E.length≤4096) {cnt:Nat} (hrow:∀ e∈E,e.2.2.length=cnt) (hc:(cnt:Int)*sz=256) (hz:0<sz) (hc16:cnt≤16) :
    aJ (bG n (.ptr sp 0) h) fun r h'=>App h' r 1 (zM sz E (om (E.map (·.1)))).length (fb (zM sz E (om (E.map (·.1)))))∧(∀ c,r.blk=some c→h.nx≤c)∧bo h h':=by
  unfold bG Gi AK cg ov mS
  simp only [au,abv s hz,Bool.not_true,iR s.own.cl,TX,amS]
  have g5:bo h (h.add (.cells [.map sm] true 0)):=bo.add
  have s5:=s.grow g5
  refine aJ.bind (aph (g5.le hro) s5.map (fun e he=>by obtain ⟨e',he',rfl⟩:=fY.1 he; have:=hk e' he'; unfold Kg; dsimp only; omega) (by rw [Ph]; exact hn) (by simp [kvE]; omega) (akm ..)) ?_
  rintro x6 h7 ⟨l7,g7⟩
  rw [Ph] at l7
  have hp:=qv (E.map (·.1))
  have hlen:(om (E.map (·.1))).length=E.length:=by rw [hp.length_eq,gR]
  simp only [l7.len]
  have gg:=g5.trans g7
  refine aR.mono (v_Held_1 (by omega) (gg.le hro) (s.grow gg) hn hk hrow hc hz hc16 (fun c hc=>(l7.lt hc).1) (fun k hk'=>hp.mem_iff.1 hk') (by omega) _ _ _ n 0 h7 .nilslice .refl l7.ints App.nil (fun c e=>by cases e) (by simp [zM]) (by omega) (by omega)) ?_
  rintro ⟨r,h'⟩ ⟨r1,r2,r3⟩
  exact ⟨r1,fun c hc=>gu gg.nx (r2 c hc),gg.trans r3⟩
end
end Go.Proofs.YtlgbmkemfinogaaGreat.Sh
/- Within the quotas; a frame is there where the quota is not reached. -/
namespace Go.Proofs.YtlgbmkemfinogaaGreat.Sh
open Go.Ai
theorem acg {n:Int} (h0:0≤n) (h1:n<256):IntKind.u8.wrap n=n:=by
  simp only [IntKind.wrap,IntKind.signed,IntKind.bits]; simp; omega
structure QuotaOk (zc:br) (p:Nat):Prop where
  ord:0≤(jk zc p).order∧(jk zc p).order≤3
  lo:∀ u,2≤u→u≤6→0≤mh (jk zc p) u∧mh (jk zc p) u≤4096
  each:((2^(jk zc p).order.toNat:Nat):Int)≤zc.frames/zc.fB
  need:((2^(jk zc p).order.toNat:Nat):Int)+mh (jk zc p) 2+mh (jk zc p) 3+mh (jk zc p) 4+mh (jk zc p) 5+mh (jk zc p) 6≤BD zc p
theorem S5 {zc:br} {p:Nat} (hm:NX zc=true) (po:dq zc p):QuotaOk zc p:=by
  have hq:=po.fK
  simp only [NX,gl] at hm
  have hma:=hm.1
  simp only [ug,gl] at hq
  obtain ⟨q1,q2,q3,q4,q5,q6,_,_,q9⟩:=hq
  rw [hma] at q9
  simp [jC] at q1 q2 q3 q4 q5 q6 q9
  obtain ⟨k,hk⟩:=gE q1.1
  have hk3:k≤3:=by have:=q1.2; omega
  have him:TN (jk zc p)=((2^(jk zc p).order.toNat:Nat):Int)∧((2^(jk zc p).order.toNat:Nat):Int)≤8:=by
    unfold TN
    rw [hk]
    rw [gy]
    match k,hk3 with
    | 0,_=>exact ⟨by decide,by decide⟩ | 1,_=>exact ⟨by decide,by decide⟩ | 2,_=>exact ⟨by decide,by decide⟩ | 3,_=>exact ⟨by decide,by decide⟩
  obtain ⟨e1,e2⟩:=him
  have e3:(0:Int)≤((2^(jk zc p).order.toNat:Nat):Int):=gd _
  have hneed:((2^(jk zc p).order.toNat:Nat):Int)+(jk zc p).user+(jk zc p).tables+(jk zc p).spaces+(jk zc p).fJ+(jk zc p).fI≤BD zc p:=by
    have hneed:=q9.2
    unfold needZ at hneed
    rw [e1] at hneed
    generalize ((2^(jk zc p).order.toNat:Nat):Int)=D at *
    rw [mP (n:=D+(jk zc p).user) (by omega) (by omega),mP (n:=D+(jk zc p).user+(jk zc p).tables) (by omega) (by omega),mP (n:=D+(jk zc p).user+(jk zc p).tables+(jk zc p).spaces) (by omega) (by omega),
      mP (n:=D+(jk zc p).user+(jk zc p).tables+(jk zc p).spaces+(jk zc p).fJ) (by omega) (by omega),mP (by omega) (by omega)] at hneed
    exact hneed
  refine ⟨q1,fun u h1 h2=>?_,?_,hneed⟩
  · have:u=2∨u=3∨u=4∨u=5∨u=6:=by omega
    rcases this with rfl | rfl | rfl | rfl | rfl<;>simp only [mh]<;>omega
  · have:=q9.1
    rw [e1,(alh po.fr po.co).1] at this
    exact this
structure WithinQ (zc:br) (p:Nat) (L:List (Int × Int)):Prop where
  image:ob L 1≤2^(jk zc p).order.toNat
  fK:∀ u:Nat,2≤u→u≤6→(ob L u:Int)≤mh (jk zc p) u
theorem WithinQ.room {zc:br} {p:Nat} {L:List (Int × Int)} (wi:WithinQ zc p L) (qo:QuotaOk zc p) (hr:∀ e∈L,1≤e.2∧e.2≤6):(L.length:Int)≤BD zc p∧∀ u:Nat,2≤u→u≤6→(ob L u:Int)<mh (jk zc p) u→(L.length:Int)<BD zc p:=by
  have hs:=ame L hr
  have h1:=wi.image
  have h2:(ob L 2:Int)≤mh (jk zc p) 2:=wi.fK 2 (by omega) (by omega)
  have h3:(ob L 3:Int)≤mh (jk zc p) 3:=wi.fK 3 (by omega) (by omega)
  have h4:(ob L 4:Int)≤mh (jk zc p) 4:=wi.fK 4 (by omega) (by omega)
  have h5:(ob L 5:Int)≤mh (jk zc p) 5:=wi.fK 5 (by omega) (by omega)
  have h6:(ob L 6:Int)≤mh (jk zc p) 6:=wi.fK 6 (by omega) (by omega)
  have hn:=qo.need
  generalize 2^(jk zc p).order.toNat=D at *
  refine ⟨by omega,fun u u1 u2 hlt=>?_⟩
  have:u=2∨u=3∨u=4∨u=5∨u=6:=by omega
  rcases this with rfl | rfl | rfl | rfl | rfl
  · have hlt:(ob L 2:Int)<mh (jk zc p) 2:=hlt
    omega
  · have hlt:(ob L 3:Int)<mh (jk zc p) 3:=hlt
    omega
  · have hlt:(ob L 4:Int)<mh (jk zc p) 4:=hlt
    omega
  · have hlt:(ob L 5:Int)<mh (jk zc p) 5:=hlt
    omega
  · have hlt:(ob L 6:Int)<mh (jk zc p) 6:=hlt
    omega
theorem takeQ {zc:br} {p:Nat} {h:Heap} {w:bX} {z:bf} {L:List (Int × Int)} (pin:bF h w z) (v:InvQ zc p L z) (po:dq zc p) (qo:QuotaOk zc p) (wi:WithinQ zc p L) {u:Nat} (hu:2≤u∧u≤6) (hlt:(ob L u:Int)<mh (jk zc p) u) {f e:Int} {h':Heap} (ht:Xl h w z u f e h') :
    e=0∧∃ w' z',w'.p=w.p∧z'.fD=z.fD∧bF h' w' z'∧InvQ zc p (L++[(f,(u:Int))]) z'∧(∀ d,fpP w' z.fD.length d→fpP w z.fD.length d∨h.nx≤d)∧Chg (fpP w z.fD.length) h h':=by
  have hroom:=(wi.room qo v.rng).2 u hu.1 hu.2 hlt
  have hs:=v.sum
  rcases ht with ⟨h1,_⟩ | ⟨_,best,r,hbest,hT,_,hf⟩
  · exfalso
    rw [v.fK,v.cnt u (by omega)] at h1
    omega
  · rcases hT with ⟨_,_,_,hemp⟩ | ⟨rfl,k,a,rest,bv',h1,hk,hx,hemp,_,_,hp,hsub,c⟩
    · exfalso
      obtain ⟨j,hj,hj2⟩:=amh z.fD.length (show 0<Kt (fL z) z.fD.length by omega)
      have hmax:=hbest.2.1 j hj
      have h0:fL z best=0:=by
        have:∀ n,n≤7→lR (z.fE best) n=0:=by
          intro n
          induction n with
          | zero=>intro _; rfl
          | succ n ih=>
            intro hn
            rw [lR,ih (by omega),hemp n (Nat.zero_le _) (by omega)]
            simp
        exact this 7 (gp _)
      omega
    · refine ⟨rfl,{ w with bv:=bv' },d9 z best 0 u k a rest,rfl,rfl,hp,?_,hsub,c⟩
      have hs':=v.step po (u:=u) ⟨by omega,hu.2⟩ hbest.1 (by omega) h1 hk hx hemp
      have hf':=hf rfl k a rest hemp hx
      have:mF z.fB (nz z.fD best) a (2^0) = [f]:=by simp [mF,hf']
      rw [this] at hs'
      exact hs'
def prF (R:List (Int × Int)) (i:Nat):List AV:=[.int .i64 (R.getD i (0,0)).1,.int .u8 (R.getD i (0,0)).2]
theorem App.prs {h:Heap} {v:AV} {R:List (Int × Int)} (a:App h v 2 R.length (prs R)) (hl:R.length≤1048576):dF h v 2 R.length (prF R):=by
  refine ⟨by omega,?_⟩
  rcases a with ⟨rfl,h0,_⟩ | ⟨b,rfl,o,hlen,_⟩
  · exact .inl ⟨rfl,h0⟩
  · refine .inr ⟨b,0,0,true,rfl,fun _=>⟨_,o.cl,fun i hi=>⟨by rw [ahU]; omega,?_⟩⟩⟩
    rw [Nat.zero_add,prs_at R i hi]
    unfold prF
    rw [gD,gk hi]
    rfl
theorem own_fr {h:Heap} {v:AV} {R:List (Int × Int)} (s:dF h v 2 R.length (prF R)) {i:Nat} (hi:i<R.length) (K:AV→Int→ab):Rh 2 v (i:Int) (fun x=>nR .i64 0 h x K)=K (elP v 2 (i:Int)) (R.getD i (0,0)).1:=by
  rw [s.ia (by omega) (by omega)]
  obtain ⟨b,off,l,d1,d2,d3,d4⟩:=s.at_ (i:=(i:Int)) (by omega) (by omega)
  rw [gy] at d4
  rw [d1]
  have d5:l[off+0]?=some (.int .i64 (R.getD i (0,0)).1):=by
    have:=congrArg (·[0]?) d4
    simp only [List.getElem?_take,List.getElem?_drop] at this
    simpa [prF] using this
  rw [agn d2 d5,Nat.add_zero]
theorem own_use {h:Heap} {v:AV} {R:List (Int × Int)} (s:dF h v 2 R.length (prF R)) {i:Nat} (hi:i<R.length):∃ a,∀ K:AV→Int→ab,Rh 2 v (i:Int) (fun x=>nR .u8 1 h x K)=K a (R.getD i (0,0)).2:=by
  obtain ⟨b,off,l,d1,d2,d3,d4⟩:=s.at_ (i:=(i:Int)) (by omega) (by omega)
  rw [gy] at d4
  have d5:l[off+1]?=some (.int .u8 (R.getD i (0,0)).2):=by
    have:=congrArg (·[1]?) d4
    simp only [List.getElem?_take,List.getElem?_drop] at this
    simpa [prF] using this
  exact ⟨_,fun K=>by rw [s.ia (by omega) (by omega),d1,agn d2 d5]⟩
end Go.Proofs.YtlgbmkemfinogaaGreat.Sh
