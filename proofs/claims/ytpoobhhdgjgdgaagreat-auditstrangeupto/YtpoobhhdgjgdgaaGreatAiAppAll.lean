/- append, copy, clear. -/
import Derived.Test.YtpoobhhdgjgdgaaGreatAiMap
set_option linter.all false
namespace Go.Ai
section
variable {P:Program} {nt:Nat} {M:Mp} {D:Nat→Prop} {tm:Tr AV} {a:Act} {w:World} {H H':Heap} {v:AV} {o:Oper}
theorem IQ (x:Addr):(loadCells x 0).run P w = .ok #[] w:=by simpa using run_loadCells_list (P:=P) w x [] (by simp)
theorem NP {sz n:Nat} {x:AV} {cs:List AV} (hr:Rel M D H w) (hx:okv D x) (h:Vd H sz n x=some cs) (hn:∀ m,adj x=some m→n≤m) :
    (Builtin.firstCells sz n (im M x)).run P w = .ok (cs.map (im M)).toArray w∧(∀ u∈cs,okv D u∧u.fD=true)∧cs.length=n*sz:=by
  unfold Vd at h
  split at h
  · rename_i b off len ext opn
    obtain ⟨l,hl,h1⟩:=iW h
    obtain ⟨rw_,g,hg⟩:=CS hl
    simp only [okv] at hx
    obtain ⟨q1,q2,q3⟩:=aaV (xM hr hx hg) h1
    have hload:=run_loadCells_list (P:=P) w ⟨(M b).blk,(M b).base+off,none⟩ (cs.map (im M)) q3
    rw [gu,q1] at hload
    exact ⟨by simp only [im,(xM hr hx hg).at_at,Builtin.firstCells,hload],q2,q1⟩
  · split at h
    · rename_i hz
      cases h
      subst hz
      exact ⟨by simp [im,Builtin.firstCells,IQ],by simp,by simp⟩
    · cases h
  · cases h
    have:n=0:=by have:=hn 0 rfl; omega
    subst this
    exact ⟨by simp [im,Builtin.firstCells],by simp,by simp⟩
  · rename_i s
    split at h
    · rename_i h1
      cases h
      subst h1
      have hlt:=hn s.length rfl
      rw [mapK_eq]
      refine ⟨?_,fun u hu=>?_,by simp; omega⟩
      · simp only [im,Builtin.firstCells,Sem.run_pure]
        congr 1
        apply Array.ext'
        simp [ByteArray.data_extract,Function.comp_def,im]
      · obtain ⟨c,_,rfl⟩:=fJ.1 hu
        exact ⟨by simp [okv],rfl⟩
    · cases h
  · cases h
theorem ak3 {x:AV} {n:Nat} (h:adj x=some n):(Builtin.lenOf (im M x)).run P w = .ok n w:=by
  unfold adj at h
  split at h
  · cases h; simp [im,Builtin.lenOf]
  · cases h; simp [im,Builtin.lenOf]
  · cases h; simp [im,Builtin.lenOf]
  · cases h; simp [im,Builtin.lenOf,Qb]
  · cases h
theorem aqi {t:TypeId} {s:Nat} (h:srcT P t s=true):∃ d,P.underlying t=some d∧∀ k,d≠.int k:=by
  unfold srcT at h
  split at h
  · rename_i hu; exact ⟨_,hu,fun k e=>by cases e⟩
  · rename_i hu; exact ⟨_,hu,fun k e=>by cases e⟩
  · cases h
theorem akS (n:Nat):∀ (r c:Nat),Builtin.growBy n r c≤max c (n+(n+768)/4)
  | 0,c=>by simp [Builtin.growBy]; omega
  | r+1,c=>by
    simp only [Builtin.growBy]
    split
    · omega
    · have:=akS n r (c+(c+768)/4)
      omega
theorem apD {n c:Nat} (h:c<n):Builtin.nextslicecap n c≤2*n+768:=by
  unfold Builtin.nextslicecap
  split
  · omega
  · split
    · omega
    · have:=akS n 4 c
      omega
theorem VL {t u e:TypeId} {i:TypeInfo} {ty:TypeId} (hu:P.underlying t=some (.slice e)) (hi:P.info? e=some i) (hs:srcT P u i.size=true)
    {base:Option Addr} {sLen sCap n:Nat} {x:Value} {new:List Value} (hn:(Builtin.lenOf x).run P w = .ok n w) (hroom:sLen+n≤sCap)
    (hnew:(Builtin.firstCells i.size n x).run P w = .ok new.toArray w) {w':World}
    (hst:∀ b,base=some b→(storeCells (b.add (sLen*i.size)) new).run P w = .ok () w') (hnil:base=none→w'=w) :
    (Builtin.append_ #[t,u] ty #[.slice base sLen sCap,x]).run P w = .ok (.slice base (sLen+n) sCap) w':=by
  obtain ⟨d,hd,hdi⟩:=aqi hs
  simp only [Builtin.append_,Sem.run_bind,List.getElem?_toArray,List.getElem?_cons_zero,List.getElem?_cons_succ,run_underlying hu,Result.andThen_ok,sizeOf,UW hi,Sem.run_pure,run_underlying hd]
  cases d<;>first | exact (hdi _ rfl).elim | skip
  all_goals (
    simp only [fK,if_false,Sem.run_bind,hn,Result.andThen_ok,Bool.not_false,if_true,Sem.run_ite,hroom,hnew]
    cases base with
    | none=>rw [hnil rfl]; simp
    | some b=>simp [hst b rfl])
theorem aiy (z:Array Value) (n:Nat):(Builtin.zeroCells z n).size=n*z.size:=by simp [Builtin.zeroCells]
theorem VY {t u e:TypeId} {i:TypeInfo} {z:AV} {ty:TypeId} (hu:P.underlying t=some (.slice e)) (hi:P.info? e=some i) (hz:zn P e=some z) (hzs:z.cells.length=i.size) (hb:i.bytes≤65536) (hs:srcT P u i.size=true)
    {base:Option Addr} {sLen sCap n:Nat} {x:Value} {old new:List Value} (hn:(Builtin.lenOf x).run P w = .ok n w) (hroom:sCap<sLen+n) (hmost:sLen+n≤1048576)
    (hold:∀ (w':World),w'.heap=w.heap→(Builtin.firstCells i.size sLen (.slice base sLen sCap)).run P w' = .ok old.toArray w')
    (hnew:∀ (w':World),w'.heap=w.heap→(Builtin.firstCells i.size n x).run P w' = .ok new.toArray w') :
    ∃ cap rest,(sLen+n≤cap∧cap≤9223372036854775807)∧rest.size=(cap-(sLen+n))*i.size∧
      (Builtin.append_ #[t,u] ty #[.slice base sLen sCap,x]).run P w = .ok (.slice (some ⟨w.heap.size,0,none⟩) (sLen+n) cap) (w.drew.alloc (.cells (old.toArray++new.toArray++rest) e)):=by
  obtain ⟨d,hd,hdi⟩:=aqi hs
  obtain ⟨_,_,hzc⟩:=xJ (M:=fun _=>⟨0,0,0,Option.none⟩) (D:=fun _=>False) hz
  refine ⟨(Question.appendCap (sLen+n) sCap e).cut (w.tape w.drawn (.appendCap (sLen+n) sCap e)),Builtin.zeroCells (im (fun _=>⟨0,0,0,Option.none⟩) z).cells ((Question.appendCap (sLen+n) sCap e).cut (w.tape w.drawn (.appendCap (sLen+n) sCap e))-(sLen+n)),?_,?_,?_⟩
  · refine ⟨by simp [Question.cut],?_⟩
    have hlt:=Nat.mod_lt (w.tape w.drawn (.appendCap (sLen+n) sCap e)) (show 0<2^63-(sLen+n) by omega)
    simp only [Question.cut]
    omega
  · rw [aiy,hzc]; simp [hzs]
  · have hnc:¬ (Builtin.nextslicecap (sLen+n) sCap*i.bytes>2^48):=by
      have h1:=apD hroom
      have h2:Builtin.nextslicecap (sLen+n) sCap*i.bytes≤(2*1048576+768)*65536:=Nat.mul_le_mul (by omega) hb
      omega
    have hbig:¬ (((sLen+n:Nat):Int)>IntKind.i64.max∧(False∨i.bytes=0)):=by
      intro ⟨h,_⟩
      rw [IntKind.max_i64] at h
      omega
    have hw:w.drew.heap=w.heap:=rfl
    simp only [Builtin.append_,Sem.run_bind,List.getElem?_toArray,List.getElem?_cons_zero,List.getElem?_cons_succ,run_underlying hu,Result.andThen_ok,sizeOf,UW hi,Sem.run_pure,run_underlying hd]
    cases d<;>first | exact (hdi _ rfl).elim | skip
    all_goals (
      simp only [fK,if_false,Sem.run_bind,hn,Result.andThen_ok,Bool.not_false,if_true,Sem.run_ite]
      rw [if_neg (by omega)]
      simp only [UW hi,Result.andThen_ok]
      rw [if_neg hbig,if_neg hnc]
      simp only [run_choose,Question.forced,fK,if_false,Result.andThen_ok,World.drew_eq,run_askRoom,hold _ hw,hnew _ hw,zQ (M:=fun _=>⟨0,0,0,Option.none⟩) hz,Sem.run_pure,A8]
      rfl)
theorem Zm {sz n:Nat} {x:AV} {cs:List AV} (hr:Rel M D H w) (hx:okv D x) (h:Vd H sz n x=some cs) (hn:∀ m,adj x=some m→n≤m) :
    ∀ w':World,w'.heap=w.heap→(Builtin.firstCells sz n (im M x)).run P w' = .ok (cs.map (im M)).toArray w':=fun _ he=>(NP (hr.same he) hx h hn).1
theorem agY {x x':Option Addr} {n n' c c':Nat} (h1:x=x') (h2:n=n') (h3:c=c'):(Result.ok (Value.slice x n c) w) = .ok (.slice x' n' c') w:=by
  rw [h1,h2,h3]
theorem KE {b:Nat} {l:List AV} {g off:Nat} {new:List AV} (hrow:en M D w (M b) l true g) (hbd:off+new.length≤l.length+(M b).slack*g) (hn:∀ u∈new,okv D u∧u.fD=true) :
    (storeCells ⟨(M b).blk,(M b).base+off,none⟩ (new.map (im M))).run P w = .ok () (w.setCells (M b).blk ((M b).base+off) (new.map (im M))):=by
  have hst:=run_storeCells_cells (P:=P) (M b).blk ((M b).base+off) (new.map (im M)) 0 w
    (fun j hj=>by
      have:=(hrow.own rfl (off+j) (by simp at hj; omega)).1
      rwa [show (M b).base+off+0+j=(M b).base+(off+j) by omega])
    (fun j hj=>by
      have:=(hrow.own rfl (off+j) (by simp at hj; omega)).2
      rwa [show (M b).base+off+0+j=(M b).base+(off+j) by omega])
    (fun u hu=>by
      obtain ⟨c,hc,rfl⟩:=fJ.1 hu
      exact abp (hn c hc).2)
  simpa using hst
theorem Rel.grown (hr:Rel M D H w) {l:List AV} {sz:Nat} (hl:∀ u∈l,okv D u∧u.fD=true) {old new:List Value} {rest:Array Value} {e:TypeId} {n cap:Nat} (hln:l.length=n*sz)
    (hc:l.map (im M)=old++new) (hcap:n≤cap∧cap≤9223372036854775807) (hrest:rest.size=(cap-n)*sz) :
    Rel (M.put H.nx ⟨w.heap.size,0,cap-n,none⟩) (fun b=>D b∨b=H.nx) (H.add (.cells l true sz)) (w.drew.alloc (.cells (old.toArray++new.toArray++rest) e))∧
    Ext M D H w (M.put H.nx ⟨w.heap.size,0,cap-n,none⟩) (fun b=>D b∨b=H.nx) (H.add (.cells l true sz)) (w.drew.alloc (.cells (old.toArray++new.toArray++rest) e)):=by
  have hcells:(old.toArray++new.toArray++rest)=(l.map (im M)).toArray++rest:=by rw [hc]; simp
  rw [hcells]
  have hr':Rel M D H w.drew:=hr.same rfl
  obtain ⟨h1,h2⟩:=hr'.newCells (g:=sz) (e:=e) (c:=(l.map (im M)).toArray++rest) (slack:=cap-n) hl
    (fun i u hu=>by
      have hlt:i<l.length:=(fZ.1 hu).1
      rw [Array.getElem?_append_left (by simpa using hlt)]
      simp [hu])
    (by simp [hrest,hln])
    (fun _=>by
      rw [hln, ← Nat.add_mul]
      exact Nat.mul_le_mul_right _ (by omega))
  exact ⟨h1,Ext.drew.trans h2⟩
theorem ajL {t u e:TypeId} {i:TypeInfo} {z:AV} {ty:TypeId} (hu:P.underlying t=some (.slice e)) (hi:P.info? e=some i) (hz:zn P e=some z) (hzs:z.cells.length=i.size) (hb:i.bytes≤65536)
    (hsrc:srcT P u i.size=true) {s x:AV} (hs:okv D s) (hx:okv D x) (hr:Rel M D H w) (h:Ch H i.size s x=some (v,H')) :
    ∃ M' D' w',(Builtin.append_ #[t,u] ty #[im M s,im M x]).run P w = .ok (im M' v) w'∧Rel M' D' H' w'∧Ext M D H w M' D' H' w'∧okv D' v:=by
  obtain ⟨n,hn,h1⟩:=iW h
  clear h
  have hlen:=ak3 (P:=P) (M:=M) (w:=w) hn
  have hle:∀ m,adj x=some m→n≤m:=fun m hm=>by rw [hn] at hm; cases hm; exact fY _
  have hle0:∀ m,adj x=some m→0≤m:=fun m _=>Nat.zero_le _
  have none:∀ (base:Option Addr) (sLen sCap:Nat),im M s = .slice base sLen sCap→sLen≤sCap→n=0→(Builtin.append_ #[t,u] ty #[im M s,im M x]).run P w = .ok (im M s) w:=by
    intro base sLen sCap hc hle' h0
    subst h0
    have hz0:(Builtin.firstCells i.size 0 (im M x)).run P w = .ok #[] w:=by
      unfold adj at hn
      split at hn
      · simp [im,Builtin.firstCells,IQ]
      · simp [im,Builtin.firstCells,IQ]
      · simp [im,Builtin.firstCells]
      · simp only [im,Builtin.firstCells,Sem.run_pure]
        congr 1
        apply Array.ext'
        simp
      · cases hn
    rw [hc]
    have:=VL (ty:=ty) hu hi hsrc (base:=base) (sLen:=sLen) (sCap:=sCap) (n:=0) (x:=im M x) (new:=[]) hlen (by simpa using hle') hz0 (w':=w) (fun b _=>rfl) (fun _=>rfl)
    simpa using this
  split at h1
  · rename_i b off len ext opn
    simp only [okv] at hs
    split at h1
    · rename_i h0
      cases h1
      exact ⟨M,D,w,none _ _ _ rfl (by omega) h0,hr,.refl,by simpa [okv] using hs⟩
    · rename_i h0
      split at h1
      ·
        rename_i hne
        obtain ⟨new,hnew,h2⟩:=iW h1
        clear h1
        obtain ⟨l,g,hg,_,h1⟩:=Ny h2
        clear h2
        obtain ⟨hbb,h2⟩:=uy h1
        clear h1
        have hbb:=fR hbb
        rw [rm] at hbb
        rw [vC,Heap.fu] at h2
        cases h2
        obtain ⟨s1,s2,s3⟩:=NP (P:=P) hr hx hnew hle
        have hmul:(len+n)*i.size=len*i.size+n*i.size:=Nat.add_mul _ _ _
        obtain ⟨r1,r2⟩:=hr.write hs hg new (off+len*i.size) (by omega) s2
        refine ⟨M,D,_,?_,r1,r2,by simpa [okv] using hs⟩
        have hst:=KE (P:=P) (xM hr hs hg) (off:=off+len*i.size) (new:=new) (by omega) s2
        simp only [im,(xM hr hs hg).at_at]
        have:=VL (ty:=ty) hu hi hsrc (base:=some ⟨(M b).blk,(M b).base+off,Option.none⟩) (sLen:=len) (sCap:=len+ext+if opn=true then (M b).slack else 0) (n:=n) (x:=im M x) (new:=new.map (im M)) hlen
          (by omega) s1 (w':=w.setCells (M b).blk ((M b).base+(off+len*i.size)) (new.map (im M)))
          (fun b' hb'=>by cases hb'; rw [aaz,Nat.add_assoc]; exact hst) (fun hb'=>by cases hb')
        rw [this]
        exact agY rfl rfl (by omega)
      · rename_i hne
        split at h1
        · cases h1
        · rename_i hmost
          have hmost:len+n≤1048576:=by unfold Zj at hmost; omega
          obtain ⟨l,hl,h2⟩:=iW h1
          clear h1
          obtain ⟨old,hold,h1⟩:=iW h2
          clear h2
          obtain ⟨new,hnew,h2⟩:=iW h1
          clear h1
          obtain ⟨s1,s2,s3⟩:=NP (P:=P) hr hx hnew hle
          obtain ⟨rw_,g,hg⟩:=CS hl
          have hrow:=xM hr hs hg
          obtain ⟨o1,o2,o3⟩:=aaV hrow hold
          have hmul:(len+n)*i.size=len*i.size+n*i.size:=Nat.add_mul _ _ _
          have hall:∀ u∈old++new,okv D u∧u.fD=true:=fun u hu=>(gw.1 hu).elim (o2 u) (s2 u)
          have holdrun:∀ w':World,w'.heap=w.heap→∀ c,(Builtin.firstCells i.size len (.slice (some ⟨(M b).blk,(M b).base+off,Option.none⟩) len c)).run P w' = .ok (old.map (im M)).toArray w':=by
            intro w' he c
            obtain ⟨_,_,o3'⟩:=aaV (xM (hr.same he) hs hg) hold
            have hload:=run_loadCells_list (P:=P) w' ⟨(M b).blk,(M b).base+off,Option.none⟩ (old.map (im M)) o3'
            rw [gu,o1] at hload
            simp only [Builtin.firstCells,hload]
          split at h2
          ·
            rename_i hopn
            subst hopn
            obtain ⟨l2,g2,hg2,_,h1⟩:=Ny h2
            clear h2
            rw [hg] at hg2
            cases hg2
            obtain ⟨hbb,h2⟩:=uy h1
            clear h1
            simp only [fV] at hbb
            obtain ⟨hb1,hb2⟩:=hbb
            have hb1:g=i.size:=gb hb1
            have hb2:=fR hb2
            rw [rm] at hb2
            rw [Heap.fu,th,Heap.fx] at h2
            cases h2
            subst hb1
            by_cases hroom:len+n≤len+ext+(M b).slack
            ·
              have hcap:(len+n)+(len+ext+(M b).slack-(len+n))=len+ext+(M b).slack:=by omega
              have hm2:(len+ext+(M b).slack)*i.size=(len+ext)*i.size+(M b).slack*i.size:=Nat.add_mul _ _ _
              have hm3:(len+n)*i.size+(len+ext+(M b).slack-(len+n))*i.size=(len+ext+(M b).slack)*i.size:=by rw [← Nat.add_mul,hcap]
              have hbd:off+len*i.size+new.length≤l.length+(M b).slack*i.size:=by
                have:(len+n)*i.size≤(len+ext+(M b).slack)*i.size:=Nat.mul_le_mul_right _ hroom
                omega
              have hst:=KE (P:=P) hrow (off:=off+len*i.size) (new:=new) hbd s2
              have hag:∀ c,D c→M.put H.nx ⟨(M b).blk,(M b).base+off,len+ext+(M b).slack-(len+n),Option.none⟩ c=M c:=fun c hc=>Mp.put_other _ _ (Nat.ne_of_lt (hr.dom c hc))
              have hsome:∀ j,j<(new.map (im M)).length→(w.cell? ⟨(M b).blk,((M b).base+(off+len*i.size))+j,Option.none⟩).isSome=true:=fun j hj=>by
                have:=(hrow.own rfl (off+len*i.size+j) (by simp at hj; omega)).1
                rwa [show (M b).base+(off+len*i.size)+j=(M b).base+(off+len*i.size+j) by omega]
              obtain ⟨r1,r2⟩:=hr.move hs (by rw [hg]; rfl) (.cells (old++new) true i.size) ⟨(M b).blk,(M b).base+off,len+ext+(M b).slack-(len+n),Option.none⟩ rfl
                (w':=w.setCells (M b).blk ((M b).base+(off+len*i.size)) (new.map (im M)))
                ⟨fun j q hq=>by
                    obtain ⟨p1,p2⟩:=hall q (fS hq)
                    refine ⟨?_,p2,lh (fun c hc=>.inl hc) _ p1⟩
                    rw [o0 hag _ p1]
                    show (w.setCells (M b).blk ((M b).base+(off+len*i.size)) (new.map (im M))).cell? ⟨(M b).blk,(M b).base+off+j,Option.none⟩=_
                    rw [List.getElem?_append] at hq
                    split at hq
                    · rename_i hlt
                      rw [World.cell?_setCells_out _ _ _ _ _ (fun _ _=>by simp; omega)]
                      have:=o3 j (im M q) (by simp [hq])
                      rwa [aaz] at this
                    · rename_i hge
                      have hlt:j-old.length<(new.map (im M)).length:=by
                        have:=(fZ.1 hq).1
                        simpa using this
                      have:=World.cell?_setCells_in (M b).blk (new.map (im M)) ((M b).base+(off+len*i.size)) w hsome (j-old.length) hlt
                      rw [show (M b).base+off+j=(M b).base+(off+len*i.size)+(j-old.length) by omega,this]
                      simp only [List.getElem_map]
                      congr 2
                      exact (fZ.1 hq).2,
                  fun _ j hj=>by
                    have hj:j<(old++new).length+(len+ext+(M b).slack-(len+n))*i.size:=hj
                    rw [gt,o1,s3] at hj
                    obtain ⟨p1,p2⟩:=hrow.own rfl (off+j) (by omega)
                    show ((w.setCells (M b).blk ((M b).base+(off+len*i.size)) (new.map (im M))).cell? ⟨(M b).blk,(M b).base+off+j,Option.none⟩).isSome=true∧_
                    rw [World.frozen?_setCells,Nat.add_assoc]
                    refine ⟨?_,p2⟩
                    by_cases hin:len*i.size≤j∧j<len*i.size+new.length
                    · have hlt:j-len*i.size<(new.map (im M)).length:=by simp; omega
                      have:=World.cell?_setCells_in (M b).blk (new.map (im M)) ((M b).base+(off+len*i.size)) w hsome (j-len*i.size) hlt
                      rw [show (M b).base+(off+j)=(M b).base+(off+len*i.size)+(j-len*i.size) by omega,this]; rfl
                    · rw [World.cell?_setCells_out _ _ _ _ _ (fun _ _=>by simp; omega)]; exact p1,
                  by rw [zw]; exact hrow.lt,fun _=>VB _ _ _ _ (hrow.fz rfl),fun hg0=>by
                    have hq:=hrow.sl hg0
                    show (old++new).length+(len+ext+(M b).slack-(len+n))*i.size≤_
                    rw [gt,o1,s3]
                    omega,rfl⟩
                (fun c hc=>zh _ _ _ _ _ hc) (zw _ _ _ _) (wQ _ _ _ _).1 (wQ _ _ _ _).2.1 (wQ _ _ _ _).2.2
              refine ⟨_,_,_,?_,r1,r2,by simp [okv]⟩
              simp only [im,hrow.at_at,if_true]
              have:=VL (ty:=ty) hu hi hsrc (base:=some ⟨(M b).blk,(M b).base+off,Option.none⟩) (sLen:=len) (sCap:=len+ext+(M b).slack) (n:=n) (x:=im M x) (new:=new.map (im M)) hlen
                hroom s1 (w':=w.setCells (M b).blk ((M b).base+(off+len*i.size)) (new.map (im M)))
                (fun b' hb'=>by cases hb'; rw [aaz,Nat.add_assoc]; exact hst) (fun hb'=>by cases hb')
              rw [this]
              simp only [Heap.nx_set,Mp.fB,Loc.at_mk]
              exact agY (by simp) rfl (by omega)
            ·
              obtain ⟨k1,k2⟩:=hr.turn hs (by rw [hg]; rfl) .dead (w':=w) trivial (fun _ _=>rfl) rfl rfl rfl rfl
              obtain ⟨cap,rest,c1,c2,c3⟩:=VY (ty:=ty) hu hi hz hzs hb hsrc (base:=some ⟨(M b).blk,(M b).base+off,Option.none⟩) (sLen:=len) (sCap:=len+ext+(M b).slack) (n:=n) (x:=im M x) (old:=old.map (im M)) (new:=new.map (im M)) hlen
                (by omega) hmost (fun w' he=>holdrun w' he _) (Zm hr hx hnew hle)
              obtain ⟨r1,r2⟩:=k1.grown (e:=e) hall (sz:=i.size) (n:=len+n) (cap:=cap) (rest:=rest) (old:=old.map (im M)) (new:=new.map (im M)) (by rw [gt,o1,s3,hmul]) (by simp) c1 c2
              refine ⟨_,_,_,?_,r1,k2.trans r2,by simp [okv]⟩
              simp only [im,hrow.at_at,if_true]
              rw [c3]
              simp only [Heap.nx_set,Mp.fB,Loc.at_mk]
              exact agY (by simp) rfl (by omega)
          ·
            rename_i hopn
            have hopn:opn=false:=by simpa using hopn
            subst hopn
            rw [th,Heap.fx] at h2
            cases h2
            obtain ⟨cap,rest,c1,c2,c3⟩:=VY (ty:=ty) hu hi hz hzs hb hsrc (base:=some ⟨(M b).blk,(M b).base+off,Option.none⟩) (sLen:=len) (sCap:=len+ext+0) (n:=n) (x:=im M x) (old:=old.map (im M)) (new:=new.map (im M)) hlen
              (by omega) hmost (fun w' he=>holdrun w' he _) (Zm hr hx hnew hle)
            obtain ⟨r1,r2⟩:=hr.grown (e:=e) hall (sz:=i.size) (n:=len+n) (cap:=cap) (rest:=rest) (old:=old.map (im M)) (new:=new.map (im M)) (by rw [gt,o1,s3,hmul]) (by simp) c1 c2
            refine ⟨_,_,_,?_,r1,r2,by simp [okv]⟩
            simp only [im,hrow.at_at,if_true,fK,if_false]
            rw [c3]
            simp only [Mp.fB,Loc.at_mk]
            exact agY (by simp) rfl (by omega)
  ·
    split at h1
    · rename_i h0
      cases h1
      exact ⟨M,D,w,none _ _ _ rfl (by omega) h0,hr,.refl,by simp [okv]⟩
    · rename_i h0
      split at h1
      · cases h1
      · rename_i hmost
        have hmost:n≤1048576:=by unfold Zj at hmost; omega
        obtain ⟨new,hnew,h2⟩:=iW h1
        clear h1
        rw [Heap.fx] at h2
        cases h2
        obtain ⟨s1,s2,s3⟩:=NP (P:=P) hr hx hnew hle
        obtain ⟨cap,rest,c1,c2,c3⟩:=VY (ty:=ty) hu hi hz hzs hb hsrc (base:=Option.none) (sLen:=0) (sCap:=0) (n:=n) (x:=im M x) (old:=[]) (new:=new.map (im M)) hlen
          (by omega) (by omega) (fun w' _=>by simp [Builtin.firstCells]) (Zm hr hx hnew hle)
        obtain ⟨r1,r2⟩:=hr.grown (e:=e) s2 (sz:=i.size) (n:=0+n) (cap:=cap) (rest:=rest) (old:=[]) (new:=new.map (im M)) (by rw [s3]; simp) (by simp) c1 c2
        refine ⟨_,_,_,?_,r1,r2,by simp [okv]⟩
        simp only [im,if_true]
        rw [c3]
        simp only [Mp.fB,Loc.at_mk]
        exact agY (by simp) (by omega) (by omega)
  ·
    split at h1
    · rename_i h0
      cases h1
      exact ⟨M,D,w,none _ _ _ rfl (by omega) h0,hr,.refl,hs⟩
    · cases h1
  · cases h1
theorem amC {t u e:TypeId} {i:TypeInfo} {z:AV} {x y:Operand} {X Y:Opd} {ats:Array TypeId} {args:Array Operand} (ho:o.op = .call { callee:=.builtin .append,args,argTypes:=ats })
    (hats:ats.toList = [t,u]) (hargs:args.toList = [x,y]) (hu:P.underlying t=some (.slice e)) (hi:P.info? e=some i) (hz:zn P e=some z) (hzs:z.cells.length=i.size) (hb:i.bytes≤65536)
    (hsrc:srcT P u i.size=true) (hx:opd nt x=some X) (hy:opd nt y=some Y) (ht:bX M D nt tm a) (hr:Rel M D H w)
    (h:opF (.append i.size X Y) tm H=some (v,H')):bm P w M D H (execOp a.eval o) v H':=by
  obtain ⟨p,hp,h1⟩:=iW h
  clear h
  obtain ⟨q,hq,h⟩:=iW h1
  clear h1
  obtain ⟨e1,k1⟩:=mK hx ht hp
  obtain ⟨e2,k2⟩:=mK hy ht hq
  have hats':ats = #[t,u]:=by rw [← Array.toArray_toList (xs:=ats),hats]
  have hargs':args = #[x,y]:=by rw [← Array.toArray_toList (xs:=args),hargs]
  subst hats'; subst hargs'
  obtain ⟨M',D',w',h1,h2,h3,h4⟩:=ajL (P:=P) (ty:=o.type) hu hi hz hzs hb hsrc k1 k2 hr h
  refine ⟨M',D',w',.value (im M' v),?_,.inl rfl,h2,h3,h4⟩
  rw [uP ho]
  show ((do pure (.value (← Builtin.append_ #[t,u] o.type (#[x,y].map a.eval))):Sem Next)).run P w=_
  simp [e1,e2,h1]
theorem apC {t u e:TypeId} {sz:Nat} {x y:Operand} {X Y:Opd} {ats:Array TypeId} {args:Array Operand} (ho:o.op = .call { callee:=.builtin .copy,args,argTypes:=ats })
    (hats:ats.toList = [t,u]) (hargs:args.toList = [x,y]) (hu:P.underlying t=some (.slice e)) (hsz:szT P e=some sz)
    (hx:opd nt x=some X) (hy:opd nt y=some Y) (ht:bX M D nt tm a) (hr:Rel M D H w)
    (h:opF (.copy sz X Y) tm H=some (v,H')):bm P w M D H (execOp a.eval o) v H':=by
  obtain ⟨p,hp,h1⟩:=iW h
  clear h
  obtain ⟨q,hq,h⟩:=iW h1
  clear h1
  obtain ⟨e1,k1⟩:=mK hx ht hp
  obtain ⟨e2,k2⟩:=mK hy ht hq
  have hats':ats = #[t,u]:=by rw [← Array.toArray_toList (xs:=ats),hats]
  have hargs':args = #[x,y]:=by rw [← Array.toArray_toList (xs:=args),hargs]
  subst hats'; subst hargs'
  have hrun:(execOp a.eval o).run P w=((Builtin.copy_ #[t,u] o.type #[im M p,im M q]).run P w).andThen fun v w'=>.ok (.value v) w':=by
    rw [uP ho]
    show ((do pure (.value (← Builtin.copy_ #[t,u] o.type (#[x,y].map a.eval))):Sem Next)).run P w=_
    simp [e1,e2]
  unfold anq at h
  split at h
  · rename_i m n' hm hn
    have hlen:=ak3 (P:=P) (M:=M) (w:=w) hn
    obtain ⟨new,hnew,h1⟩:=iW h
    clear h
    obtain ⟨s1,s2,s3⟩:=NP (P:=P) hr k2 hnew (fun m' hm'=>by rw [hn] at hm'; cases hm'; exact Nat.min_le_left _ _)
    have s1':(Builtin.firstCells sz (Nat.min n' m) (im M q)).run P w = .ok (new.map (im M)).toArray w:=s1
    split at h1
    · rename_i b off len ext opn
      cases hm
      simp only [okv] at k1
      split at h1
      · rename_i h0
        cases h1
        refine bm.same hr ?_ (by simp [okv])
        have hn0:new = []:=List.length_eq_zero_iff.1 (by rw [s3,h0]; simp)
        subst hn0
        rw [hrun]
        have h0':Nat.min n' m=0:=h0
        rw [h0'] at s1'
        simp only [Builtin.copy_,im,Sem.run_bind,List.getElem?_toArray,List.getElem?_cons_zero,List.getElem?_cons_succ,run_underlying hu,Result.andThen_ok,hlen,nY hsz,h0',s1']
        simp [storeCells,goInt]
      · obtain ⟨l,g,hg,_,h2⟩:=Ny h1
        clear h1
        obtain ⟨hbb,h1⟩:=uy h2
        clear h2
        have hbb:=fR hbb
        rw [rm] at hbb
        rw [vC,Heap.fu] at h1
        cases h1
        obtain ⟨r1,r2⟩:=hr.write k1 hg new off (by omega) s2
        refine ⟨M,D,_,.value (im M (.int .i64 (min n' m:Nat))),?_,.inl rfl,r1,r2,by simp [okv]⟩
        have hst:=KE (P:=P) (xM hr k1 hg) (off:=off) (new:=new) (by omega) s2
        rw [hrun]
        simp only [Builtin.copy_,im,(xM hr k1 hg).at_at,Sem.run_bind,List.getElem?_toArray,List.getElem?_cons_zero,List.getElem?_cons_succ,run_underlying hu,Result.andThen_ok,hlen,nY hsz,s1',hst,Sem.run_pure,goInt]
    · cases hm
      cases h1
      refine bm.same hr ?_ (by simp [okv])
      rw [hrun]
      have h0':Nat.min n' 0=0:=Nat.min_zero n'
      rw [h0'] at s1'
      simp only [Builtin.copy_,im,Sem.run_bind,List.getElem?_toArray,List.getElem?_cons_zero,List.getElem?_cons_succ,run_underlying hu,Result.andThen_ok,hlen,nY hsz,h0',s1',Sem.run_pure,goInt]
      rfl
    · cases hm
      cases h1
      refine bm.same hr ?_ (by simp [okv])
      rw [hrun]
      have h0':Nat.min n' 0=0:=Nat.min_zero n'
      have hn0:new = []:=List.length_eq_zero_iff.1 (by rw [s3]; simp)
      subst hn0
      rw [h0'] at s1'
      simp only [Builtin.copy_,im,Sem.run_bind,List.getElem?_toArray,List.getElem?_cons_zero,List.getElem?_cons_succ,run_underlying hu,Result.andThen_ok,hlen,nY hsz,h0',s1']
      simp [storeCells,goInt]
    · cases h1
  · cases h
theorem ajc (z:List AV) (n:Nat) (hz:0<z.length):Builtin.zeroCells (z.map (im M)).toArray n=((LW z n).map (im M)).toArray:=by
  have:=ZJ (M:=M) z n hz
  unfold Builtin.zeroCells
  rw [← this]
  simp
theorem ani {t e:TypeId} {z:AV} {x:Operand} {X:Opd} {ats:Array TypeId} {args:Array Operand} (ho:o.op = .call { callee:=.builtin .clear,args,argTypes:=ats })
    (hats:ats.toList = [t]) (hargs:args.toList = [x]) (hu:P.underlying t=some (.slice e)) (hz:zn P e=some z) (hpos:0<z.cells.length)
    (hx:opd nt x=some X) (ht:bX M D nt tm a) (hr:Rel M D H w)
    (h:opF (.clear z.cells X) tm H=some (v,H')):bm P w M D H (execOp a.eval o) v H':=by
  obtain ⟨p,hp,h1⟩:=iW h
  clear h
  obtain ⟨e1,k1⟩:=mK hx ht hp
  have hats':ats = #[t]:=by rw [← Array.toArray_toList (xs:=ats),hats]
  have hargs':args = #[x]:=by rw [← Array.toArray_toList (xs:=args),hargs]
  subst hats'; subst hargs'
  have hrun:(execOp a.eval o).run P w=((Builtin.clear_ #[t] o.type #[im M p]).run P w).andThen fun v w'=>.ok (.value v) w':=by
    rw [uP ho]
    show ((do pure (.value (← Builtin.clear_ #[t] o.type (#[x].map a.eval))):Sem Next)).run P w=_
    simp [e1]
  unfold ady at h1
  split at h1
  · cases h1
    refine bm.same hr ?_ (ub D)
    rw [hrun]
    simp [Builtin.clear_,im,run_underlying hu,rh,undef]
  · cases h1
    refine bm.same hr ?_ (ub D)
    rw [hrun]
    simp [Builtin.clear_,im,run_underlying hu,rh,undef]
  · cases h1
    refine bm.same hr ?_ (ub D)
    rw [hrun]
    simp [Builtin.clear_,im,run_underlying hu,rh,undef]
  · rename_i b off len ext opn
    simp only [okv] at k1
    split at h1
    · rename_i h0
      cases h1
      subst h0
      refine bm.same hr ?_ (ub D)
      rw [hrun]
      simp [Builtin.clear_,im,run_underlying hu,rh,undef]
    · rename_i h0
      obtain ⟨l,g,hg,_,h2⟩:=Ny h1
      clear h1
      obtain ⟨hbb,h1⟩:=uy h2
      clear h2
      have hbb:=fR hbb
      rw [rm,rm] at hbb
      rw [vC,Heap.fu] at h1
      cases h1
      obtain ⟨z1,z2,z3⟩:=xJ (M:=M) (D:=D) hz
      have hall:∀ u∈LW z.cells len,okv D u∧u.fD=true:=fun u hu=>z1 u (ahg hu)
      have hlen:=Gl z.cells len
      obtain ⟨r1,r2⟩:=hr.write k1 hg (LW z.cells len) off (by rw [hlen]; exact hbb) hall
      refine ⟨M,D,_,.value undef,?_,.inl (by rw [rh]),r1,r2,ub D⟩
      have hst:=KE (P:=P) (xM hr k1 hg) (off:=off) (new:=LW z.cells len) (by rw [hlen]; omega) hall
      have hzc:=ajc (M:=M) z.cells len hpos
      obtain ⟨len',rfl⟩:∃ m,len=m+1:=⟨len-1,by omega⟩
      rw [hrun]
      simp only [Builtin.clear_,im,(xM hr k1 hg).at_at,Sem.run_bind,List.getElem?_toArray,List.getElem?_cons_zero,run_underlying hu,Result.andThen_ok,zQ (M:=M) hz,z3,hzc,hst,Sem.run_pure]
      rfl
  · cases h1
end
end Go.Ai
/- Every operation that the compiler takes is the model's. -/
namespace Go.Ai
section
variable {P:Program} {nt:Nat} {M:Mp} {D:Nat→Prop} {tm:Tr AV} {a:Act} {w:World} {H H':Heap} {v:AV} {o:Oper}
theorem aj3 {op:BinOp} {t u:TypeId} {x y:Operand} {X Y:Opd} {ao:AOp} (ho:o.op = .binOp op t x y u) (hx:opd nt x=some X) (hy:opd nt y=some Y) (hc:al2 P op t X Y=some ao)
    (ht:bX M D nt tm a) (hr:Rel M D H w) (h:opF ao tm H=some (v,H')):bm P w M D H (execOp a.eval o) v H':=by
  unfold al2 at hc
  split at hc
  · cases hc; exact akU ho hx hy ht hr h
  · cases hc; exact akU ho hx hy ht hr h
  · rename_i hu
    split at hc
    · cases hc; exact sf (neg:=false) (k:=.bool) (by simpa using ho) hu hx hy ht hr h
    · cases hc; exact sf (neg:=true) (k:=.bool) (by simpa using ho) hu hx hy ht hr h
    · cases hc
  · rename_i hu
    split at hc
    · cases hc; exact sf (neg:=false) (k:=.nil .ptr) (by simpa using ho) ⟨_,hu⟩ hx hy ht hr h
    · cases hc; exact sf (neg:=true) (k:=.nil .ptr) (by simpa using ho) ⟨_,hu⟩ hx hy ht hr h
    · cases hc
  · rename_i hu
    split at hc
    · cases hc; exact sf (neg:=false) (k:=.nil .sl) (by simpa using ho) ⟨_,hu⟩ hx hy ht hr h
    · cases hc; exact sf (neg:=true) (k:=.nil .sl) (by simpa using ho) ⟨_,hu⟩ hx hy ht hr h
    · cases hc
  · rename_i hu
    split at hc
    · cases hc; exact sf (neg:=false) (k:=.nil .mp) (by simpa using ho) ⟨_,_,hu⟩ hx hy ht hr h
    · cases hc; exact sf (neg:=true) (k:=.nil .mp) (by simpa using ho) ⟨_,_,hu⟩ hx hy ht hr h
    · cases hc
  · rename_i hu
    split at hc
    · cases hc; exact sf (neg:=false) (k:=.nil .fn) (by simpa using ho) ⟨_,_,_,hu⟩ hx hy ht hr h
    · cases hc; exact sf (neg:=true) (k:=.nil .fn) (by simpa using ho) ⟨_,_,_,hu⟩ hx hy ht hr h
    · cases hc
  · rename_i hu
    split at hc
    · cases hc
    · rename_i hg
      obtain ⟨ks,hks,hc⟩:=fT.1 hc
      have hE:EqT P t (.plain ks):=⟨hks,by simpa using hg,by simp [HS,hu]⟩
      split at hc
      · cases hc; exact sf (neg:=false) (by simpa using ho) hE hx hy ht hr h
      · cases hc; exact sf (neg:=true) (by simpa using ho) hE hx hy ht hr h
      · cases hc
  · rename_i hu
    split at hc
    · cases hc
    · rename_i hg
      obtain ⟨ks,hks,hc⟩:=fT.1 hc
      have hE:EqT P t (.plain ks):=⟨hks,by simpa using hg,by simp [HS,hu]⟩
      split at hc
      · cases hc; exact sf (neg:=false) (by simpa using ho) hE hx hy ht hr h
      · cases hc; exact sf (neg:=true) (by simpa using ho) hE hx hy ht hr h
      · cases hc
  · cases hc
theorem Dg {t e:TypeId} (h:EQ P t=some e):P.underlying t=some (.slice e):=by
  unfold EQ at h
  split at h
  · rename_i hu; cases h; exact hu
  · cases h
theorem aaJ {b:Builtin} {ats:Array TypeId} {args:Array Operand} {ao:AOp} (ho:o.op = .call { callee:=.builtin b,args,argTypes:=ats }) (hc:WM P nt b ats.toList args.toList=some ao)
    (ht:bX M D nt tm a) (hr:Rel M D H w) (h:opF ao tm H=some (v,H')):bm P w M D H (execOp a.eval o) v H':=by
  unfold WM at hc
  split at hc
  · rename_i t x e1 e2
    obtain ⟨X,hX,hc⟩:=fT.1 hc
    split at hc
    · rename_i hu; cases hc; exact JP ho e1 e2 hu (.inl ⟨rfl,rfl⟩) hX ht hr h
    · rename_i hu; cases hc; exact JP ho e1 e2 hu (.inr (.inl ⟨_,_,rfl,rfl⟩)) hX ht hr h
    · rename_i hu; cases hc; exact JP ho e1 e2 hu (.inr (.inr ⟨_,rfl,rfl⟩)) hX ht hr h
    · rename_i hu; cases hc; exact amO ho e1 e2 hu hX ht hr h
    · cases hc
  · rename_i t u x y e1 e2
    simp only [fT] at hc
    obtain ⟨e,he,i,hi,z,hz,X,hX,Y,hY,hc⟩:=hc
    split at hc
    · rename_i hb
      simp only [fV,fX,fN] at hb
      cases hc
      exact amC ho e1 e2 (Dg he) hi hz hb.1.2 hb.1.1.2 hb.2 hX hY ht hr h
    · cases hc
  · rename_i t u x y e1 e2
    simp only [fT] at hc
    obtain ⟨e,he,s,hs,X,hX,Y,hY,hc⟩:=hc
    split at hc
    · cases hc
      exact apC ho e1 e2 (Dg he) hs hX hY ht hr h
    · cases hc
  · rename_i t x e1 e2
    simp only [fT] at hc
    obtain ⟨e,he,z,hz,X,hX,hc⟩:=hc
    split at hc
    · rename_i hp
      cases hc
      exact ani ho e1 e2 (Dg he) hz hp hX ht hr h
    · cases hc
  · rename_i t t2 x y e1 e2
    simp only [fT] at hc
    obtain ⟨X,hX,Y,hY,hc⟩:=hc
    split at hc
    · rename_i hu
      obtain ⟨kk,hk,hc⟩:=fT.1 hc
      cases hc
      exact als ho e1 e2 hu (agG hk) hX hY ht hr h
    · cases hc
  · obtain ⟨L,hL,hc⟩:=fT.1 hc
    cases hc
    exact aaX (mx:=true) (by simpa using ho) hL ht hr h
  · obtain ⟨L,hL,hc⟩:=fT.1 hc
    cases hc
    exact aaX (mx:=false) (by simpa using ho) hL ht hr h
  · cases hc
theorem op_sound {op:Op} {ao:AOp} (ho:o.op=op) (hc:aoN P nt op=some ao) (ht:bX M D nt tm a) (hr:Rel M D H w) (h:opF ao tm H=some (v,H')):bm P w M D H (execOp a.eval o) v H':=by
  unfold aoN at hc
  split at hc
  · obtain ⟨X,hX,rfl⟩:=fF.1 hc
    exact aky (.inl ho) hX ht hr h
  · obtain ⟨X,hX,rfl⟩:=fF.1 hc
    exact aky (.inr ho) hX ht hr h
  · simp only [fT,Option.some.injEq] at hc
    obtain ⟨C,hC,X,hX,Y,hY,rfl⟩:=hc
    exact apd ho hC hX hY ht hr h
  · simp only [fT,Option.some.injEq] at hc
    obtain ⟨z,hz,rfl⟩:=hc
    exact ana ho hz hr h
  · simp only [fT,Option.some.injEq] at hc
    obtain ⟨X,hX,rfl⟩:=hc
    exact aq4 ho hX ht hr h
  · obtain ⟨z,hz,hc⟩:=fT.1 hc
    split at hc
    · rename_i hu
      simp only [fT,Option.some.injEq] at hc
      obtain ⟨ps,hps,l,hl,rfl⟩:=hc
      exact Zz ho hz hu hps hl ht hr h
    · rename_i hu
      simp only [fT,Option.some.injEq] at hc
      obtain ⟨s,hs,l,hl,rfl⟩:=hc
      exact abg ho hz hu hs hl ht hr h
    · cases hc
  · simp only [fT] at hc
    obtain ⟨e,he,s,hs,z,hz,hc⟩:=hc
    split at hc
    · rename_i hb
      simp only [fV,fX,fN] at hb
      simp only [fT,Option.some.injEq] at hc
      obtain ⟨l,hl,rfl⟩:=hc
      exact ach ho (Dg he) hs hz hb.1 hb.2 hl ht hr h
    · cases hc
  · simp only [fT,Option.some.injEq] at hc
    obtain ⟨s,hs,X,hX,rfl⟩:=hc
    exact ao2 ho hs hX ht hr h
  · simp only [fT,Option.some.injEq] at hc
    obtain ⟨n,hn,X,hX,Y,hY,rfl⟩:=hc
    exact aoo ho hn hX hY ht hr h
  · simp only [fT,Option.some.injEq] at hc
    obtain ⟨X,hX,rfl⟩:=hc
    exact amM ho hX ht hr h
  · simp only [fT] at hc
    obtain ⟨X,hX,Y,hY,hc⟩:=hc
    exact aj3 ho hX hY hc ht hr h
  · simp only [fT,Option.some.injEq] at hc
    obtain ⟨X,hX,rfl⟩:=hc
    exact aq1 ho hX ht hr h
  · split at hc
    · rename_i hs hd
      simp only [fT,Option.some.injEq] at hc
      obtain ⟨X,hX,rfl⟩:=hc
      exact apH ho hs hd hX ht hr h
    · cases hc
  · simp only [fT,Option.some.injEq] at hc
    obtain ⟨A,hA,C,hC,rfl⟩:=hc
    exact alP ho hA hC ht hr h
  · split at hc
    · rename_i hu; cases hc; exact adW ho hu (.inl rfl) hr h
    · rename_i hu; cases hc; exact adW ho hu (.inr ⟨_,_,rfl⟩) hr h
    · cases hc
  · simp only [fT] at hc
    obtain ⟨e,he,i,hi,z,hz,X,hX,Y,hY,hc⟩:=hc
    split at hc
    · rename_i hb
      simp only [fV,fX,fN] at hb
      cases hc
      exact mk_sound ho (Dg he) hi hz hb.1.1 hb.1.2 hb.2 hX hY ht hr h
    · cases hc
  · simp only [fT] at hc
    obtain ⟨X,hX,L,hL,U,hU,W,hW,hc⟩:=hc
    split at hc
    · rename_i hu
      simp only [fT,Option.some.injEq] at hc
      obtain ⟨s,hs,rfl⟩:=hc
      exact ahF (k:=.arr _ s) ho ⟨_,hu,hs⟩ hX hL hU hW ht hr h
    · rename_i hu
      simp only [fT,Option.some.injEq] at hc
      obtain ⟨s,hs,rfl⟩:=hc
      exact ahF (k:=.sl s) ho ⟨_,hu,hs⟩ hX hL hU hW ht hr h
    · rename_i hu
      cases hc
      exact ahF (k:=.str) ho hu hX hL hU hW ht hr h
    · cases hc
  · obtain ⟨X,hX,hc⟩:=fT.1 hc
    split at hc
    · rename_i hu
      simp only [fT] at hc
      obtain ⟨f,hf,s,hs,hc⟩:=hc
      split at hc
      · rename_i h0; cases hc; exact fa_sound ho hu hf hs h0 hX ht hr h
      · cases hc
    · cases hc
  · simp only [fT] at hc
    obtain ⟨X,hX,I,hI,hc⟩:=hc
    split at hc
    · rename_i hu
      simp only [fT,Option.some.injEq] at hc
      obtain ⟨s,hs,rfl⟩:=hc
      exact aqJ ho hu hs hX hI ht hr h
    · rename_i hu
      simp only [fT,Option.some.injEq] at hc
      obtain ⟨s,hs,rfl⟩:=hc
      exact aqx ho hu hs hX hI ht hr h
    · cases hc
  · simp only [fT] at hc
    obtain ⟨X,hX,I,hI,hc⟩:=hc
    split at hc
    · rename_i hu
      simp only [fT,Option.some.injEq] at hc
      obtain ⟨s,hs,rfl⟩:=hc
      exact apb ho hu hs hX hI ht hr h
    · rename_i hu
      cases hc
      exact ao6 ho hu hX hI ht hr h
    · cases hc
  · simp only [fT,Option.some.injEq] at hc
    obtain ⟨X,hX,rfl⟩:=hc
    exact aq2 ho hX ht hr h
  · simp only [fT] at hc
    obtain ⟨X,hX,K,hK,hc⟩:=hc
    split at hc
    · rename_i hu
      simp only [fT,Option.some.injEq] at hc
      obtain ⟨kk,hk,z,hz,rfl⟩:=hc
      exact amb ho hu (agG hk) hz hX hK ht hr h
    · cases hc
  · simp only [fT] at hc
    obtain ⟨X,hX,K,hK,Y,hY,hc⟩:=hc
    split at hc
    · rename_i hu
      obtain ⟨kk,hk,hc⟩:=fT.1 hc
      cases hc
      exact alV ho hu (agG hk) hX hK hY ht hr h
    · cases hc
  · exact aaJ ho hc ht hr h
  · cases hc
end
end Go.Ai
