/- append, copy, clear. -/
import Derived.Test.YtnlbfbiogfilfaaGreatAiMap
set_option linter.all false
namespace Go.Ai
section
variable {P:Program} {nt:Nat} {M:Mp} {D:Nat→Prop} {tm:Tr AV} {a:Act} {w:World} {H H':Heap} {v:AV} {o:Oper}
theorem U4 (x:Addr):(loadCells x 0).run P w = .ok #[] w:=by simpa using run_loadCells_list (P:=P) w x [] (by simp)
theorem Y6 {sz n:Nat} {x:AV} {cs:List AV} (hr:Rel M D H w) (hx:okv D x) (h:VB H sz n x=some cs) (hn:∀ m,lenF x=some m→n≤m) :
    (Builtin.firstCells sz n (bF M x)).run P w = .ok (cs.map (bF M)).toArray w∧(∀ u∈cs,okv D u∧u.isCell=true)∧cs.length=n*sz:=by
  unfold VB at h
  split at h
  · rename_i b off len ext opn
    obtain ⟨l,hl,h1⟩:=cB h
    obtain ⟨rw_,g,hg⟩:=JW hl
    simp only [okv] at hx
    obtain ⟨q1,q2,q3⟩:=Xt (zd hr hx hg) h1
    have hload:=run_loadCells_list (P:=P) w ⟨(M b).blk,(M b).base+off,none⟩ (cs.map (bF M)) q3
    rw [List.length_map,q1] at hload
    exact ⟨by simp only [bF,(zd hr hx hg).at_at,Builtin.firstCells,hload],q2,q1⟩
  · split at h
    · rename_i hz
      cases h
      subst hz
      exact ⟨by simp [bF,Builtin.firstCells,U4],by simp,by simp⟩
    · cases h
  · cases h
    have:n=0:=by have:=hn 0 rfl; omega
    subst this
    exact ⟨by simp [bF,Builtin.firstCells],by simp,by simp⟩
  · rename_i s
    split at h
    · rename_i h1
      cases h
      subst h1
      have hlt:=hn s.length rfl
      rw [awh]
      refine ⟨?_,fun u hu=>?_,by simp; omega⟩
      · simp only [bF,Builtin.firstCells,Sem.run_pure]
        congr 1
        apply Array.ext'
        simp [ByteArray.data_extract,Function.comp_def,bF]
      · obtain ⟨c,_,rfl⟩:=List.mem_map.1 hu
        exact ⟨by simp [okv],rfl⟩
    · cases h
  · cases h
theorem avF {x:AV} {n:Nat} (h:lenF x=some n):(Builtin.lenOf (bF M x)).run P w = .ok n w:=by
  unfold lenF at h
  split at h
  · cases h; simp [bF,Builtin.lenOf]
  · cases h; simp [bF,Builtin.lenOf]
  · cases h; simp [bF,Builtin.lenOf]
  · cases h; simp [bF,Builtin.lenOf,abD]
  · cases h
theorem aAn {t:TypeId} {s:Nat} (h:srcT P t s=true):∃ d,P.underlying t=some d∧∀ k,d≠.int k:=by
  unfold srcT at h
  split at h
  · rename_i hu; exact ⟨_,hu,fun k e=>by cases e⟩
  · rename_i hu; exact ⟨_,hu,fun k e=>by cases e⟩
  · cases h
theorem avq (n:Nat):∀ (r c:Nat),Builtin.growBy n r c≤max c (n+(n+768)/4)
  | 0,c=>by simp [Builtin.growBy]; omega
  | r+1,c=>by
    simp only [Builtin.growBy]
    split
    · omega
    · have:=avq n r (c+(c+768)/4)
      omega
theorem azO {n c:Nat} (h:c<n):Builtin.nextslicecap n c≤2*n+768:=by
  unfold Builtin.nextslicecap
  split
  · omega
  · split
    · omega
    · have:=avq n 4 c
      omega
theorem ahg {t u e:TypeId} {i:TypeInfo} {ty:TypeId} (hu:P.underlying t=some (.slice e)) (hi:P.info? e=some i) (hs:srcT P u i.size=true)
    {base:Option Addr} {sLen sCap n:Nat} {x:Value} {new:List Value} (hn:(Builtin.lenOf x).run P w = .ok n w) (hroom:sLen+n≤sCap)
    (hnew:(Builtin.firstCells i.size n x).run P w = .ok new.toArray w) {w':World}
    (hst:∀ b,base=some b→(storeCells (b.add (sLen*i.size)) new).run P w = .ok () w') (hnil:base=none→w'=w) :
    (Builtin.append_ #[t,u] ty #[.slice base sLen sCap,x]).run P w = .ok (.slice base (sLen+n) sCap) w':=by
  obtain ⟨d,hd,hdi⟩:=aAn hs
  simp only [Builtin.append_,Sem.run_bind,List.getElem?_toArray,List.getElem?_cons_zero,List.getElem?_cons_succ,run_underlying hu,Result.andThen_ok,sizeOf,ahr hi,Sem.run_pure,run_underlying hd]
  cases d<;>first | exact (hdi _ rfl).elim | skip
  all_goals (
    simp only [Bool.false_eq_true,if_false,Sem.run_bind,hn,Result.andThen_ok,Bool.not_false,if_true,Sem.run_ite,hroom,hnew]
    cases base with
    | none=>rw [hnil rfl]; simp
    | some b=>simp [hst b rfl])
theorem Dm (z:Array Value) (n:Nat):(Builtin.zeroCells z n).size=n*z.size:=by simp [Builtin.zeroCells]
theorem agL {t u e:TypeId} {i:TypeInfo} {z:AV} {ty:TypeId} (hu:P.underlying t=some (.slice e)) (hi:P.info? e=some i) (hz:Gz P e=some z) (hzs:z.cells.length=i.size) (hb:i.bytes≤65536) (hs:srcT P u i.size=true)
    {base:Option Addr} {sLen sCap n:Nat} {x:Value} {old new:List Value} (hn:(Builtin.lenOf x).run P w = .ok n w) (hroom:sCap<sLen+n) (hmost:sLen+n≤1048576)
    (hold:∀ (w':World),w'.heap=w.heap→(Builtin.firstCells i.size sLen (.slice base sLen sCap)).run P w' = .ok old.toArray w')
    (hnew:∀ (w':World),w'.heap=w.heap→(Builtin.firstCells i.size n x).run P w' = .ok new.toArray w') :
    ∃ cap rest,(sLen+n≤cap∧cap≤9223372036854775807)∧rest.size=(cap-(sLen+n))*i.size∧
      (Builtin.append_ #[t,u] ty #[.slice base sLen sCap,x]).run P w = .ok (.slice (some ⟨w.heap.size,0,none⟩) (sLen+n) cap) (w.drew.alloc (.cells (old.toArray++new.toArray++rest) e)):=by
  obtain ⟨d,hd,hdi⟩:=aAn hs
  obtain ⟨_,_,hzc⟩:=Dy (M:=fun _=>⟨0,0,0,Option.none⟩) (D:=fun _=>False) hz
  refine ⟨(Question.appendCap (sLen+n) sCap e).cut (w.tape w.drawn (.appendCap (sLen+n) sCap e)),Builtin.zeroCells (bF (fun _=>⟨0,0,0,Option.none⟩) z).cells ((Question.appendCap (sLen+n) sCap e).cut (w.tape w.drawn (.appendCap (sLen+n) sCap e))-(sLen+n)),?_,?_,?_⟩
  · refine ⟨by simp [Question.cut],?_⟩
    have hlt:=Nat.mod_lt (w.tape w.drawn (.appendCap (sLen+n) sCap e)) (show 0<2^63-(sLen+n) by omega)
    simp only [Question.cut]
    omega
  · rw [Dm,hzc]; simp [hzs]
  · have hnc:¬ (Builtin.nextslicecap (sLen+n) sCap*i.bytes>2^48):=by
      have h1:=azO hroom
      have h2:Builtin.nextslicecap (sLen+n) sCap*i.bytes≤(2*1048576+768)*65536:=Nat.mul_le_mul (by omega) hb
      omega
    have hbig:¬ (((sLen+n:Nat):Int)>IntKind.i64.max∧(False∨i.bytes=0)):=by
      intro ⟨h,_⟩
      rw [IntKind.max_i64] at h
      omega
    have hw:w.drew.heap=w.heap:=rfl
    simp only [Builtin.append_,Sem.run_bind,List.getElem?_toArray,List.getElem?_cons_zero,List.getElem?_cons_succ,run_underlying hu,Result.andThen_ok,sizeOf,ahr hi,Sem.run_pure,run_underlying hd]
    cases d<;>first | exact (hdi _ rfl).elim | skip
    all_goals (
      simp only [Bool.false_eq_true,if_false,Sem.run_bind,hn,Result.andThen_ok,Bool.not_false,if_true,Sem.run_ite]
      rw [if_neg (by omega)]
      simp only [ahr hi,Result.andThen_ok]
      rw [if_neg hbig,if_neg hnc]
      simp only [run_choose,Question.forced,Bool.false_eq_true,if_false,Result.andThen_ok,World.drew_eq,run_askRoom,hold _ hw,hnew _ hw,JK (M:=fun _=>⟨0,0,0,Option.none⟩) hz,Sem.run_pure,H4]
      rfl)
theorem alL {sz n:Nat} {x:AV} {cs:List AV} (hr:Rel M D H w) (hx:okv D x) (h:VB H sz n x=some cs) (hn:∀ m,lenF x=some m→n≤m) :
    ∀ w':World,w'.heap=w.heap→(Builtin.firstCells sz n (bF M x)).run P w' = .ok (cs.map (bF M)).toArray w':=fun _ he=>(Y6 (hr.same he) hx h hn).1
theorem as2 {x x':Option Addr} {n n' c c':Nat} (h1:x=x') (h2:n=n') (h3:c=c'):(Result.ok (Value.slice x n c) w) = .ok (.slice x' n' c') w:=by
  rw [h1,h2,h3]
theorem Wn {b:Nat} {l:List AV} {g off:Nat} {new:List AV} (hrow:RowOk M D w (M b) l true g) (hbd:off+new.length≤l.length+(M b).slack*g) (hn:∀ u∈new,okv D u∧u.isCell=true) :
    (storeCells ⟨(M b).blk,(M b).base+off,none⟩ (new.map (bF M))).run P w = .ok () (w.setCells (M b).blk ((M b).base+off) (new.map (bF M))):=by
  have hst:=run_storeCells_cells (P:=P) (M b).blk ((M b).base+off) (new.map (bF M)) 0 w
    (fun j hj=>by
      have:=(hrow.own rfl (off+j) (by simp at hj; omega)).1
      rwa [show (M b).base+off+0+j=(M b).base+(off+j) by omega])
    (fun j hj=>by
      have:=(hrow.own rfl (off+j) (by simp at hj; omega)).2
      rwa [show (M b).base+off+0+j=(M b).base+(off+j) by omega])
    (fun u hu=>by
      obtain ⟨c,hc,rfl⟩:=List.mem_map.1 hu
      exact Ko (hn c hc).2)
  simpa using hst
theorem Rel.grown (hr:Rel M D H w) {l:List AV} {sz:Nat} (hl:∀ u∈l,okv D u∧u.isCell=true) {old new:List Value} {rest:Array Value} {e:TypeId} {n cap:Nat} (hln:l.length=n*sz)
    (hc:l.map (bF M)=old++new) (hcap:n≤cap∧cap≤9223372036854775807) (hrest:rest.size=(cap-n)*sz) :
    Rel (M.put H.nx ⟨w.heap.size,0,cap-n,none⟩) (fun b=>D b∨b=H.nx) (H.add (.cells l true sz)) (w.drew.alloc (.cells (old.toArray++new.toArray++rest) e))∧
    Ext M D H w (M.put H.nx ⟨w.heap.size,0,cap-n,none⟩) (fun b=>D b∨b=H.nx) (H.add (.cells l true sz)) (w.drew.alloc (.cells (old.toArray++new.toArray++rest) e)):=by
  have hcells:(old.toArray++new.toArray++rest)=(l.map (bF M)).toArray++rest:=by rw [hc]; simp
  rw [hcells]
  have hr':Rel M D H w.drew:=hr.same rfl
  obtain ⟨h1,h2⟩:=hr'.newCells (g:=sz) (e:=e) (c:=(l.map (bF M)).toArray++rest) (slack:=cap-n) hl
    (fun i u hu=>by
      have hlt:i<l.length:=(List.getElem?_eq_some_iff.1 hu).1
      rw [Array.getElem?_append_left (by simpa using hlt)]
      simp [hu])
    (by simp [hrest,hln])
    (fun _=>by
      rw [hln, ← Nat.add_mul]
      exact Nat.mul_le_mul_right _ (by omega))
  exact ⟨h1,Ext.drew.trans h2⟩
theorem auF {t u e:TypeId} {i:TypeInfo} {z:AV} {ty:TypeId} (hu:P.underlying t=some (.slice e)) (hi:P.info? e=some i) (hz:Gz P e=some z) (hzs:z.cells.length=i.size) (hb:i.bytes≤65536)
    (hsrc:srcT P u i.size=true) {s x:AV} (hs:okv D s) (hx:okv D x) (hr:Rel M D H w) (h:sB H i.size s x=some (v,H')) :
    ∃ M' D' w',(Builtin.append_ #[t,u] ty #[bF M s,bF M x]).run P w = .ok (bF M' v) w'∧Rel M' D' H' w'∧Ext M D H w M' D' H' w'∧okv D' v:=by
  obtain ⟨n,hn,h1⟩:=cB h
  clear h
  have hlen:=avF (P:=P) (M:=M) (w:=w) hn
  have hle:∀ m,lenF x=some m→n≤m:=fun m hm=>by rw [hn] at hm; cases hm; exact Nat.le_refl _
  have hle0:∀ m,lenF x=some m→0≤m:=fun m _=>Nat.zero_le _
  have none:∀ (base:Option Addr) (sLen sCap:Nat),bF M s = .slice base sLen sCap→sLen≤sCap→n=0→(Builtin.append_ #[t,u] ty #[bF M s,bF M x]).run P w = .ok (bF M s) w:=by
    intro base sLen sCap hc hle' h0
    subst h0
    have hz0:(Builtin.firstCells i.size 0 (bF M x)).run P w = .ok #[] w:=by
      unfold lenF at hn
      split at hn
      · simp [bF,Builtin.firstCells,U4]
      · simp [bF,Builtin.firstCells,U4]
      · simp [bF,Builtin.firstCells]
      · simp only [bF,Builtin.firstCells,Sem.run_pure]
        congr 1
        apply Array.ext'
        simp
      · cases hn
    rw [hc]
    have:=ahg (ty:=ty) hu hi hsrc (base:=base) (sLen:=sLen) (sCap:=sCap) (n:=0) (x:=bF M x) (new:=[]) hlen (by simpa using hle') hz0 (w':=w) (fun b _=>rfl) (fun _=>rfl)
    simpa using this
  split at h1
  · rename_i b off len ext opn
    simp only [okv] at hs
    split at h1
    · rename_i h0
      cases h1
      exact ⟨M,D,w,none _ _ _ rfl (by omega) h0,hr,.refl,by simpa [okv] using hs⟩
    · rename_i h0
      split at h1
      ·
        rename_i hne
        obtain ⟨new,hnew,h2⟩:=cB h1
        clear h1
        obtain ⟨l,g,hg,_,h1⟩:=ZW h2
        clear h2
        obtain ⟨hbb,h2⟩:=ni h1
        clear h1
        have hbb:=Nat.le_of_ble_eq_true hbb
        rw [jC] at hbb
        rw [qQ,Heap.setK_eq] at h2
        cases h2
        obtain ⟨s1,s2,s3⟩:=Y6 (P:=P) hr hx hnew hle
        have hmul:(len+n)*i.size=len*i.size+n*i.size:=Nat.add_mul _ _ _
        obtain ⟨r1,r2⟩:=hr.write hs hg new (off+len*i.size) (by omega) s2
        refine ⟨M,D,_,?_,r1,r2,by simpa [okv] using hs⟩
        have hst:=Wn (P:=P) (zd hr hs hg) (off:=off+len*i.size) (new:=new) (by omega) s2
        simp only [bF,(zd hr hs hg).at_at]
        have:=ahg (ty:=ty) hu hi hsrc (base:=some ⟨(M b).blk,(M b).base+off,Option.none⟩) (sLen:=len) (sCap:=len+ext+if opn=true then (M b).slack else 0) (n:=n) (x:=bF M x) (new:=new.map (bF M)) hlen
          (by omega) s1 (w':=w.setCells (M b).blk ((M b).base+(off+len*i.size)) (new.map (bF M)))
          (fun b' hb'=>by cases hb'; rw [Qf,Nat.add_assoc]; exact hst) (fun hb'=>by cases hb')
        rw [this]
        exact as2 rfl rfl (by omega)
      · rename_i hne
        split at h1
        · cases h1
        · rename_i hmost
          have hmost:len+n≤1048576:=by unfold TI at hmost; omega
          obtain ⟨l,hl,h2⟩:=cB h1
          clear h1
          obtain ⟨old,hold,h1⟩:=cB h2
          clear h2
          obtain ⟨new,hnew,h2⟩:=cB h1
          clear h1
          obtain ⟨s1,s2,s3⟩:=Y6 (P:=P) hr hx hnew hle
          obtain ⟨rw_,g,hg⟩:=JW hl
          have hrow:=zd hr hs hg
          obtain ⟨o1,o2,o3⟩:=Xt hrow hold
          have hmul:(len+n)*i.size=len*i.size+n*i.size:=Nat.add_mul _ _ _
          have hall:∀ u∈old++new,okv D u∧u.isCell=true:=fun u hu=>(List.mem_append.1 hu).elim (o2 u) (s2 u)
          have holdrun:∀ w':World,w'.heap=w.heap→∀ c,(Builtin.firstCells i.size len (.slice (some ⟨(M b).blk,(M b).base+off,Option.none⟩) len c)).run P w' = .ok (old.map (bF M)).toArray w':=by
            intro w' he c
            obtain ⟨_,_,o3'⟩:=Xt (zd (hr.same he) hs hg) hold
            have hload:=run_loadCells_list (P:=P) w' ⟨(M b).blk,(M b).base+off,Option.none⟩ (old.map (bF M)) o3'
            rw [List.length_map,o1] at hload
            simp only [Builtin.firstCells,hload]
          split at h2
          ·
            rename_i hopn
            subst hopn
            obtain ⟨l2,g2,hg2,_,h1⟩:=ZW h2
            clear h2
            rw [hg] at hg2
            cases hg2
            obtain ⟨hbb,h2⟩:=ni h1
            clear h1
            simp only [Bool.and_eq_true] at hbb
            obtain ⟨hb1,hb2⟩:=hbb
            have hb1:g=i.size:=Nat.eq_of_beq_eq_true hb1
            have hb2:=Nat.le_of_ble_eq_true hb2
            rw [jC] at hb2
            rw [Heap.setK_eq,jz,Heap.newK_eq] at h2
            cases h2
            subst hb1
            by_cases hroom:len+n≤len+ext+(M b).slack
            ·
              have hcap:(len+n)+(len+ext+(M b).slack-(len+n))=len+ext+(M b).slack:=by omega
              have hm2:(len+ext+(M b).slack)*i.size=(len+ext)*i.size+(M b).slack*i.size:=Nat.add_mul _ _ _
              have hm3:(len+n)*i.size+(len+ext+(M b).slack-(len+n))*i.size=(len+ext+(M b).slack)*i.size:=by rw [← Nat.add_mul,hcap]
              have hbd:off+len*i.size+new.length≤l.length+(M b).slack*i.size:=by
                have:(len+n)*i.size≤(len+ext+(M b).slack)*i.size:=Nat.mul_le_mul_right _ hroom
                omega
              have hst:=Wn (P:=P) hrow (off:=off+len*i.size) (new:=new) hbd s2
              have hag:∀ c,D c→M.put H.nx ⟨(M b).blk,(M b).base+off,len+ext+(M b).slack-(len+n),Option.none⟩ c=M c:=fun c hc=>Mp.put_other _ _ (Nat.ne_of_lt (hr.dom c hc))
              have hsome:∀ j,j<(new.map (bF M)).length→(w.cell? ⟨(M b).blk,((M b).base+(off+len*i.size))+j,Option.none⟩).isSome=true:=fun j hj=>by
                have:=(hrow.own rfl (off+len*i.size+j) (by simp at hj; omega)).1
                rwa [show (M b).base+(off+len*i.size)+j=(M b).base+(off+len*i.size+j) by omega]
              obtain ⟨r1,r2⟩:=hr.move hs (by rw [hg]; rfl) (.cells (old++new) true i.size) ⟨(M b).blk,(M b).base+off,len+ext+(M b).slack-(len+n),Option.none⟩ rfl
                (w':=w.setCells (M b).blk ((M b).base+(off+len*i.size)) (new.map (bF M)))
                ⟨fun j q hq=>by
                    obtain ⟨p1,p2⟩:=hall q (List.mem_of_getElem? hq)
                    refine ⟨?_,p2,gQ (fun c hc=>.inl hc) _ p1⟩
                    rw [og hag _ p1]
                    show (w.setCells (M b).blk ((M b).base+(off+len*i.size)) (new.map (bF M))).cell? ⟨(M b).blk,(M b).base+off+j,Option.none⟩=_
                    rw [List.getElem?_append] at hq
                    split at hq
                    · rename_i hlt
                      rw [World.cell?_setCells_out _ _ _ _ _ (fun _ _=>by simp; omega)]
                      have:=o3 j (bF M q) (by simp [hq])
                      rwa [Qf] at this
                    · rename_i hge
                      have hlt:j-old.length<(new.map (bF M)).length:=by
                        have:=(List.getElem?_eq_some_iff.1 hq).1
                        simpa using this
                      have:=World.cell?_setCells_in (M b).blk (new.map (bF M)) ((M b).base+(off+len*i.size)) w hsome (j-old.length) hlt
                      rw [show (M b).base+off+j=(M b).base+(off+len*i.size)+(j-old.length) by omega,this]
                      simp only [List.getElem_map]
                      congr 2
                      exact (List.getElem?_eq_some_iff.1 hq).2,
                  fun _ j hj=>by
                    have hj:j<(old++new).length+(len+ext+(M b).slack-(len+n))*i.size:=hj
                    rw [List.length_append,o1,s3] at hj
                    obtain ⟨p1,p2⟩:=hrow.own rfl (off+j) (by omega)
                    show ((w.setCells (M b).blk ((M b).base+(off+len*i.size)) (new.map (bF M))).cell? ⟨(M b).blk,(M b).base+off+j,Option.none⟩).isSome=true∧_
                    rw [World.frozen?_setCells,Nat.add_assoc]
                    refine ⟨?_,p2⟩
                    by_cases hin:len*i.size≤j∧j<len*i.size+new.length
                    · have hlt:j-len*i.size<(new.map (bF M)).length:=by simp; omega
                      have:=World.cell?_setCells_in (M b).blk (new.map (bF M)) ((M b).base+(off+len*i.size)) w hsome (j-len*i.size) hlt
                      rw [show (M b).base+(off+j)=(M b).base+(off+len*i.size)+(j-len*i.size) by omega,this]; rfl
                    · rw [World.cell?_setCells_out _ _ _ _ _ (fun _ _=>by simp; omega)]; exact p1,
                  by rw [n0]; exact hrow.lt,fun _=>yT _ _ _ _ (hrow.fz rfl),fun hg0=>by
                    have hq:=hrow.sl hg0
                    show (old++new).length+(len+ext+(M b).slack-(len+n))*i.size≤_
                    rw [List.length_append,o1,s3]
                    omega,rfl⟩
                (fun c hc=>kU _ _ _ _ _ hc) (n0 _ _ _ _) (ii _ _ _ _).1 (ii _ _ _ _).2.1 (ii _ _ _ _).2.2
              refine ⟨_,_,_,?_,r1,r2,by simp [okv]⟩
              simp only [bF,hrow.at_at,if_true]
              have:=ahg (ty:=ty) hu hi hsrc (base:=some ⟨(M b).blk,(M b).base+off,Option.none⟩) (sLen:=len) (sCap:=len+ext+(M b).slack) (n:=n) (x:=bF M x) (new:=new.map (bF M)) hlen
                hroom s1 (w':=w.setCells (M b).blk ((M b).base+(off+len*i.size)) (new.map (bF M)))
                (fun b' hb'=>by cases hb'; rw [Qf,Nat.add_assoc]; exact hst) (fun hb'=>by cases hb')
              rw [this]
              simp only [Heap.nx_set,Mp.put_same,Loc.at_mk]
              exact as2 (by simp) rfl (by omega)
            ·
              obtain ⟨k1,k2⟩:=hr.turn hs (by rw [hg]; rfl) .dead (w':=w) trivial (fun _ _=>rfl) rfl rfl rfl rfl
              obtain ⟨cap,rest,c1,c2,c3⟩:=agL (ty:=ty) hu hi hz hzs hb hsrc (base:=some ⟨(M b).blk,(M b).base+off,Option.none⟩) (sLen:=len) (sCap:=len+ext+(M b).slack) (n:=n) (x:=bF M x) (old:=old.map (bF M)) (new:=new.map (bF M)) hlen
                (by omega) hmost (fun w' he=>holdrun w' he _) (alL hr hx hnew hle)
              obtain ⟨r1,r2⟩:=k1.grown (e:=e) hall (sz:=i.size) (n:=len+n) (cap:=cap) (rest:=rest) (old:=old.map (bF M)) (new:=new.map (bF M)) (by rw [List.length_append,o1,s3,hmul]) (by simp) c1 c2
              refine ⟨_,_,_,?_,r1,k2.trans r2,by simp [okv]⟩
              simp only [bF,hrow.at_at,if_true]
              rw [c3]
              simp only [Heap.nx_set,Mp.put_same,Loc.at_mk]
              exact as2 (by simp) rfl (by omega)
          ·
            rename_i hopn
            have hopn:opn=false:=by simpa using hopn
            subst hopn
            rw [jz,Heap.newK_eq] at h2
            cases h2
            obtain ⟨cap,rest,c1,c2,c3⟩:=agL (ty:=ty) hu hi hz hzs hb hsrc (base:=some ⟨(M b).blk,(M b).base+off,Option.none⟩) (sLen:=len) (sCap:=len+ext+0) (n:=n) (x:=bF M x) (old:=old.map (bF M)) (new:=new.map (bF M)) hlen
              (by omega) hmost (fun w' he=>holdrun w' he _) (alL hr hx hnew hle)
            obtain ⟨r1,r2⟩:=hr.grown (e:=e) hall (sz:=i.size) (n:=len+n) (cap:=cap) (rest:=rest) (old:=old.map (bF M)) (new:=new.map (bF M)) (by rw [List.length_append,o1,s3,hmul]) (by simp) c1 c2
            refine ⟨_,_,_,?_,r1,r2,by simp [okv]⟩
            simp only [bF,hrow.at_at,if_true,Bool.false_eq_true,if_false]
            rw [c3]
            simp only [Mp.put_same,Loc.at_mk]
            exact as2 (by simp) rfl (by omega)
  ·
    split at h1
    · rename_i h0
      cases h1
      exact ⟨M,D,w,none _ _ _ rfl (by omega) h0,hr,.refl,by simp [okv]⟩
    · rename_i h0
      split at h1
      · cases h1
      · rename_i hmost
        have hmost:n≤1048576:=by unfold TI at hmost; omega
        obtain ⟨new,hnew,h2⟩:=cB h1
        clear h1
        rw [Heap.newK_eq] at h2
        cases h2
        obtain ⟨s1,s2,s3⟩:=Y6 (P:=P) hr hx hnew hle
        obtain ⟨cap,rest,c1,c2,c3⟩:=agL (ty:=ty) hu hi hz hzs hb hsrc (base:=Option.none) (sLen:=0) (sCap:=0) (n:=n) (x:=bF M x) (old:=[]) (new:=new.map (bF M)) hlen
          (by omega) (by omega) (fun w' _=>by simp [Builtin.firstCells]) (alL hr hx hnew hle)
        obtain ⟨r1,r2⟩:=hr.grown (e:=e) s2 (sz:=i.size) (n:=0+n) (cap:=cap) (rest:=rest) (old:=[]) (new:=new.map (bF M)) (by rw [s3]; simp) (by simp) c1 c2
        refine ⟨_,_,_,?_,r1,r2,by simp [okv]⟩
        simp only [bF,if_true]
        rw [c3]
        simp only [Mp.put_same,Loc.at_mk]
        exact as2 (by simp) (by omega) (by omega)
  ·
    split at h1
    · rename_i h0
      cases h1
      exact ⟨M,D,w,none _ _ _ rfl (by omega) h0,hr,.refl,hs⟩
    · cases h1
  · cases h1
theorem awg {t u e:TypeId} {i:TypeInfo} {z:AV} {x y:Operand} {X Y:Opd} {ats:Array TypeId} {args:Array Operand} (ho:o.op = .call { callee:=.builtin .append,args,argTypes:=ats })
    (hats:ats.toList = [t,u]) (hargs:args.toList = [x,y]) (hu:P.underlying t=some (.slice e)) (hi:P.info? e=some i) (hz:Gz P e=some z) (hzs:z.cells.length=i.size) (hb:i.bytes≤65536)
    (hsrc:srcT P u i.size=true) (hx:opd nt x=some X) (hy:opd nt y=some Y) (ht:TmRel M D nt tm a) (hr:Rel M D H w)
    (h:opF (.append i.size X Y) tm H=some (v,H')):Sound1 P w M D H (execOp a.eval o) v H':=by
  obtain ⟨p,hp,h1⟩:=cB h
  clear h
  obtain ⟨q,hq,h⟩:=cB h1
  clear h1
  obtain ⟨e1,k1⟩:=lR hx ht hp
  obtain ⟨e2,k2⟩:=lR hy ht hq
  have hats':ats = #[t,u]:=by rw [← Array.toArray_toList (xs:=ats),hats]
  have hargs':args = #[x,y]:=by rw [← Array.toArray_toList (xs:=args),hargs]
  subst hats'; subst hargs'
  obtain ⟨M',D',w',h1,h2,h3,h4⟩:=auF (P:=P) (ty:=o.type) hu hi hz hzs hb hsrc k1 k2 hr h
  refine ⟨M',D',w',.value (bF M' v),?_,.inl rfl,h2,h3,h4⟩
  rw [y0 ho]
  show ((do pure (.value (← Builtin.append_ #[t,u] o.type (#[x,y].map a.eval))):Sem Next)).run P w=_
  simp [e1,e2,h1]
theorem ayM {t u e:TypeId} {sz:Nat} {x y:Operand} {X Y:Opd} {ats:Array TypeId} {args:Array Operand} (ho:o.op = .call { callee:=.builtin .copy,args,argTypes:=ats })
    (hats:ats.toList = [t,u]) (hargs:args.toList = [x,y]) (hu:P.underlying t=some (.slice e)) (hsz:szT P e=some sz)
    (hx:opd nt x=some X) (hy:opd nt y=some Y) (ht:TmRel M D nt tm a) (hr:Rel M D H w)
    (h:opF (.copy sz X Y) tm H=some (v,H')):Sound1 P w M D H (execOp a.eval o) v H':=by
  obtain ⟨p,hp,h1⟩:=cB h
  clear h
  obtain ⟨q,hq,h⟩:=cB h1
  clear h1
  obtain ⟨e1,k1⟩:=lR hx ht hp
  obtain ⟨e2,k2⟩:=lR hy ht hq
  have hats':ats = #[t,u]:=by rw [← Array.toArray_toList (xs:=ats),hats]
  have hargs':args = #[x,y]:=by rw [← Array.toArray_toList (xs:=args),hargs]
  subst hats'; subst hargs'
  have hrun:(execOp a.eval o).run P w=((Builtin.copy_ #[t,u] o.type #[bF M p,bF M q]).run P w).andThen fun v w'=>.ok (.value v) w':=by
    rw [y0 ho]
    show ((do pure (.value (← Builtin.copy_ #[t,u] o.type (#[x,y].map a.eval))):Sem Next)).run P w=_
    simp [e1,e2]
  unfold ayf at h
  split at h
  · rename_i m n' hm hn
    have hlen:=avF (P:=P) (M:=M) (w:=w) hn
    obtain ⟨new,hnew,h1⟩:=cB h
    clear h
    obtain ⟨s1,s2,s3⟩:=Y6 (P:=P) hr k2 hnew (fun m' hm'=>by rw [hn] at hm'; cases hm'; exact Nat.min_le_left _ _)
    have s1':(Builtin.firstCells sz (Nat.min n' m) (bF M q)).run P w = .ok (new.map (bF M)).toArray w:=s1
    split at h1
    · rename_i b off len ext opn
      cases hm
      simp only [okv] at k1
      split at h1
      · rename_i h0
        cases h1
        refine Sound1.same hr ?_ (by simp [okv])
        have hn0:new = []:=List.length_eq_zero_iff.1 (by rw [s3,h0]; simp)
        subst hn0
        rw [hrun]
        have h0':Nat.min n' m=0:=h0
        rw [h0'] at s1'
        simp only [Builtin.copy_,bF,Sem.run_bind,List.getElem?_toArray,List.getElem?_cons_zero,List.getElem?_cons_succ,run_underlying hu,Result.andThen_ok,hlen,oK hsz,h0',s1']
        simp [storeCells,goInt]
      · obtain ⟨l,g,hg,_,h2⟩:=ZW h1
        clear h1
        obtain ⟨hbb,h1⟩:=ni h2
        clear h2
        have hbb:=Nat.le_of_ble_eq_true hbb
        rw [jC] at hbb
        rw [qQ,Heap.setK_eq] at h1
        cases h1
        obtain ⟨r1,r2⟩:=hr.write k1 hg new off (by omega) s2
        refine ⟨M,D,_,.value (bF M (.int .i64 (min n' m:Nat))),?_,.inl rfl,r1,r2,by simp [okv]⟩
        have hst:=Wn (P:=P) (zd hr k1 hg) (off:=off) (new:=new) (by omega) s2
        rw [hrun]
        simp only [Builtin.copy_,bF,(zd hr k1 hg).at_at,Sem.run_bind,List.getElem?_toArray,List.getElem?_cons_zero,List.getElem?_cons_succ,run_underlying hu,Result.andThen_ok,hlen,oK hsz,s1',hst,Sem.run_pure,goInt]
    · cases hm
      cases h1
      refine Sound1.same hr ?_ (by simp [okv])
      rw [hrun]
      have h0':Nat.min n' 0=0:=Nat.min_zero n'
      rw [h0'] at s1'
      simp only [Builtin.copy_,bF,Sem.run_bind,List.getElem?_toArray,List.getElem?_cons_zero,List.getElem?_cons_succ,run_underlying hu,Result.andThen_ok,hlen,oK hsz,h0',s1',Sem.run_pure,goInt]
      rfl
    · cases hm
      cases h1
      refine Sound1.same hr ?_ (by simp [okv])
      rw [hrun]
      have h0':Nat.min n' 0=0:=Nat.min_zero n'
      have hn0:new = []:=List.length_eq_zero_iff.1 (by rw [s3]; simp)
      subst hn0
      rw [h0'] at s1'
      simp only [Builtin.copy_,bF,Sem.run_bind,List.getElem?_toArray,List.getElem?_cons_zero,List.getElem?_cons_succ,run_underlying hu,Result.andThen_ok,hlen,oK hsz,h0',s1']
      simp [storeCells,goInt]
    · cases h1
  · cases h
theorem atx (z:List AV) (n:Nat) (hz:0<z.length):Builtin.zeroCells (z.map (bF M)).toArray n=((XG z n).map (bF M)).toArray:=by
  have:=alB (M:=M) z n hz
  unfold Builtin.zeroCells
  rw [← this]
  simp
theorem aym {t e:TypeId} {z:AV} {x:Operand} {X:Opd} {ats:Array TypeId} {args:Array Operand} (ho:o.op = .call { callee:=.builtin .clear,args,argTypes:=ats })
    (hats:ats.toList = [t]) (hargs:args.toList = [x]) (hu:P.underlying t=some (.slice e)) (hz:Gz P e=some z) (hpos:0<z.cells.length)
    (hx:opd nt x=some X) (ht:TmRel M D nt tm a) (hr:Rel M D H w)
    (h:opF (.clear z.cells X) tm H=some (v,H')):Sound1 P w M D H (execOp a.eval o) v H':=by
  obtain ⟨p,hp,h1⟩:=cB h
  clear h
  obtain ⟨e1,k1⟩:=lR hx ht hp
  have hats':ats = #[t]:=by rw [← Array.toArray_toList (xs:=ats),hats]
  have hargs':args = #[x]:=by rw [← Array.toArray_toList (xs:=args),hargs]
  subst hats'; subst hargs'
  have hrun:(execOp a.eval o).run P w=((Builtin.clear_ #[t] o.type #[bF M p]).run P w).andThen fun v w'=>.ok (.value v) w':=by
    rw [y0 ho]
    show ((do pure (.value (← Builtin.clear_ #[t] o.type (#[x].map a.eval))):Sem Next)).run P w=_
    simp [e1]
  unfold acd at h1
  split at h1
  · cases h1
    refine Sound1.same hr ?_ (yy D)
    rw [hrun]
    simp [Builtin.clear_,bF,run_underlying hu,tV,undef]
  · cases h1
    refine Sound1.same hr ?_ (yy D)
    rw [hrun]
    simp [Builtin.clear_,bF,run_underlying hu,tV,undef]
  · cases h1
    refine Sound1.same hr ?_ (yy D)
    rw [hrun]
    simp [Builtin.clear_,bF,run_underlying hu,tV,undef]
  · rename_i b off len ext opn
    simp only [okv] at k1
    split at h1
    · rename_i h0
      cases h1
      subst h0
      refine Sound1.same hr ?_ (yy D)
      rw [hrun]
      simp [Builtin.clear_,bF,run_underlying hu,tV,undef]
    · rename_i h0
      obtain ⟨l,g,hg,_,h2⟩:=ZW h1
      clear h1
      obtain ⟨hbb,h1⟩:=ni h2
      clear h2
      have hbb:=Nat.le_of_ble_eq_true hbb
      rw [jC,jC] at hbb
      rw [qQ,Heap.setK_eq] at h1
      cases h1
      obtain ⟨z1,z2,z3⟩:=Dy (M:=M) (D:=D) hz
      have hall:∀ u∈XG z.cells len,okv D u∧u.isCell=true:=fun u hu=>z1 u (as8 hu)
      have hlen:=P0 z.cells len
      obtain ⟨r1,r2⟩:=hr.write k1 hg (XG z.cells len) off (by rw [hlen]; exact hbb) hall
      refine ⟨M,D,_,.value undef,?_,.inl (by rw [tV]),r1,r2,yy D⟩
      have hst:=Wn (P:=P) (zd hr k1 hg) (off:=off) (new:=XG z.cells len) (by rw [hlen]; omega) hall
      have hzc:=atx (M:=M) z.cells len hpos
      obtain ⟨len',rfl⟩:∃ m,len=m+1:=⟨len-1,by omega⟩
      rw [hrun]
      simp only [Builtin.clear_,bF,(zd hr k1 hg).at_at,Sem.run_bind,List.getElem?_toArray,List.getElem?_cons_zero,run_underlying hu,Result.andThen_ok,JK (M:=M) hz,z3,hzc,hst,Sem.run_pure]
      rfl
  · cases h1
end
end Go.Ai
