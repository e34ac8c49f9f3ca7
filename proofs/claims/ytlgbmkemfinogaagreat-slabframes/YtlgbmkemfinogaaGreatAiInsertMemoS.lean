/- slices.Insert at []int, for the interpreter: the library's function by the shelf's contracts, as one step upon the interpreter's heap. -/
import Derived.Test.YtlgbmkemfinogaaGreatAiCallSym
import Derived.Shelf.Spec.SlicesInsert
import Derived.Shelf.Spec.SlicesInsertGrow
import Derived.Test.YtlgbmkemfinogaaGreatAiCpsRunLo
set_option linter.all false
namespace Go.Ai
noncomputable def Yr (args:List AV) (H:Heap):Option (AV × Heap):=match args with
  | [s,.int .i64 i,.slice vb voff m _ _]=>NW i none fun i=>
    Option.casesOn (H.get vb) none fun x=>Blk.casesOn x (fun vl vrw _=>Bool.casesOn vrw none
      (Option.casesOn (sub vl voff m) none fun new=>Bool.casesOn (Nat.beq m 0)
        (match s with
          | .nilslice=>Bool.casesOn (Nat.beq i 0&&Nat.ble m I8) none (H.newK (.cells new true 1) fun c H'=>some (.slice c 0 m 0 true,H'))
          | .slice b off len ext true=>ad8 H b none fun all g=>
            Bool.casesOn (Nat.beq g 1&&Nat.ble (off+(len+ext)) (qh all)&&Nat.ble i len&&Nat.ble (len+m) I8&&!Nat.beq vb b) none
              (Option.casesOn (sub all off len) none fun l=>tkK l i none fun l1=>
                H.setK b .dead fun H₁=>Tn new (skp l i) fun t=>Tn l1 t fun l'=>H₁.newK (.cells l' true 1) fun c H₂=>some (.slice c 0 (len+m) 0 true,H₂))
          | .slice b off len ext false=>Option.casesOn (H.get b) none fun x=>Blk.casesOn x (fun all _ _=>
            Bool.casesOn (Nat.ble (off+(len+ext)) (qh all)&&Nat.ble i len&&Nat.ble (len+m) I8&&Nat.blt (len+ext) (len+m)) none
              (Option.casesOn (sub all off len) none fun l=>tkK l i none fun l1=>
                Tn new (skp l i) fun t=>Tn l1 t fun l'=>H.newK (.cells l' true 1) fun c H₂=>some (.slice c 0 (len+m) 0 true,H₂))) (fun _=>none) none
          | _=>none) none)) (fun _=>none) none
  | _=>none
noncomputable def Ns (args:List AV) (H:Heap):ab:=match Yr args H with
  | some r=>.ret r.1 r.2
  | none=>.err
section
variable {P:Program} {M:Mp} {D:Nat→Prop} {w w':World} {H:Heap}
theorem Rel.made (h:Rel M D H w) (x:Blk) (L:Loc) (hL:w.heap.size≤L.blk) (hold:∀ c,c<w.heap.size→w'.heap[c]?=w.heap[c]?) (hsz:w.heap.size≤w'.heap.size)
    (hos:w'.os=w.os) (htape:w'.tape=w.tape) (hout:w'.output=w.output)
    (hx:eE (M.put H.nx L) (fun b=>D b∨b=H.nx) w' L (some x)) :
    Rel (M.put H.nx L) (fun b=>D b∨b=H.nx) (H.add x) w'∧Ext M D H w (M.put H.nx L) (fun b=>D b∨b=H.nx) (H.add x) w':=by
  have hne:∀ b,D b→b≠H.nx:=fun b hb=>Nat.ne_of_lt (h.dom b hb)
  have hag:∀ b,D b→M.put H.nx L b=M b:=fun b hb=>Mp.put_other _ _ (hne b hb)
  have hget:∀ b,D b→(H.add x).get b=H.get b:=fun b hb=>by rw [Heap.fQ,if_neg (hne b hb)]
  refine ⟨⟨?_,?_,?_⟩,⟨fun _ hb=>.inl hb,hag,?_,?_,?_,?_,?_,?_,hsz,hos,htape,hout⟩⟩
  · rintro b (hb | rfl)
    · have:=h.dom b hb; simp; omega
    · simp
  · rintro b (hb | rfl)
    · rw [hget b hb,hag b hb]
      exact (h.blk b hb).keep (fun _ h=>.inl h) hag (fun hl=>hold _ ((h.blk b hb).lt hl)) hsz
    · rw [Heap.fQ,if_pos rfl,Mp.fR]; exact hx
  · rintro b c (hb | rfl) (hc | rfl) hbc hw hl
    · rw [hget b hb] at hw; rw [hget c hc] at hl; rw [hag b hb,hag c hc]; exact h.inj b c hb hc hbc hw hl
    · rw [hget b hb] at hw; rw [hag b hb,Mp.fR]
      have:=(h.blk b hb).lt (yT hw); omega
    · rw [hget c hc] at hl; rw [hag c hc,Mp.fR]
      have:=(h.blk c hc).lt hl; omega
    · exact (hbc rfl).elim
  · rintro b (hb | rfl) hlt
    · exact hb
    · omega
  · simp
  · intro b hb hw; rw [hget b hb] at hw; exact hw
  · rintro b (hb | rfl) hnb _
    · exact (hnb hb).elim
    · exact .inl (by rw [Mp.fR]; exact hL)
  · intro c hc _; exact hold _ hc
  · intro b hb _; rw [Heap.fQ,if_neg (by omega)]
theorem apJ {N B i m:Nat} {l1 new l2:List AV} (h1l:l1.length=i) (hml:new.length=m)
    (a1:∀ j v,(l1.map (iP M))[j]?=some v→w.cell? ⟨N,B+j,none⟩=some v) (a2:∀ j v,(new.map (iP M))[j]?=some v→w.cell? ⟨N,B+(i+j),none⟩=some v)
    (a3:∀ j v,(l2.map (iP M))[j]?=some v→w.cell? ⟨N,B+(i+m+j),none⟩=some v) :
    ∀ j v,(l1++(new++l2))[j]?=some v→w.cell? ⟨N,B+j,none⟩=some (iP M v):=by
  intro j v hj
  rw [List.getElem?_append] at hj
  split at hj
  · exact a1 j _ (by simp [hj])
  · rw [List.getElem?_append] at hj
    split at hj
    · have:=a2 (j-l1.length) (iP M v) (by simp [hj])
      rwa [show i+(j-l1.length)=j by omega] at this
    · have:=a3 (j-l1.length-new.length) (iP M v) (by simp [hj])
      rwa [show i+m+(j-l1.length-new.length)=j by omega] at this
theorem Qv {b:Nat} (h:∃ c e,w.heap[b]?=some (.cells c e (0,0))):∃ t k,w.shape? b=some (t,k)∧(∀ j,w.frozen? ⟨b,j,none⟩=false)∧∀ j,(w.cell? ⟨b,j,none⟩).isSome=true→k≠0:=by
  obtain ⟨c,e,h⟩:=h
  refine ⟨e,c.size,by simp [World.shape?,h],fun j=>by simp [World.frozen?,h],fun j hj h0=>?_⟩
  have:c = #[]:=Array.eq_empty_of_size_eq_zero h0
  subst this
  simp [World.cell?,h] at hj
theorem akX {args:List AV} {H H':Heap} {v:AV} (hr:H.ro≤H.nx) (h:Ns args H = .ret v H'):eo H H':=by
  unfold Ns at h
  split at h
  · rename_i r hr'
    cases h
    unfold Yr at hr'
    split at hr'
    · rename_i s i vb voff m _ _
      cases i with
      | negSucc i=>cases hr'
      | ofNat i=>?_
      simp only [NW] at hr'
      obtain ⟨x,_,h1⟩:=jj hr'
      clear hr'
      cases x with
      | mp es=>cases h1
      | dead=>cases h1
      | cells vl vrw g=>?_
      obtain ⟨_,h2⟩:=qK h1
      obtain ⟨new,_,h3⟩:=jj h2
      obtain ⟨_,h4⟩:=TY h3
      clear h1 h2 h3
      split at h4
      · obtain ⟨_,h5⟩:=qK h4
        rw [Heap.fP] at h5
        cases h5
        exact eo.add hr (rP _ _)
      · obtain ⟨hb,all,g',_,h5⟩:=PG h4
        obtain ⟨_,h6⟩:=qK h5
        obtain ⟨l,_,h7⟩:=jj h6
        rw [aeF] at h7
        split at h7
        · rw [Heap.fO,ou,ou,Heap.fP] at h7
          cases h7
          exact (eo.set hb alN).trans (eo.add (by simpa using hr) (rP _ _))
        · cases h7
      · obtain ⟨y,_,h5⟩:=jj h4
        cases y with
        | mp es=>cases h5
        | dead=>cases h5
        | cells all rw g=>
          obtain ⟨_,h6⟩:=qK h5
          obtain ⟨l,_,h7⟩:=jj h6
          rw [aeF] at h7
          split at h7
          · rw [ou,ou,Heap.fP] at h7
            cases h7
            exact eo.add hr (rP _ _)
          · cases h7
      · cases h4
    · cases hr'
  · cases h
theorem ajz (hdom:∀ b,D b→b<H.nx) {W:World} {N B i m cap:Nat} {l1 new l2:List AV} (h1l:l1.length=i) (hml:new.length=m) (hok:∀ u∈l1++(new++l2),okv D u∧u.fT=true)
    (a1:∀ j v,(l1.map (iP M))[j]?=some v→W.cell? ⟨N,B+j,none⟩=some v) (a2:∀ j v,(new.map (iP M))[j]?=some v→W.cell? ⟨N,B+(i+j),none⟩=some v)
    (a3:∀ j v,(l2.map (iP M))[j]?=some v→W.cell? ⟨N,B+(i+m+j),none⟩=some v) (hle:(l1++(new++l2)).length≤cap) (hcap:cap≤9223372036854775807)
    (own:∀ j,j<cap→(W.cell? ⟨N,B+j,none⟩).isSome=true∧W.frozen? ⟨N,B+j,none⟩=false) (lt:N<W.heap.size) (fz:∃ c e,W.heap[N]?=some (.cells c e (0,0))) :
    eN (M.put H.nx ⟨N,B,cap-(l1++(new++l2)).length,none⟩) (fun b=>D b∨b=H.nx) W ⟨N,B,cap-(l1++(new++l2)).length,none⟩ (l1++(new++l2)) true 1:=by
  have hag:∀ b,D b→M.put H.nx ⟨N,B,cap-(l1++(new++l2)).length,none⟩ b=M b:=fun b hb=>Mp.put_other _ _ (Nat.ne_of_lt (hdom b hb))
  refine ⟨fun j v hj=>?_,fun _ j hj=>own j ?_,lt,fun _=>fz,fun _=>?_,rfl⟩
  · obtain ⟨k1,k2⟩:=hok v (gi hj)
    refine ⟨?_,k2,mj (fun b hb=>.inl hb) _ k1⟩
    rw [qQ hag _ k1]
    exact apJ h1l hml a1 a2 a3 j v hj
  · have hj:j<(l1++(new++l2)).length+(cap-(l1++(new++l2)).length)*1:=hj
    omega
  · show (l1++(new++l2)).length+(cap-(l1++(new++l2)).length)*1≤_
    omega
theorem anO {x x':Option Addr} {n n' c c':Nat} (h1:x=x') (h2:n=n') (h3:c=c'):Ending.returned (Value.slice x n c) = .returned (.slice x' n' c'):=by
  rw [h1,h2,h3]
open Go.Proofs in
theorem ae7 {ρ:Go.Shelf.Ren} (L:Lays2.n21 P ρ) {K:Heap} {b off len ext vb voff m ve i cap:Nat} {opn vo:Bool} {l new:List AV} (pb:(M b).odd=none) (pv:(M vb).odd=none) (k1:Rel M D K w) (k2:Ext M D H w M D K w)
    (hcap:(len+ext+if opn then (M b).slack else 0)=cap) (hm:0<m) (hile:i≤len) (hmost':len+m≤1048576) (hroom:¬ len+m≤cap) (o1:l.length=len) (n1:new.length=m)
    (hok':∀ u∈l.take i++(new++l.drop i),okv D u∧u.fT=true)
    (hcs:∀ (j:Nat) (u:Value),(l.map (iP M))[j]?=some u→w.cell? ⟨(M b).blk,(M b).base+off+j,none⟩=some u)
    (hvs:∀ (j:Nat) (u:Value),(new.map (iP M))[j]?=some u→w.cell? ⟨(M vb).blk,(M vb).base+voff+j,none⟩=some u)
    (h1c:∀ u∈l.map (iP M),u.oneCell'=true) (h1v:∀ u∈new.map (iP M),u.oneCell'=true) :
    Calls P (ρ.f 21) (List.map (iP M) [AV.slice b off len ext opn,.int .i64 (.ofNat i),.slice vb voff m ve vo]).toArray w
      (fh M D H w (.slice K.nx 0 (len+m) 0 true) (K.add (.cells (l.take i++(new++l.drop i)) true 1))):=by
  have hvl:(new.map (iP M)).length=m:=by simp [n1]
  have hcl:(l.map (iP M)).length=len:=by simp [o1]
  have hflen:(l.take i++(new++l.drop i)).length=len+m:=by simp [o1,n1]; omega
  have hl1:(l.take i).length=i:=by rw [List.length_take]; omega
  have htake:∀ (j:Nat) (u:Value),((l.take i).map (iP M))[j]?=some u→j<i∧(l.map (iP M))[j]?=some u:=fun j u hj=>by
    rw [List.map_take,List.getElem?_take] at hj
    split at hj
    · exact ⟨by assumption,hj⟩
    · cases hj
  have hdrop:∀ (j:Nat) (u:Value),((l.drop i).map (iP M))[j]?=some u→(l.map (iP M))[i+j]?=some u:=fun j u hj=>by
    rw [List.map_drop,List.getElem?_drop] at hj; exact hj
  have hdl:((l.drop i).map (iP M)).length=len-i:=by simp [o1]
  obtain ⟨G,hG⟩:∃ G,G=grownCap w (len+m) cap (ρ.t 3):=⟨_,rfl⟩
  have hG1:len+m≤G:=by rw [hG]; exact grownCap_ge w _ _ _
  have hG2:G≤9223372036854775807:=by
    have:=grownCap_le_maxLen w (len+m) cap (ρ.t 3) (by unfold maxLen; omega)
    rw [← hG] at this; unfold maxLen at this; omega
  have made:∀ W:World,(∀ c,c<w.heap.size→W.heap[c]?=w.heap[c]?)→w.heap.size<W.heap.size→W.os=w.os→W.tape=w.tape→W.output=w.output→
      (∀ j u,((l.take i).map (iP M))[j]?=some u→W.cell? ⟨w.heap.size,0+j,none⟩=some u)→
      (∀ j u,(new.map (iP M))[j]?=some u→W.cell? ⟨w.heap.size,0+(i+j),none⟩=some u)→
      (∀ j u,((l.drop i).map (iP M))[j]?=some u→W.cell? ⟨w.heap.size,0+(i+m+j),none⟩=some u)→
      (∀ j,j<G→(W.cell? ⟨w.heap.size,0+j,none⟩).isSome=true∧W.frozen? ⟨w.heap.size,0+j,none⟩=false)→
      (∃ c e,W.heap[w.heap.size]?=some (.cells c e (0,0)))→
      fh M D H w (.slice K.nx 0 (len+m) 0 true) (K.add (.cells (l.take i++(new++l.drop i)) true 1)) (.returned (.slice (some ⟨w.heap.size,0,none⟩) (len+m) G)) W:=by
    intro W q1 q2 q3 q4 q5 b1 b2 b3 b4 b5
    have hrow':=ajz (H:=K) k1.dom hl1 n1 hok' b1 b2 b3 (cap:=G) (by rw [hflen]; exact hG1) hG2 b4 q2 b5
    obtain ⟨r1,r2⟩:=k1.made (.cells (l.take i++(new++l.drop i)) true 1) ⟨w.heap.size,0,G-(l.take i++(new++l.drop i)).length,none⟩ (gp _) q1 (Nat.le_of_lt q2) q3 q4 q5 hrow'
    refine ⟨_,_,?_,r1,k2.trans r2,by simp [okv]⟩
    simp only [iP,Mp.fR,Loc.at_mk,if_true]
    exact anO rfl rfl (by rw [hflen]; omega)
  by_cases hin:i=len
  · subst hin
    have hcall:=Any2.slices_Insert_int_end_grow L (some ⟨(M b).blk,(M b).base+off,none⟩) i cap (M vb).blk ((M vb).base+voff) m (m+ve+if vo then (M vb).slack else 0) (l.map (iP M)) (new.map (iP M)) w hm (by omega) (by omega) (by omega) hcl hvl (fun e=>by cases e)
      (fun a ha j u hj=>by cases ha; rw [KG]; exact hcs j u hj) hvs h1v
    have hargs:(List.map (iP M) [AV.slice b off i ext opn,.int .i64 (.ofNat i),.slice vb voff m ve vo]).toArray = #[.slice (some ⟨(M b).blk,(M b).base+off,none⟩) i cap,.int .i64 i,.slice (some ⟨(M vb).blk,(M vb).base+voff,none⟩) m (m+ve+if vo then (M vb).slack else 0)]:=by simp [iP,hcap,Loc.at_plain pb,Loc.at_plain pv]
    rw [hargs]
    refine Calls.mono hcall fun e w' he=>?_
    obtain ⟨rfl,rfl⟩:=he
    rw [← hG]
    have hz:(Builtin.zeroCells (Value.int .i64 0).cells (G-(i+m))).size=G-(i+m):=by rw [BJ]; simp [Value.cells]
    have hfz:=Qv (w:=w.drew.alloc (.cells ((l.map (iP M)++new.map (iP M)).toArray++Builtin.zeroCells (Value.int .i64 0).cells (G-(i+m))) (ρ.t 3))) (b:=w.heap.size) ⟨_,_,Bv _ _⟩
    obtain ⟨_,_,_,hfz,_⟩:=hfz
    have hnew':∀ j,(w.drew.alloc (.cells ((l.map (iP M)++new.map (iP M)).toArray++Builtin.zeroCells (Value.int .i64 0).cells (G-(i+m))) (ρ.t 3))).cell? ⟨w.heap.size,j,none⟩ =
        ((l.map (iP M)++new.map (iP M)).toArray++Builtin.zeroCells (Value.int .i64 0).cells (G-(i+m)))[j]?:=fun j=>World.cell?_alloc_new (w:=w.drew) _ _ j
    refine made _ (fun c hc=>Gv _ _ hc) (by simp) rfl rfl rfl ?_ ?_ ?_ ?_ ⟨_,_,Bv _ _⟩
    · intro j u hj
      obtain ⟨hji,hj'⟩:=htake j u hj
      rw [Nat.zero_add,hnew',Array.getElem?_append_left (by simp [o1]; omega),List.getElem?_toArray,List.getElem?_append_left (by rw [hcl]; exact hji)]
      exact hj'
    · intro j u hj
      have hjl:=(gr.1 hj).1
      rw [Nat.zero_add,hnew',Array.getElem?_append_left (by simp [o1] at hjl ⊢; omega),List.getElem?_toArray,List.getElem?_append_right (by rw [hcl]; omega),hcl,show i+j-i=j by omega]
      exact hj
    · intro j u hj
      have hjl:=(gr.1 hj).1
      omega
    · intro j hj
      refine ⟨?_,hfz _⟩
      rw [Nat.zero_add,hnew']
      have:j<((l.map (iP M)++new.map (iP M)).toArray++Builtin.zeroCells (Value.int .i64 0).cells (G-(i+m))).size:=by
        rw [Array.size_append,hz]; simp [o1,n1]; omega
      rw [Array.getElem?_eq_getElem this]; rfl
  · have hcall:=Any2.slices_Insert_int_grow L (M b).blk ((M b).base+off) len cap i (M vb).blk ((M vb).base+voff) m (m+ve+if vo then (M vb).slack else 0) (l.map (iP M)) (new.map (iP M)) w (by omega) hm (by omega) (by omega) (by omega) hcl hvl hcs hvs h1c h1v
    have hargs:(List.map (iP M) [AV.slice b off len ext opn,.int .i64 (.ofNat i),.slice vb voff m ve vo]).toArray = #[.slice (some ⟨(M b).blk,(M b).base+off,none⟩) len cap,.int .i64 i,.slice (some ⟨(M vb).blk,(M vb).base+voff,none⟩) m (m+ve+if vo then (M vb).slack else 0)]:=by simp [iP,hcap,Loc.at_plain pb,Loc.at_plain pv]
    rw [hargs]
    refine Calls.mono hcall fun e w' he=>?_
    obtain ⟨rfl,rfl⟩:=he
    rw [← hG, ← List.map_drop, ← List.map_take]
    obtain ⟨ROW,hROW⟩:∃ ROW:Array Value,ROW=((l.take i).map (iP M)).toArray++Builtin.zeroCells (Value.int .i64 0).cells (len+m-i)++Builtin.zeroCells (Value.int .i64 0).cells (G-(len+m)):=⟨_,rfl⟩
    have hRs:ROW.size=G:=by
      rw [hROW,Array.size_append,Array.size_append,BJ,BJ]
      simp [Value.cells,o1]; omega
    rw [← hROW]
    have hA:∀ j,((w.alloc (.cells ROW (ρ.t 3))).drew).cell? ⟨w.heap.size,j,none⟩=ROW[j]?:=fun j=>World.cell?_alloc_new (w:=w) _ _ j
    have hsA:∀ j,j<G→(((w.alloc (.cells ROW (ρ.t 3))).drew).cell? ⟨w.heap.size,j,none⟩).isSome=true:=fun j hj=>by
      rw [hA,Array.getElem?_eq_getElem (by omega)]; rfl
    obtain ⟨B,hB⟩:∃ B,B=((w.alloc (.cells ROW (ρ.t 3))).drew.setCells w.heap.size i (new.map (iP M))).drew:=⟨_,rfl⟩
    rw [← hB]
    have hBc:∀ j,B.cell? ⟨w.heap.size,j,none⟩=((w.alloc (.cells ROW (ρ.t 3))).drew.setCells w.heap.size i (new.map (iP M))).cell? ⟨w.heap.size,j,none⟩:=fun j=>by rw [hB]; rfl
    have hs1:∀ j,j<(new.map (iP M)).length→(((w.alloc (.cells ROW (ρ.t 3))).drew).cell? ⟨w.heap.size,i+j,none⟩).isSome=true:=fun j hj=>hsA _ (by omega)
    have hsB:∀ j,j<G→(B.cell? ⟨w.heap.size,j,none⟩).isSome=true:=fun j hj=>by
      rw [hBc]; exact Go.Proofs.isSome_setCells _ _ _ _ hs1 _ (hsA j hj)
    have hs2:∀ j,j<((l.drop i).map (iP M)).length→(B.cell? ⟨w.heap.size,i+m+j,none⟩).isSome=true:=fun j hj=>hsB _ (by omega)
    have hBold:∀ c,c<w.heap.size→B.heap[c]?=w.heap[c]?:=fun c hc=>by
      rw [hB]
      exact (nZ _ _ _ _ _ (Nat.ne_of_lt hc)).trans (Gv _ _ hc)
    have hBsz:B.heap.size=w.heap.size+1:=by
      rw [hB]
      exact (qN _ _ _ _).trans (by simp)
    have hBfz:∃ c e,B.heap[w.heap.size]?=some (.cells c e (0,0)):=by
      rw [hB]
      exact yF _ _ _ _ ⟨_,_,Bv _ _⟩
    have hBos:B.os=w.os∧B.tape=w.tape∧B.output=w.output:=by
      rw [hB]
      exact mD _ _ _ _
    have hWfz:=yF w.heap.size ((l.drop i).map (iP M)) (i+m) B hBfz
    obtain ⟨_,_,_,hfr,_⟩:=Qv hWfz
    refine made _ (fun c hc=>(nZ _ _ _ _ _ (Nat.ne_of_lt hc)).trans (hBold c hc)) (by rw [qN,hBsz]; omega)
      ((mD _ _ _ _).1.trans hBos.1) ((mD _ _ _ _).2.1.trans hBos.2.1) ((mD _ _ _ _).2.2.trans hBos.2.2) ?_ ?_ ?_ ?_ hWfz
    · intro j u hj
      have hji:=(htake j u hj).1
      rw [Nat.zero_add,World.cell?_setCells_out _ _ _ _ _ (fun _ _=>by simp; omega),hBc,World.cell?_setCells_out _ _ _ _ _ (fun _ _=>by simp; omega),hA,hROW,
        Array.getElem?_append_left (by rw [Array.size_append]; simp [o1]; omega),Array.getElem?_append_left (by simp [o1]; omega),List.getElem?_toArray]
      exact hj
    · intro j u hj
      have hjl:=(gr.1 hj).1
      rw [Nat.zero_add,World.cell?_setCells_out _ _ _ _ _ (fun _ _=>by simp; omega),hBc]
      have:=World.cell?_setCells_in w.heap.size (new.map (iP M)) i _ hs1 j hjl
      rw [this]
      exact congrArg some (gr.1 hj).2
    · intro j u hj
      have hjl:=(gr.1 hj).1
      have:=World.cell?_setCells_in w.heap.size ((l.drop i).map (iP M)) (i+m) _ hs2 j hjl
      rw [Nat.zero_add,this]
      exact congrArg some (gr.1 hj).2
    · intro j hj
      exact ⟨by rw [Nat.zero_add]; exact Go.Proofs.isSome_setCells _ _ _ _ hs2 _ (hsB j hj),hfr _⟩
open Go.Proofs in
theorem ao4 {ρ:Go.Shelf.Ren} (L:Lays2.n21 P ρ):fx P (ρ.f 21) Ns:=by
  intro vs H v H' h M D w _ hr hok
  unfold Ns at h
  split at h
  · rename_i r hr'
    cases h
    unfold Yr at hr'
    split at hr'
    · rename_i s i vb voff m ve vo
      cases i with
      | negSucc i=>cases hr'
      | ofNat i=>?_
      simp only [NW] at hr'
      obtain ⟨x,hgv,h1⟩:=jj hr'
      clear hr'
      cases x with
      | mp es=>cases h1
      | dead=>cases h1
      | cells vl vrw gv=>?_
      obtain ⟨hvrw,h2⟩:=qK h1
      subst hvrw
      obtain ⟨new,hnew,h3⟩:=jj h2
      obtain ⟨hm0,h4⟩:=TY h3
      clear h1 h2 h3
      have hm:0<m:=by
        rcases Nat.eq_zero_or_pos m with e | e
        · subst e; cases hm0
        · exact e
      simp only [okL,okv,and_true,true_and] at hok
      obtain ⟨hoks,hokv⟩:=hok
      have hvrow:=xE hr hokv hgv
      obtain ⟨n1,n2,n3⟩:=PM hvrow hnew
      have hvs:∀ (j:Nat) (u:Value),(new.map (iP M))[j]?=some u→w.cell? ⟨(M vb).blk,(M vb).base+voff+j,none⟩=some u:=fun j u hj=>by
        have:=n3 j u hj; rwa [KG] at this
      have h1v:∀ u∈new.map (iP M),u.oneCell'=true:=fun u hu=>by
        obtain ⟨c,hc,rfl⟩:=fY.1 hu
        exact G1 (n2 c hc).2
      have hvl:(new.map (iP M)).length=m:=by simp [n1]
      split at h4
      ·
        obtain ⟨hb,h5⟩:=qK h4
        rw [Heap.fP] at h5
        cases h5
        simp only [gl,Nat.beq_eq,Nat.ble_eq] at hb
        obtain ⟨rfl,hmost⟩:=hb
        have hcall:=Any2.slices_Insert_int_end_grow L none 0 0 (M vb).blk ((M vb).base+voff) m (m+ve+if vo then (M vb).slack else 0) [] (new.map (iP M)) w hm (gp _) (by omega) (by unfold I8 at hmost; omega) rfl hvl (fun _=>rfl) (fun a ha=>by cases ha) hvs h1v
        have hargs:(List.map (iP M) [AV.nilslice,.int .i64 (.ofNat 0),.slice vb voff m ve vo]).toArray = #[.slice none 0 0,.int .i64 (0:Nat),.slice (some ⟨(M vb).blk,(M vb).base+voff,none⟩) m (m+ve+if vo then (M vb).slack else 0)]:=by simp [iP,hvrow.at_at]
        rw [hargs]
        refine Calls.mono hcall fun e w' he=>?_
        obtain ⟨rfl,rfl⟩:=he
        have hcells:([]++new.map (iP M)).toArray++Builtin.zeroCells (Value.int .i64 0).cells (grownCap w (0+m) 0 (ρ.t 3)-(0+m))=([]:List Value).toArray++(new.map (iP M)).toArray++Builtin.zeroCells (Value.int .i64 0).cells (grownCap w (0+m) 0 (ρ.t 3)-(0+m)):=by simp
        rw [hcells]
        obtain ⟨r1,r2⟩:=hr.grown (e:=ρ.t 3) n2 (sz:=1) (n:=0+m) (cap:=grownCap w (0+m) 0 (ρ.t 3)) (rest:=Builtin.zeroCells (Value.int .i64 0).cells (grownCap w (0+m) 0 (ρ.t 3)-(0+m))) (old:=[]) (new:=new.map (iP M)) (by rw [n1]; simp) (by simp)
          ⟨grownCap_ge w _ _ _,by have:=grownCap_le_maxLen w (0+m) 0 (ρ.t 3) (by unfold I8 at hmost; unfold maxLen; omega); unfold maxLen at this; omega⟩ (by rw [BJ]; rfl)
        refine ⟨_,_,?_,r1,r2,by simp [okv]⟩
        simp only [iP,Mp.fR,Loc.at_mk,if_true]
        have:=grownCap_ge w (0+m) 0 (ρ.t 3)
        exact anO rfl (by omega) (by omega)
      · rename_i b off len ext
        obtain ⟨_,all,g,hg,h5⟩:=PG h4
        obtain ⟨hb,h6⟩:=qK h5
        obtain ⟨l,hl,h7⟩:=jj h6
        rw [aeF] at h7
        clear h4 h5 h6
        simp only [gl,Nat.beq_eq,Nat.ble_eq,Bool.not_eq_true',mU] at hb
        obtain ⟨⟨⟨⟨hg1,hall⟩,hile⟩,hmost⟩,hne⟩:=hb
        subst hg1
        have hne:vb≠b:=fun e=>by subst e; rw [show Nat.beq vb vb=true from Nat.beq_refl vb] at hne; cases hne
        split at h7
        case isFalse=>cases h7
        rw [Heap.fO,ou,ou,Heap.fP,aig] at h7
        cases h7
        simp only [okv] at hoks
        have hrow:=xE hr hoks hg
        obtain ⟨o1,o2,o3⟩:=PM hrow hl
        have hcs:∀ (j:Nat) (u:Value),(l.map (iP M))[j]?=some u→w.cell? ⟨(M b).blk,(M b).base+off+j,none⟩=some u:=fun j u hj=>by
          have:=o3 j u hj; rwa [KG] at this
        have h1c:∀ u∈l.map (iP M),u.oneCell'=true:=fun u hu=>by
          obtain ⟨c,hc,rfl⟩:=fY.1 hu
          exact G1 (o2 c hc).2
        have hcl:(l.map (iP M)).length=len:=by simp [o1]
        have hsl:=hrow.sl (by simp)
        have hown:∀ j,j<len+ext+(M b).slack→(w.cell? ⟨(M b).blk,(M b).base+off+j,none⟩).isSome=true∧w.frozen? ⟨(M b).blk,(M b).base+off+j,none⟩=false:=fun j hj=>by
          have:=hrow.own rfl (off+j) (by omega)
          rwa [← Nat.add_assoc] at this
        have hvb:(M vb).blk≠(M b).blk:=hr.inj vb b hokv hoks hne (by rw [hgv]; rfl) (by rw [hg]; trivial)
        have hok':∀ u∈l.take i++(new++l.drop i),okv D u∧u.fT=true:=fun u hu=>by
          simp only [gT] at hu
          rcases hu with hu | hu | hu
          · exact o2 u (List.mem_of_mem_take hu)
          · exact n2 u hu
          · exact o2 u (List.mem_of_mem_drop hu)
        have hflen:(l.take i++(new++l.drop i)).length=len+m:=by simp [o1,n1]; omega
        have hl1:(l.take i).length=i:=by rw [List.length_take]; omega
        have htake:∀ (j:Nat) (u:Value),((l.take i).map (iP M))[j]?=some u→j<i∧(l.map (iP M))[j]?=some u:=fun j u hj=>by
          rw [List.map_take,List.getElem?_take] at hj
          split at hj
          · exact ⟨by assumption,hj⟩
          · cases hj
        have hdrop:∀ (j:Nat) (u:Value),((l.drop i).map (iP M))[j]?=some u→(l.map (iP M))[i+j]?=some u:=fun j u hj=>by
          rw [List.map_drop,List.getElem?_drop] at hj; exact hj
        have hdl:((l.drop i).map (iP M)).length=len-i:=by simp [o1]
        by_cases hroom:len+m≤len+ext+(M b).slack
        ·
          have place:∀ W:World,(∀ c,c≠(M b).blk→W.heap[c]?=w.heap[c]?)→W.heap.size=w.heap.size→W.os=w.os→W.tape=w.tape→W.output=w.output→
              (∀ j u,((l.take i).map (iP M))[j]?=some u→W.cell? ⟨(M b).blk,(M b).base+off+j,none⟩=some u)→
              (∀ j u,(new.map (iP M))[j]?=some u→W.cell? ⟨(M b).blk,(M b).base+off+(i+j),none⟩=some u)→
              (∀ j u,((l.drop i).map (iP M))[j]?=some u→W.cell? ⟨(M b).blk,(M b).base+off+(i+m+j),none⟩=some u)→
              (∀ j,j<len+ext+(M b).slack→(W.cell? ⟨(M b).blk,(M b).base+off+j,none⟩).isSome=true∧W.frozen? ⟨(M b).blk,(M b).base+off+j,none⟩=false)→
              (∃ c e,W.heap[(M b).blk]?=some (.cells c e (0,0)))→
              fh M D H w (.slice H.nx 0 (len+m) 0 true) ((H.set b .dead).add (.cells (l.take i++(new++l.drop i)) true 1)) (.returned (.slice (some ⟨(M b).blk,(M b).base+off,none⟩) (len+m) (len+ext+(M b).slack))) W:=by
            intro W k1 k2 k3 k4 k5 b1 b2 b3 b4 b5
            have hrow':=ajz (H:=H) hr.dom hl1 n1 hok' b1 b2 b3 (cap:=len+ext+(M b).slack) (by rw [hflen]; exact hroom) (by omega) b4 (by rw [k2]; exact hrow.lt) b5
            obtain ⟨r1,r2⟩:=hr.move hoks (by rw [hg]; rfl) (.cells (l.take i++(new++l.drop i)) true 1) ⟨(M b).blk,(M b).base+off,len+ext+(M b).slack-(l.take i++(new++l.drop i)).length,none⟩ rfl hrow' k1 k2 k3 k4 k5
            refine ⟨_,_,?_,r1,r2,by simp [okv]⟩
            simp only [iP,Mp.fR,Loc.at_mk,if_true]
            exact anO (by simp) rfl (by rw [hflen]; omega)
          simp only [Heap.nx_set]
          by_cases hin:i=len
          ·
            subst hin
            have hcall:=Any2.slices_Insert_int_end_room L (M b).blk ((M b).base+off) i (i+ext+(M b).slack) (M vb).blk ((M vb).base+voff) m (m+ve+if vo then (M vb).slack else 0) (new.map (iP M)) w hm hroom (by omega) hvl
              (fun j hj=>by have:=(hown (i+j) (by omega)).1; rwa [← Nat.add_assoc] at this) (fun j hj=>by have:=(hown (i+j) (by omega)).2; rwa [← Nat.add_assoc] at this) hvs h1v
            have hargs:(List.map (iP M) [AV.slice b off i ext true,.int .i64 (.ofNat i),.slice vb voff m ve vo]).toArray = #[.slice (some ⟨(M b).blk,(M b).base+off,none⟩) i (i+ext+(M b).slack),.int .i64 i,.slice (some ⟨(M vb).blk,(M vb).base+voff,none⟩) m (m+ve+if vo then (M vb).slack else 0)]:=by simp [iP,hrow.at_at,hvrow.at_at]
            rw [hargs]
            refine Calls.mono hcall fun e w' he=>?_
            obtain ⟨rfl,rfl⟩:=he
            have hsome:∀ j,j<(new.map (iP M)).length→(w.cell? ⟨(M b).blk,(M b).base+off+i+j,none⟩).isSome=true:=fun j hj=>by
              have:=(hown (i+j) (by omega)).1; rwa [← Nat.add_assoc] at this
            refine place _ (fun c hc=>nZ _ _ _ _ _ hc) (qN _ _ _ _) (mD _ _ _ _).1 (mD _ _ _ _).2.1 (mD _ _ _ _).2.2 ?_ ?_ ?_ ?_ (yF _ _ _ _ (hrow.fz rfl))
            · intro j u hj
              obtain ⟨hji,hj'⟩:=htake j u hj
              rw [World.cell?_setCells_out _ _ _ _ _ (fun _ _=>by simp; omega)]
              exact hcs j u hj'
            · intro j u hj
              have hjl:=(gr.1 hj).1
              have:=World.cell?_setCells_in (M b).blk (new.map (iP M)) ((M b).base+off+i) w hsome j hjl
              rw [show (M b).base+off+(i+j)=(M b).base+off+i+j by omega,this]
              exact congrArg some (gr.1 hj).2
            · intro j u hj
              have hjl:=(gr.1 hj).1
              omega
            · intro j hj
              rw [World.frozen?_setCells]
              exact ⟨Go.Proofs.isSome_setCells _ _ _ _ hsome _ (hown j hj).1,(hown j hj).2⟩
          ·
            obtain ⟨tA,kA,s1,s2,s3⟩:=Qv (hvrow.fz rfl)
            obtain ⟨tB,kB,s4,s5,s6⟩:=Qv (hrow.fz rfl)
            have hcall:=Any2.slices_Insert_int_shift L (M b).blk ((M b).base+off) len (len+ext+(M b).slack) i (M vb).blk ((M vb).base+voff) m (m+ve+if vo then (M vb).slack else 0) (l.map (iP M)) (new.map (iP M)) w (by omega) hm hroom (by omega) hvb hcl hvl hcs
              (fun j hj=>(hown j (by omega)).1) (fun j hj=>(hown j (by omega)).2) hvs h1c h1v tA tB kA kB s1 s4 (s6 _ (hown 0 (by omega)).1) (s2 _) (s2 _)
            have hargs:(List.map (iP M) [AV.slice b off len ext true,.int .i64 (.ofNat i),.slice vb voff m ve vo]).toArray = #[.slice (some ⟨(M b).blk,(M b).base+off,none⟩) len (len+ext+(M b).slack),.int .i64 i,.slice (some ⟨(M vb).blk,(M vb).base+voff,none⟩) m (m+ve+if vo then (M vb).slack else 0)]:=by simp [iP,hrow.at_at,hvrow.at_at]
            rw [hargs]
            refine Calls.mono hcall fun e w' he=>?_
            obtain ⟨rfl,rfl⟩:=he
            rw [← List.map_drop]
            have hdr:∀ j,(w.drew.cell? ⟨(M b).blk,j,none⟩)=w.cell? ⟨(M b).blk,j,none⟩:=fun j=>rfl
            have hsome1:∀ j,j<((l.drop i).map (iP M)).length→(w.drew.cell? ⟨(M b).blk,(M b).base+off+(i+m)+j,none⟩).isSome=true:=fun j hj=>by
              rw [hdr]; have:=(hown (i+m+j) (by omega)).1; rwa [← Nat.add_assoc] at this
            have hsome2:∀ j,j<(new.map (iP M)).length→((w.drew.setCells (M b).blk ((M b).base+off+(i+m)) ((l.drop i).map (iP M))).cell? ⟨(M b).blk,(M b).base+off+i+j,none⟩).isSome=true:=fun j hj=>by
              refine Go.Proofs.isSome_setCells _ _ _ _ hsome1 _ ?_
              rw [hdr]; have:=(hown (i+j) (by omega)).1; rwa [← Nat.add_assoc] at this
            refine place _ (fun c hc=>(nZ _ _ _ _ _ hc).trans (nZ _ _ _ _ _ hc)) ((qN _ _ _ _).trans (qN _ _ _ _))
              ((mD _ _ _ _).1.trans (mD _ _ _ _).1) ((mD _ _ _ _).2.1.trans (mD _ _ _ _).2.1) ((mD _ _ _ _).2.2.trans (mD _ _ _ _).2.2) ?_ ?_ ?_ ?_ (yF _ _ _ _ (yF _ _ _ _ (hrow.fz rfl)))
            · intro j u hj
              obtain ⟨hji,hj'⟩:=htake j u hj
              rw [World.cell?_setCells_out _ _ _ _ _ (fun _ _=>by simp; omega),World.cell?_setCells_out _ _ _ _ _ (fun _ _=>by simp; omega)]
              exact hcs j u hj'
            · intro j u hj
              have hjl:=(gr.1 hj).1
              have:=World.cell?_setCells_in (M b).blk (new.map (iP M)) ((M b).base+off+i) _ hsome2 j hjl
              rw [show (M b).base+off+(i+j)=(M b).base+off+i+j by omega,this]
              exact congrArg some (gr.1 hj).2
            · intro j u hj
              have hjl:=(gr.1 hj).1
              rw [World.cell?_setCells_out _ _ _ _ _ (fun _ _=>by simp; omega)]
              have:=World.cell?_setCells_in (M b).blk ((l.drop i).map (iP M)) ((M b).base+off+(i+m)) _ hsome1 j hjl
              rw [show (M b).base+off+(i+m+j)=(M b).base+off+(i+m)+j by omega,this]
              exact congrArg some (gr.1 hj).2
            · intro j hj
              rw [World.frozen?_setCells,World.frozen?_setCells]
              exact ⟨Go.Proofs.isSome_setCells _ _ _ _ hsome2 _ (Go.Proofs.isSome_setCells _ _ _ _ hsome1 _ (hown j hj).1),(hown j hj).2⟩
        ·
          have hmost':len+m≤1048576:=hmost
          obtain ⟨k1,k2⟩:=hr.turn hoks (by rw [hg]; rfl) .dead (w':=w) trivial (fun _ _=>rfl) rfl rfl rfl rfl
          exact ae7 L hrow.plain hvrow.plain k1 k2 (by simp) hm hile hmost' hroom o1 n1 hok' hcs hvs h1c h1v
      · rename_i b off len ext
        obtain ⟨y,hg,h5⟩:=jj h4
        cases y with
        | mp es=>cases h5
        | dead=>cases h5
        | cells all rw_ g=>
          obtain ⟨hb,h6⟩:=qK h5
          obtain ⟨l,hl,h7⟩:=jj h6
          rw [aeF] at h7
          clear h4 h5 h6
          simp only [gl,Nat.ble_eq,Nat.blt_eq,mU] at hb
          obtain ⟨⟨⟨hall,hile⟩,hmost⟩,hroom⟩:=hb
          split at h7
          case isFalse=>cases h7
          rw [ou,ou,Heap.fP,aig] at h7
          cases h7
          simp only [okv] at hoks
          have hrow:=xE hr hoks hg
          obtain ⟨o1,o2,o3⟩:=PM hrow hl
          have hcs:∀ (j:Nat) (u:Value),(l.map (iP M))[j]?=some u→w.cell? ⟨(M b).blk,(M b).base+off+j,none⟩=some u:=fun j u hj=>by
            have:=o3 j u hj; rwa [KG] at this
          have h1c:∀ u∈l.map (iP M),u.oneCell'=true:=fun u hu=>by
            obtain ⟨c,hc,rfl⟩:=fY.1 hu
            exact G1 (o2 c hc).2
          have hok':∀ u∈l.take i++(new++l.drop i),okv D u∧u.fT=true:=fun u hu=>by
            simp only [gT] at hu
            rcases hu with hu | hu | hu
            · exact o2 u (List.mem_of_mem_take hu)
            · exact n2 u hu
            · exact o2 u (List.mem_of_mem_drop hu)
          exact ae7 L (cap:=len+ext) hrow.plain hvrow.plain hr .refl (by simp) hm hile hmost (by omega) o1 n1 hok' hcs hvs h1c h1v
      · cases h4
    · cases hr'
  · cases h
end
end Go.Ai
/- A call of plain values whose run from an empty heap is known: it answers so from every heap. -/
namespace Go.Ai
theorem Ext.of_below' {M:Mp} {D:Nat→Prop} {K:Heap} {w W:World} (hs:w.heap.size≤W.heap.size) (hf:∀ c,c<w.heap.size→W.heap[c]?=w.heap[c]?) (ho:W.os=w.os) (ht:W.tape=w.tape) (hp:W.output=w.output):Ext M D K w M D K W:={
  keep:=fun _ h=>h
  agree:=fun _ _=>rfl
  old:=fun _ h _=>h
  nx:=gp _
  wrm:=fun _ _ h=>h
  newb:=fun _ h hn=>(hn h).elim
  frame:=fun c hc _=>hf c hc
  unm:=fun _ _ _=>rfl
  size:=hs
  os:=ho
  tape:=ht
  output:=hp }
theorem Rel.of_below' {M:Mp} {D:Nat→Prop} {K:Heap} {w W:World} (hr:Rel M D K w) (hs:w.heap.size≤W.heap.size) (hf:∀ c,c<w.heap.size→W.heap[c]?=w.heap[c]?):Rel M D K W:=
  ⟨hr.dom,fun b hb=>(hr.blk b hb).keep (fun _ h=>h) (fun _ _=>rfl) (fun hl=>hf _ ((hr.blk b hb).lt hl)) hs,hr.inj⟩
def QS:AV→Bool
  | .int _ _=>true
  | .bool _=>true
  | .str _=>true
  | _=>false
def anG:AV→Bool
  | .tuple l=>l.all QS
  | v=>QS v
theorem amE {v:AV} (h:QS v=true) (M M':Mp):iP M v=iP M' v:=by cases v<;>first | rfl | cases h
theorem aeG {v:AV} (h:QS v=true) (D:Nat→Prop):okv D v:=by cases v<;>first | exact trivial | (simp [okv]; done) | cases h
theorem alI {v:AV} (h:anG v=true) (M M':Mp):iP M v=iP M' v:=by
  cases v with
  | tuple l=>
    have h:l.all QS=true:=h
    simp only [iP,oS]
    congr 2
    exact List.map_congr_left fun x hx=>amE (gW.1 h x hx) M M'
  | int _ _=>rfl
  | bool _=>rfl
  | str _=>rfl
  | _=>cases h
theorem ao6 {v:AV} (h:anG v=true) (D:Nat→Prop):okv D v:=by
  cases v with
  | tuple l=>
    have h:l.all QS=true:=h
    simp only [okv]
    exact (qT D _).2 fun x hx=>aeG (gW.1 h x hx) D
  | int _ _=>simp [okv]
  | bool _=>simp [okv]
  | str _=>simp [okv]
  | _=>cases h
noncomputable def sameV:AV→AV→Bool
  | .int q a,.int q' b=>ikN q==ikN q'&&decide (a=b)
  | .bool a,.bool b=>a==b
  | _,_=>false
noncomputable def sameL (l:List AV):List AV→Bool:=List.rec (motive:=fun _=>List AV→Bool) (fun l'=>List.rec (motive:=fun _=>Bool) true (fun _ _ _=>false) l')
  (fun a _ ih l'=>List.rec (motive:=fun _=>Bool) false (fun b t _=>andB (sameV a b) (ih t)) l') l
theorem sameV_ok {a b:AV} (h:sameV a b=true):a=b:=by
  unfold sameV at h
  split at h
  · simp only [gl,ga,gn] at h
    rename_i q a q' b
    have:q=q':=akW (by show Nat.beq _ _=true; rw [h.1]; exact Nat.beq_refl _)
    rw [this,h.2]
  · simp only [ga] at h; rw [h]
  · cases h
theorem amY:∀ {l l':List AV},sameL l l'=true→l=l'
  | [],[],_=>rfl
  | [],_::_,h=>by cases h
  | _::_,[],h=>by cases h
  | a::l,b::l',h=>by
    have h0:andB (sameV a b) (sameL l l')=true:=h
    rw [Yf,gl] at h0
    rw [sameV_ok h0.1,amY h0.2]
noncomputable def aiq (vs:List AV) (u:AV) (args:List AV) (H:Heap):ab:=ifB (sameL vs args) (.ret u H) .err
theorem aj9 {vs:List AV} {u:AV} {args:List AV} {H H':Heap} {v:AV} (h:aiq vs u args H = .ret v H'):args=vs∧v=u∧H'=H:=by
  unfold aiq at h
  rw [anA] at h
  split at h
  · rename_i hs
    cases h
    exact ⟨(amY hs).symm,rfl,rfl⟩
  · cases h
theorem anR {vs:List AV} {u:AV} {args:List AV} {H H':Heap} {v:AV} (h:aiq vs u args H = .ret v H'):eo H H':=by
  obtain ⟨_,_,rfl⟩:=aj9 h
  exact .refl
theorem memo_of {P:Program} {tbl:Tr AFn} (T:fq P tbl) {N f:Nat} {vs:List AV} {u:AV} {H₁:Heap} (hv:vs.all QS=true) (hu:anG u=true)
    (h1:call tbl N (.func f [] []) vs ⟨.leaf,0,0⟩ = .ret u H₁):fx P f (aiq vs u):=by
  intro args H v H' hg M D w hp hr hok
  obtain ⟨rfl,rfl,rfl⟩:=aj9 hg
  obtain ⟨f',first,cap,hfv,hc⟩:=akC T N _ _ _ _ _ h1
  cases hfv
  have hge:∀ b,(⟨.leaf,0,0⟩:Heap).get b=none:=fun b=>Tr.fS _
  have hr0:Rel M (fun _=>False) ⟨.leaf,0,0⟩ w:=⟨fun _ h=>h.elim,fun _ h=>h.elim,fun _ _ h=>h.elim⟩
  obtain ⟨_,hcalls⟩:=hc M (fun _=>False) w ⟨gp _,fun b hb=>by rw [hge] at hb; exact hb.1.elim⟩ hr0
    ((qT _ _).2 fun x hx=>by
      have hx':x∈args:=by simpa using hx
      exact aeG (gW.1 hv x hx') _)
  refine Calls.mono (by simpa using hcalls) fun e w' hpost=>?_
  obtain ⟨M',D',he,_,hx,_⟩:=hpost
  have hfr:∀ c,c<w.heap.size→w'.heap[c]?=w.heap[c]?:=fun c hc=>hx.frame c hc fun _ h=>h.elim
  exact ⟨M,D,by rw [he,alI hu M' M],hr.of_below' hx.size hfr,Ext.of_below' hx.size hfr hx.os hx.tape hx.output,ao6 hu D⟩
end Go.Ai
