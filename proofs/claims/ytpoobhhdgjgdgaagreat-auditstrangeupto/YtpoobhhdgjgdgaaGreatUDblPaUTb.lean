/- 'seen[k]++; return seen[k] > 1' at this program, k two numbers. -/
import Derived.Test.YtpoobhhdgjgdgaaGreatAiMemoSPaUPrims
import Derived.Test.YtpoobhhdgjgdgaaGreatVA23Least
import Derived.WalkKit
import Derived.OwnWalk
import Derived.WideKeyEntry
import Derived.Test.YtpoobhhdgjgdgaaGreatProg
import Derived.Shelf.SlSortCmp.NoneTotal
import Derived.Test.YtpoobhhdgjgdgaaGreatPaUText
import Derived.Test.YtpoobhhdgjgdgaaGreatAiTblKs
import Derived.KernelRfl
set_option linter.all false
namespace Go.Proofs.YtpoobhhdgjgdgaaGreat.dbl
open Go.RowKit Go.Maps Go.Sort Go.Shelf Go.Ai Go.Proofs
theorem inv {vs:List AV} {H H':Ai.Heap} {v:AV} (h:dblG vs H = .ret v H'):∃ (a b:Int) (p off m:Nat) (l:List AV) (es es':List (AV × AV)) (r:Option AV) (c:Int),vs = [.agg [.int .i64 a,.int .i64 b],.ptr p off]∧sm H p=some l∧l[off]?=some (.map m)∧H.ro≤m∧Jg H m=some es∧
    Gj (.agg [.int,.int]) (.agg [.int .i64 a,.int .i64 b]) es=some r∧((r=none∧c=0)∨r=some (.int .i64 c))∧Tx (.agg [.int,.int]) (.agg [.int .i64 a,.int .i64 b]) (.int .i64 (IntKind.i64.wrap (c+1))) es=some es'∧v = .bool (decide (1<IntKind.i64.wrap (c+1)))∧H'=H.set m (.mp es'):=by
  unfold dblG at h
  split at h
  · rename_i v0 H0 h0
    cases h
    unfold dblO at h0
    split at h0
    · rename_i a b p off
      split at h0
      · rename_i l hl
        split at h0
        · rename_i m hm
          split at h0
          · rename_i es hb hes
            have hro:H.ro≤m:=by
              rw [blt_eq,f8] at hb
              omega
            split at h0
            · rename_i hf
              split at h0
              · rename_i es' hp
                cases h0
                exact ⟨a,b,p,off,m,l,es,es',none,0,rfl,hl,hm,hro,hes,hf,.inl ⟨rfl,rfl⟩,hp,rfl,rfl⟩
              · cases h0
            · rename_i c hf
              split at h0
              · rename_i es' hp
                cases h0
                exact ⟨a,b,p,off,m,l,es,es',_,c,rfl,hl,hm,hro,hes,hf,.inr rfl,hp,rfl,rfl⟩
              · cases h0
            · cases h0
          · cases h0
        · cases h0
      · cases h0
    · cases h0
  · cases h
theorem mod_born (l:List MapEntry) (j:Nat) (g:MapEntry→MapEntry) (hg:∀ e,(g e).born=e.born):(l.modify j g).map (·.born)=l.map (·.born):=by
  refine List.ext_getElem? fun i=>?_
  simp only [gy,List.getElem?_modify]
  split
  · cases l[i]?<;>simp [hg]
  · simp
theorem mod_mod (l:List MapEntry) (j:Nat) (f g:MapEntry→MapEntry):(l.modify j f).modify j g=l.modify j (fun e=>g (f e)):=by
  refine List.ext_getElem? fun i=>?_
  simp only [List.getElem?_modify]
  split
  · cases l[i]?<;>simp
  · cases l[i]?<;>simp
theorem ah6 {l:List MapEntry} {c:Nat} (h:dR l c):(l.map (·.born)).Nodup:=by
  refine List.Pairwise.map _ (fun a b (h:a.born<b.born)=>?_) h.1
  omega
theorem ap6 {P:Program} {M:Mp} {D:Nat→Prop} {kt:TypeId} {kk:dh} (hk:eQ P kt kk) {k xo:AV}:∀ {es:List (AV × AV)} {ms:List MapEntry} (i:Nat),cZ M D es ms→Gj kk k es=some (some xo)→∃ j m0,eP P kt kk (im M k) ms i (some (i+j,im M xo))∧ms[j]?=some m0∧m0.val=im M xo
  | [],[],_,_,h=>by
    have h':some none=some (some xo):=h
    cases h'
  | e::es,m::ms,i,hE,h=>by
    obtain ⟨⟨e1,e2,e3,e4⟩,hE'⟩:=hE
    rcases ahR h with ⟨hq,hr⟩ | ⟨hq,h'⟩
    · have hr:e.2=xo:=by simpa using hr.symm
      subst hr
      refine ⟨0,m,?_,rfl,e2⟩
      have:=eP.hit (M:=M) hk hq (ms:=ms) (i:=i) e1
      rwa [e2] at this
    · obtain ⟨j,m0,g1,g2,g3⟩:=ap6 hk (i+1) hE' h'
      exact ⟨j+1,m0,.miss hk hq e1 (by rw [show i+(j+1)=i+1+j by omega]; exact g1),by simpa using g2,g3⟩
  | [],_::_,_,h,_=>h.elim
  | _::_,[],_,h,_=>h.elim
theorem akH {kk:dh} {k x y:AV}:∀ {es r:List (AV × AV)},Tx kk k x es=some r→∃ r',Tx kk k y es=some r'
  | [],_,_=>⟨_,rfl⟩
  | e::es,r,h=>by
    rcases adz h with ⟨hq,rfl⟩ | ⟨hq,t,ht,rfl⟩
    · refine ⟨(k,y)::es,?_⟩
      show (Option.casesOn (oh kk k e.1) none fun b=>Bool.casesOn b _ (some ((k,y)::es)):Option (List (AV × AV)))=_
      rw [hq]
    · obtain ⟨r',hr'⟩:=akH (y:=y) ht
      refine ⟨e::r',?_⟩
      show (Option.casesOn (oh kk k e.1) none fun b=>Bool.casesOn b (Option.casesOn (Tx kk k y es) none fun t'=>some (e::t')) _:Option (List (AV × AV)))=_
      rw [hq,hr']
theorem aoC {P:Program} {M:Mp} {D:Nat→Prop} {w:World} {t kt e:TypeId} {kk:dh} (hu:P.underlying t=some (.map kt e)) (hk:eQ P kt kk) {z:Value} (hz:∀ u:World,(zeroValue e).run P u = .ok z u) {b:Nat} {ms:Array MapEntry} {clock:Nat} (hb:w.heap[b]?=some (.map ms clock))
    {es r:List (AV × AV)} {k x:AV} {sb:Bool} (hE:cZ M D es ms.toList) (hB:dR ms.toList clock) (hsb:oh kk k k=some sb) (ok:okv D k) (ox:okv D x) (hp:Tx kk k x es=some r) {xo:AV} (oxo:okv D xo) {ro:Option AV} (hf:Gj kk k es=some ro) (hzo:(ro=none∧z=im M xo)∨ro=some xo) :
    ∃ v0 st ms1 c1 ms' c' es1,Tx kk k xo es=some es1∧cZ M D es1 ms1.toList∧(Instr.mapEntry t (.map (some b)) (im M k)).run P w = .ok (.tuple #[v0,goInt st]) { w with heap:=w.heap.setIfInBounds b (.map ms1 c1) }∧
      (∀ w2:World,w2.heap[b]?=some (.map ms1 c1)→(Instr.entryStore t (.map (some b)) (goInt st) (im M x)).run P w2 = .ok () { w2 with heap:=w2.heap.setIfInBounds b (.map ms' c') })∧cZ M D r ms'.toList∧dR ms'.toList c':=by
  obtain ⟨es1,hp1⟩:=akH (y:=xo) hp
  obtain ⟨q1,q2⟩:=Vh (P:=P) (w:=w) (M:=M) hk hE hf
  rcases adC (M:=M) (D:=D) hk ok ox 0 hE hB hp with ⟨f1,f2,f3⟩ | ⟨j,y,f1,⟨m0,f5,f6⟩,f3,f4⟩
  · have hfk:(Instr.findKey kt (im M k) ms.toList).run P w = .ok none w:=f1.run hk
    have hz':z=im M xo:=by
      rcases hzo with ⟨_,h⟩ | h
      · exact h
      · obtain ⟨_,j,hj,_⟩:=q2 _ h
        rw [hfk] at hj
        cases hj
    have hE1:cZ M D es1 (ms.push ⟨im M k,z,clock⟩).toList:=by
      rcases adC (M:=M) (D:=D) hk ok oxo 0 hE hB hp1 with ⟨_,g2,_⟩ | ⟨j,y,g1,_⟩
      · rw [hz',Array.toList_push]; exact g2
      · have:=hfk.symm.trans (g1.run hk)
        cases this
    refine ⟨z,clock,ms.push ⟨im M k,z,clock⟩,clock+1,ms.push ⟨im M k,im M x,clock⟩,clock+1,es1,hp1,hE1,?_,fun w2 h2=>?_,by simpa using f2,by simpa using f3⟩
    · simp only [Instr.mapEntry,Sem.run_bind,run_underlying hu,Result.andThen_ok,qk hb,mX (M:=M) hk hsb,hfk,hz,wX hb,Sem.run_pure]
    · have hidx:(ms.push ⟨im M k,z,clock⟩).findIdx? (fun e=>((e.born:Nat):Int)==((clock:Nat):Int))=some ms.size:=by
        rw [WideElems.findIdx_arr]
        have hn:((ms.push ⟨im M k,z,clock⟩).toList.map (·.born)).Nodup:=by
          rw [Array.toList_push,gx]
          refine List.nodup_append.2 ⟨ah6 hB,by simp,fun a ha c hc e1=>?_⟩
          obtain ⟨q,hq,rfl⟩:=fJ.1 ha
          simp at hc
          have:=hB.2 q hq
          omega
        exact WideElems.findIdx_born (e0:=⟨im M k,z,clock⟩) hn (by simp)
      have hmod:(ms.push ⟨im M k,z,clock⟩).modify ms.size (fun e=>{ e with val:=im M x })=ms.push ⟨im M k,im M x,clock⟩:=by
        apply Array.toList_inj.1
        rw [Array.toList_modify,Array.toList_push,Array.toList_push]
        exact WideElems.modify_last _ _ _
      have ha:(asInt (goInt clock)).run P w2 = .ok ((clock:Nat):Int) w2:=by simp [asInt,asIntOf,goInt,Result.andThen]
      simp only [Instr.entryStore,Sem.run_bind,Result.andThen_ok,qk h2,ha,hidx,wX h2,hmod]
  · have f1':eP P kt kk (im M k) ms.toList 0 (some (j,y)):=by rw [Nat.zero_add] at f1; exact f1
    have hfk:(Instr.findKey kt (im M k) ms.toList).run P w = .ok (some (j,y)) w:=f1'.run hk
    have hmj:ms[j]?=some m0:=by simpa using f5
    have hold:((ms[j]?).map (·.key)).getD (im M k)=im M k:=by simp [hmj,f6]
    have hbo:((ms[j]?).map (fun x=>(x.born:Int))).getD 0=(m0.born:Int):=by simp [hmj]
    have hks:(Instr.keyThatStays (im M k) (im M k)).run P w = .ok (im M k) w:=by
      simp [Instr.keyThatStays,YU (M:=M) hsb]
    have hl:∀ l,l=(ms.modify j fun e=>{ e with key:=im M k }).modify j (fun e=>{ e with val:=im M x })→l.toList=ms.toList.modify j fun e=>{ e with key:=im M k,val:=im M x }:=by
      rintro _ rfl
      rw [Array.toList_modify,Array.toList_modify,mod_mod]
    have hy:m0.val=im M xo:=by
      rcases hzo with ⟨h,_⟩ | h
      · have:=(q1 h).symm.trans hfk
        cases this
      · rcases adC (M:=M) (D:=D) hk ok oxo 0 hE hB hp1 with ⟨g1,_,_⟩ | ⟨j2,y2,g1,⟨m2,g5,g6⟩,_⟩
        · have:=(g1.run hk (w:=w)).symm.trans hfk
          cases this
        · obtain ⟨j3,m3,k1,k2,k3⟩:=ap6 (M:=M) hk 0 hE (by rw [hf,h])
          rw [Nat.zero_add] at k1
          have:=(k1.run hk (w:=w)).symm.trans hfk
          simp at this
          obtain ⟨rfl,_⟩:=this
          rw [f5] at k2
          cases k2
          exact k3
    have hE1:cZ M D es1 (ms.modify j fun e=>{ e with key:=im M k }).toList:=by
      rcases adC (M:=M) (D:=D) hk ok oxo 0 hE hB hp1 with ⟨g1,_,_⟩ | ⟨j2,y2,g1,⟨m2,g5,g6⟩,g3,_⟩
      · have:=(g1.run hk (w:=w)).symm.trans hfk
        cases this
      · have hj2:j2=j:=by
          have:=(g1.run hk (w:=w)).symm.trans hfk
          simp at this
          exact this.1
        subst hj2
        rw [Array.toList_modify]
        have e0:(ms.toList.modify j2 fun e=>{ e with key:=im M k })=ms.toList.modify j2 fun e=>{ e with key:=im M k,val:=im M xo }:=by
          refine List.ext_getElem? fun i=>?_
          simp only [List.getElem?_modify]
          split
          · rename_i hi
            subst hi
            rw [f5]
            simp [hy]
          · rfl
        rw [e0]; exact g3
    refine ⟨y,m0.born,ms.modify j fun e=>{ e with key:=im M k },clock,_,clock,es1,hp1,hE1,?_,fun w2 h2=>?_,by rw [hl _ rfl]; exact f3,by rw [hl _ rfl]; exact f4⟩
    · simp only [Instr.mapEntry,Sem.run_bind,run_underlying hu,Result.andThen_ok,qk hb,mX (M:=M) hk hsb,hfk,hold,hbo,hks,wX hb,Sem.run_pure]
    · have hidx:(ms.modify j fun e=>{ e with key:=im M k }).findIdx? (fun e=>((e.born:Nat):Int)==((m0.born:Nat):Int))=some j:=by
        rw [WideElems.findIdx_arr,Array.toList_modify]
        refine WideElems.findIdx_born (e0:={ m0 with key:=im M k }) (by rw [mod_born _ _ (fun e=>{ e with key:=im M k }) fun e=>rfl]; exact ah6 hB) ?_
        rw [List.getElem?_modify,f5]
        simp
      have ha:(asInt (goInt m0.born)).run P w2 = .ok ((m0.born:Nat):Int) w2:=by simp [asInt,asIntOf,goInt,Result.andThen]
      simp only [Instr.entryStore,Sem.run_bind,Result.andThen_ok,qk h2,ha,hidx,wX h2]
theorem enters39:Ai.Enters Tryz.prog 39:=⟨Tryz.f39,Tryz.func39,by kernel_rfl,by kernel_rfl⟩
theorem alt:eQ Tryz.prog 79 (.agg [.int,.int]):=agG (by kernel_rfl)
theorem zero3 (u:World):(zeroValue 3).run Tryz.prog u = .ok (.int .i64 0) u:=zQ (M:=fun _=>⟨0,0,0,none⟩) (a:=.int .i64 0) (by kernel_rfl)
theorem Zt {M:Mp} {D:Nat→Prop} {w:World} {b:Nat} {ms:Array MapEntry} {clock:Nat} (hb:w.heap[b]?=some (.map ms clock)) {es:List (AV × AV)} {k:AV} {r:Option AV} {sb:Bool} {c:Int} (hE:cZ M D es ms.toList) (hsb:oh (.agg [.int,.int]) k k=some sb) (hf:Gj (.agg [.int,.int]) k es=some r) (hr:(r=none∧c=0)∨r=some (.int .i64 c)) :
    (Instr.lookup 108 (.map (some b)) (im M k) false).run Tryz.prog w = .ok (.int .i64 c) w:=by
  obtain ⟨g1,g2⟩:=Vh (P:=Tryz.prog) (w:=w) alt hE hf
  rcases hr with ⟨rfl,rfl⟩ | rfl
  · simp [Instr.lookup,run_underlying Tryz.underlying108,qk hb,mX (M:=M) alt hsb,g1 rfl,zero3,Result.andThen]
  · obtain ⟨_,j,hj,_⟩:=g2 _ rfl
    simp [Instr.lookup,run_underlying Tryz.underlying108,qk hb,mX (M:=M) alt hsb,hj,im,Result.andThen]
theorem aci {kk:dh} {k x:AV}:∀ {es r:List (AV × AV)},Tx kk k x es=some r→oh kk k k=some true→Gj kk k r=some (some x)
  | [],r,h,hk=>by
    have:some [(k,x)]=some r:=h
    cases this
    show (Option.casesOn (oh kk k k) none fun b=>Bool.casesOn b _ (some (some x)):Option (Option AV))=_
    rw [hk]
  | e::es,r,h,hk=>by
    rcases adz h with ⟨hq,rfl⟩ | ⟨hq,t,ht,rfl⟩
    · show (Option.casesOn (oh kk k k) none fun b=>Bool.casesOn b _ (some (some x)):Option (Option AV))=_
      rw [hk]
    · show (Option.casesOn (oh kk k e.1) none fun b=>Bool.casesOn b (Gj kk k t) (some (some e.2)):Option (Option AV))=_
      rw [hq]
      exact aci ht hk
set_option maxRecDepth 100000 in
set_option maxHeartbeats 2000000 in
theorem dbl_ok:acZ Tryz.prog 39 dblG:=by
  intro vs H v H' h M D w hp hr hok
  obtain ⟨a,b,p,off,m,l,es,es',r,c,rfl,hl,hlm,hro,hes,hf,hrc,hput,rfl,rfl⟩:=inv h
  have hDp:D p:=by
    have:=(nL _ _).1 hok (.ptr p off) (by simp)
    simpa [okv] using this
  obtain ⟨rw_,g,hgp⟩:=CS hl
  have hrow:=xM hr hDp hgp
  obtain ⟨hc1,_,hokm⟩:=hrow.at_ off _ hlm
  have hDm:D m:=by simpa [okv] using hokm
  have hgm:=Jo hes
  obtain ⟨ms,clock,m1,m2,m3⟩:=(aiX hr hDm hgm).at_
  have hat:=hrow.at_at off
  have hsb:oh (.agg [.int,.int]) (.agg [.int .i64 a,.int .i64 b]) (.agg [.int .i64 a,.int .i64 b])=some true:=by
    show mR [.int,.int] [.int .i64 a,.int .i64 b] [.int .i64 a,.int .i64 b]=_
    have:∀ q:Int,ww .int (.int .i64 q) (.int .i64 q)=some true:=fun q=>by simp [ww,JQ]
    simp [mR,this]
  have hargs:(List.map (im M) [AV.agg [.int .i64 a,.int .i64 b],AV.ptr p off]).toArray = #[.agg #[.int .i64 a,.int .i64 b],.pointer (some ⟨(M p).blk,(M p).base+off,none⟩)]:=by simp [im,pQ,hat]
  rw [hargs]
  generalize (M p).base+off=q at *
  have hc1':w.cell? ⟨(M p).blk,q,none⟩=some (.map (some (M m).blk)):=hc1
  have hbm:(M m).blk<w.heap.size:=(fM.1 m1).1
  have hpm:(M p).blk≠(M m).blk:=fun e=>by
    have h1:=hc1'
    simp only [World.cell?,e,m1] at h1
    cases h1
  have hpl:(M p).blk<w.heap.size:=hrow.lt
  generalize hW0:(w.alloc (.cells #[.int .i64 a,.int .i64 b] 79)).drew=W0
  have a1:W0.heap=w.heap.push (.cells #[.int .i64 a,.int .i64 b] 79):=by rw [← hW0]; rfl
  have hb0:W0.heap[(M m).blk]?=some (.map ms clock):=by rw [a1,Array.getElem?_push_lt hbm, ← Array.getElem?_eq_getElem hbm]; exact m1
  have okk:okv D (.agg [.int .i64 a,.int .i64 b]):=by simp [okv,okL,AV.fD]
  have okx:okv D (.int .i64 (IntKind.i64.wrap (c+1))):=by simp [okv]
  have oko:okv D (.int .i64 c):=by simp [okv]
  obtain ⟨v0,st,ms1,cc1,ms',cc',es1,hp1,hE1,e1,e2,e3,e4⟩:=aoC (M:=M) (D:=D) (w:=W0) Tryz.underlying108 alt zero3 hb0 m2 m3 hsb okk okx hput oko hf (hrc.imp (fun h=>⟨h.1,by rw [h.2]; rfl⟩) id)
  have hL:=Zt (M:=M) hb0 m2 hsb hf hrc
  generalize hW1:({ W0 with heap:=W0.heap.setIfInBounds (M m).blk (.map ms1 cc1) }:World)=W1 at e1
  have hb0l:(M m).blk<W0.heap.size:=(fM.1 hb0).1
  have hb1:W1.heap[(M m).blk]?=some (.map ms1 cc1):=by rw [← hW1]; simp [hb0l]
  have e2':=e2 W1 hb1
  generalize hW2:({ W1 with heap:=W1.heap.setIfInBounds (M m).blk (.map ms' cc') }:World)=W2 at e2'
  have hb1l:(M m).blk<W1.heap.size:=(fM.1 hb1).1
  have hb2:W2.heap[(M m).blk]?=some (.map ms' cc'):=by rw [← hW2]; simp [hb1l]
  have hh2:W2.heap=W0.heap.setIfInBounds (M m).blk (.map ms' cc'):=by rw [← hW2, ← hW1]; simp
  have hL2:=Zt (M:=M) (c:=IntKind.i64.wrap (c+1)) hb2 e3 hsb (aci hput hsb) (.inr rfl)
  have hcW0:W0.cell? ⟨(M p).blk,q,none⟩=some (.map (some (M m).blk)):=by
    have:=hc1'
    simp only [World.cell?,a1] at this ⊢
    rw [Array.getElem?_push_lt hpl, ← Array.getElem?_eq_getElem hpl]; exact this
  have hcW2:W2.cell? ⟨(M p).blk,q,none⟩=some (.map (some (M m).blk)):=by
    have:=hcW0
    simp only [World.cell?,hh2] at this ⊢
    rw [KF hpm]; exact this
  have hn0:W0.cell? ⟨w.heap.size,0,none⟩=some (.int .i64 a):=by simp [World.cell?,a1]
  have hn1:W0.cell? ⟨w.heap.size,1,none⟩=some (.int .i64 b):=by simp [World.cell?,a1]
  have hnm:w.heap.size≠(M m).blk:=by omega
  have hk0:W2.cell? ⟨w.heap.size,0,none⟩=some (.int .i64 a):=by
    have:=hn0
    simp only [World.cell?,hh2] at this ⊢
    rw [KF hnm]; exact this
  have hk1:W2.cell? ⟨w.heap.size,1,none⟩=some (.int .i64 b):=by
    have:=hn1
    simp only [World.cell?,hh2] at this ⊢
    rw [KF hnm]; exact this
  have hL1:=Zt (M:=M) (c:=c) hb1 hE1 hsb (aci hp1 hsb) (.inr rfl)
  simp only [im,pQ,goInt] at hL hL1 hL2 e1 e2'
  have r0:Rel M D H W0∧Ext M D H w M D H W0:=by
    have hb:∀ c,c<w.heap.size→W0.heap[c]?=w.heap[c]?:=fun c hc=>by rw [a1,Array.getElem?_push_lt hc, ← Array.getElem?_eq_getElem hc]
    have hs:w.heap.size≤W0.heap.size:=by rw [a1,Array.size_push]; omega
    refine ⟨⟨hr.dom,fun b hD=>(hr.blk b hD).keep (fun _ h=>h) (fun _ _=>rfl) (fun hl=>hb _ ((hr.blk b hD).lt hl)) hs,hr.inj⟩,?_⟩
    exact { (Ext.refl:Ext M D H w M D H w) with frame:=fun c hc _=>hb c hc,size:=hs,os:=by rw [← hW0]; rfl,tape:=by rw [← hW0]; rfl,output:=by rw [← hW0]; rfl }
  obtain ⟨r1,r2⟩:=r0.1.setMap hDm hgm e3 e4
  have hW2e:W2 = { W0 with heap:=W0.heap.setIfInBounds (M m).blk (.map ms' cc') }:=by rw [← hW2, ← hW1]; simp
  rw [← hW2e] at r1 r2
  have fin:∀ val,val=Value.bool (decide (1<IntKind.i64.wrap (c+1)))→aaN M D H w (AV.bool (decide (1<IntKind.i64.wrap (c+1)))) (H.set m (Blk.mp es')) (Ending.returned val) W2:=fun val hv=>⟨M,D,by rw [hv]; rfl,r1,r0.2.trans r2,by simp [okv]⟩
  clear hW2e r0 r1 r2 e2
  go_enter Tryz.func39,Tryz.ntmps39
  go_wp2
  go_region
  all_goals go_wp2
  all_goals go_ret
  all_goals exact fin _ (by show Value.bool (decide (1<wrap64 (c+1)))=_; rw [IntKind.wrap_i64]; unfold wrap64; rfl)
end Go.Proofs.YtpoobhhdgjgdgaaGreat.dbl
/- The shelf's numbers of slices.SortFunc at this program. -/
namespace Go.Proofs
open Go.Shelf
def Tryz.laysSF_ren:Go.Shelf.Ren:=⟨fun | 6=>82 | 14=>97 | 15=>98 | 20=>99 | 21=>100 | 22=>101 | 23=>102 | 24=>103 | 25=>104 | 26=>105 | 27=>106 | 28=>107 | 29=>108 | 46=>109 | 47=>110 | 48=>111 | 49=>112 | 50=>113 | 57=>114 | n=>n,fun | 0=>0 | 3=>3 | 4=>4 | 5=>5 | 9=>9 | 22=>139 | 24=>154 | 25=>156 | 39=>121 | 45=>162 | 46=>163 | 50=>167 | 53=>170 | 55=>22 | 66=>172 | 70=>175 | 76=>177 | 77=>178 | n=>n,fun | n=>n⟩
theorem Tryz.laysSF:SlLaysF0.n6 Tryz.prog Tryz.laysSF_ren:={
  mixed:=by kernel_rfl
  f6:=⟨"slices.SortFunc[[]cofferdam/api.Span,cofferdam/api.Span]", by decide,Tryz.func82.trans (congrArg some (by kernel_rfl))⟩
  f14:=⟨"slices.pdqsortCmpFunc[cofferdam/api.Span]", by decide,Tryz.func97.trans (congrArg some (by kernel_rfl))⟩
  f15:=Tryz.func98.trans (congrArg some (by kernel_rfl))
  f20:=⟨"slices.insertionSortCmpFunc[cofferdam/api.Span]", by decide,Tryz.func99.trans (congrArg some (by kernel_rfl))⟩
  f21:=⟨"slices.heapSortCmpFunc[cofferdam/api.Span]", by decide,Tryz.func100.trans (congrArg some (by kernel_rfl))⟩
  f22:=⟨"slices.breakPatternsCmpFunc[cofferdam/api.Span]", by decide,Tryz.func101.trans (congrArg some (by kernel_rfl))⟩
  f23:=⟨"slices.choosePivotCmpFunc[cofferdam/api.Span]", by decide,Tryz.func102.trans (congrArg some (by kernel_rfl))⟩
  f24:=⟨"slices.reverseRangeCmpFunc[cofferdam/api.Span]", by decide,Tryz.func103.trans (congrArg some (by kernel_rfl))⟩
  f25:=⟨"slices.partialInsertionSortCmpFunc[cofferdam/api.Span]", by decide,Tryz.func104.trans (congrArg some (by kernel_rfl))⟩
  f26:=⟨"slices.partitionEqualCmpFunc[cofferdam/api.Span]", by decide,Tryz.func105.trans (congrArg some (by kernel_rfl))⟩
  f27:=⟨"slices.partitionCmpFunc[cofferdam/api.Span]", by decide,Tryz.func106.trans (congrArg some (by kernel_rfl))⟩
  f28:=Tryz.func107.trans (congrArg some (by kernel_rfl))
  f29:=Tryz.func108.trans (congrArg some (by kernel_rfl))
  f46:=⟨"slices.siftDownCmpFunc[cofferdam/api.Span]", by decide,Tryz.func109.trans (congrArg some (by kernel_rfl))⟩
  f47:=Tryz.func110.trans (congrArg some (by kernel_rfl))
  f48:=Tryz.func111.trans (congrArg some (by kernel_rfl))
  f49:=⟨"slices.medianAdjacentCmpFunc[cofferdam/api.Span]", by decide,Tryz.func112.trans (congrArg some (by kernel_rfl))⟩
  f50:=⟨"slices.medianCmpFunc[cofferdam/api.Span]", by decide,Tryz.func113.trans (congrArg some (by kernel_rfl))⟩
  f57:=⟨"slices.order2CmpFunc[cofferdam/api.Span]", by decide,Tryz.func114.trans (congrArg some (by kernel_rfl))⟩
  t0:=Tryz.underlying0
  a0:=Tryz.isAgg0
  z0:=Tryz.sizeOf0
  v0:=Tryz.zeroValue0
  t3:=Tryz.underlying3
  a3:=Tryz.isAgg3
  z3:=Tryz.sizeOf3
  v3:=Tryz.zeroValue3
  t4:=Tryz.underlying4
  a4:=Tryz.isAgg4
  z4:=Tryz.sizeOf4
  v4:=Tryz.zeroValue4
  t5:=Tryz.underlying5
  a5:=Tryz.isAgg5
  z5:=Tryz.sizeOf5
  v5:=Tryz.zeroValue5
  t9:=Tryz.underlying9
  a9:=Tryz.isAgg9
  z9:=Tryz.sizeOf9
  v9:=Tryz.zeroValue9
  t22:=Tryz.underlying139
  a22:=Tryz.isAgg139
  z22:=Tryz.sizeOf139
  v22:=Tryz.zeroValue139
  t25:=Tryz.underlying156
  a25:=Tryz.isAgg156
  z25:=Tryz.sizeOf156
  v25:=Tryz.zeroValue156
  t39:=Tryz.underlying121
  a39:=Tryz.isAgg121
  z39:=Tryz.sizeOf121
  v39:=Tryz.zeroValue121
  t45:=Tryz.underlying162
  a45:=Tryz.isAgg162
  z45:=Tryz.sizeOf162
  v45:=Tryz.zeroValue162
  t46:=Tryz.underlying163
  a46:=Tryz.isAgg163
  z46:=Tryz.sizeOf163
  v46:=Tryz.zeroValue163
  t50:=Tryz.underlying167
  a50:=Tryz.isAgg167
  z50:=Tryz.sizeOf167
  v50:=Tryz.zeroValue167
  t53:=Tryz.underlying170
  a53:=Tryz.isAgg170
  z53:=Tryz.sizeOf170
  v53:=Tryz.zeroValue170
  t55:=Tryz.underlying22
  a55:=Tryz.isAgg22
  z55:=Tryz.sizeOf22
  v55:=Tryz.zeroValue22
  t66:=Tryz.underlying172
  a66:=Tryz.isAgg172
  z66:=Tryz.sizeOf172
  v66:=Tryz.zeroValue172
  t70:=Tryz.underlying175
  a70:=Tryz.isAgg175
  z70:=Tryz.sizeOf175
  v70:=Tryz.zeroValue175
  t76:=Tryz.underlying177
  a76:=Tryz.isAgg177
  z76:=Tryz.sizeOf177
  v76:=Tryz.zeroValue177
  t77:=Tryz.underlying178
  a77:=Tryz.isAgg178
  z77:=Tryz.sizeOf178
  v77:=Tryz.zeroValue178
}
end Go.Proofs
/- slices.SortFunc over spans that stand in order already: it leaves them as they are. -/
namespace Go.Proofs.YtpoobhhdgjgdgaaGreat.sortf
open Go.RowKit Go.Sort Go.Shelf Go.Lib Go.Ai Go.Proofs
abbrev El:=Fin 1048577 × Int
def enc (x:El):List Value:=[.int .i64 (x.1.val:Int),.int .i64 x.2]
def cf (x y:El):Int:=(x.1.val:Int)-(y.1.val:Int)
theorem lt_cf (x y:El):ltOf cf x y=decide (x.1.val<y.1.val):=by
  unfold ltOf cf
  by_cases h:x.1.val<y.1.val
  · simp [h]; omega
  · simp [h]; omega
theorem swo:SWO (ltOf cf) where
  irrefl x:=by rw [lt_cf]; simp
  trans x y z h1 h2:=by rw [lt_cf] at *; simp at *; omega
  ntrans x y z h1 h2:=by rw [lt_cf] at *; simp at *; omega
set_option maxHeartbeats 1000000 in
theorem aq0 (x y:El) (W:World):Calls Tryz.prog 83 #[.agg #[.int .i64 (x.1.val:Int),.int .i64 x.2],.agg #[.int .i64 (y.1.val:Int),.int .i64 y.2]] W fun e w'=>e = .returned (.int .i64 (cf x y))∧∃ q os',w'=grow (W.drewN q) os':=by
  have hx:=x.1.isLt
  have hy:=y.1.isLt
  have hcf:(x.1.val:Int)-(y.1.val:Int)=cf x y:=rfl
  generalize cf x y=r at hcf ⊢
  go_enter Tryz.func83,Tryz.ntmps83
  go_wp2
  go_ret
  exact ⟨by rw [← hcf]; rfl,0,_,by rw [alloc_eq_grow,alloc_eq_grow,grow_grow]; rfl⟩
theorem cmpLays (blk off size:Nat) (w:World):CmpLays Tryz.prog 83 #[] enc 2 cf blk off size w:=fun _ _ _ _ x y=>aq0 x y _
theorem enters82:Ai.Enters Tryz.prog 82:=⟨Tryz.f82,Tryz.func82,by kernel_rfl,by kernel_rfl⟩
def aab (e:Int × Int):El:=(Fin.ofNat 1048577 e.1.toNat,e.2)
theorem enc_el {M:Mp} {e:Int × Int} (h:0≤e.1∧e.1≤1048576):enc (aab e) = [im M (.int .i64 e.1),im M (.int .i64 e.2)]:=by
  have h1:((Fin.ofNat 1048577 e.1.toNat).val:Int)=e.1:=by
    simp only [Fin.ofNat]
    omega
  unfold enc aab
  rw [h1]; rfl
theorem uniq {ps:List (Int × Int)} (hp:ps.Pairwise (fun a b=>a.1<b.1)) (hr:∀ e∈ps,0≤e.1∧e.1≤1048576) {d':Array El} (h1:PermIn 0 (ps.map aab).toArray.size (ps.map aab).toArray d') (h2:SortedIn (ltOf cf) 0 (ps.map aab).toArray.size d'):d'=(ps.map aab).toArray:=by
  generalize hd:ps.map aab=l at *
  obtain ⟨hs,_,hperm⟩:=h1
  have e1:d'.extract 0 l.toArray.size=d':=by rw [← hs,Array.extract_size]
  have e2:l.toArray.extract 0 l.toArray.size=l.toArray:=Array.extract_size
  rw [e1,e2] at hperm
  have hl:l.Pairwise (fun a b:El=>a.1.val<b.1.val):=by
    rw [← hd,List.pairwise_map]
    refine hp.imp_of_mem fun {a b} ha hb h=>?_
    have:=hr a ha
    have:=hr b hb
    simp only [aab,Fin.ofNat]
    omega
  have hl':d'.toList.Pairwise (fun a b:El=>a.1.val≤b.1.val):=by
    rw [List.pairwise_iff_getElem]
    intro i j hi hj hij
    have:=h2 i j (Nat.zero_le _) hij (by rw [← hs]; simpa using hj)
    rw [lt_cf,f8] at this
    simp only [Array.length_toList] at hi hj
    rw [getElem!_pos d' j hj,getElem!_pos d' i hi] at this
    simpa using this
  have key:d'.toList=l:=by
    refine List.Perm.eq_of_pairwise (le:=fun a b:El=>a.1.val≤b.1.val) (fun a b ha hb h3 h4=>?_) hl' (hl.imp fun h=>Nat.le_of_lt h) (by simpa using hperm)
    have ha':a∈l:=(by simpa using hperm:d'.toList.Perm l).mem_iff.1 ha
    obtain ⟨i,hi,rfl⟩:=List.mem_iff_getElem.1 ha'
    obtain ⟨j,hj,rfl⟩:=List.mem_iff_getElem.1 hb
    rcases fO i j with h5 | h5 | h5
    · have:=List.pairwise_iff_getElem.1 hl i j hi hj h5; omega
    · subst h5; rfl
    · have:=List.pairwise_iff_getElem.1 hl j i hj hi h5; omega
  exact Array.toList_inj.1 (by rw [key])
theorem apP:∀ ps:List (Int × Int),(prC ps).length=ps.length*2
  | []=>rfl
  | _::ps=>by
    show (prC ps).length+2=(ps.length+1)*2
    rw [apP ps]; omega
theorem prC_at:∀ (ps:List (Int × Int)) (j:Nat),(prC ps)[j]?=(ps[j/2]?).map fun e=>if j%2=0 then AV.int .i64 e.1 else .int .i64 e.2
  | [],j=>by simp [prC]
  | e::ps,0=>rfl
  | e::ps,1=>rfl
  | e::ps,j+2=>by
    have h1:(prC (e::ps))[j+2]?=(prC ps)[j]?:=rfl
    have h2:(j+2)/2=j/2+1:=by omega
    have h3:(j+2)%2=j%2:=by omega
    rw [h1,prC_at ps j,h2,h3]; rfl
theorem grown {M:Mp} {D:Nat→Prop} {H:Ai.Heap} {w:World} (hr:Rel M D H w) (n:Nat) (os:Array Obj):Rel M D H (grow (Go.Sort.ahead w n) os)∧Ext M D H w M D H (grow (Go.Sort.ahead w n) os):=by
  have hb:∀ c,c<w.heap.size→(grow (Go.Sort.ahead w n) os).heap[c]?=w.heap[c]?:=fun c hc=>by
    show (w.heap++os)[c]?=_
    rw [Array.getElem?_append_left hc]
  have hs:w.heap.size≤(grow (Go.Sort.ahead w n) os).heap.size:=by
    show w.heap.size≤(w.heap++os).size
    simp
  exact ⟨⟨hr.dom,fun b hD=>(hr.blk b hD).keep (fun _ h=>h) (fun _ _=>rfl) (fun hl=>hb _ ((hr.blk b hD).lt hl)) hs,hr.inj⟩,{ (Ext.refl:Ext M D H w M D H w) with frame:=fun c hc _=>hb c hc,size:=hs }⟩
theorem sort_ok:acZ Tryz.prog 82 (aeK 83):=by
  intro vs H v H' h M D w hp hr hok
  unfold aeK at h
  split at h
  · rename_i g
    split at h
    · rename_i hg
      have hg:=gb hg
      subst hg
      cases h
      have hc:=AnyF.slices_SortFunc_none Tryz.laysSF none 0 (.func (.func 83) #[] #[]) w
      change Calls Tryz.prog 82 _ _ _ at hc
      have e:(List.map (im M) [AV.nilslice,.func 83 [] []]).toArray = #[.slice none 0 0,.func (.func 83) #[] #[]]:=by simp [im,pQ]
      rw [e]
      refine hc.mono ?_
      rintro e w' ⟨rfl,rfl⟩
      exact ⟨M,D,by simp [im,pQ],hr,.refl,by simp [okv,okL]⟩
    · cases h
  · rename_i b off len ext opn g
    split at h
    · rename_i l gg hg hl
      have hg:=gb hg
      subst hg
      split at h
      · rename_i s hs
        split at h
        · rename_i hb
          cases h
          simp only [fV] at hb
          obtain ⟨ps,rfl,p1,p2⟩:=ak2 hb.1
          have hlen:len≤1000000:=fR hb.2
          have hDb:D b:=by
            have:=(nL _ _).1 hok (.slice b off len ext opn) (by simp)
            simpa [okv] using this
          have hrow:=xM hr hDb hl
          rw [nP] at hs
          split at hs
          · rename_i hsz
            have hs:=Option.some.inj hs
            have hpl:ps.length=len:=by
              have h1:=congrArg List.length hs
              have h2:=apP ps
              rw [h2,List.length_take,List.length_drop] at h1
              rw [List.length_drop] at hsz
              omega
            have hat:=hrow.at_at off
            have hH:HoldsK enc 2 w (M b).blk ((M b).base+off) (ps.map aab).toArray:=by
              intro j hj
              rw [size_flatK] at hj
              have hj':j<ps.length*2:=by simpa using hj
              have hj2:j/2<ps.length:=by omega
              have hcell:l[off+j]?=some (if j%2=0 then AV.int .i64 (ps[j/2]).1 else .int .i64 (ps[j/2]).2):=by
                have h1:=congrArg (·[j]?) hs
                simp only [List.getElem?_take,List.getElem?_drop] at h1
                rw [if_pos (by omega),prC_at,fU hj2] at h1
                exact h1
              have hlt:off+j<l.length:=(fZ.1 hcell).1
              obtain ⟨c1,_,_⟩:=hrow.at_ _ _ hcell
              obtain ⟨_,c2⟩:=hrow.own rfl (off+j) (by omega)
              rw [Nat.add_assoc]
              refine ⟨?_,c2⟩
              rw [c1,get_flatK _ _ _ _ (by simpa using hj')]
              have e1:((ps.map aab).toArray)[j/2]! = aab (ps[j/2]):=by
                rw [getElem!_pos _ _ (by simpa using hj2)]; simp
              rw [e1,enc_el (M:=M) (p2 _ (gn hj2))]
              have:j%2=0∨j%2=1:=by omega
              rcases this with h | h<;>rw [h]<;>rfl
            have eg:∀ args w,(callFunc 83 args).run Tryz.prog w = .ok (.enter 83 args) w:=enters_of Tryz.func83 (by kernel_rfl) rfl
            have hc:=AnyQ.slices_SortFunc Tryz.laysSF 2 Tryz.isAgg154 Tryz.sizeOf154 enc (fun _=>rfl) (fun x v hv=>by simp [enc] at hv; rcases hv with rfl | rfl<;>rfl) cf swo 83 #[] (M b).blk ((M b).base+off) (len+ext+if opn then (M b).slack else 0) (ps.map aab).toArray w eg (cmpLays _ _ _ _) hH hrow.lt (by simp; omega)
            change Calls Tryz.prog 82 _ _ _ at hc
            have e:(List.map (im M) [AV.slice b off len ext opn,.func 83 [] []]).toArray = #[.slice (some ⟨(M b).blk,(M b).base+off,none⟩) (ps.map aab).toArray.size (len+ext+if opn then (M b).slack else 0),.func (.func 83) #[] #[]]:=by simp [im,pQ,hat,hpl]
            rw [e]
            refine hc.mono ?_
            rintro e w' ⟨rfl,d',n,os,h1,h2,rfl⟩
            have hd:=uniq p1 p2 h1 h2
            subst hd
            have hself:sortWorldK enc 2 w (M b).blk ((M b).base+off) n (ps.map aab).toArray os=grow (Go.Sort.ahead w n) os:=by
              unfold sortWorldK putRowK
              rw [putRow_self]
              exact hH
            rw [hself]
            obtain ⟨q1,q2⟩:=grown hr n os
            exact ⟨M,D,by simp [im,pQ],q1,q2,by simp [okv,okL]⟩
          · cases hs
        · cases h
      · cases h
    · cases h
  · cases h
end Go.Proofs.YtpoobhhdgjgdgaaGreat.sortf
/- The tables of the program's functions, with the sort and the count as prims; the answer of the chapter's example. -/
namespace Go.Proofs.YtpoobhhdgjgdgaaGreat.Sh
open Go.Ai Go.Proofs
structure TbS (tb:Tr AFn):Prop where
  mono:dX tb
  get:∀ {f:Nat} {x:AFn},(Nat.beq 82 f||(Nat.beq 39 f||Nat.beq 5 f))=false→YE Tryz.prog f=some x→tb.get (key f)=some x
  pG_api_Span__82:bw tb Ua (kT cO)
  pG_audit_doubled__2_int__f1:bw tb xH (kT aw)
theorem TbS.z {tb:Tr AFn} (T:TbS tb) {f:Nat} {ps:Kp} {rs:List (Rv × Ty)} {l:List (Nat × Wr)} {ty:Tr Ty} {n:Nat} {c:SC} {F:FK ps (Heap→FZ rs HC→aa)} (e:∀ k0,lo ps (DZ (lC l) ty n c rs k0)=cmp ps F (kap rs k0))
    (h:(Bool.casesOn (Nat.beq 82 f||(Nat.beq 39 f||Nat.beq 5 f)) (YE Tryz.prog f) none:Option AFn)=some (.code (ps.map (·.1)) (Sq c) (rs.map (·.1)))) (hs:eW tb l):bw tb f (wrT ps rs F):=by
  refine ale T.mono e ?_ hs
  cases hb:(Nat.beq 82 f||(Nat.beq 39 f||Nat.beq 5 f)) with
  | true=>rw [hb] at h; cases h
  | false=>rw [hb] at h; exact T.get hb h
theorem aqq {f:Nat} {vs:List AV} {K K':Heap} {v:AV} (h:aeK f vs K = .ret v K'):eo K K':=by
  unfold aeK at h
  split at h
  · split at h
    · cases h; exact .refl
    · cases h
  · split at h
    · split at h
      · split at h
        · cases h; exact .refl
        · cases h
      · cases h
    · cases h
  · cases h
theorem dbl_mono {vs:List AV} {K K':Heap} {v:AV} (h:dblG vs K = .ret v K'):eo K K':=by
  obtain ⟨a,b,p,off,m,l,es,es',r,c,rfl,hl,hlm,hro,hes,hf,hrc,hput,rfl,rfl⟩:=dbl.inv h
  exact eo.set hro (by unfold roB; exact fun h=>h.2 trivial)
noncomputable def tb0:Tr AFn:=((tblS Tryz.prog).set (key 82) (.prim (aeK 83))).set (key 39) (.prim dblG)
theorem tb0_ok:TblOk Tryz.prog tb0:=((tblS_ok (by kernel_rfl)).prim_set (f:=82) sortf.sort_ok (fun _ _ _ _ _ h=>aqq h) sortf.enters82).prim_set (f:=39) dbl.dbl_ok (fun _ _ _ _ _ h=>dbl_mono h) dbl.enters39
theorem amk {f:Nat} {x:AFn} (e:(Nat.beq 82 f||Nat.beq 39 f)=false) (h:YE Tryz.prog f=some x):tb0.get (key f)=some x:=by
  rw [Bool.or_eq_false_iff] at e
  exact xb e.2 (xb e.1 ((UO ..).trans h))
theorem aom:TbS tb0:=⟨tb0_ok.mono,fun e h=>amk (by simp only [Bool.or_eq_false_iff] at e ⊢; exact ⟨e.1,e.2.1⟩) h,Gn (xb (by kernel_rfl) (Tr.ft ..)),Gn (Tr.ft ..)⟩
end Go.Proofs.YtpoobhhdgjgdgaaGreat.Sh
