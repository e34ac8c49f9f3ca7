/- What the input's data is, cell by cell: numbers, bools, slices of such; out of what a row's reading says. -/
import Derived.Test.YtnlbfbiogfilfaaGreatAiLstPUBud
import Derived.ChangeArms
import Derived.Test.YtnlbfbiogfilfaaGreatAiTblKs
import Derived.Test.YtnlbfbiogfilfaaGreatAiCpsRunLo
import Derived.WalkKit
import Derived.ProofKit
import Derived.OpenShut
import Derived.JoinedCond
import Derived.WideKeyArgs
import Derived.Shelf.Lays2
import Derived.Shelf.Spec.SlicesInsert
import Derived.Shelf.Spec.SlicesInsertGrow
import Derived.Test.YtnlbfbiogfilfaaGreatProg
set_option linter.all false
namespace Go.Ai
inductive Kds where
  | nil
  | bool (r:Kds)
  | int (k:IntKind) (r:Kds)
  | slice (e r:Kds)
def Kds.len:Kds→Nat
  | .nil=>0
  | .bool r=>r.len+1
  | .int _ r=>r.len+1
  | .slice _ r=>r.len+1
def Kds.app:Kds→Kds→Kds
  | .nil,s=>s
  | .bool r,s=>.bool (r.app s)
  | .int k r,s=>.int k (r.app s)
  | .slice e r,s=>.slice e (r.app s)
theorem Kds.len_app:∀ a b:Kds,(a.app b).len=a.len+b.len
  | .nil,b=>by simp [Kds.app,Kds.len]
  | .bool r,b=>by simp [Kds.app,Kds.len,Kds.len_app r b]; omega
  | .int _ r,b=>by simp [Kds.app,Kds.len,Kds.len_app r b]; omega
  | .slice _ r,b=>by simp [Kds.app,Kds.len,Kds.len_app r b]; omega
structure Wd where
  K:Nat
  N:Nat
  odds:List Addr
structure Wd.Le (a b:Wd):Prop where
  K:a.K≤b.K
  N:a.N≤b.N
  odds:∀ x∈a.odds,x∈b.odds
theorem Wd.Le.trans {a b c:Wd} (h:Wd.Le a b) (g:Wd.Le b c):Wd.Le a c:=⟨iE h.K g.K,iE h.N g.N,fun x hx=>g.odds x (h.odds x hx)⟩
def Wd.join (a b:Wd):Wd:=⟨a.K+b.K,a.N+b.N,a.odds++b.odds⟩
theorem Wd.le_l (a b:Wd):Wd.Le a (a.join b):=⟨Nat.le_add_right _ _,Nat.le_add_right _ _,fun _ h=>iQ _ h⟩
theorem Wd.le_r (a b:Wd):Wd.Le b (a.join b):=⟨Nat.le_add_left _ _,Nat.le_add_left _ _,fun _ h=>iR _ h⟩
theorem Wd.range {Q:Nat→Wd→Prop} (mono:∀ i D D',Wd.Le D D'→Q i D→Q i D'):∀ n,(∀ i,i<n→∃ D,Q i D)→∃ D,∀ i,i<n→Q i D
  | 0,_=>⟨⟨0,0,[]⟩,fun i h=>by omega⟩
  | n+1,h=>by
    obtain ⟨D1,h1⟩:=Wd.range mono n fun i hi=>h i (by omega)
    obtain ⟨D2,h2⟩:=h n (by omega)
    refine ⟨D1.join D2,fun i hi=>?_⟩
    by_cases e:i=n
    · subst e; exact mono _ _ _ (Wd.le_r D1 D2) h2
    · exact mono _ _ _ (Wd.le_l D1 D2) (h1 i (by omega))
def fF (w:World) (D:Wd):Kds→List Value→Prop
  | .nil,[]=>True
  | .bool r,v::t=>(∃ b,v = .bool b)∧fF w D r t
  | .int k r,v::t=>(∃ n,v = .int k n∧k.min≤n∧n≤k.max)∧fF w D r t
  | .slice e r,v::t=>(v = .slice none 0 0∨(∃ a,a∈D.odds∧v = .slice (some a) 0 0)∨
      ∃ b off len cap,v = .slice (some ⟨b,off,none⟩) len cap∧len≤cap∧cap≤9223372036854775807∧(0<cap∧0<e.len)∧off<D.K∧b<D.N∧cap<D.K∧
        ∀ i,i<cap→∃ cs,(∀ j,j<e.len→w.cell? ⟨b,off+i*e.len+j,none⟩=cs[j]?)∧fF w D e cs)∧fF w D r t
  | _,_=>False
theorem fF.length {w:World} {D:Wd}:∀ {k:Kds} {l:List Value},fF w D k l→l.length=k.len
  | .nil,[],_=>rfl
  | .bool r,v::t,h=>by rw [List.length_cons,Kds.len,fF.length (k:=r) h.2]
  | .int _ r,v::t,h=>by rw [List.length_cons,Kds.len,fF.length (k:=r) h.2]
  | .slice _ r,v::t,h=>by rw [List.length_cons,Kds.len,fF.length (k:=r) h.2]
  | .nil,_::_,h=>h.elim
  | .bool _,[],h=>h.elim
  | .int _ _,[],h=>h.elim
  | .slice _ _,[],h=>h.elim
theorem fF.mono {w:World} {D D':Wd} (d:Wd.Le D D'):∀ {k:Kds} {l:List Value},fF w D k l→fF w D' k l
  | .nil,[],_=>trivial
  | .bool r,v::t,h=>⟨h.1,fF.mono d (k:=r) h.2⟩
  | .int _ r,v::t,h=>⟨h.1,fF.mono d (k:=r) h.2⟩
  | .slice e r,v::t,h=>by
    refine ⟨?_,fF.mono d (k:=r) h.2⟩
    rcases h.1 with h1 | ⟨a,h1,h2⟩ | ⟨b,off,len,cap,h1,h2,h3,h4,h5,h6,h7,h8⟩
    · exact .inl h1
    · exact .inr (.inl ⟨a,d.odds a h1,h2⟩)
    · refine .inr (.inr ⟨b,off,len,cap,h1,h2,h3,h4,iy h5 d.K,iy h6 d.N,iy h7 d.K,fun i hi=>?_⟩)
      obtain ⟨cs,h9,h10⟩:=h8 i hi
      exact ⟨cs,h9,fF.mono d (k:=e) h10⟩
  | .nil,_::_,h=>h.elim
  | .bool _,[],h=>h.elim
  | .int _ _,[],h=>h.elim
  | .slice _ _,[],h=>h.elim
theorem fF.app {w:World} {D:Wd} {s:Kds} {m:List Value} (g:fF w D s m):∀ {k:Kds} {l:List Value},fF w D k l→fF w D (k.app s) (l++m)
  | .nil,[],_=>g
  | .bool r,v::t,h=>⟨h.1,fF.app g (k:=r) h.2⟩
  | .int _ r,v::t,h=>⟨h.1,fF.app g (k:=r) h.2⟩
  | .slice e r,v::t,h=>⟨h.1,fF.app g (k:=r) h.2⟩
  | .nil,_::_,h=>h.elim
  | .bool _,[],h=>h.elim
  | .int _ _,[],h=>h.elim
  | .slice _ _,[],h=>h.elim
def axN (g:TypeId→Option Kds) (sz:TypeId→Nat):Nat→List Field→Option Kds
  | _,[]=>some .nil
  | o,f::fs=>if f.offset=o then (g f.type).bind fun l=>if l.len=sz f.type then (axN g sz (o+l.len) fs).map fun r=>l.app r else none else none
def avn (P:Program):Nat→TypeId→Option Kds
  | 0,_=>none
  | n+1,t=>match P.underlying t with
    | some .bool=>some (.bool .nil)
    | some (.int k)=>some (.int k .nil)
    | some (.slice e)=>(avn P n e).bind fun l=>if l.len=P.cellsOf e∧l.len≠0 then some (.slice l .nil) else none
    | some (.struct fs)=>(axN (avn P n) P.cellsOf 0 fs.toList).bind fun r=>if r.len=P.cellsOf t then some r else none
    | _=>none
theorem has_fs {w:World} {g:TypeId→Option Kds} {sz:TypeId→Nat} {cs:List Value}:∀ (fs:List Field) (o:Nat) (r:Kds),axN g sz o fs=some r→o+r.len≤cs.length→
    (∀ f∈fs,∀ l,g f.type=some l→∃ D,fF w D l ((cs.drop f.offset).take (sz f.type)))→∃ D,fF w D r ((cs.drop o).take r.len)
  | [],o,r,h,_,_=>by
    cases h
    exact ⟨⟨0,0,[]⟩,by simp [Kds.len,fF]⟩
  | f::fs,o,r,h,hl,hall=>by
    unfold axN at h
    split at h
    · rename_i ho
      subst ho
      cases hg:g f.type with
      | none=>rw [hg] at h; cases h
      | some l=>
        rw [hg,Option.bind_some] at h
        split at h
        · rename_i hsz
          simp only [g0] at h
          obtain ⟨r',hr',rfl⟩:=h
          rw [Kds.len_app] at hl
          obtain ⟨D1,h1⟩:=hall f (iV ..) l hg
          obtain ⟨D2,h2⟩:=has_fs (w:=w) (cs:=cs) fs _ _ hr' (by omega) fun f' hf'=>hall f' (ig _ hf')
          refine ⟨D1.join D2,?_⟩
          have:=fF.app (h2.mono (Wd.le_r D1 D2)) (h1.mono (Wd.le_l D1 D2))
          rw [← hsz] at this
          rw [Kds.len_app,List.take_add,List.drop_drop]
          exact this
        · cases h
    · cases h
theorem awU {H:Type} {enc:TypeId × Value→H} {P:Program} {w:World}:∀ (m:Nat) (t:TypeId) (k:Kds),avn P m t=some k→∀ (fuel:Nat) (cs:List Value) (x:DataW H × List MemPlace),
    DataW.trod enc P w 0 (fun _=>true) true fuel t cs=some x→∃ D,fF w D k cs:=by
  intro m
  induction m with
  | zero=>intro t k h; cases h
  | succ m ih=>
    intro t k h fuel cs x hx
    unfold avn at h
    split at h
    · rename_i ht
      cases h
      obtain ⟨b,rfl,_⟩:=DataW.trod_bool ht hx
      exact ⟨⟨0,0,[]⟩,⟨b,rfl⟩,trivial⟩
    · rename_i q ht
      cases h
      obtain ⟨n,rfl,_,hw⟩:=DataW.trod_int ht hx
      simp only [Lit.wf,iw,iz] at hw
      exact ⟨⟨0,0,[]⟩,⟨n,rfl,hw⟩,trivial⟩
    · rename_i e ht
      cases hf:avn P m e with
      | none=>rw [hf] at h; cases h
      | some l=>
        rw [hf,Option.bind_some] at h
        split at h
        · rename_i hl
          obtain ⟨hl,hl0⟩:=hl
          cases h
          rcases DataW.trod_slice ht hx with ⟨rfl,_⟩ | ⟨a,len,cap,elems,rest,n,_,rfl,_,_,hlc,hcm,hel,hat,hrest,_⟩
          · exact ⟨⟨0,0,[]⟩,.inl rfl,trivial⟩
          · by_cases h0:cap=0
            · subst h0
              obtain rfl:len=0:=by omega
              exact ⟨⟨0,0,[a]⟩,.inr (.inl ⟨a,by simp,rfl⟩),trivial⟩
            · obtain ⟨hrl,hrat⟩:=hrest rfl
              have hall:∀ i,i<cap→∃ cs x,w.cells? 0 (a.add (i*P.cellsOf e)) (P.cellsOf e)=some cs∧DataW.trod enc P w 0 (fun _=>true) true n e cs=some x:=by
                intro i hi
                by_cases hlt:i<len
                · have h1:=hat i hlt
                  have hlt':i<elems.length:=by omega
                  rw [iv hlt',iu] at h1
                  obtain ⟨cs,h2,h3⟩:=h1
                  exact ⟨cs,_,h2,h3⟩
                · have h1:=hrat (i-len) (by omega)
                  have hlt':i-len<rest.length:=by omega
                  rw [iv hlt',iu] at h1
                  obtain ⟨cs,h2,h3⟩:=h1
                  rw [show len+(i-len)=i by omega] at h2
                  exact ⟨cs,_,h2,h3⟩
              obtain ⟨b,off,spot⟩:=a
              have hspot:spot=none:=by
                obtain ⟨cs,_,h2,_⟩:=hall 0 (by omega)
                obtain ⟨_,h3,h4⟩:=World.cells?_some h2
                have h5:=h4 0 (by omega)
                rw [iv (by omega)] at h5
                rw [Nat.zero_mul] at h5
                simpa [Addr.add] using World.cell?_spot h5
              subst hspot
              have hcs:∀ i,i<cap→∃ D,∃ cs,(∀ j,j<l.len→w.cell? ⟨b,off+i*l.len+j,none⟩=cs[j]?)∧fF w D l cs:=by
                intro i hi
                obtain ⟨cs,y,h2,h3⟩:=hall i hi
                obtain ⟨_,h4,h5⟩:=World.cells?_some h2
                obtain ⟨D,h6⟩:=ih e l hf n cs y h3
                refine ⟨D,cs,fun j hj=>?_,h6⟩
                have:=h5 j (by omega)
                rw [Addr.add_lit,Addr.add_lit] at this
                rw [hl]
                exact this
              obtain ⟨D,hD⟩:=Wd.range (Q:=fun i D=>∃ cs,(∀ j,j<l.len→w.cell? ⟨b,off+i*l.len+j,none⟩=cs[j]?)∧fF w D l cs)
                (fun i D D' d ⟨cs,h1,h2⟩=>⟨cs,h1,h2.mono d⟩) cap hcs
              refine ⟨D.join ⟨off+cap+1,b+1,[]⟩,.inr (.inr ⟨b,off,len,cap,rfl,hlc,by unfold maxLen at hcm; omega,⟨by omega,by omega⟩,?_,?_,?_,fun i hi=>?_⟩),trivial⟩
              · show off<D.K+(off+cap+1); omega
              · show b<D.N+(b+1); omega
              · show cap<D.K+(off+cap+1); omega
              · obtain ⟨cs,h1,h2⟩:=hD i hi
                exact ⟨cs,h1,h2.mono (Wd.le_l _ _)⟩
        · cases h
    · rename_i fs ht
      cases hf:axN (avn P m) P.cellsOf 0 fs.toList with
      | none=>rw [hf] at h; cases h
      | some r=>
        rw [hf,Option.bind_some] at h
        split at h
        · rename_i hr
          cases h
          obtain ⟨xs,n,_,_,hl,hxs,hat⟩:=DataW.trod_struct ht hx
          obtain ⟨D,hD⟩:=has_fs (w:=w) (cs:=cs) _ _ _ hf (by omega) (fun f hf' l hg=>by
            obtain ⟨i,hi,rfl⟩:=List.mem_iff_getElem.1 hf'
            have h1:=hat i fs.toList[i] (by simp)
            have:i<xs.length:=by simpa [hxs] using hi
            rw [iv this] at h1
            exact ih _ _ hg n _ _ h1)
          refine ⟨D,?_⟩
          rw [List.drop_zero,List.take_of_length_le (by omega)] at hD
          exact hD
        · cases h
    · cases h
end Go.Ai
/- An abstract heap that mirrors a world: of each place in it the plain cells from there on, to be read; slices that have no place by themselves. -/
namespace Go.Ai
def auK (D:Wd):Mp:=fun i=>if i<D.K*D.N then ⟨i/D.K,i%D.K,0,none⟩ else match D.odds[i-D.K*D.N]? with
  | some a=>⟨a.block,a.off,0,a.spot⟩
  | none=>⟨0,0,0,none⟩
def Wd.top (D:Wd):Nat:=D.K*D.N+D.odds.length
def anN (D:Wd):Value→Option AV
  | .bool b=>some (.bool b)
  | .int k n=>some (.int k n)
  | .slice none 0 0=>some .nilslice
  | .slice (some a) len cap=>if cap=0 then (if len=0∧a∈D.odds then some (.slice (D.K*D.N+D.odds.idxOf a) 0 0 0 false) else none)
    else if (a.off<D.K∧a.block<D.N)∧a.spot=none∧len≤cap then some (.slice (D.K*a.block+a.off) 0 len (cap-len) false) else none
  | _=>none
theorem aCa {K N b off:Nat} (h1:off<K) (h2:b<N):K*b+off<K*N:=by
  have:=Nat.mul_le_mul_left K (show b+1≤N by omega)
  rw [Nat.mul_add] at this
  omega
theorem aFT {K b off:Nat} (h:off<K):(K*b+off)/K=b:=by rw [Nat.mul_add_div (by omega),Nat.div_eq_of_lt h,Nat.add_zero]
theorem aFF {K b off:Nat} (h:off<K):(K*b+off)%K=off:=by rw [Nat.mul_add_mod,Nat.mod_eq_of_lt h]
theorem win_at {D:Wd} {b off:Nat} (h1:off<D.K) (h2:b<D.N):auK D (D.K*b+off)=⟨b,off,0,none⟩:=by
  unfold auK
  rw [if_pos (aCa h1 h2),aFT h1,aFF h1]
theorem win_odd {D:Wd} {a:Addr} (h:a∈D.odds):auK D (D.K*D.N+D.odds.idxOf a)=⟨a.block,a.off,0,a.spot⟩:=by
  unfold auK
  rw [if_neg (by omega),Nat.add_sub_cancel_left,iv (List.idxOf_lt_length_iff.2 h),List.getElem_idxOf]
theorem aFo {D:Wd} {v:Value} {a:AV} (h:anN D v=some a):ki (auK D) a=v∧a.gY=true∧okv (· < D.top) a:=by
  unfold anN at h
  split at h
  · cases h; exact ⟨by simp [ki],rfl,by simp [okv]⟩
  · cases h; exact ⟨by simp [ki],rfl,by simp [okv]⟩
  · cases h; exact ⟨by simp [ki],rfl,by simp [okv]⟩
  · split at h
    · rename_i hc
      subst hc
      split at h
      · rename_i hb
        obtain ⟨rfl,hb⟩:=hb
        cases h
        refine ⟨?_,rfl,?_⟩
        · simp [ki,win_odd hb,Loc.at]
        · have:=List.idxOf_lt_length_iff.2 hb
          simp only [okv,Wd.top]; omega
      · cases h
    · split at h
      · rename_i addr _ _ _ hb
        obtain ⟨⟨h1,h2⟩,h3,h4⟩:=hb
        obtain ⟨b,off,spot⟩:=addr
        dsimp only at h1 h2 h3
        subst h3
        cases h
        refine ⟨?_,rfl,?_⟩
        · simp [ki,win_at h1 h2]; omega
        · have:=aCa h1 h2
          simp only [okv,Wd.top]; omega
      · cases h
  · cases h
noncomputable def ayr (f:Nat→Option Blk):Nat→Tr Blk
  | 0=>.leaf
  | n+1=>match f n with
    | some x=>(ayr f n).set (key n) x
    | none=>ayr f n
theorem aAY (f:Nat→Option Blk):∀ n b,(ayr f n).get (key b)=if b<n then f b else none
  | 0,b=>by rw [ayr,Tr.gX,if_neg (by omega)]
  | n+1,b=>by
    have ih:=aAY f n b
    cases hf:f n with
    | none=>
      simp only [ayr,hf]
      rw [ih]
      by_cases h:b<n
      · rw [if_pos h,if_pos (by omega)]
      · rw [if_neg h]
        by_cases e:b=n
        · subst e; rw [if_pos (by omega),hf]
        · rw [if_neg (by omega)]
    | some x=>
      simp only [ayr,hf]
      by_cases e:n=b
      · subst e; rw [Tr.gS,if_pos (by omega),hf]
      · rw [Tr.gR (fun k=>e (Mn k)),ih]
        by_cases h:b<n
        · rw [if_pos h,if_pos (by omega)]
        · rw [if_neg h,if_neg (by omega)]
def Qz (f:Value→Option AV):List Value→List AV
  | []=>[]
  | x::t=>match f x with
    | some a=>a::Qz f t
    | none=>[]
theorem awz {f:Value→Option AV}:∀ {l:List Value} (i:Nat) (v:AV),(Qz f l)[i]?=some v→∃ x,l[i]?=some x∧f x=some v
  | [],i,v,h=>by simp [Qz] at h
  | x::t,i,v,h=>by
    unfold Qz at h
    split at h
    · rename_i a ha
      cases i with
      | zero=>simp at h; subst h; exact ⟨x,by simp,ha⟩
      | succ i=>
        simp at h
        obtain ⟨y,h1,h2⟩:=awz i v h
        exact ⟨y,by simpa using h1,h2⟩
    · simp at h
theorem atL {f:Value→Option AV}:∀ {l:List Value} (m:Nat),(∀ p,p<m→∃ x a,l[p]?=some x∧f x=some a)→∀ p,p<m→(Qz f l)[p]?=l[p]?.bind f
  | [],m,h,p,hp=>by
    obtain ⟨x,a,h1,_⟩:=h p hp
    simp at h1
  | x::t,m,h,p,hp=>by
    obtain ⟨x',a,h1,h2⟩:=h 0 (by omega)
    simp at h1
    subst h1
    unfold Qz
    rw [h2]
    cases p with
    | zero=>simp [h2]
    | succ p=>
      simp only [List.getElem?_cons_succ]
      exact atL (m-1) (fun q hq=>by
        obtain ⟨y,b,h3,h4⟩:=h (q+1) (by omega)
        exact ⟨y,b,by simpa using h3,h4⟩) p (by omega)
def mirB (D:Wd) (w:World) (i:Nat):Option Blk:=match w.heap[i/D.K]? with
  | some (.cells c _ _)=>some (.cells (Qz (anN D) (c.toList.drop (i%D.K))) false 0)
  | _=>none
noncomputable def N8 (D:Wd) (w:World):ad:=⟨ayr (mirB D w) (D.K*D.N),D.top,D.top⟩
theorem asE (D:Wd) (w:World) (b:Nat):(N8 D w).get b=if b<D.K*D.N then mirB D w b else none:=aAY _ _ _
theorem aAD (D:Wd) (w:World):(N8 D w).ro≤(N8 D w).nx:=iA _
theorem asO {D:Wd} {w:World} {b:Nat} {x:Blk} (h:(N8 D w).get b=some x):b<D.K*D.N∧∃ c e fr,w.heap[b/D.K]?=some (.cells c e fr)∧x = .cells (Qz (anN D) (c.toList.drop (b%D.K))) false 0:=by
  rw [asE] at h
  split at h
  · rename_i hb
    unfold mirB at h
    split at h
    · rename_i c e fr hc
      cases h
      exact ⟨hb,c,e,fr,hc,rfl⟩
    · cases h
  · cases h
theorem aEK (D:Wd) (w:World):Rel (auK D) (· < D.top) (N8 D w) w:=by
  refine ⟨fun b hb=>hb,fun b hb=>?_,fun b c _ _ _ hw _=>?_⟩
  · cases hx:(N8 D w).get b with
    | none=>trivial
    | some x=>
      obtain ⟨h0,c,e,fr,h1,rfl⟩:=asO hx
      have hlt:b/D.K<w.heap.size:=by
        rcases io (b/D.K) w.heap.size with h | h
        · exact h
        · rw [Array.getElem?_eq_none h] at h1; cases h1
      have hM:auK D b=⟨b/D.K,b%D.K,0,none⟩:=by unfold auK; rw [if_pos h0]
      rw [hM]
      refine ⟨fun i v hv=>?_,fun h=>(by cases h),hlt,fun h=>(by cases h),fun h=>(h rfl).elim,rfl⟩
      obtain ⟨y,h5,h6⟩:=awz i v hv
      obtain ⟨h7,h8,h9⟩:=aFo h6
      refine ⟨?_,h8,h9⟩
      unfold World.cell?
      show (match w.heap[b/D.K]? with | some (.cells c _ _)=>_ | _=>none)=_
      rw [h1]
      simp only [Option.isSome_none,ie,if_false]
      rw [List.getElem?_drop] at h5
      rw [← Array.getElem?_toList,h5,h7]
  · exfalso
    cases hx:(N8 D w).get b with
    | none=>rw [hx] at hw; exact hw
    | some x=>
      obtain ⟨_,_,_,_,_,rfl⟩:=asO hx
      rw [hx] at hw
      cases hw
theorem aGO (D:Wd) (w:World):HpOk (N8 D w):=by
  refine ⟨iA _,fun b hb=>?_⟩
  by_cases h:b<D.top
  · exact h
  · rw [asE,if_neg (by unfold Wd.top at h; omega)] at hb
    exact hb.1.elim
def gz (h:ad) (K:Nat):Kds→List AV→Prop
  | .nil,[]=>True
  | .bool r,v::t=>(∃ b,v = .bool b)∧gz h K r t
  | .int k r,v::t=>(∃ n,v = .int k n∧k.min≤n∧n≤k.max)∧gz h K r t
  | .slice e r,v::t=>(v.shut=true∧∃ n f,n≤K∧eD h v e.len n f∧∀ i,i<n→gz h K e (f i))∧gz h K r t
  | _,_=>False
theorem aqA {w:World} {D:Wd}:∀ {k:Kds} {l:List Value},fF w D k l→∃ us,l.map (anN D)=us.map some∧gz (N8 D w) D.K k us
  | .nil,[],_=>⟨[],rfl,trivial⟩
  | .bool r,v::t,h=>by
    obtain ⟨⟨b,rfl⟩,h2⟩:=h
    obtain ⟨us,h3,h4⟩:=aqA (k:=r) h2
    exact ⟨.bool b::us,by simp [anN,h3],⟨b,rfl⟩,h4⟩
  | .int q r,v::t,h=>by
    obtain ⟨⟨n,rfl,h1⟩,h2⟩:=h
    obtain ⟨us,h3,h4⟩:=aqA (k:=r) h2
    exact ⟨.int q n::us,by simp [anN,h3],⟨n,rfl,h1⟩,h4⟩
  | .slice e r,v::t,h=>by
    obtain ⟨h1,h2⟩:=h
    obtain ⟨us,h3,h4⟩:=aqA (k:=r) h2
    rcases h1 with rfl | ⟨a,h1,rfl⟩ | ⟨b,off,len,cap,rfl,g1,g2,⟨g3,hz⟩,g4,g5,g6,g7⟩
    · exact ⟨.nilslice::us,by simp [anN,h3],⟨rfl,0,fun _=>[],by omega,⟨by omega,.inl ⟨rfl,rfl⟩⟩,fun i hi=>by omega⟩,h4⟩
    · refine ⟨.slice (D.K*D.N+D.odds.idxOf a) 0 0 0 false::us,by simp [anN,h1,h3],⟨rfl,0,fun _=>[],by omega,⟨by omega,.inr ⟨_,_,_,_,rfl,fun h=>by omega⟩⟩,fun i hi=>by omega⟩,h4⟩
    ·
      have hat:∀ i,i<cap→∃ (cs:List Value) (us':List AV),(∀ j,j<e.len→w.cell? ⟨b,off+i*e.len+j,none⟩=cs[j]?)∧cs.length=e.len∧cs.map (anN D)=us'.map some∧gz (N8 D w) D.K e us':=by
        intro i hi
        obtain ⟨cs,k1,k2⟩:=g7 i hi
        obtain ⟨us',k3,k4⟩:=aqA (k:=e) k2
        exact ⟨cs,us',k1,k2.length,k3,k4⟩
      have hA:anN D (.slice (some ⟨b,off,none⟩) len cap)=some (.slice (D.K*b+off) 0 len (cap-len) false):=by
        unfold anN
        simp only [if_neg (show ¬ cap=0 by omega)]
        rw [if_pos ⟨⟨g4,g5⟩,trivial,g1⟩]
      have hblk:∃ c ty fr,w.heap[b]?=some (.cells c ty fr):=by
        obtain ⟨cs,us',k1,k2,_⟩:=hat 0 g3
        have:=k1 0 (by omega)
        rw [iv (by omega)] at this
        unfold World.cell? at this
        dsimp only at this
        split at this
        · rename_i c ty fr hc
          exact ⟨c,ty,fr,hc⟩
        · cases this
      obtain ⟨c,ty,fr,hc⟩:=hblk
      have hcell:∀ q,w.cell? ⟨b,q,none⟩=c.toList[q]?:=fun q=>by
        unfold World.cell?
        dsimp only
        rw [hc]
        simp
      have hget:(N8 D w).get (D.K*b+off)=some (.cells (Qz (anN D) (c.toList.drop off)) false 0):=by
        rw [asE,if_pos (aCa g4 g5)]
        unfold mirB
        rw [aFT g4,aFF g4,hc]
      have hall:∀ q,q<cap*e.len→∃ x a,(c.toList.drop off)[q]?=some x∧anN D x=some a:=by
        intro q hq
        have hqd:q/e.len<cap:=Nat.div_lt_of_lt_mul (by rw [Nat.mul_comm]; exact hq)
        have hqm:q%e.len<e.len:=Nat.mod_lt _ (by omega)
        obtain ⟨cs,us',k1,k2,k3,_⟩:=hat _ hqd
        have k4:=k1 _ hqm
        rw [hcell] at k4
        have e1:off+q/e.len*e.len+q%e.len=off+q:=by
          have:=Nat.div_add_mod q e.len
          rw [Nat.mul_comm] at this; omega
        rw [e1] at k4
        rw [List.getElem?_drop,k4,iv (by omega)]
        have k5:=congrArg (·[q%e.len]?) k3
        simp only [ja] at k5
        rw [iv (by omega),Option.map_some] at k5
        cases h6:us'[q%e.len]? with
        | none=>rw [h6] at k5; cases k5
        | some a=>
          rw [h6,Option.map_some] at k5
          exact ⟨_,a,rfl,Option.some.inj k5⟩
      have hpre:=atL (f:=anN D) (cap*e.len) hall
      refine ⟨_::us,by rw [List.map_cons,hA,h3,List.map_cons],⟨rfl,len,fun i=>((Qz (anN D) (c.toList.drop off)).drop (i*e.len)).take e.len,by omega,⟨by omega,.inr ⟨_,_,_,_,rfl,fun h=>⟨_,⟨?_,⟨_,_,hget⟩⟩,fun i hi=>⟨?_,?_⟩⟩⟩⟩,fun i hi=>?_⟩,h4⟩
      · have:=aCa g4 g5
        show _<D.top
        unfold Wd.top; omega
      ·
        have hm:i*e.len+e.len≤cap*e.len:=by
          have:=Nat.mul_le_mul_right e.len (show i+1≤cap by omega)
          rwa [Nat.add_mul,Nat.one_mul] at this
        have h5:=hpre (i*e.len+(e.len-1)) (by omega)
        obtain ⟨x,a,h6,h7⟩:=hall (i*e.len+(e.len-1)) (by omega)
        rw [h6,Option.bind_some,h7] at h5
        have:=(iB.1 h5).1
        omega
      · rw [Nat.zero_add]
      · obtain ⟨cs,us',k1,k2,k3,k4⟩:=hat i (by omega)
        have hm:i*e.len+e.len≤cap*e.len:=by
          have:=Nat.mul_le_mul_right e.len (show i+1≤cap by omega)
          rwa [Nat.add_mul,Nat.one_mul] at this
        have hal:us'.length=e.len:=by
          have:=congrArg List.length k3
          simp at this
          omega
        have:((Qz (anN D) (c.toList.drop off)).drop (i*e.len)).take e.len=us':=by
          apply List.ext_getElem?
          intro j
          by_cases hj:j<e.len
          · rw [List.getElem?_take,if_pos hj,List.getElem?_drop,hpre _ (by omega),List.getElem?_drop]
            have k5:=k1 j hj
            rw [hcell] at k5
            rw [show off+(i*e.len+j)=off+i*e.len+j by omega,k5,iv (by omega),Option.bind_some]
            have k6:=congrArg (·[j]?) k3
            simp only [ja] at k6
            rw [iv (by omega),iv (by omega),Option.map_some,Option.map_some] at k6
            rw [iv (by omega)]
            exact Option.some.inj k6
          · rw [List.getElem?_take,if_neg hj,iK (by omega)]
        dsimp only
        rw [this]
        exact k4
  | .nil,_::_,h=>h.elim
  | .bool _,[],h=>h.elim
  | .int _ _,[],h=>h.elim
  | .slice _ _,[],h=>h.elim
end Go.Ai
/- The input's data as configurations and rows. -/
namespace Go.Ai
theorem apa {α:Type} [Inhabited α] {Q:Nat→α→Prop}:∀ n,(∀ i,i<n→∃ x,Q i x)→∃ l:List α,l.length=n∧∀ i,i<n→Q i (l.getD i default)
  | 0,_=>⟨[],rfl,fun i h=>by omega⟩
  | n+1,h=>by
    obtain ⟨l,h1,h2⟩:=apa n fun i hi=>h i (by omega)
    obtain ⟨x,h3⟩:=h n (by omega)
    refine ⟨l++[x],by simp [h1],fun i hi=>?_⟩
    rw [iL]
    by_cases e:i=n
    · subst e
      rw [← h1,List.getElem?_concat_length]
      rw [h1]; exact h3
    · rw [List.getElem?_append_left (by omega), ← iL]
      exact h2 i (by omega)
theorem eD.congr {h:ad} {v:AV} {sz n:Nat} {f g:Nat→List AV} (s:eD h v sz n f) (e:∀ i,i<n→f i=g i):eD h v sz n g:=by
  obtain ⟨h1,h2 | ⟨b,off,ext,opn,h2,h3⟩⟩:=s
  · exact ⟨h1,.inl h2⟩
  · exact ⟨h1,.inr ⟨b,off,ext,opn,h2,fun h0=>have ⟨l,h4,h5⟩:=h3 h0; ⟨l,h4,fun i hi=>by rw [← e i hi]; exact h5 i hi⟩⟩⟩
theorem aui {h:ad} {K:Nat} {l:List AV} (a:gz h K .nil l):l = []:=by cases l with | nil=>rfl | cons x t=>exact a.elim
theorem tG {h:ad} {K:Nat} {k:IntKind} {r:Kds} {l:List AV} (a:gz h K (.int k r) l):∃ n t,l = .int k n::t∧(k.min≤n∧n≤k.max)∧gz h K r t:=by
  cases l with
  | nil=>exact a.elim
  | cons x t=>obtain ⟨⟨n,rfl,h1⟩,h2⟩:=a; exact ⟨n,t,rfl,h1,h2⟩
theorem amj {h:ad} {K:Nat} {e r:Kds} {l:List AV} (a:gz h K (.slice e r) l):∃ v t,l=v::t∧(v.shut=true∧∃ n f,n≤K∧eD h v e.len n f∧∀ i,i<n→gz h K e (f i))∧gz h K r t:=by
  cases l with
  | nil=>exact a.elim
  | cons x t=>exact ⟨x,t,rfl,a.1,a.2⟩
theorem aFq {h:ad} {K:Nat} {q:IntKind} {v:AV} (a:∃ n f,n≤K∧eD h v (Kds.int q .nil).len n f∧∀ i,i<n→gz h K (.int q .nil) (f i)) :
    ∃ l:List Int,dP h q v l∧l.length≤K∧∀ i,i<l.length→q.min≤nz l i∧nz l i≤q.max:=by
  obtain ⟨n,f,h1,h2,h3⟩:=a
  obtain ⟨l,h4,h5⟩:=apa (Q:=fun i (x:Int)=>f i = [.int q x]∧q.min≤x∧x≤q.max) n fun i hi=>by
    obtain ⟨x,t,e,h5,h6⟩:=tG (h3 i hi)
    obtain rfl:=aui h6
    exact ⟨x,e,h5⟩
  subst h4
  exact ⟨l,h2.congr fun i hi=>(h5 i hi).1,h1,fun i hi=>(h5 i hi).2⟩
def kdsPart:Kds:=.slice (.int .i64 .nil) (.int .i64 (.int .i64 (.int .i64 (.int .i64 (.int .i64 (.int .i64 (.int .i64 .nil)))))))
def kdsCfg:Kds:=.int .i64 (.int .i64 (.int .i64 (.int .i64 (.int .i64 (.int .i64 (.int .u64 (.int .u64 (.int .u64 (.int .u64 (.int .u64 (.int .u64 (.int .u64 (.int .u64 (.int .u64 (.slice (.int .i64 .nil) (.slice kdsPart .nil))))))))))))))))
theorem in_cfg {h:ad} {K:Nat} {l:List AV} (a:gz h K kdsCfg l):∃ z,Cfg h z l∧z.gM.length≤K∧z.parts.length≤K∧∀ i,i<z.parts.length→(z.parts.getD i default).gH.length≤K:=by
  obtain ⟨a1,_,rfl,_,a⟩:=tG a
  obtain ⟨a2,_,rfl,_,a⟩:=tG a
  obtain ⟨a3,_,rfl,_,a⟩:=tG a
  obtain ⟨a4,_,rfl,_,a⟩:=tG a
  obtain ⟨a5,_,rfl,_,a⟩:=tG a
  obtain ⟨a6,_,rfl,_,a⟩:=tG a
  obtain ⟨a7,_,rfl,_,a⟩:=tG a
  obtain ⟨a8,_,rfl,_,a⟩:=tG a
  obtain ⟨a9,_,rfl,_,a⟩:=tG a
  obtain ⟨b1,_,rfl,_,a⟩:=tG a
  obtain ⟨b2,_,rfl,_,a⟩:=tG a
  obtain ⟨b3,_,rfl,_,a⟩:=tG a
  obtain ⟨b4,_,rfl,_,a⟩:=tG a
  obtain ⟨b5,_,rfl,_,a⟩:=tG a
  obtain ⟨b6,_,rfl,_,a⟩:=tG a
  obtain ⟨t,_,rfl,⟨_,ht⟩,a⟩:=amj a
  obtain ⟨p,_,rfl,⟨hps,n,f,hn,hp,hf⟩,a⟩:=amj a
  obtain rfl:=aui a
  obtain ⟨gM,t1,t2,_⟩:=aFq ht
  have hpart:∀ i,i<n→∃ x:eK,∃ s,f i=Ij x s∧dP h .i64 s x.gH∧x.gH.length≤K:=by
    intro i hi
    have a:=hf i hi
    obtain ⟨s,_,e,⟨_,hs⟩,a⟩:=amj a
    rw [e]; clear e
    obtain ⟨c1,_,rfl,_,a⟩:=tG a
    obtain ⟨c2,_,rfl,_,a⟩:=tG a
    obtain ⟨c3,_,rfl,_,a⟩:=tG a
    obtain ⟨c4,_,rfl,_,a⟩:=tG a
    obtain ⟨c5,_,rfl,_,a⟩:=tG a
    obtain ⟨c6,_,rfl,_,a⟩:=tG a
    obtain ⟨c7,_,rfl,_,a⟩:=tG a
    obtain rfl:=aui a
    obtain ⟨gH,k1,k2,_⟩:=aFq hs
    exact ⟨⟨gH,c1,c2,c3,c4,c5,c6,c7⟩,s,rfl,k1,k2⟩
  obtain ⟨ps,p1,p2⟩:=apa (Q:=fun i (x:eK)=>∃ s,f i=Ij x s∧dP h .i64 s x.gH∧x.gH.length≤K) n hpart
  subst p1
  have:∀ i,∃ s,i<ps.length→f i=Ij (ps.getD i default) s∧dP h .i64 s (ps.getD i default).gH∧(ps.getD i default).gH.length≤K:=fun i=>by
    by_cases hi:i<ps.length
    · obtain ⟨s,h1⟩:=p2 i hi
      exact ⟨s,fun _=>h1⟩
    · exact ⟨.nilslice,fun h=>(hi h).elim⟩
  refine ⟨⟨a1,a2,a3,a4,a5,a6,a7,a8,a9,b1,b2,b3,b4,b5,b6,gM,ps⟩,⟨t,p,rfl,t1,hps,fun i=>(this i).choose,hp.congr fun i hi=>((this i).choose_spec hi).1,fun i hi=>((this i).choose_spec hi).2.1⟩,t2,hn,fun i hi=>((this i).choose_spec hi).2.2⟩
end Go.Ai
/- From what a row says of its input to the interpreter's heap; from a sound function to the model's call. -/
namespace Go.Ai
open Go.Proofs Go.ChangeShapes Go.WideShapes Go.ChangeAt Go.RowKit
theorem azK {D:Wd}:∀ {l:List Value} {us:List AV},l.map (anN D)=us.map some→us.map (ki (auK D))=l∧∀ u∈us,u.gY=true∧okv (· < D.top) u
  | [],[],_=>⟨rfl,fun u hu=>by simp at hu⟩
  | v::t,u::us,h=>by
    simp only [List.map_cons,List.cons.injEq] at h
    obtain ⟨h1,h2⟩:=azK h.2
    obtain ⟨h3,h4,h5⟩:=aFo h.1
    refine ⟨by rw [List.map_cons,h1,h3],fun x hx=>?_⟩
    rcases iP.1 hx with rfl | hx
    · exact ⟨h4,h5⟩
    · exact h2 x hx
  | [],_::_,h=>by simp at h
  | _::_,[],h=>by simp at h
section
variable {H:Type} {enc:TypeId × Value→H} {P:Program} {W:World} {base:Nat} {t:TypeId} {v:Value} {d:DataW H} {p:List MemPlace}
theorem aGc {fs:Array Field} {m:Nat} {k:Kds} (ht:P.underlying t=some (.struct fs)) (hk:avn P m t=some k) (hval:Value.okWide P W .any base t v) (hd:DataW.Trod enc P W 0 (fun _=>true) true t v d p) :
    ∃ D,∀ D',Wd.Le D D'→∃ us,gz (N8 D' W) D'.K k us∧ki (auK D') (.agg us)=v∧okv (· < D'.top) (.agg us):=by
  obtain ⟨fuel,hd⟩:=hd
  obtain ⟨D,hD⟩:=awU m t k hk fuel _ _ hd
  refine ⟨D,fun D' hle=>?_⟩
  obtain ⟨us,h1,h2⟩:=aqA (hD.mono hle)
  obtain ⟨h3,h4⟩:=azK h1
  obtain ⟨cs,rfl,_⟩:=okWide_struct ht hval
  refine ⟨us,h2,?_,?_⟩
  · simp only [ki,wo,h3,Value.cells]
  · exact ⟨(A1 _ _).2 fun u hu=>(h4 u hu).2,fun u hu=>(h4 u hu).1⟩
theorem aFN {m:Nat} {k:Kds} (hc:v.cells.toList = [v]) (hk:avn P m t=some k) (hd:DataW.Trod enc P W 0 (fun _=>true) true t v d p) :
    ∃ D,∀ D',Wd.Le D D'→∃ u,gz (N8 D' W) D'.K k [u]∧ki (auK D') u=v∧okv (· < D'.top) u:=by
  obtain ⟨fuel,hd⟩:=hd
  obtain ⟨D,hD⟩:=awU m t k hk fuel _ _ hd
  refine ⟨D,fun D' hle=>?_⟩
  obtain ⟨us,h1,h2⟩:=aqA (hD.mono hle)
  obtain ⟨h3,h4⟩:=azK h1
  rw [hc] at h3
  match us,h3 with
  | [u],h3=>
    simp at h3
    exact ⟨u,h2,h3,(h4 u (by simp)).2⟩
theorem in_slice {e:TypeId} {m:Nat} {k:Kds} (ht:P.underlying t=some (.slice e)) (hk:avn P m t=some k) (hval:Value.okWide P W .any base t v) (hd:DataW.Trod enc P W 0 (fun _=>true) true t v d p) :
    ∃ D,∀ D',Wd.Le D D'→∃ u,gz (N8 D' W) D'.K k [u]∧ki (auK D') u=v∧okv (· < D'.top) u:=by
  obtain ⟨a,len,cap,rfl⟩:=okWide_slice ht hval
  exact aFN rfl hk hd
theorem in_int {q:IntKind} {m:Nat} {k:Kds} (ht:P.underlying t=some (.int q)) (hk:avn P m t=some k) (hval:Value.okWide P W .any base t v) (hd:DataW.Trod enc P W 0 (fun _=>true) true t v d p) :
    ∃ D,∀ D',Wd.Le D D'→∃ u,gz (N8 D' W) D'.K k [u]∧ki (auK D') u=v∧okv (· < D'.top) u:=by
  obtain ⟨n,rfl⟩:=okWide_int ht hval
  exact aFN rfl hk hd
end
theorem aD4 {P:Program} {tbl:Tr AFn} (T:gr P tbl) {f:Nat} {w:Wr} (S:bC tbl f w) {D:Wd} {W:World} {args:List AV} (hargs:okL (· < D.top) args) {v:AV} {h':ad} (run:∀ k,w args (N8 D W) k=k v h') :
    Calls P f (args.map (ki (auK D))).toArray W fun e W'=>(∃ M',e = .returned (ki M' v))∧Below W.heap.size W W':=by
  obtain ⟨n,v1,H1,hcall,he⟩:=S [] [] args (N8 D W) (fun v h=>.ret v h) v h' (aAD D W) (by simpa using run _)
  cases he
  obtain ⟨f',first,cap,hfv,hc⟩:=aFM T n _ _ _ _ _ hcall
  cases hfv
  obtain ⟨_,hcalls⟩:=hc _ _ W (aGO D W) (aEK D W) (by simpa using hargs)
  refine Calls.mono (by simpa using hcalls) fun e w' hpost=>?_
  obtain ⟨M',D',rfl,_,hx,_⟩:=hpost
  refine ⟨⟨M',rfl⟩,hx.os,hx.tape,hx.output,hx.size,fun k hk=>hx.frame k hk fun b _ hw=>?_⟩
  exfalso
  cases hg:(N8 D W).get b with
  | none=>rw [hg] at hw; exact hw
  | some x=>
    obtain ⟨_,_,_,_,_,rfl⟩:=asO hg
    rw [hg] at hw
    cases hw
section
variable {H:Type} {enc:TypeId × Value→H} {P:Program}
theorem post_old {f:Func} {s:ChangeSpec} {apart fresh handsOn again:Bool} {W W':World} {args:Array Value} {v:Value} {ds gs:List (DataW H)} {before pa pv:List MemPlace}
    (hW:DataW.Whole enc P f.params.toList s.vars apart W args.toList ds gs before)
    (hres:∀ (b:Nat) (sp:Nat→Bool) (hd:Bool),DataW.TrodAll enc P W' b sp hd f.resultTypes.toList (v.resultList f.resultTypes.size) (s.fn H (ds++gs)).results [])
    (hargs:∀ sp:Nat→Bool,(∀ p∈before,sp p.block=true)→DataW.TrodAll enc P W' 0 sp true f.params.toList args.toList (s.fn H (ds++gs)).args pa)
    (hvars:∀ sp:Nat→Bool,(∀ p∈before,sp p.block=true)→DataW.TrodVars enc P W' sp s.vars (s.fn H (ds++gs)).vars pv)
    (hps:before=pa++pv) (hb:Below W.heap.size W W')
    (hok:∀ (j:Nat) (t:TypeId) (r:Value),f.resultTypes[j]?=some t→(v.resultList f.resultTypes.size)[j]?=some r→Value.okWide P W' .any 0 t r) :
    s.post enc P f apart fresh handsOn again W args v W':=by
  have hold:∀ p∈before,(fun b=>decide (b<W.heap.size)) p.block=true:=fun p hp=>by simpa using hW.lt p hp
  have hlt:=hW.lt
  refine ⟨ds,gs,before,[],pa,pv,hW,hres _ _ _,hargs _ hold,hvars _ hold,hb.frame _,fun _=>?_⟩
  obtain ⟨_,_,_,_,_,hz,hn⟩:=hW
  refine ⟨hok,_,_,([]++pa)++pv,⟨[]++pa,pv,trodAll_append (hargs _ (fun _ _=>rfl)) (hres _ _ _),hvars _ (fun _ _=>rfl),rfl,?_,?_⟩,?_⟩
  · intro b off hp
    have hp':MemPlace.cell b off∈before:=by rw [hps]; simpa using hp
    rw [hb.frozen (p:=⟨b,off,none⟩) (hlt _ hp')]
    exact hz b off hp'
  · intro ha
    have:=hn ha
    rw [hps] at this
    simpa using this
  · intro p hp _
    rw [hps]
    simpa using hp
theorem aAS (hl:laidOutB P=true) {W W':World} (hb:Below W.heap.size W W') {sp:Nat→Bool}:∀ {ts:List TypeId} {vs:List Value} {ds:List (DataW H)} {ps:List MemPlace},(ts.all fun t=>P.readableRec t&&decide (t<P.types.size))=true→
    DataW.TrodAll enc P W 0 (fun _=>true) true ts vs ds ps→(∀ p∈ps,sp p.block=true)→DataW.TrodAll enc P W' 0 sp true ts vs ds ps
  | [],_,_,_,_,h,_=>by
    obtain ⟨rfl,rfl,rfl⟩:=trodAll_nil h
    exact trodAll_mk0
  | t::ts,_,_,_,hts,h,hs=>by
    simp only [List.all_cons,iw,iz] at hts
    have hlt:=h.lt
    obtain ⟨v,vs',d,ds',p,q,rfl,rfl,rfl,h1,h2⟩:=trodAll_cons h
    refine ⟨p,q,Go.WideElems.Trod_stays hl hts.1.1 hts.1.2 h1 (fun x hx=>?_) fun x hx=>hs x (iQ _ hx),aAS hl hb (by simpa using hts.2) h2 fun x hx=>hs x (iR _ hx),rfl⟩
    have h3:=hlt x (iQ _ hx)
    have h4:=hb.block x.block h3
    cases x with
    | cell b off=>
      show W'.cell? _=W.cell? _
      unfold World.cell?
      dsimp only [MemPlace.block] at h4 ⊢
      rw [h4]
    | map b=>exact h4
end
end Go.Ai
/- The shelf's contracts of slices.Insert at this program. -/
namespace Go.Proofs
open Go.Shelf
def Tryz.laysIns_ren:Go.Shelf.Ren:=⟨fun | 21=>81 | 27=>96 | 28=>97 | 35=>118 | 39=>141 | n=>n,fun | 22=>25 | 3=>3 | 4=>4 | 0=>0 | n=>n,fun | n=>n⟩
theorem Tryz.laysIns:Go.Proofs.Lays2.n21 Tryz.prog Tryz.laysIns_ren:={
  mixed:=by kernel_rfl
  f21:=Tryz.func81.trans (congrArg some (by kernel_rfl))
  f27:=Tryz.func96.trans (congrArg some (by kernel_rfl))
  f28:=Tryz.func97.trans (congrArg some (by kernel_rfl))
  f35:=Tryz.func118.trans (congrArg some (by kernel_rfl))
  f39:=Tryz.func141.trans (congrArg some (by kernel_rfl))
  t0:=Tryz.underlying0
  a0:=Tryz.isAgg0
  z0:=Tryz.sizeOf0
  v0:=Tryz.zeroValue0
  t3:=Tryz.underlying3
  a3:=Tryz.isAgg3
  z3:=Tryz.sizeOf3
  v3:=Tryz.zeroValue3
  t4:=Tryz.underlying4
  a4:=Tryz.isAgg4
  z4:=Tryz.sizeOf4
  v4:=Tryz.zeroValue4
  t22:=Tryz.underlying25
  a22:=Tryz.isAgg25
  z22:=Tryz.sizeOf25
  v22:=Tryz.zeroValue25
  i3:=by kernel_rfl }
end Go.Proofs
