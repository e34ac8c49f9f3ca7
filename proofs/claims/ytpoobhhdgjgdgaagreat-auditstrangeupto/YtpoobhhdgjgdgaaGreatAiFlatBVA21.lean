/- What the input's data is, cell by cell: numbers, bools, slices of such; out of what a row's reading says. -/
import Derived.Test.YtpoobhhdgjgdgaaGreatVA9VA11
import Derived.ChangeArms
import Derived.Test.YtpoobhhdgjgdgaaGreatAiTblKs
import Derived.Test.YtpoobhhdgjgdgaaGreatVA15VA20
set_option linter.all false
namespace Go.Ai
inductive Kds where
  | nil
  | bool (r:Kds)
  | int (k:IntKind) (r:Kds)
  | slice (e r:Kds)
def Kds.len:Kds→Nat
  | .nil=>0
  | .bool r=>r.len+1
  | .int _ r=>r.len+1
  | .slice _ r=>r.len+1
def Kds.app:Kds→Kds→Kds
  | .nil,s=>s
  | .bool r,s=>.bool (r.app s)
  | .int k r,s=>.int k (r.app s)
  | .slice e r,s=>.slice e (r.app s)
theorem Kds.len_app:∀ a b:Kds,(a.app b).len=a.len+b.len
  | .nil,b=>by simp [Kds.app,Kds.len]
  | .bool r,b=>by simp [Kds.app,Kds.len,Kds.len_app r b]; omega
  | .int _ r,b=>by simp [Kds.app,Kds.len,Kds.len_app r b]; omega
  | .slice _ r,b=>by simp [Kds.app,Kds.len,Kds.len_app r b]; omega
structure Wd where
  K:Nat
  N:Nat
  odds:List Addr
structure Wd.Le (a b:Wd):Prop where
  K:a.K≤b.K
  N:a.N≤b.N
  odds:∀ x∈a.odds,x∈b.odds
theorem Wd.Le.trans {a b c:Wd} (h:Wd.Le a b) (g:Wd.Le b c):Wd.Le a c:=⟨ga h.K g.K,ga h.N g.N,fun x hx=>g.odds x (h.odds x hx)⟩
def Wd.join (a b:Wd):Wd:=⟨a.K+b.K,a.N+b.N,a.odds++b.odds⟩
theorem Wd.le_l (a b:Wd):Wd.Le a (a.join b):=⟨Nat.le_add_right _ _,Nat.le_add_right _ _,fun _ h=>gl _ h⟩
theorem Wd.le_r (a b:Wd):Wd.Le b (a.join b):=⟨Nat.le_add_left _ _,Nat.le_add_left _ _,fun _ h=>gm _ h⟩
theorem Wd.range {Q:Nat→Wd→Prop} (mono:∀ i D D',Wd.Le D D'→Q i D→Q i D'):∀ n,(∀ i,i<n→∃ D,Q i D)→∃ D,∀ i,i<n→Q i D
  | 0,_=>⟨⟨0,0,[]⟩,fun i h=>by omega⟩
  | n+1,h=>by
    obtain ⟨D1,h1⟩:=Wd.range mono n fun i hi=>h i (by omega)
    obtain ⟨D2,h2⟩:=h n (by omega)
    refine ⟨D1.join D2,fun i hi=>?_⟩
    by_cases e:i=n
    · subst e; exact mono _ _ _ (Wd.le_r D1 D2) h2
    · exact mono _ _ _ (Wd.le_l D1 D2) (h1 i (by omega))
def dT (w:World) (D:Wd) (B:Nat):Kds→List Value→Prop
  | .nil,[]=>True
  | .bool r,v::t=>(∃ b,v = .bool b)∧dT w D B r t
  | .int k r,v::t=>(∃ n,v = .int k n∧k.min≤n∧n≤k.max)∧dT w D B r t
  | .slice e r,v::t=>(v = .slice none 0 0∨(∃ a,a∈D.odds∧v = .slice (some a) 0 0)∨
      ∃ b off len cap,v = .slice (some ⟨b,off,none⟩) len cap∧(len≤cap∧len≤B)∧cap≤9223372036854775807∧(0<cap∧0<e.len)∧off<D.K∧b<D.N∧cap<D.K∧
        ∀ i,i<cap→∃ cs,(∀ j,j<e.len→w.cell? ⟨b,off+i*e.len+j,none⟩=cs[j]?)∧dT w D B e cs)∧dT w D B r t
  | _,_=>False
theorem dT.length {w:World} {D:Wd} {B:Nat}:∀ {k:Kds} {l:List Value},dT w D B k l→l.length=k.len
  | .nil,[],_=>rfl
  | .bool r,v::t,h=>by rw [List.length_cons,Kds.len,dT.length (k:=r) h.2]
  | .int _ r,v::t,h=>by rw [List.length_cons,Kds.len,dT.length (k:=r) h.2]
  | .slice _ r,v::t,h=>by rw [List.length_cons,Kds.len,dT.length (k:=r) h.2]
  | .nil,_::_,h=>h.elim
  | .bool _,[],h=>h.elim
  | .int _ _,[],h=>h.elim
  | .slice _ _,[],h=>h.elim
theorem dT.mono {w:World} {D D':Wd} {B:Nat} (d:Wd.Le D D'):∀ {k:Kds} {l:List Value},dT w D B k l→dT w D' B k l
  | .nil,[],_=>trivial
  | .bool r,v::t,h=>⟨h.1,dT.mono d (k:=r) h.2⟩
  | .int _ r,v::t,h=>⟨h.1,dT.mono d (k:=r) h.2⟩
  | .slice e r,v::t,h=>by
    refine ⟨?_,dT.mono d (k:=r) h.2⟩
    rcases h.1 with h1 | ⟨a,h1,h2⟩ | ⟨b,off,len,cap,h1,h2,h3,h4,h5,h6,h7,h8⟩
    · exact .inl h1
    · exact .inr (.inl ⟨a,d.odds a h1,h2⟩)
    · refine .inr (.inr ⟨b,off,len,cap,h1,h2,h3,h4,fW h5 d.K,fW h6 d.N,fW h7 d.K,fun i hi=>?_⟩)
      obtain ⟨cs,h9,h10⟩:=h8 i hi
      exact ⟨cs,h9,dT.mono d (k:=e) h10⟩
  | .nil,_::_,h=>h.elim
  | .bool _,[],h=>h.elim
  | .int _ _,[],h=>h.elim
  | .slice _ _,[],h=>h.elim
theorem dT.app {w:World} {D:Wd} {B:Nat} {s:Kds} {m:List Value} (g:dT w D B s m):∀ {k:Kds} {l:List Value},dT w D B k l→dT w D B (k.app s) (l++m)
  | .nil,[],_=>g
  | .bool r,v::t,h=>⟨h.1,dT.app g (k:=r) h.2⟩
  | .int _ r,v::t,h=>⟨h.1,dT.app g (k:=r) h.2⟩
  | .slice e r,v::t,h=>⟨h.1,dT.app g (k:=r) h.2⟩
  | .nil,_::_,h=>h.elim
  | .bool _,[],h=>h.elim
  | .int _ _,[],h=>h.elim
  | .slice _ _,[],h=>h.elim
def aje (g:TypeId→Option Kds) (sz:TypeId→Nat):Nat→List Field→Option Kds
  | _,[]=>some .nil
  | o,f::fs=>if f.offset=o then (g f.type).bind fun l=>if l.len=sz f.type then (aje g sz (o+l.len) fs).map fun r=>l.app r else none else none
def flat (P:Program):Nat→TypeId→Option Kds
  | 0,_=>none
  | n+1,t=>match P.underlying t with
    | some .bool=>some (.bool .nil)
    | some (.int k)=>some (.int k .nil)
    | some (.slice e)=>(flat P n e).bind fun l=>if l.len=P.cellsOf e∧l.len≠0 then some (.slice l .nil) else none
    | some (.struct fs)=>(aje (flat P n) P.cellsOf 0 fs.toList).bind fun r=>if r.len=P.cellsOf t then some r else none
    | _=>none
theorem has_fs {w:World} {B:Nat} {g:TypeId→Option Kds} {sz:TypeId→Nat} {cs:List Value}:∀ (fs:List Field) (o:Nat) (r:Kds),aje g sz o fs=some r→o+r.len≤cs.length→
    (∀ f∈fs,∀ l,g f.type=some l→∃ D,dT w D B l ((cs.drop f.offset).take (sz f.type)))→∃ D,dT w D B r ((cs.drop o).take r.len)
  | [],o,r,h,_,_=>by
    cases h
    exact ⟨⟨0,0,[]⟩,by simp [Kds.len,dT]⟩
  | f::fs,o,r,h,hl,hall=>by
    unfold aje at h
    split at h
    · rename_i ho
      subst ho
      cases hg:g f.type with
      | none=>rw [hg] at h; cases h
      | some l=>
        rw [hg,Option.bind_some] at h
        split at h
        · rename_i hsz
          simp only [fF] at h
          obtain ⟨r',hr',rfl⟩:=h
          rw [Kds.len_app] at hl
          obtain ⟨D1,h1⟩:=hall f (gp ..) l hg
          obtain ⟨D2,h2⟩:=has_fs (w:=w) (cs:=cs) fs _ _ hr' (by omega) fun f' hf'=>hall f' (fL _ hf')
          refine ⟨D1.join D2,?_⟩
          have:=dT.app (h2.mono (Wd.le_r D1 D2)) (h1.mono (Wd.le_l D1 D2))
          rw [← hsz] at this
          rw [Kds.len_app,List.take_add,List.drop_drop]
          exact this
        · cases h
    · cases h
structure BulkOk {H:Type} (bulk:DataW H→Nat):Prop where
  len:∀ es sp,es.length≤bulk (.slice es sp)
  el:∀ es sp d,d∈es∨d∈sp→bulk d≤bulk (.slice es sp)
  part:∀ ps d,d∈ps→bulk d≤bulk (.agg ps)
theorem anU {H:Type} {enc:TypeId × Value→H} {P:Program} {w:World} {bulk:DataW H→Nat} (ok:BulkOk bulk) {B:Nat}:∀ (m:Nat) (t:TypeId) (k:Kds),flat P m t=some k→∀ (fuel:Nat) (cs:List Value) (x:DataW H × List MemPlace),
    DataW.trod enc P w 0 (fun _=>true) true fuel t cs=some x→bulk x.1≤B→∃ D,dT w D B k cs:=by
  intro m
  induction m with
  | zero=>intro t k h; cases h
  | succ m ih=>
    intro t k h fuel cs x hx hB
    unfold flat at h
    split at h
    · rename_i ht
      cases h
      obtain ⟨b,rfl,_⟩:=DataW.trod_bool ht hx
      exact ⟨⟨0,0,[]⟩,⟨b,rfl⟩,trivial⟩
    · rename_i q ht
      cases h
      obtain ⟨n,rfl,_,hw⟩:=DataW.trod_int ht hx
      simp only [Lit.wf,fV,fX] at hw
      exact ⟨⟨0,0,[]⟩,⟨n,rfl,hw⟩,trivial⟩
    · rename_i e ht
      cases hf:flat P m e with
      | none=>rw [hf] at h; cases h
      | some l=>
        rw [hf,Option.bind_some] at h
        split at h
        · rename_i hl
          obtain ⟨hl,hl0⟩:=hl
          cases h
          rcases DataW.trod_slice ht hx with ⟨rfl,_⟩ | ⟨a,len,cap,elems,rest,n,_,rfl,rfl,_,hlc,hcm,hel,hat,hrest,_⟩
          · exact ⟨⟨0,0,[]⟩,.inl rfl,trivial⟩
          · by_cases h0:cap=0
            · subst h0
              obtain rfl:len=0:=by omega
              exact ⟨⟨0,0,[a]⟩,.inr (.inl ⟨a,by simp,rfl⟩),trivial⟩
            · obtain ⟨hrl,hrat⟩:=hrest rfl
              have hall:∀ i,i<cap→∃ cs x,w.cells? 0 (a.add (i*P.cellsOf e)) (P.cellsOf e)=some cs∧DataW.trod enc P w 0 (fun _=>true) true n e cs=some x∧bulk x.1≤B:=by
                intro i hi
                by_cases hlt:i<len
                · have h1:=hat i hlt
                  have hlt':i<elems.length:=by omega
                  rw [fU hlt',fT] at h1
                  obtain ⟨cs,h2,h3⟩:=h1
                  exact ⟨cs,_,h2,h3,ga (ok.el _ _ _ (.inl (fJ.2 ⟨_,gn hlt',rfl⟩))) hB⟩
                · have h1:=hrat (i-len) (by omega)
                  have hlt':i-len<rest.length:=by omega
                  rw [fU hlt',fT] at h1
                  obtain ⟨cs,h2,h3⟩:=h1
                  rw [show len+(i-len)=i by omega] at h2
                  exact ⟨cs,_,h2,h3,ga (ok.el _ _ _ (.inr (fJ.2 ⟨_,gn hlt',rfl⟩))) hB⟩
              obtain ⟨b,off,spot⟩:=a
              have hspot:spot=none:=by
                obtain ⟨cs,_,h2,_⟩:=hall 0 (by omega)
                obtain ⟨_,h3,h4⟩:=World.cells?_some h2
                have h5:=h4 0 (by omega)
                rw [fU (by omega)] at h5
                rw [Nat.zero_mul] at h5
                simpa [Addr.add] using World.cell?_spot h5
              subst hspot
              have hcs:∀ i,i<cap→∃ D,∃ cs,(∀ j,j<l.len→w.cell? ⟨b,off+i*l.len+j,none⟩=cs[j]?)∧dT w D B l cs:=by
                intro i hi
                obtain ⟨cs,y,h2,h3,hb⟩:=hall i hi
                obtain ⟨_,h4,h5⟩:=World.cells?_some h2
                obtain ⟨D,h6⟩:=ih e l hf n cs y h3 hb
                refine ⟨D,cs,fun j hj=>?_,h6⟩
                have:=h5 j (by omega)
                rw [Addr.add_lit,Addr.add_lit] at this
                rw [hl]
                exact this
              obtain ⟨D,hD⟩:=Wd.range (Q:=fun i D=>∃ cs,(∀ j,j<l.len→w.cell? ⟨b,off+i*l.len+j,none⟩=cs[j]?)∧dT w D B l cs)
                (fun i D D' d ⟨cs,h1,h2⟩=>⟨cs,h1,h2.mono d⟩) cap hcs
              refine ⟨D.join ⟨off+cap+1,b+1,[]⟩,.inr (.inr ⟨b,off,len,cap,rfl,⟨hlc,ga (by have:=ok.len (elems.map (·.1)) (rest.map (·.1)); rw [gu,hel] at this; exact this) hB⟩,by unfold maxLen at hcm; omega,⟨by omega,by omega⟩,?_,?_,?_,fun i hi=>?_⟩),trivial⟩
              · show off<D.K+(off+cap+1); omega
              · show b<D.N+(b+1); omega
              · show cap<D.K+(off+cap+1); omega
              · obtain ⟨cs,h1,h2⟩:=hD i hi
                exact ⟨cs,h1,h2.mono (Wd.le_l _ _)⟩
        · cases h
    · rename_i fs ht
      cases hf:aje (flat P m) P.cellsOf 0 fs.toList with
      | none=>rw [hf] at h; cases h
      | some r=>
        rw [hf,Option.bind_some] at h
        split at h
        · rename_i hr
          cases h
          obtain ⟨xs,n,_,rfl,hl,hxs,hat⟩:=DataW.trod_struct ht hx
          obtain ⟨D,hD⟩:=has_fs (w:=w) (cs:=cs) _ _ _ hf (by omega) (fun f hf' l hg=>by
            obtain ⟨i,hi,rfl⟩:=List.mem_iff_getElem.1 hf'
            have h1:=hat i fs.toList[i] (by simp)
            have:i<xs.length:=by simpa [hxs] using hi
            rw [fU this] at h1
            exact ih _ _ hg n _ _ h1 (ga (ok.part _ _ (fJ.2 ⟨_,gn this,rfl⟩)) hB))
          refine ⟨D,?_⟩
          rw [List.drop_zero,List.take_of_length_le (by omega)] at hD
          exact hD
        · cases h
    · cases h
end Go.Ai
/- An abstract heap that mirrors a world: of each place in it the plain cells from there on, to be read; slices that have no place by themselves. -/
namespace Go.Ai
def ai4 (D:Wd):Mp:=fun i=>if i<D.K*D.N then ⟨i/D.K,i%D.K,0,none⟩ else match D.odds[i-D.K*D.N]? with
  | some a=>⟨a.block,a.off,0,a.spot⟩
  | none=>⟨0,0,0,none⟩
def Wd.top (D:Wd):Nat:=D.K*D.N+D.odds.length
def TC (D:Wd):Value→Option AV
  | .bool b=>some (.bool b)
  | .int k n=>some (.int k n)
  | .slice none 0 0=>some .nilslice
  | .slice (some a) len cap=>if cap=0 then (if len=0∧a∈D.odds then some (.slice (D.K*D.N+D.odds.idxOf a) 0 0 0 false) else none)
    else if (a.off<D.K∧a.block<D.N)∧a.spot=none∧len≤cap then some (.slice (D.K*a.block+a.off) 0 len (cap-len) false) else none
  | _=>none
theorem alS {K N b off:Nat} (h1:off<K) (h2:b<N):K*b+off<K*N:=by
  have:=Nat.mul_le_mul_left K (show b+1≤N by omega)
  rw [Nat.mul_add] at this
  omega
theorem apL {K b off:Nat} (h:off<K):(K*b+off)/K=b:=by rw [Nat.mul_add_div (by omega),Nat.div_eq_of_lt h,Nat.add_zero]
theorem apO {K b off:Nat} (h:off<K):(K*b+off)%K=off:=by rw [Nat.mul_add_mod,Nat.mod_eq_of_lt h]
theorem win_at {D:Wd} {b off:Nat} (h1:off<D.K) (h2:b<D.N):ai4 D (D.K*b+off)=⟨b,off,0,none⟩:=by
  unfold ai4
  rw [if_pos (alS h1 h2),apL h1,apO h1]
theorem win_odd {D:Wd} {a:Addr} (h:a∈D.odds):ai4 D (D.K*D.N+D.odds.idxOf a)=⟨a.block,a.off,0,a.spot⟩:=by
  unfold ai4
  rw [if_neg (by omega),Nat.add_sub_cancel_left,fU (List.idxOf_lt_length_iff.2 h),List.getElem_idxOf]
theorem apM {D:Wd} {v:Value} {a:AV} (h:TC D v=some a):im (ai4 D) a=v∧a.fD=true∧okv (· < D.top) a:=by
  unfold TC at h
  split at h
  · cases h; exact ⟨by simp [im],rfl,by simp [okv]⟩
  · cases h; exact ⟨by simp [im],rfl,by simp [okv]⟩
  · cases h; exact ⟨by simp [im],rfl,by simp [okv]⟩
  · split at h
    · rename_i hc
      subst hc
      split at h
      · rename_i hb
        obtain ⟨rfl,hb⟩:=hb
        cases h
        refine ⟨?_,rfl,?_⟩
        · simp [im,win_odd hb,Loc.at]
        · have:=List.idxOf_lt_length_iff.2 hb
          simp only [okv,Wd.top]; omega
      · cases h
    · split at h
      · rename_i addr _ _ _ hb
        obtain ⟨⟨h1,h2⟩,h3,h4⟩:=hb
        obtain ⟨b,off,spot⟩:=addr
        dsimp only at h1 h2 h3
        subst h3
        cases h
        refine ⟨?_,rfl,?_⟩
        · simp [im,win_at h1 h2]; omega
        · have:=alS h1 h2
          simp only [okv,Wd.top]; omega
      · cases h
  · cases h
noncomputable def aiF (f:Nat→Option Blk):Nat→Tr Blk
  | 0=>.leaf
  | n+1=>match f n with
    | some x=>(aiF f n).set (key n) x
    | none=>aiF f n
theorem akT (f:Nat→Option Blk):∀ n b,(aiF f n).get (key b)=if b<n then f b else none
  | 0,b=>by rw [aiF,Tr.fC,if_neg (by omega)]
  | n+1,b=>by
    have ih:=akT f n b
    cases hf:f n with
    | none=>
      simp only [aiF,hf]
      rw [ih]
      by_cases h:b<n
      · rw [if_pos h,if_pos (by omega)]
      · rw [if_neg h]
        by_cases e:b=n
        · subst e; rw [if_pos (by omega),hf]
        · rw [if_neg (by omega)]
    | some x=>
      simp only [aiF,hf]
      by_cases e:n=b
      · subst e; rw [Tr.ft,if_pos (by omega),hf]
      · rw [Tr.fq (fun k=>e (CC k)),ih]
        by_cases h:b<n
        · rw [if_pos h,if_pos (by omega)]
        · rw [if_neg h,if_neg (by omega)]
def xj (f:Value→Option AV):List Value→List AV
  | []=>[]
  | x::t=>match f x with
    | some a=>a::xj f t
    | none=>[]
theorem ad6 {f:Value→Option AV}:∀ {l:List Value} (i:Nat) (v:AV),(xj f l)[i]?=some v→∃ x,l[i]?=some x∧f x=some v
  | [],i,v,h=>by simp [xj] at h
  | x::t,i,v,h=>by
    unfold xj at h
    split at h
    · rename_i a ha
      cases i with
      | zero=>simp at h; subst h; exact ⟨x,by simp,ha⟩
      | succ i=>
        simp at h
        obtain ⟨y,h1,h2⟩:=ad6 i v h
        exact ⟨y,by simpa using h1,h2⟩
    · simp at h
theorem aac {f:Value→Option AV}:∀ {l:List Value} (m:Nat),(∀ p,p<m→∃ x a,l[p]?=some x∧f x=some a)→∀ p,p<m→(xj f l)[p]?=l[p]?.bind f
  | [],m,h,p,hp=>by
    obtain ⟨x,a,h1,_⟩:=h p hp
    simp at h1
  | x::t,m,h,p,hp=>by
    obtain ⟨x',a,h1,h2⟩:=h 0 (by omega)
    simp at h1
    subst h1
    unfold xj
    rw [h2]
    cases p with
    | zero=>simp [h2]
    | succ p=>
      simp only [List.getElem?_cons_succ]
      exact aac (m-1) (fun q hq=>by
        obtain ⟨y,b,h3,h4⟩:=h (q+1) (by omega)
        exact ⟨y,b,by simpa using h3,h4⟩) p (by omega)
def mirB (D:Wd) (w:World) (i:Nat):Option Blk:=match w.heap[i/D.K]? with
  | some (.cells c _ _)=>some (.cells (xj (TC D) (c.toList.drop (i%D.K))) false 0)
  | _=>none
noncomputable def Ba (D:Wd) (w:World):Heap:=⟨aiF (mirB D w) (D.K*D.N),D.top,D.top⟩
theorem ZD (D:Wd) (w:World) (b:Nat):(Ba D w).get b=if b<D.K*D.N then mirB D w b else none:=akT _ _ _
theorem ala (D:Wd) (w:World):(Ba D w).ro≤(Ba D w).nx:=fY _
theorem Zs {D:Wd} {w:World} {b:Nat} {x:Blk} (h:(Ba D w).get b=some x):b<D.K*D.N∧∃ c e fr,w.heap[b/D.K]?=some (.cells c e fr)∧x = .cells (xj (TC D) (c.toList.drop (b%D.K))) false 0:=by
  rw [ZD] at h
  split at h
  · rename_i hb
    unfold mirB at h
    split at h
    · rename_i c e fr hc
      cases h
      exact ⟨hb,c,e,fr,hc,rfl⟩
    · cases h
  · cases h
theorem apk (D:Wd) (w:World):Rel (ai4 D) (· < D.top) (Ba D w) w:=by
  refine ⟨fun b hb=>hb,fun b hb=>?_,fun b c _ _ _ hw _=>?_⟩
  · cases hx:(Ba D w).get b with
    | none=>trivial
    | some x=>
      obtain ⟨h0,c,e,fr,h1,rfl⟩:=Zs hx
      have hlt:b/D.K<w.heap.size:=by
        rcases fQ (b/D.K) w.heap.size with h | h
        · exact h
        · rw [Array.getElem?_eq_none h] at h1; cases h1
      have hM:ai4 D b=⟨b/D.K,b%D.K,0,none⟩:=by unfold ai4; rw [if_pos h0]
      rw [hM]
      refine ⟨fun i v hv=>?_,fun h=>(by cases h),hlt,fun h=>(by cases h),fun h=>(h rfl).elim,rfl⟩
      obtain ⟨y,h5,h6⟩:=ad6 i v hv
      obtain ⟨h7,h8,h9⟩:=apM h6
      refine ⟨?_,h8,h9⟩
      unfold World.cell?
      show (match w.heap[b/D.K]? with | some (.cells c _ _)=>_ | _=>none)=_
      rw [h1]
      simp only [Option.isSome_none,fK,if_false]
      rw [List.getElem?_drop] at h5
      rw [← Array.getElem?_toList,h5,h7]
  · exfalso
    cases hx:(Ba D w).get b with
    | none=>rw [hx] at hw; exact hw
    | some x=>
      obtain ⟨_,_,_,_,_,rfl⟩:=Zs hx
      rw [hx] at hw
      cases hw
theorem arb (D:Wd) (w:World):HpOk (Ba D w):=by
  refine ⟨fY _,fun b hb=>?_⟩
  by_cases h:b<D.top
  · exact h
  · rw [ZD,if_neg (by unfold Wd.top at h; omega)] at hb
    exact hb.1.elim
def eO (h:Heap) (K:Nat):Kds→List AV→Prop
  | .nil,[]=>True
  | .bool r,v::t=>(∃ b,v = .bool b)∧eO h K r t
  | .int k r,v::t=>(∃ n,v = .int k n∧k.min≤n∧n≤k.max)∧eO h K r t
  | .slice e r,v::t=>(v.shut=true∧∃ n f,n≤K∧bI h v e.len n f∧∀ i,i<n→eO h K e (f i))∧eO h K r t
  | _,_=>False
theorem aar {w:World} {D:Wd} {B:Nat}:∀ {k:Kds} {l:List Value},dT w D B k l→∃ us,l.map (TC D)=us.map some∧eO (Ba D w) B k us
  | .nil,[],_=>⟨[],rfl,trivial⟩
  | .bool r,v::t,h=>by
    obtain ⟨⟨b,rfl⟩,h2⟩:=h
    obtain ⟨us,h3,h4⟩:=aar (k:=r) h2
    exact ⟨.bool b::us,by simp [TC,h3],⟨b,rfl⟩,h4⟩
  | .int q r,v::t,h=>by
    obtain ⟨⟨n,rfl,h1⟩,h2⟩:=h
    obtain ⟨us,h3,h4⟩:=aar (k:=r) h2
    exact ⟨.int q n::us,by simp [TC,h3],⟨n,rfl,h1⟩,h4⟩
  | .slice e r,v::t,h=>by
    obtain ⟨h1,h2⟩:=h
    obtain ⟨us,h3,h4⟩:=aar (k:=r) h2
    rcases h1 with rfl | ⟨a,h1,rfl⟩ | ⟨b,off,len,cap,rfl,⟨g1,g1b⟩,g2,⟨g3,hz⟩,g4,g5,g6,g7⟩
    · exact ⟨.nilslice::us,by simp [TC,h3],⟨rfl,0,fun _=>[],by omega,⟨by omega,.inl ⟨rfl,rfl⟩⟩,fun i hi=>by omega⟩,h4⟩
    · refine ⟨.slice (D.K*D.N+D.odds.idxOf a) 0 0 0 false::us,by simp [TC,h1,h3],⟨rfl,0,fun _=>[],by omega,⟨by omega,.inr ⟨_,_,_,_,rfl,fun h=>by omega⟩⟩,fun i hi=>by omega⟩,h4⟩
    ·
      have hat:∀ i,i<cap→∃ (cs:List Value) (us':List AV),(∀ j,j<e.len→w.cell? ⟨b,off+i*e.len+j,none⟩=cs[j]?)∧cs.length=e.len∧cs.map (TC D)=us'.map some∧eO (Ba D w) B e us':=by
        intro i hi
        obtain ⟨cs,k1,k2⟩:=g7 i hi
        obtain ⟨us',k3,k4⟩:=aar (k:=e) k2
        exact ⟨cs,us',k1,k2.length,k3,k4⟩
      have hA:TC D (.slice (some ⟨b,off,none⟩) len cap)=some (.slice (D.K*b+off) 0 len (cap-len) false):=by
        unfold TC
        simp only [if_neg (show ¬ cap=0 by omega)]
        rw [if_pos ⟨⟨g4,g5⟩,trivial,g1⟩]
      have hblk:∃ c ty fr,w.heap[b]?=some (.cells c ty fr):=by
        obtain ⟨cs,us',k1,k2,_⟩:=hat 0 g3
        have:=k1 0 (by omega)
        rw [fU (by omega)] at this
        unfold World.cell? at this
        dsimp only at this
        split at this
        · rename_i c ty fr hc
          exact ⟨c,ty,fr,hc⟩
        · cases this
      obtain ⟨c,ty,fr,hc⟩:=hblk
      have hcell:∀ q,w.cell? ⟨b,q,none⟩=c.toList[q]?:=fun q=>by
        unfold World.cell?
        dsimp only
        rw [hc]
        simp
      have hget:(Ba D w).get (D.K*b+off)=some (.cells (xj (TC D) (c.toList.drop off)) false 0):=by
        rw [ZD,if_pos (alS g4 g5)]
        unfold mirB
        rw [apL g4,apO g4,hc]
      have hall:∀ q,q<cap*e.len→∃ x a,(c.toList.drop off)[q]?=some x∧TC D x=some a:=by
        intro q hq
        have hqd:q/e.len<cap:=Nat.div_lt_of_lt_mul (by rw [Nat.mul_comm]; exact hq)
        have hqm:q%e.len<e.len:=Nat.mod_lt _ (by omega)
        obtain ⟨cs,us',k1,k2,k3,_⟩:=hat _ hqd
        have k4:=k1 _ hqm
        rw [hcell] at k4
        have e1:off+q/e.len*e.len+q%e.len=off+q:=by
          have:=Nat.div_add_mod q e.len
          rw [Nat.mul_comm] at this; omega
        rw [e1] at k4
        rw [List.getElem?_drop,k4,fU (by omega)]
        have k5:=congrArg (·[q%e.len]?) k3
        simp only [gy] at k5
        rw [fU (by omega),Option.map_some] at k5
        cases h6:us'[q%e.len]? with
        | none=>rw [h6] at k5; cases k5
        | some a=>
          rw [h6,Option.map_some] at k5
          exact ⟨_,a,rfl,Option.some.inj k5⟩
      have hpre:=aac (f:=TC D) (cap*e.len) hall
      refine ⟨_::us,by rw [List.map_cons,hA,h3,List.map_cons],⟨rfl,len,fun i=>((xj (TC D) (c.toList.drop off)).drop (i*e.len)).take e.len,by omega,⟨by omega,.inr ⟨_,_,_,_,rfl,fun h=>⟨_,⟨?_,⟨_,_,hget⟩⟩,fun i hi=>⟨?_,?_⟩⟩⟩⟩,fun i hi=>?_⟩,h4⟩
      · have:=alS g4 g5
        show _<D.top
        unfold Wd.top; omega
      ·
        have hm:i*e.len+e.len≤cap*e.len:=by
          have:=Nat.mul_le_mul_right e.len (show i+1≤cap by omega)
          rwa [Nat.add_mul,Nat.one_mul] at this
        have h5:=hpre (i*e.len+(e.len-1)) (by omega)
        obtain ⟨x,a,h6,h7⟩:=hall (i*e.len+(e.len-1)) (by omega)
        rw [h6,Option.bind_some,h7] at h5
        have:=(fZ.1 h5).1
        omega
      · rw [Nat.zero_add]
      · obtain ⟨cs,us',k1,k2,k3,k4⟩:=hat i (by omega)
        have hm:i*e.len+e.len≤cap*e.len:=by
          have:=Nat.mul_le_mul_right e.len (show i+1≤cap by omega)
          rwa [Nat.add_mul,Nat.one_mul] at this
        have hal:us'.length=e.len:=by
          have:=congrArg List.length k3
          simp at this
          omega
        have:((xj (TC D) (c.toList.drop off)).drop (i*e.len)).take e.len=us':=by
          apply List.ext_getElem?
          intro j
          by_cases hj:j<e.len
          · rw [List.getElem?_take,if_pos hj,List.getElem?_drop,hpre _ (by omega),List.getElem?_drop]
            have k5:=k1 j hj
            rw [hcell] at k5
            rw [show off+(i*e.len+j)=off+i*e.len+j by omega,k5,fU (by omega),Option.bind_some]
            have k6:=congrArg (·[j]?) k3
            simp only [gy] at k6
            rw [fU (by omega),fU (by omega),Option.map_some,Option.map_some] at k6
            rw [fU (by omega)]
            exact Option.some.inj k6
          · rw [List.getElem?_take,if_neg hj,gf (by omega)]
        dsimp only
        rw [this]
        exact k4
  | .nil,_::_,h=>h.elim
  | .bool _,[],h=>h.elim
  | .int _ _,[],h=>h.elim
  | .slice _ _,[],h=>h.elim
end Go.Ai
/- The input's data as configurations and rows. -/
namespace Go.Ai
theorem KR {α:Type} [Inhabited α] {Q:Nat→α→Prop}:∀ n,(∀ i,i<n→∃ x,Q i x)→∃ l:List α,l.length=n∧∀ i,i<n→Q i (l.getD i default)
  | 0,_=>⟨[],rfl,fun i h=>by omega⟩
  | n+1,h=>by
    obtain ⟨l,h1,h2⟩:=KR n fun i hi=>h i (by omega)
    obtain ⟨x,h3⟩:=h n (by omega)
    refine ⟨l++[x],by simp [h1],fun i hi=>?_⟩
    rw [gh]
    by_cases e:i=n
    · subst e
      rw [← h1,List.getElem?_concat_length]
      rw [h1]; exact h3
    · rw [List.getElem?_append_left (by omega), ← gh]
      exact h2 i (by omega)
theorem bI.congr {h:Heap} {v:AV} {sz n:Nat} {f g:Nat→List AV} (s:bI h v sz n f) (e:∀ i,i<n→f i=g i):bI h v sz n g:=by
  obtain ⟨h1,h2 | ⟨b,off,ext,opn,h2,h3⟩⟩:=s
  · exact ⟨h1,.inl h2⟩
  · exact ⟨h1,.inr ⟨b,off,ext,opn,h2,fun h0=>have ⟨l,h4,h5⟩:=h3 h0; ⟨l,h4,fun i hi=>by rw [← e i hi]; exact h5 i hi⟩⟩⟩
theorem vE {h:Heap} {K:Nat} {l:List AV} (a:eO h K .nil l):l = []:=by cases l with | nil=>rfl | cons x t=>exact a.elim
theorem jX {h:Heap} {K:Nat} {k:IntKind} {r:Kds} {l:List AV} (a:eO h K (.int k r) l):∃ n t,l = .int k n::t∧(k.min≤n∧n≤k.max)∧eO h K r t:=by
  cases l with
  | nil=>exact a.elim
  | cons x t=>obtain ⟨⟨n,rfl,h1⟩,h2⟩:=a; exact ⟨n,t,rfl,h1,h2⟩
theorem wn {h:Heap} {K:Nat} {r:Kds} {l:List AV} (a:eO h K (.bool r) l):∃ b t,l = .bool b::t∧eO h K r t:=by
  cases l with
  | nil=>exact a.elim
  | cons x t=>obtain ⟨⟨n,rfl⟩,h2⟩:=a; exact ⟨n,t,rfl,h2⟩
theorem qj {h:Heap} {K:Nat} {e r:Kds} {l:List AV} (a:eO h K (.slice e r) l):∃ v t,l=v::t∧(v.shut=true∧∃ n f,n≤K∧bI h v e.len n f∧∀ i,i<n→eO h K e (f i))∧eO h K r t:=by
  cases l with
  | nil=>exact a.elim
  | cons x t=>exact ⟨x,t,rfl,a.1,a.2⟩
theorem agM {h:Heap} {K:Nat} {q:IntKind} {v:AV} (a:∃ n f,n≤K∧bI h v (Kds.int q .nil).len n f∧∀ i,i<n→eO h K (.int q .nil) (f i)) :
    ∃ l:List Int,cK h q v l∧l.length≤K∧∀ i,i<l.length→q.min≤nz l i∧nz l i≤q.max:=by
  obtain ⟨n,f,h1,h2,h3⟩:=a
  obtain ⟨l,h4,h5⟩:=KR (Q:=fun i (x:Int)=>f i = [.int q x]∧q.min≤x∧x≤q.max) n fun i hi=>by
    obtain ⟨x,t,e,h5,h6⟩:=jX (h3 i hi)
    obtain rfl:=vE h6
    exact ⟨x,e,h5⟩
  subst h4
  exact ⟨l,h2.congr fun i hi=>(h5 i hi).1,h1,fun i hi=>(h5 i hi).2⟩
def kdsPart:Kds:=.slice (.int .i64 .nil) (.int .i64 (.int .i64 (.int .i64 (.int .i64 (.int .i64 (.int .i64 (.int .i64 .nil)))))))
def kdsCfg:Kds:=.int .i64 (.int .i64 (.int .i64 (.int .i64 (.int .i64 (.int .i64 (.int .u64 (.int .u64 (.int .u64 (.int .u64 (.int .u64 (.int .u64 (.int .u64 (.int .u64 (.int .u64 (.slice (.int .i64 .nil) (.slice kdsPart .nil))))))))))))))))
theorem in_cfg {h:Heap} {K:Nat} {l:List AV} (a:eO h K kdsCfg l):∃ z,Cfg h z l∧z.fh.length≤K∧z.parts.length≤K∧∀ i,i<z.parts.length→(z.parts.getD i default).eZ.length≤K:=by
  obtain ⟨a1,_,rfl,_,a⟩:=jX a
  obtain ⟨a2,_,rfl,_,a⟩:=jX a
  obtain ⟨a3,_,rfl,_,a⟩:=jX a
  obtain ⟨a4,_,rfl,_,a⟩:=jX a
  obtain ⟨a5,_,rfl,_,a⟩:=jX a
  obtain ⟨a6,_,rfl,_,a⟩:=jX a
  obtain ⟨a7,_,rfl,_,a⟩:=jX a
  obtain ⟨a8,_,rfl,_,a⟩:=jX a
  obtain ⟨a9,_,rfl,_,a⟩:=jX a
  obtain ⟨b1,_,rfl,_,a⟩:=jX a
  obtain ⟨b2,_,rfl,_,a⟩:=jX a
  obtain ⟨b3,_,rfl,_,a⟩:=jX a
  obtain ⟨b4,_,rfl,_,a⟩:=jX a
  obtain ⟨b5,_,rfl,_,a⟩:=jX a
  obtain ⟨b6,_,rfl,_,a⟩:=jX a
  obtain ⟨t,_,rfl,⟨_,ht⟩,a⟩:=qj a
  obtain ⟨p,_,rfl,⟨hps,n,f,hn,hp,hf⟩,a⟩:=qj a
  obtain rfl:=vE a
  obtain ⟨fh,t1,t2,_⟩:=agM ht
  have hpart:∀ i,i<n→∃ x:cU,∃ s,f i=tJ x s∧cK h .i64 s x.eZ∧x.eZ.length≤K:=by
    intro i hi
    have a:=hf i hi
    obtain ⟨s,_,e,⟨_,hs⟩,a⟩:=qj a
    rw [e]; clear e
    obtain ⟨c1,_,rfl,_,a⟩:=jX a
    obtain ⟨c2,_,rfl,_,a⟩:=jX a
    obtain ⟨c3,_,rfl,_,a⟩:=jX a
    obtain ⟨c4,_,rfl,_,a⟩:=jX a
    obtain ⟨c5,_,rfl,_,a⟩:=jX a
    obtain ⟨c6,_,rfl,_,a⟩:=jX a
    obtain ⟨c7,_,rfl,_,a⟩:=jX a
    obtain rfl:=vE a
    obtain ⟨eZ,k1,k2,_⟩:=agM hs
    exact ⟨⟨eZ,c1,c2,c3,c4,c5,c6,c7⟩,s,rfl,k1,k2⟩
  obtain ⟨ps,p1,p2⟩:=KR (Q:=fun i (x:cU)=>∃ s,f i=tJ x s∧cK h .i64 s x.eZ∧x.eZ.length≤K) n hpart
  subst p1
  have:∀ i,∃ s,i<ps.length→f i=tJ (ps.getD i default) s∧cK h .i64 s (ps.getD i default).eZ∧(ps.getD i default).eZ.length≤K:=fun i=>by
    by_cases hi:i<ps.length
    · obtain ⟨s,h1⟩:=p2 i hi
      exact ⟨s,fun _=>h1⟩
    · exact ⟨.nilslice,fun h=>(hi h).elim⟩
  refine ⟨⟨a1,a2,a3,a4,a5,a6,a7,a8,a9,b1,b2,b3,b4,b5,b6,fh,ps⟩,⟨t,p,rfl,t1,hps,fun i=>(this i).choose,hp.congr fun i hi=>((this i).choose_spec hi).1,fun i hi=>((this i).choose_spec hi).2.1⟩,t2,hn,fun i hi=>((this i).choose_spec hi).2.2⟩
end Go.Ai
/- The snapshot as the input has it. -/
namespace Go.Proofs.YtpoobhhdgjgdgaaGreat.Sh
open Go.Ai
def kdsOw:Kds:=.int .i64 (.int .u8 .nil)
def kdsReg:Kds:=.int .i64 (.int .i64 (.int .u8 .nil))
def kdsMap:Kds:=.int .i64 (.bool (.bool (.bool (.bool (.bool (.bool (.int .i64 .nil)))))))
def aqf:Kds:=.int .i64 (.int .i64 (.slice kdsReg (.int .i64 (.slice kdsMap .nil))))
def kdsSt:Kds:=.slice kdsOw (.slice (.int .i64 .nil) (.bool (.slice (.int .i64 .nil) (.slice aqf .nil))))
def kdsLn:Kds:=.int .i64 (.int .u64 .nil)
def kdsTr:Kds:=.int .i64 (.int .i64 (.int .i64 (.bool (.bool (.bool .nil)))))
def ap5:Kds:=.slice kdsSt (.slice kdsLn (.slice kdsTr .nil))
def InSl (h:Heap) (K:Nat) (k:Kds) (v:AV):Prop:=∃ n f,n≤K∧bI h v k.len n f∧∀ i,i<n→eO h K k (f i)
theorem Zg {α:Type} [Inhabited α] {h:Heap} {K:Nat} {k:Kds} {v:AV} {g:α→List AV} {P:α→Prop} (a:InSl h K k v) (H:∀ l,eO h K k l→∃ x,l=g x∧P x) :
    ∃ l:List α,l.length≤K∧bI h v k.len l.length (fun i=>g (l.getD i default))∧∀ i,i<l.length→P (l.getD i default):=by
  obtain ⟨n,f,h1,h2,h3⟩:=a
  obtain ⟨l,h4,h5⟩:=KR (Q:=fun i (x:α)=>f i=g x∧P x) n fun i hi=>H _ (h3 i hi)
  subst h4
  exact ⟨l,h1,h2.congr fun i hi=>(h5 i hi).1,fun i hi=>(h5 i hi).2⟩
theorem in_ow {h:Heap} {K:Nat} {v:AV} (a:InSl h K kdsOw v):∃ m F U,m≤K∧OwIn h v m F U:=by
  obtain ⟨l,h1,h2,_⟩:=Zg (α:=Int × Int) (g:=fun x=>[.int .i64 x.1,.int .u8 x.2]) (P:=fun _=>True) a fun l a=>by
    obtain ⟨a1,_,rfl,_,a⟩:=jX a
    obtain ⟨a2,_,rfl,_,a⟩:=jX a
    obtain rfl:=vE a
    exact ⟨(a1,a2),rfl,trivial⟩
  exact ⟨l.length,fun i=>(l.getD i default).1,fun i=>(l.getD i default).2,h1,h2⟩
theorem in_reg {h:Heap} {K:Nat} {v:AV} (a:InSl h K kdsReg v):SpIn h v:=by
  obtain ⟨l,h1,h2,_⟩:=Zg (α:=Int × Int × Int) (g:=fun x=>[.int .i64 x.1,.int .i64 x.2.1,.int .u8 x.2.2]) (P:=fun _=>True) a fun l a=>by
    obtain ⟨a1,_,rfl,_,a⟩:=jX a
    obtain ⟨a2,_,rfl,_,a⟩:=jX a
    obtain ⟨a3,_,rfl,_,a⟩:=jX a
    obtain rfl:=vE a
    exact ⟨(a1,a2,a3),rfl,trivial⟩
  exact ⟨l.length,fun i=>(l.getD i default).1,fun i=>(l.getD i default).2.1,fun i=>(l.getD i default).2.2,h2⟩
theorem in_map {h:Heap} {K n:Nat} (hK:K<n) {v:AV} (a:InSl h K kdsMap v):MapdIn n h v:=by
  obtain ⟨l,h1,h2,_⟩:=Zg (α:=Int × Bool × Bool × Bool × Bool × Bool × Bool × Int) (g:=fun x=>mapC x.1 x.2.1 x.2.2.1 x.2.2.2.1 x.2.2.2.2.1 x.2.2.2.2.2.1 x.2.2.2.2.2.2.1 x.2.2.2.2.2.2.2) (P:=fun _=>True) a fun l a=>by
    obtain ⟨a1,_,rfl,_,a⟩:=jX a
    obtain ⟨b1,_,rfl,q1⟩:=wn a
    obtain ⟨b2,_,rfl,q2⟩:=wn q1
    obtain ⟨b3,_,rfl,q3⟩:=wn q2
    obtain ⟨b4,_,rfl,q4⟩:=wn q3
    obtain ⟨b5,_,rfl,q5⟩:=wn q4
    obtain ⟨b6,_,rfl,q6⟩:=wn q5
    obtain ⟨a2,_,rfl,_,a⟩:=jX q6
    obtain rfl:=vE a
    exact ⟨(a1,b1,b2,b3,b4,b5,b6,a2),rfl,trivial⟩
  exact ⟨l.length,fun i=>(l.getD i default).1,fun i=>(l.getD i default).2.1,fun i=>(l.getD i default).2.2.1,fun i=>(l.getD i default).2.2.2.1,fun i=>(l.getD i default).2.2.2.2.1,fun i=>(l.getD i default).2.2.2.2.2.1,fun i=>(l.getD i default).2.2.2.2.2.2.1,fun i=>(l.getD i default).2.2.2.2.2.2.2,by omega,h2⟩
theorem in_procs {h:Heap} {K n:Nat} (hK:K<n) (hB:K≤1048576) {v:AV} (a:InSl h K aqf v):ProcsIn n h v:=by
  obtain ⟨l,h1,h2,h3⟩:=Zg (α:=Int × Int × AV × Int × AV) (g:=fun x=>ahl x.1 x.2.1 x.2.2.1 x.2.2.2.1 x.2.2.2.2) (P:=fun x=>SpIn h x.2.2.1∧MapdIn n h x.2.2.2.2) a fun l a=>by
    obtain ⟨a1,_,rfl,_,a⟩:=jX a
    obtain ⟨a2,_,rfl,_,a⟩:=jX a
    obtain ⟨u,_,rfl,⟨_,hu⟩,a⟩:=qj a
    obtain ⟨a3,_,rfl,_,a⟩:=jX a
    obtain ⟨w,_,rfl,⟨_,hw⟩,a⟩:=qj a
    obtain rfl:=vE a
    exact ⟨(a1,a2,u,a3,w),rfl,in_reg hu,in_map hK hw⟩
  exact ⟨l.length,fun i=>(l.getD i default).1,fun i=>(l.getD i default).2.1,fun i=>(l.getD i default).2.2.1,fun i=>(l.getD i default).2.2.2.1,fun i=>(l.getD i default).2.2.2.2,⟨by omega,by omega⟩,h2,h3⟩
theorem in_sts {h:Heap} {K n:Nat} (hK:K<n) (hB:K≤1048576) {v:AV} (a:InSl h K kdsSt v):∃ ps A B C D,dJ n h ps v A B C D∧∀ i,i<ps.length→(stZ ps i).m≤K:=by
  obtain ⟨l,h1,h2,h3⟩:=Zg (α:=StZ × AV × AV × AV × AV) (g:=fun x=>stC x.2.1 x.2.2.1 x.1.whole x.2.2.2.1 x.2.2.2.2) (P:=fun x=>eM n h x.1 x.2.1 x.2.2.1 x.2.2.2.1 x.2.2.2.2∧x.1.m≤K) a fun l a=>by
    obtain ⟨u1,_,rfl,⟨_,h1⟩,a⟩:=qj a
    obtain ⟨u2,_,rfl,⟨_,h2⟩,a⟩:=qj a
    obtain ⟨b,_,rfl,q7⟩:=wn a
    obtain ⟨u3,_,rfl,⟨_,h3⟩,a⟩:=qj q7
    obtain ⟨u4,_,rfl,⟨_,h4⟩,a⟩:=qj a
    obtain rfl:=vE a
    obtain ⟨m,F,U,o1,o2⟩:=in_ow h1
    obtain ⟨fr,f1,f2,_⟩:=agM h2
    obtain ⟨sl,s1,s2,_⟩:=agM h3
    exact ⟨(⟨m,F,U,fr,b⟩,u1,u2,u3,u4),rfl,⟨o2,by show m<n; omega,by show m≤1048576; omega,f1,by show fr.length<n; omega,⟨sl,s1,by omega⟩,in_procs hK hB h4⟩,o1⟩
  have e:∀ i,i<l.length→(l.map (·.1)).getD i default=(l.getD i default).1:=fun i hi=>by
    rw [gh,gh,gy,fU hi]; rfl
  refine ⟨l.map (·.1),fun i=>(l.getD i default).2.1,fun i=>(l.getD i default).2.2.1,fun i=>(l.getD i default).2.2.2.1,fun i=>(l.getD i default).2.2.2.2,⟨?_,fun i hi=>?_⟩,fun i hi=>?_⟩
  · rw [gu]
    exact h2.congr fun i hi=>by rw [e i hi]
  · rw [gu] at hi
    rw [e i hi]
    exact (h3 i hi).1
  · rw [gu] at hi
    unfold stZ
    rw [e i hi]
    exact (h3 i hi).2
theorem in_lines {h:Heap} {K n:Nat} (hK:K<n) {v:AV} (a:InSl h K kdsLn v):∃ M S T,c8 n h v M S T∧M≤K:=by
  obtain ⟨l,h1,h2,h3⟩:=Zg (α:=Int × Int) (g:=fun x=>[.int .i64 x.1,.int .u64 x.2]) (P:=fun x=>0≤x.2) a fun l a=>by
    obtain ⟨a1,_,rfl,_,a⟩:=jX a
    obtain ⟨a2,_,rfl,h,a⟩:=jX a
    obtain rfl:=vE a
    have e1:IntKind.u64.min=0:=by decide
    rw [e1] at h
    exact ⟨(a1,a2),rfl,h.1⟩
  exact ⟨l.length,fun i=>(l.getD i default).1,fun i=>(l.getD i default).2,⟨h2,by omega,h3⟩,h1⟩
theorem in_trans {h:Heap} {K n:Nat} (hK:K<n) {v:AV} (a:InSl h K kdsTr v):cT n h v:=by
  obtain ⟨l,h1,h2,_⟩:=Zg (α:=Int × Int × Int × Bool × Bool × Bool) (g:=fun x=>trC x.1 x.2.1 x.2.2.1 x.2.2.2.1 x.2.2.2.2.1 x.2.2.2.2.2) (P:=fun _=>True) a fun l a=>by
    obtain ⟨a1,_,rfl,_,a⟩:=jX a
    obtain ⟨a2,_,rfl,_,a⟩:=jX a
    obtain ⟨a3,_,rfl,_,a⟩:=jX a
    obtain ⟨b1,_,rfl,q8⟩:=wn a
    obtain ⟨b2,_,rfl,q9⟩:=wn q8
    obtain ⟨b3,_,rfl,q10⟩:=wn q9
    obtain rfl:=vE q10
    exact ⟨(a1,a2,a3,b1,b2,b3),rfl,trivial⟩
  exact ⟨l.length,fun i=>(l.getD i default).1,fun i=>(l.getD i default).2.1,fun i=>(l.getD i default).2.2.1,fun i=>(l.getD i default).2.2.2.1,fun i=>(l.getD i default).2.2.2.2.1,fun i=>(l.getD i default).2.2.2.2.2,by omega,h2⟩
theorem in_snap {h:Heap} {K n:Nat} (hK:K<n) (hB:K≤1048576) {l:List AV} (a:eO h K ap5 l):∃ vp vl vt ps A B C D M S T,l=sq vp vl vt∧dJ n h ps vp A B C D∧c8 n h vl M S T∧cT n h vt∧(∀ i,i<ps.length→(stZ ps i).m≤K)∧M≤K:=by
  obtain ⟨vp,_,rfl,⟨_,h1⟩,a⟩:=qj a
  obtain ⟨vl,_,rfl,⟨_,h2⟩,a⟩:=qj a
  obtain ⟨vt,_,rfl,⟨_,h3⟩,a⟩:=qj a
  obtain rfl:=vE a
  obtain ⟨ps,A,B,C,D,hs,hm⟩:=in_sts hK hB h1
  obtain ⟨M,S,T,hl,hM⟩:=in_lines hK h2
  exact ⟨vp,vl,vt,ps,A,B,C,D,M,S,T,rfl,hs,hl,in_trans hK h3,hm,hM⟩
end Go.Proofs.YtpoobhhdgjgdgaaGreat.Sh
