/- An abstract heap that mirrors a world: of each place in it the plain cells from there on, to be read; slices that have no place by themselves. -/
import Derived.Test.YtlgbmkemfinogaaGreatLS13Flat
import Derived.Test.YtlgbmkemfinogaaGreatAiTblKs
import Derived.Test.YtlgbmkemfinogaaGreatAiCpsRunLo
import Derived.WalkKit
import Derived.ProofKit
import Derived.OpenShut
import Derived.JoinedCond
import Derived.WideKeyArgs
import Derived.Shelf.Lays2
import Derived.Shelf.Spec.SlicesInsert
import Derived.Shelf.Spec.SlicesInsertGrow
import Derived.Test.YtlgbmkemfinogaaGreatProg
set_option linter.all false
namespace Go.Ai
def aeD (D:Wd):Mp:=fun i=>if i<D.K*D.N then ⟨i/D.K,i%D.K,0,none⟩ else match D.odds[i-D.K*D.N]? with
  | some a=>⟨a.block,a.off,0,a.spot⟩
  | none=>⟨0,0,0,none⟩
def Wd.top (D:Wd):Nat:=D.K*D.N+D.odds.length
def VI (D:Wd):Value→Option AV
  | .bool b=>some (.bool b)
  | .int k n=>some (.int k n)
  | .slice none 0 0=>some .nilslice
  | .slice (some a) len cap=>if cap=0 then (if len=0∧a∈D.odds then some (.slice (D.K*D.N+D.odds.idxOf a) 0 0 0 false) else none)
    else if (a.off<D.K∧a.block<D.N)∧a.spot=none∧len≤cap then some (.slice (D.K*a.block+a.off) 0 len (cap-len) false) else none
  | _=>none
theorem alc {K N b off:Nat} (h1:off<K) (h2:b<N):K*b+off<K*N:=by
  have:=Nat.mul_le_mul_left K (show b+1≤N by omega)
  rw [Nat.mul_add] at this
  omega
theorem aoz {K b off:Nat} (h:off<K):(K*b+off)/K=b:=by rw [Nat.mul_add_div (by omega),Nat.div_eq_of_lt h,Nat.add_zero]
theorem aoC {K b off:Nat} (h:off<K):(K*b+off)%K=off:=by rw [Nat.mul_add_mod,Nat.mod_eq_of_lt h]
theorem win_at {D:Wd} {b off:Nat} (h1:off<D.K) (h2:b<D.N):aeD D (D.K*b+off)=⟨b,off,0,none⟩:=by
  unfold aeD
  rw [if_pos (alc h1 h2),aoz h1,aoC h1]
theorem win_odd {D:Wd} {a:Addr} (h:a∈D.odds):aeD D (D.K*D.N+D.odds.idxOf a)=⟨a.block,a.off,0,a.spot⟩:=by
  unfold aeD
  rw [if_neg (by omega),Nat.add_sub_cancel_left,gk (List.idxOf_lt_length_iff.2 h),List.getElem_idxOf]
theorem aoR {D:Wd} {v:Value} {a:AV} (h:VI D v=some a):iP (aeD D) a=v∧a.fT=true∧okv (· < D.top) a:=by
  unfold VI at h
  split at h
  · cases h; exact ⟨by simp [iP],rfl,by simp [okv]⟩
  · cases h; exact ⟨by simp [iP],rfl,by simp [okv]⟩
  · cases h; exact ⟨by simp [iP],rfl,by simp [okv]⟩
  · split at h
    · rename_i hc
      subst hc
      split at h
      · rename_i hb
        obtain ⟨rfl,hb⟩:=hb
        cases h
        refine ⟨?_,rfl,?_⟩
        · simp [iP,win_odd hb,Loc.at]
        · have:=List.idxOf_lt_length_iff.2 hb
          simp only [okv,Wd.top]; omega
      · cases h
    · split at h
      · rename_i addr _ _ _ hb
        obtain ⟨⟨h1,h2⟩,h3,h4⟩:=hb
        obtain ⟨b,off,spot⟩:=addr
        dsimp only at h1 h2 h3
        subst h3
        cases h
        refine ⟨?_,rfl,?_⟩
        · simp [iP,win_at h1 h2]; omega
        · have:=alc h1 h2
          simp only [okv,Wd.top]; omega
      · cases h
  · cases h
noncomputable def ah5 (f:Nat→Option Blk):Nat→Tr Blk
  | 0=>.leaf
  | n+1=>match f n with
    | some x=>(ah5 f n).set (key n) x
    | none=>ah5 f n
theorem ajn (f:Nat→Option Blk):∀ n b,(ah5 f n).get (key b)=if b<n then f b else none
  | 0,b=>by rw [ah5,Tr.fS,if_neg (by omega)]
  | n+1,b=>by
    have ih:=ajn f n b
    cases hf:f n with
    | none=>
      simp only [ah5,hf]
      rw [ih]
      by_cases h:b<n
      · rw [if_pos h,if_pos (by omega)]
      · rw [if_neg h]
        by_cases e:b=n
        · subst e; rw [if_pos (by omega),hf]
        · rw [if_neg (by omega)]
    | some x=>
      simp only [ah5,hf]
      by_cases e:n=b
      · subst e; rw [Tr.fN,if_pos (by omega),hf]
      · rw [Tr.fM (fun k=>e (xb k)),ih]
        by_cases h:b<n
        · rw [if_pos h,if_pos (by omega)]
        · rw [if_neg h,if_neg (by omega)]
def Bx (f:Value→Option AV):List Value→List AV
  | []=>[]
  | x::t=>match f x with
    | some a=>a::Bx f t
    | none=>[]
theorem ae5 {f:Value→Option AV}:∀ {l:List Value} (i:Nat) (v:AV),(Bx f l)[i]?=some v→∃ x,l[i]?=some x∧f x=some v
  | [],i,v,h=>by simp [Bx] at h
  | x::t,i,v,h=>by
    unfold Bx at h
    split at h
    · rename_i a ha
      cases i with
      | zero=>simp at h; subst h; exact ⟨x,by simp,ha⟩
      | succ i=>
        simp at h
        obtain ⟨y,h1,h2⟩:=ae5 i v h
        exact ⟨y,by simpa using h1,h2⟩
    · simp at h
theorem abS {f:Value→Option AV}:∀ {l:List Value} (m:Nat),(∀ p,p<m→∃ x a,l[p]?=some x∧f x=some a)→∀ p,p<m→(Bx f l)[p]?=l[p]?.bind f
  | [],m,h,p,hp=>by
    obtain ⟨x,a,h1,_⟩:=h p hp
    simp at h1
  | x::t,m,h,p,hp=>by
    obtain ⟨x',a,h1,h2⟩:=h 0 (by omega)
    simp at h1
    subst h1
    unfold Bx
    rw [h2]
    cases p with
    | zero=>simp [h2]
    | succ p=>
      simp only [List.getElem?_cons_succ]
      exact abS (m-1) (fun q hq=>by
        obtain ⟨y,b,h3,h4⟩:=h (q+1) (by omega)
        exact ⟨y,b,by simpa using h3,h4⟩) p (by omega)
def mirB (D:Wd) (w:World) (i:Nat):Option Blk:=match w.heap[i/D.K]? with
  | some (.cells c _ _)=>some (.cells (Bx (VI D) (c.toList.drop (i%D.K))) false 0)
  | _=>none
noncomputable def BH (D:Wd) (w:World):Heap:=⟨ah5 (mirB D w) (D.K*D.N),D.top,D.top⟩
theorem aav (D:Wd) (w:World) (b:Nat):(BH D w).get b=if b<D.K*D.N then mirB D w b else none:=ajn _ _ _
theorem ajr (D:Wd) (w:World):(BH D w).ro≤(BH D w).nx:=gp _
theorem aa8 {D:Wd} {w:World} {b:Nat} {x:Blk} (h:(BH D w).get b=some x):b<D.K*D.N∧∃ c e fr,w.heap[b/D.K]?=some (.cells c e fr)∧x = .cells (Bx (VI D) (c.toList.drop (b%D.K))) false 0:=by
  rw [aav] at h
  split at h
  · rename_i hb
    unfold mirB at h
    split at h
    · rename_i c e fr hc
      cases h
      exact ⟨hb,c,e,fr,hc,rfl⟩
    · cases h
  · cases h
theorem aoj (D:Wd) (w:World):Rel (aeD D) (· < D.top) (BH D w) w:=by
  refine ⟨fun b hb=>hb,fun b hb=>?_,fun b c _ _ _ hw _=>?_⟩
  · cases hx:(BH D w).get b with
    | none=>trivial
    | some x=>
      obtain ⟨h0,c,e,fr,h1,rfl⟩:=aa8 hx
      have hlt:b/D.K<w.heap.size:=by
        rcases ge (b/D.K) w.heap.size with h | h
        · exact h
        · rw [Array.getElem?_eq_none h] at h1; cases h1
      have hM:aeD D b=⟨b/D.K,b%D.K,0,none⟩:=by unfold aeD; rw [if_pos h0]
      rw [hM]
      refine ⟨fun i v hv=>?_,fun h=>(by cases h),hlt,fun h=>(by cases h),fun h=>(h rfl).elim,rfl⟩
      obtain ⟨y,h5,h6⟩:=ae5 i v hv
      obtain ⟨h7,h8,h9⟩:=aoR h6
      refine ⟨?_,h8,h9⟩
      unfold World.cell?
      show (match w.heap[b/D.K]? with | some (.cells c _ _)=>_ | _=>none)=_
      rw [h1]
      simp only [Option.isSome_none,fZ,if_false]
      rw [List.getElem?_drop] at h5
      rw [← Array.getElem?_toList,h5,h7]
  · exfalso
    cases hx:(BH D w).get b with
    | none=>rw [hx] at hw; exact hw
    | some x=>
      obtain ⟨_,_,_,_,_,rfl⟩:=aa8 hx
      rw [hx] at hw
      cases hw
theorem ao7 (D:Wd) (w:World):HpOk (BH D w):=by
  refine ⟨gp _,fun b hb=>?_⟩
  by_cases h:b<D.top
  · exact h
  · rw [aav,if_neg (by unfold Wd.top at h; omega)] at hb
    exact hb.1.elim
def fu (h:Heap) (K:Nat):Kds→List AV→Prop
  | .nil,[]=>True
  | .bool r,v::t=>(∃ b,v = .bool b)∧fu h K r t
  | .int k r,v::t=>(∃ n,v = .int k n∧k.min≤n∧n≤k.max)∧fu h K r t
  | .slice e r,v::t=>(v.shut=true∧∃ n f,n≤K∧dF h v e.len n f∧∀ i,i<n→fu h K e (f i))∧fu h K r t
  | _,_=>False
theorem Yk {w:World} {D:Wd}:∀ {k:Kds} {l:List Value},eB w D k l→∃ us,l.map (VI D)=us.map some∧fu (BH D w) D.K k us
  | .nil,[],_=>⟨[],rfl,trivial⟩
  | .bool r,v::t,h=>by
    obtain ⟨⟨b,rfl⟩,h2⟩:=h
    obtain ⟨us,h3,h4⟩:=Yk (k:=r) h2
    exact ⟨.bool b::us,by simp [VI,h3],⟨b,rfl⟩,h4⟩
  | .int q r,v::t,h=>by
    obtain ⟨⟨n,rfl,h1⟩,h2⟩:=h
    obtain ⟨us,h3,h4⟩:=Yk (k:=r) h2
    exact ⟨.int q n::us,by simp [VI,h3],⟨n,rfl,h1⟩,h4⟩
  | .slice e r,v::t,h=>by
    obtain ⟨h1,h2⟩:=h
    obtain ⟨us,h3,h4⟩:=Yk (k:=r) h2
    rcases h1 with rfl | ⟨a,h1,rfl⟩ | ⟨b,off,len,cap,rfl,g1,g2,⟨g3,hz⟩,g4,g5,g6,g7⟩
    · exact ⟨.nilslice::us,by simp [VI,h3],⟨rfl,0,fun _=>[],by omega,⟨by omega,.inl ⟨rfl,rfl⟩⟩,fun i hi=>by omega⟩,h4⟩
    · refine ⟨.slice (D.K*D.N+D.odds.idxOf a) 0 0 0 false::us,by simp [VI,h1,h3],⟨rfl,0,fun _=>[],by omega,⟨by omega,.inr ⟨_,_,_,_,rfl,fun h=>by omega⟩⟩,fun i hi=>by omega⟩,h4⟩
    ·
      have hat:∀ i,i<cap→∃ (cs:List Value) (us':List AV),(∀ j,j<e.len→w.cell? ⟨b,off+i*e.len+j,none⟩=cs[j]?)∧cs.length=e.len∧cs.map (VI D)=us'.map some∧fu (BH D w) D.K e us':=by
        intro i hi
        obtain ⟨cs,k1,k2⟩:=g7 i hi
        obtain ⟨us',k3,k4⟩:=Yk (k:=e) k2
        exact ⟨cs,us',k1,k2.length,k3,k4⟩
      have hA:VI D (.slice (some ⟨b,off,none⟩) len cap)=some (.slice (D.K*b+off) 0 len (cap-len) false):=by
        unfold VI
        simp only [if_neg (show ¬ cap=0 by omega)]
        rw [if_pos ⟨⟨g4,g5⟩,trivial,g1⟩]
      have hblk:∃ c ty fr,w.heap[b]?=some (.cells c ty fr):=by
        obtain ⟨cs,us',k1,k2,_⟩:=hat 0 g3
        have:=k1 0 (by omega)
        rw [gk (by omega)] at this
        unfold World.cell? at this
        dsimp only at this
        split at this
        · rename_i c ty fr hc
          exact ⟨c,ty,fr,hc⟩
        · cases this
      obtain ⟨c,ty,fr,hc⟩:=hblk
      have hcell:∀ q,w.cell? ⟨b,q,none⟩=c.toList[q]?:=fun q=>by
        unfold World.cell?
        dsimp only
        rw [hc]
        simp
      have hget:(BH D w).get (D.K*b+off)=some (.cells (Bx (VI D) (c.toList.drop off)) false 0):=by
        rw [aav,if_pos (alc g4 g5)]
        unfold mirB
        rw [aoz g4,aoC g4,hc]
      have hall:∀ q,q<cap*e.len→∃ x a,(c.toList.drop off)[q]?=some x∧VI D x=some a:=by
        intro q hq
        have hqd:q/e.len<cap:=Nat.div_lt_of_lt_mul (by rw [Nat.mul_comm]; exact hq)
        have hqm:q%e.len<e.len:=Nat.mod_lt _ (by omega)
        obtain ⟨cs,us',k1,k2,k3,_⟩:=hat _ hqd
        have k4:=k1 _ hqm
        rw [hcell] at k4
        have e1:off+q/e.len*e.len+q%e.len=off+q:=by
          have:=Nat.div_add_mod q e.len
          rw [Nat.mul_comm] at this; omega
        rw [e1] at k4
        rw [List.getElem?_drop,k4,gk (by omega)]
        have k5:=congrArg (·[q%e.len]?) k3
        simp only [gV] at k5
        rw [gk (by omega),Option.map_some] at k5
        cases h6:us'[q%e.len]? with
        | none=>rw [h6] at k5; cases k5
        | some a=>
          rw [h6,Option.map_some] at k5
          exact ⟨_,a,rfl,Option.some.inj k5⟩
      have hpre:=abS (f:=VI D) (cap*e.len) hall
      refine ⟨_::us,by rw [List.map_cons,hA,h3,List.map_cons],⟨rfl,len,fun i=>((Bx (VI D) (c.toList.drop off)).drop (i*e.len)).take e.len,by omega,⟨by omega,.inr ⟨_,_,_,_,rfl,fun h=>⟨_,⟨?_,⟨_,_,hget⟩⟩,fun i hi=>⟨?_,?_⟩⟩⟩⟩,fun i hi=>?_⟩,h4⟩
      · have:=alc g4 g5
        show _<D.top
        unfold Wd.top; omega
      ·
        have hm:i*e.len+e.len≤cap*e.len:=by
          have:=Nat.mul_le_mul_right e.len (show i+1≤cap by omega)
          rwa [Nat.add_mul,Nat.one_mul] at this
        have h5:=hpre (i*e.len+(e.len-1)) (by omega)
        obtain ⟨x,a,h6,h7⟩:=hall (i*e.len+(e.len-1)) (by omega)
        rw [h6,Option.bind_some,h7] at h5
        have:=(gr.1 h5).1
        omega
      · rw [Nat.zero_add]
      · obtain ⟨cs,us',k1,k2,k3,k4⟩:=hat i (by omega)
        have hm:i*e.len+e.len≤cap*e.len:=by
          have:=Nat.mul_le_mul_right e.len (show i+1≤cap by omega)
          rwa [Nat.add_mul,Nat.one_mul] at this
        have hal:us'.length=e.len:=by
          have:=congrArg List.length k3
          simp at this
          omega
        have:((Bx (VI D) (c.toList.drop off)).drop (i*e.len)).take e.len=us':=by
          apply List.ext_getElem?
          intro j
          by_cases hj:j<e.len
          · rw [List.getElem?_take,if_pos hj,List.getElem?_drop,hpre _ (by omega),List.getElem?_drop]
            have k5:=k1 j hj
            rw [hcell] at k5
            rw [show off+(i*e.len+j)=off+i*e.len+j by omega,k5,gk (by omega),Option.bind_some]
            have k6:=congrArg (·[j]?) k3
            simp only [gV] at k6
            rw [gk (by omega),gk (by omega),Option.map_some,Option.map_some] at k6
            rw [gk (by omega)]
            exact Option.some.inj k6
          · rw [List.getElem?_take,if_neg hj,gA (by omega)]
        dsimp only
        rw [this]
        exact k4
  | .nil,_::_,h=>h.elim
  | .bool _,[],h=>h.elim
  | .int _ _,[],h=>h.elim
  | .slice _ _,[],h=>h.elim
end Go.Ai
/- The input's data as configurations and rows. -/
namespace Go.Ai
theorem XA {α:Type} [Inhabited α] {Q:Nat→α→Prop}:∀ n,(∀ i,i<n→∃ x,Q i x)→∃ l:List α,l.length=n∧∀ i,i<n→Q i (l.getD i default)
  | 0,_=>⟨[],rfl,fun i h=>by omega⟩
  | n+1,h=>by
    obtain ⟨l,h1,h2⟩:=XA n fun i hi=>h i (by omega)
    obtain ⟨x,h3⟩:=h n (by omega)
    refine ⟨l++[x],by simp [h1],fun i hi=>?_⟩
    rw [gD]
    by_cases e:i=n
    · subst e
      rw [← h1,List.getElem?_concat_length]
      rw [h1]; exact h3
    · rw [List.getElem?_append_left (by omega), ← gD]
      exact h2 i (by omega)
theorem dF.congr {h:Heap} {v:AV} {sz n:Nat} {f g:Nat→List AV} (s:dF h v sz n f) (e:∀ i,i<n→f i=g i):dF h v sz n g:=by
  obtain ⟨h1,h2 | ⟨b,off,ext,opn,h2,h3⟩⟩:=s
  · exact ⟨h1,.inl h2⟩
  · exact ⟨h1,.inr ⟨b,off,ext,opn,h2,fun h0=>have ⟨l,h4,h5⟩:=h3 h0; ⟨l,h4,fun i hi=>by rw [← e i hi]; exact h5 i hi⟩⟩⟩
theorem Xe {h:Heap} {K:Nat} {l:List AV} (a:fu h K .nil l):l = []:=by cases l with | nil=>rfl | cons x t=>exact a.elim
theorem nh {h:Heap} {K:Nat} {k:IntKind} {r:Kds} {l:List AV} (a:fu h K (.int k r) l):∃ n t,l = .int k n::t∧(k.min≤n∧n≤k.max)∧fu h K r t:=by
  cases l with
  | nil=>exact a.elim
  | cons x t=>obtain ⟨⟨n,rfl,h1⟩,h2⟩:=a; exact ⟨n,t,rfl,h1,h2⟩
theorem Tw {h:Heap} {K:Nat} {e r:Kds} {l:List AV} (a:fu h K (.slice e r) l):∃ v t,l=v::t∧(v.shut=true∧∃ n f,n≤K∧dF h v e.len n f∧∀ i,i<n→fu h K e (f i))∧fu h K r t:=by
  cases l with
  | nil=>exact a.elim
  | cons x t=>exact ⟨x,t,rfl,a.1,a.2⟩
theorem aoK {h:Heap} {K:Nat} {q:IntKind} {v:AV} (a:∃ n f,n≤K∧dF h v (Kds.int q .nil).len n f∧∀ i,i<n→fu h K (.int q .nil) (f i)) :
    ∃ l:List Int,dh h q v l∧l.length≤K∧∀ i,i<l.length→q.min≤nz l i∧nz l i≤q.max:=by
  obtain ⟨n,f,h1,h2,h3⟩:=a
  obtain ⟨l,h4,h5⟩:=XA (Q:=fun i (x:Int)=>f i = [.int q x]∧q.min≤x∧x≤q.max) n fun i hi=>by
    obtain ⟨x,t,e,h5,h6⟩:=nh (h3 i hi)
    obtain rfl:=Xe h6
    exact ⟨x,e,h5⟩
  subst h4
  exact ⟨l,h2.congr fun i hi=>(h5 i hi).1,h1,fun i hi=>(h5 i hi).2⟩
def kdsPart:Kds:=.slice (.int .i64 .nil) (.int .i64 (.int .i64 (.int .i64 (.int .i64 (.int .i64 (.int .i64 (.int .i64 .nil)))))))
def kdsCfg:Kds:=.int .i64 (.int .i64 (.int .i64 (.int .i64 (.int .i64 (.int .i64 (.int .u64 (.int .u64 (.int .u64 (.int .u64 (.int .u64 (.int .u64 (.int .u64 (.int .u64 (.int .u64 (.slice (.int .i64 .nil) (.slice kdsPart .nil))))))))))))))))
theorem in_cfg {h:Heap} {K:Nat} {l:List AV} (a:fu h K kdsCfg l):∃ z,Cfg h z l∧z.fH.length≤K∧z.parts.length≤K∧∀ i,i<z.parts.length→(z.parts.getD i default).fC.length≤K:=by
  obtain ⟨a1,_,rfl,_,a⟩:=nh a
  obtain ⟨a2,_,rfl,_,a⟩:=nh a
  obtain ⟨a3,_,rfl,_,a⟩:=nh a
  obtain ⟨a4,_,rfl,_,a⟩:=nh a
  obtain ⟨a5,_,rfl,_,a⟩:=nh a
  obtain ⟨a6,_,rfl,_,a⟩:=nh a
  obtain ⟨a7,_,rfl,_,a⟩:=nh a
  obtain ⟨a8,_,rfl,_,a⟩:=nh a
  obtain ⟨a9,_,rfl,_,a⟩:=nh a
  obtain ⟨b1,_,rfl,_,a⟩:=nh a
  obtain ⟨b2,_,rfl,_,a⟩:=nh a
  obtain ⟨b3,_,rfl,_,a⟩:=nh a
  obtain ⟨b4,_,rfl,_,a⟩:=nh a
  obtain ⟨b5,_,rfl,_,a⟩:=nh a
  obtain ⟨b6,_,rfl,_,a⟩:=nh a
  obtain ⟨t,_,rfl,⟨_,ht⟩,a⟩:=Tw a
  obtain ⟨p,_,rfl,⟨hps,n,f,hn,hp,hf⟩,a⟩:=Tw a
  obtain rfl:=Xe a
  obtain ⟨fH,t1,t2,_⟩:=aoK ht
  have hpart:∀ i,i<n→∃ x:dR,∃ s,f i=A3 x s∧dh h .i64 s x.fC∧x.fC.length≤K:=by
    intro i hi
    have a:=hf i hi
    obtain ⟨s,_,e,⟨_,hs⟩,a⟩:=Tw a
    rw [e]; clear e
    obtain ⟨c1,_,rfl,_,a⟩:=nh a
    obtain ⟨c2,_,rfl,_,a⟩:=nh a
    obtain ⟨c3,_,rfl,_,a⟩:=nh a
    obtain ⟨c4,_,rfl,_,a⟩:=nh a
    obtain ⟨c5,_,rfl,_,a⟩:=nh a
    obtain ⟨c6,_,rfl,_,a⟩:=nh a
    obtain ⟨c7,_,rfl,_,a⟩:=nh a
    obtain rfl:=Xe a
    obtain ⟨fC,k1,k2,_⟩:=aoK hs
    exact ⟨⟨fC,c1,c2,c3,c4,c5,c6,c7⟩,s,rfl,k1,k2⟩
  obtain ⟨ps,p1,p2⟩:=XA (Q:=fun i (x:dR)=>∃ s,f i=A3 x s∧dh h .i64 s x.fC∧x.fC.length≤K) n hpart
  subst p1
  have:∀ i,∃ s,i<ps.length→f i=A3 (ps.getD i default) s∧dh h .i64 s (ps.getD i default).fC∧(ps.getD i default).fC.length≤K:=fun i=>by
    by_cases hi:i<ps.length
    · obtain ⟨s,h1⟩:=p2 i hi
      exact ⟨s,fun _=>h1⟩
    · exact ⟨.nilslice,fun h=>(hi h).elim⟩
  refine ⟨⟨a1,a2,a3,a4,a5,a6,a7,a8,a9,b1,b2,b3,b4,b5,b6,fH,ps⟩,⟨t,p,rfl,t1,hps,fun i=>(this i).choose,hp.congr fun i hi=>((this i).choose_spec hi).1,fun i hi=>((this i).choose_spec hi).2.1⟩,t2,hn,fun i hi=>((this i).choose_spec hi).2.2⟩
end Go.Ai
/- From what a row says of its input to the interpreter's heap; from a sound function to the model's call. -/
namespace Go.Ai
open Go.Proofs Go.ChangeShapes Go.WideShapes Go.ChangeAt Go.RowKit
theorem ahH {D:Wd}:∀ {l:List Value} {us:List AV},l.map (VI D)=us.map some→us.map (iP (aeD D))=l∧∀ u∈us,u.fT=true∧okv (· < D.top) u
  | [],[],_=>⟨rfl,fun u hu=>by simp at hu⟩
  | v::t,u::us,h=>by
    simp only [List.map_cons,List.cons.injEq] at h
    obtain ⟨h1,h2⟩:=ahH h.2
    obtain ⟨h3,h4,h5⟩:=aoR h.1
    refine ⟨by rw [List.map_cons,h1,h3],fun x hx=>?_⟩
    rcases gG.1 hx with rfl | hx
    · exact ⟨h4,h5⟩
    · exact h2 x hx
  | [],_::_,h=>by simp at h
  | _::_,[],h=>by simp at h
section
variable {H:Type} {enc:TypeId × Value→H} {P:Program} {W:World} {base:Nat} {t:TypeId} {v:Value} {d:DataW H} {p:List MemPlace}
theorem apU {fs:Array Field} {m:Nat} {k:Kds} (ht:P.underlying t=some (.struct fs)) (hk:aif P m t=some k) (hval:Value.okWide P W .any base t v) (hd:DataW.Trod enc P W 0 (fun _=>true) true t v d p) :
    ∃ D,∀ D',Wd.Le D D'→∃ us,fu (BH D' W) D'.K k us∧iP (aeD D') (.agg us)=v∧okv (· < D'.top) (.agg us):=by
  obtain ⟨fuel,hd⟩:=hd
  obtain ⟨D,hD⟩:=afo m t k hk fuel _ _ hd
  refine ⟨D,fun D' hle=>?_⟩
  obtain ⟨us,h1,h2⟩:=Yk (hD.mono hle)
  obtain ⟨h3,h4⟩:=ahH h1
  obtain ⟨cs,rfl,_⟩:=okWide_struct ht hval
  refine ⟨us,h2,?_,?_⟩
  · simp only [iP,oS,h3,Value.cells]
  · exact ⟨(qT _ _).2 fun u hu=>(h4 u hu).2,fun u hu=>(h4 u hu).1⟩
theorem in_cell {m:Nat} {k:Kds} (hc:v.cells.toList = [v]) (hk:aif P m t=some k) (hd:DataW.Trod enc P W 0 (fun _=>true) true t v d p) :
    ∃ D,∀ D',Wd.Le D D'→∃ u,fu (BH D' W) D'.K k [u]∧iP (aeD D') u=v∧okv (· < D'.top) u:=by
  obtain ⟨fuel,hd⟩:=hd
  obtain ⟨D,hD⟩:=afo m t k hk fuel _ _ hd
  refine ⟨D,fun D' hle=>?_⟩
  obtain ⟨us,h1,h2⟩:=Yk (hD.mono hle)
  obtain ⟨h3,h4⟩:=ahH h1
  rw [hc] at h3
  match us,h3 with
  | [u],h3=>
    simp at h3
    exact ⟨u,h2,h3,(h4 u (by simp)).2⟩
theorem in_slice {e:TypeId} {m:Nat} {k:Kds} (ht:P.underlying t=some (.slice e)) (hk:aif P m t=some k) (hval:Value.okWide P W .any base t v) (hd:DataW.Trod enc P W 0 (fun _=>true) true t v d p) :
    ∃ D,∀ D',Wd.Le D D'→∃ u,fu (BH D' W) D'.K k [u]∧iP (aeD D') u=v∧okv (· < D'.top) u:=by
  obtain ⟨a,len,cap,rfl⟩:=okWide_slice ht hval
  exact in_cell rfl hk hd
end
theorem al3 {P:Program} {tbl:Tr AFn} (T:fq P tbl) {f:Nat} {w:Wr} (S:bg tbl f w) {D:Wd} {W:World} {args:List AV} (hargs:okL (· < D.top) args) {v:AV} {h':Heap} (run:∀ k,w args (BH D W) k=k v h') :
    Calls P f (args.map (iP (aeD D))).toArray W fun e W'=>(∃ M',e = .returned (iP M' v))∧Below W.heap.size W W':=by
  obtain ⟨n,v1,H1,hcall,he⟩:=S [] [] args (BH D W) (fun v h=>.ret v h) v h' (ajr D W) (by simpa using run _)
  cases he
  obtain ⟨f',first,cap,hfv,hc⟩:=akC T n _ _ _ _ _ hcall
  cases hfv
  obtain ⟨_,hcalls⟩:=hc _ _ W (ao7 D W) (aoj D W) (by simpa using hargs)
  refine Calls.mono (by simpa using hcalls) fun e w' hpost=>?_
  obtain ⟨M',D',rfl,_,hx,_⟩:=hpost
  refine ⟨⟨M',rfl⟩,hx.os,hx.tape,hx.output,hx.size,fun k hk=>hx.frame k hk fun b _ hw=>?_⟩
  exfalso
  cases hg:(BH D W).get b with
  | none=>rw [hg] at hw; exact hw
  | some x=>
    obtain ⟨_,_,_,_,_,rfl⟩:=aa8 hg
    rw [hg] at hw
    cases hw
section
variable {H:Type} {enc:TypeId × Value→H} {P:Program}
theorem post_old {f:Func} {s:ChangeSpec} {apart fresh handsOn again:Bool} {W W':World} {args:Array Value} {v:Value} {ds gs:List (DataW H)} {before pa pv:List MemPlace}
    (hW:DataW.Whole enc P f.params.toList s.vars apart W args.toList ds gs before)
    (hres:∀ (b:Nat) (sp:Nat→Bool) (hd:Bool),DataW.TrodAll enc P W' b sp hd f.resultTypes.toList (v.resultList f.resultTypes.size) (s.fn H (ds++gs)).results [])
    (hargs:∀ sp:Nat→Bool,(∀ p∈before,sp p.block=true)→DataW.TrodAll enc P W' 0 sp true f.params.toList args.toList (s.fn H (ds++gs)).args pa)
    (hvars:∀ sp:Nat→Bool,(∀ p∈before,sp p.block=true)→DataW.TrodVars enc P W' sp s.vars (s.fn H (ds++gs)).vars pv)
    (hps:before=pa++pv) (hb:Below W.heap.size W W')
    (hok:∀ (j:Nat) (t:TypeId) (r:Value),f.resultTypes[j]?=some t→(v.resultList f.resultTypes.size)[j]?=some r→Value.okWide P W' .any 0 t r) :
    s.post enc P f apart fresh handsOn again W args v W':=by
  have hold:∀ p∈before,(fun b=>decide (b<W.heap.size)) p.block=true:=fun p hp=>by simpa using hW.lt p hp
  have hlt:=hW.lt
  refine ⟨ds,gs,before,[],pa,pv,hW,hres _ _ _,hargs _ hold,hvars _ hold,hb.frame _,fun _=>?_⟩
  obtain ⟨_,_,_,_,_,hz,hn⟩:=hW
  refine ⟨hok,_,_,([]++pa)++pv,⟨[]++pa,pv,trodAll_append (hargs _ (fun _ _=>rfl)) (hres _ _ _),hvars _ (fun _ _=>rfl),rfl,?_,?_⟩,?_⟩
  · intro b off hp
    have hp':MemPlace.cell b off∈before:=by rw [hps]; simpa using hp
    rw [hb.frozen (p:=⟨b,off,none⟩) (hlt _ hp')]
    exact hz b off hp'
  · intro ha
    have:=hn ha
    rw [hps] at this
    simpa using this
  · intro p hp _
    rw [hps]
    simpa using hp
theorem aj4 (hl:laidOutB P=true) {W W':World} (hb:Below W.heap.size W W') {sp:Nat→Bool}:∀ {ts:List TypeId} {vs:List Value} {ds:List (DataW H)} {ps:List MemPlace},(ts.all fun t=>P.readableRec t&&decide (t<P.types.size))=true→
    DataW.TrodAll enc P W 0 (fun _=>true) true ts vs ds ps→(∀ p∈ps,sp p.block=true)→DataW.TrodAll enc P W' 0 sp true ts vs ds ps
  | [],_,_,_,_,h,_=>by
    obtain ⟨rfl,rfl,rfl⟩:=trodAll_nil h
    exact trodAll_mk0
  | t::ts,_,_,_,hts,h,hs=>by
    simp only [List.all_cons,gl,gn] at hts
    have hlt:=h.lt
    obtain ⟨v,vs',d,ds',p,q,rfl,rfl,rfl,h1,h2⟩:=trodAll_cons h
    refine ⟨p,q,Go.WideElems.Trod_stays hl hts.1.1 hts.1.2 h1 (fun x hx=>?_) fun x hx=>hs x (gH _ hx),aj4 hl hb (by simpa using hts.2) h2 fun x hx=>hs x (gI _ hx),rfl⟩
    have h3:=hlt x (gH _ hx)
    have h4:=hb.block x.block h3
    cases x with
    | cell b off=>
      show W'.cell? _=W.cell? _
      unfold World.cell?
      dsimp only [MemPlace.block] at h4 ⊢
      rw [h4]
    | map b=>exact h4
end
end Go.Ai
/- The shelf's contracts of slices.Insert at this program. -/
namespace Go.Proofs
open Go.Shelf
def Tryz.laysIns_ren:Go.Shelf.Ren:=⟨fun | 21=>100 | 27=>120 | 28=>121 | 35=>142 | 39=>156 | n=>n,fun | 22=>25 | 3=>3 | 4=>4 | 0=>0 | n=>n,fun | n=>n⟩
theorem Tryz.laysIns:Go.Proofs.Lays2.n21 Tryz.prog Tryz.laysIns_ren:={
  mixed:=by kernel_rfl
  f21:=Tryz.func100.trans (congrArg some (by kernel_rfl))
  f27:=Tryz.func120.trans (congrArg some (by kernel_rfl))
  f28:=Tryz.func121.trans (congrArg some (by kernel_rfl))
  f35:=Tryz.func142.trans (congrArg some (by kernel_rfl))
  f39:=Tryz.func156.trans (congrArg some (by kernel_rfl))
  t0:=Tryz.underlying0
  a0:=Tryz.isAgg0
  z0:=Tryz.sizeOf0
  v0:=Tryz.zeroValue0
  t3:=Tryz.underlying3
  a3:=Tryz.isAgg3
  z3:=Tryz.sizeOf3
  v3:=Tryz.zeroValue3
  t4:=Tryz.underlying4
  a4:=Tryz.isAgg4
  z4:=Tryz.sizeOf4
  v4:=Tryz.zeroValue4
  t22:=Tryz.underlying25
  a22:=Tryz.isAgg25
  z22:=Tryz.sizeOf25
  v22:=Tryz.zeroValue25
  i3:=by kernel_rfl }
end Go.Proofs
