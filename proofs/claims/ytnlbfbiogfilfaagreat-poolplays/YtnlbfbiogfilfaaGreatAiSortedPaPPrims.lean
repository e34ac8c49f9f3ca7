/- The sorted keys of a map, for the interpreter, however many: what the library's slices.Sorted makes of what maps.Keys hands back. -/
import Derived.Test.YtnlbfbiogfilfaaGreatAiInsertMemoS
import Derived.Lib.SlKeysI
import Derived.Test.YtnlbfbiogfilfaaGreatPaPCode
set_option linter.all false
namespace Go.Ai
abbrev I64N (x:Int):AV:=.int .i64 x
def arZ (x:Int):Prop := -9223372036854775808≤x∧x≤9223372036854775807
noncomputable def aCS (x:Int) (l:List Int):List Int:=List.rec (motive:=fun _=>List Int) [x] (fun a t ih=>Bool.casesOn (ltF a x) (x::a::t) (a::ih)) l
noncomputable def PD (l:List Int):List Int:=List.rec (motive:=fun _=>List Int) [] (fun a _ ih=>aCS a ih) l
noncomputable def au2 (l:List Int):Bool:=List.rec (motive:=fun _=>Bool) true (fun a t ih=>List.casesOn t true fun b _=>Bool.casesOn (ltF a b) false ih) l
theorem axT (x:Int) (l:List Int):(aCS x l).Perm (x::l):=by
  induction l with
  | nil=>exact .refl _
  | cons a t ih=>
    show (Bool.casesOn (ltF a x) (x::a::t) (a::aCS x t):List Int).Perm _
    cases ltF a x
    · exact .refl _
    · exact (List.Perm.cons a ih).trans (List.Perm.swap x a t)
theorem Va (l:List Int):(PD l).Perm l:=by
  induction l with
  | nil=>exact .refl _
  | cons a t ih=>exact (axT a (PD t)).trans (List.Perm.cons a ih)
theorem anc:∀ {l:List Int},au2 l=true→l.Pairwise (· < ·)
  | [],_=>.nil
  | [a],_=>by simp
  | a::b::t,h=>by
    have h':(Bool.casesOn (ltF a b) false (au2 (b::t)):Bool)=true:=h
    rw [yA] at h'
    by_cases hab:a<b
    · rw [show decide (a<b)=true by simpa using hab] at h'
      have ih:=anc (l:=b::t) h'
      refine ib.2 ⟨fun c hc=>?_,ih⟩
      rcases iP.1 hc with rfl | hc
      · exact hab
      · exact Int.lt_trans hab ((ib.1 ih).1 c hc)
    · rw [show decide (a<b)=false by simpa using hab] at h'
      cases h'
noncomputable def apO (es:List (AV × AV)):Option (List Int):=List.rec (motive:=fun _=>Option (List Int)) (some [])
  (fun e _ ih=>match e.1 with
    | .int .i64 x=>match ltF x (-9223372036854775808),ltF 9223372036854775807 x with
      | false,false=>Option.casesOn ih none fun l=>some (x::l)
      | _,_=>none
    | _=>none) es
theorem aww:∀ {es:List (AV × AV)} {zs:List Int},apO es=some zs→es.map (·.1)=zs.map I64N∧∀ x∈zs,arZ x
  | [],zs,h=>by
    have h':some []=some zs:=h
    cases h'; simp
  | e::es,zs,h=>by
    have h':(match e.1 with
      | .int .i64 x=>match ltF x (-9223372036854775808),ltF 9223372036854775807 x with
        | false,false=>Option.casesOn (apO es) none fun l=>some (x::l)
        | _,_=>none
      | _=>none:Option (List Int))=some zs:=h
    split at h'
    · rename_i x hx
      split at h'
      · rename_i h1 h2
        obtain ⟨l,hl,h3⟩:=lg h'
        cases h3
        obtain ⟨i1,i2⟩:=aww hl
        rw [yA] at h1 h2
        refine ⟨by simp [hx,i1],fun y hy=>?_⟩
        rcases iP.1 hy with rfl | hy
        · unfold arZ; simp at h1 h2; omega
        · exact i2 y hy
      · cases h'
    · cases h'
noncomputable def aoz (keysF:Nat) (args:List AV) (H:ad):Option (AV × ad):=match args with
  | [.func f [] [.ptr b off]]=>Bool.casesOn (Nat.beq f keysF) none
    (Option.casesOn (yV H b) none fun l=>Option.casesOn (nth l off) none fun v=>match v with
      | .map m=>Option.casesOn (JA H m) none fun es=>Option.casesOn (apO es) none fun zs=>
        Bool.casesOn (Nat.beq (Ao zs) 0) (Bool.casesOn (au2 (PD zs)&&Nat.ble (Ao zs) 1000000) none
          (H.newK (.cells (mapK I64N (PD zs)) true 1) fun c H'=>some (.slice c 0 (Ao zs) 0 true,H'))) (some (.nilslice,H))
      | _=>none)
  | _=>none
noncomputable def agz (keysF:Nat) (args:List AV) (H:ad):ah:=match aoz keysF args H with
  | some r=>.ret r.1 r.2
  | none=>.err
theorem arl {keysF:Nat} {args:List AV} {H H':ad} {v:AV} (h:agz keysF args H = .ret v H'):∃ b off l m es zs,args = [.func keysF [] [.ptr b off]]∧yV H b=some l∧l[off]?=some (.map m)∧JA H m=some es∧apO es=some zs∧
    ((zs = []∧v = .nilslice∧H'=H)∨((PD zs).Pairwise (· < ·)∧zs.length≤1000000∧1≤zs.length∧v = .slice H.nx 0 zs.length 0 true∧H'=H.add (.cells ((PD zs).map I64N) true 1))):=by
  unfold agz at h
  split at h
  · rename_i r hr
    cases h
    unfold aoz at hr
    split at hr
    · rename_i f b off
      obtain ⟨hf,h1⟩:=y7 hr
      obtain ⟨l,hl,h2⟩:=lg h1
      obtain ⟨u,hu,h3⟩:=lg h2
      clear hr h1 h2
      split at h3
      · rename_i m
        obtain ⟨es,hes,h4⟩:=lg h3
        obtain ⟨zs,hzs,h5⟩:=lg h4
        rw [aEW] at hu
        have hf:=iG hf
        subst hf
        refine ⟨b,off,l,m,es,zs,rfl,hl,hu,hes,hzs,?_⟩
        cases h0:Nat.beq (Ao zs) 0 with
        | true=>
          rw [h0] at h5
          cases h5
          have:=iG h0
          rw [uP] at this
          exact .inl ⟨iq this,rfl,rfl⟩
        | false=>
          rw [h0] at h5
          obtain ⟨hb,h6⟩:=y7 h5
          rw [ad.gU,aBV,uP] at h6
          cases h6
          simp only [iw,Nat.ble_eq,uP] at hb
          refine .inr ⟨anc hb.1,hb.2,?_,rfl,rfl⟩
          cases zs with
          | nil=>cases h0
          | cons z zs=>simp
      · cases h3
    · cases hr
  · cases h
theorem aAd {keysF:Nat} {args:List AV} {H H':ad} {v:AV} (hr:H.ro≤H.nx) (h:agz keysF args H = .ret v H'):fG H H':=by
  obtain ⟨b,off,l,m,es,zs,_,_,_,_,_,hor⟩:=arl h
  rcases hor with ⟨_,_,rfl⟩ | ⟨_,_,_,_,rfl⟩
  · exact .refl
  · exact fG.add hr (BT _ _)
theorem aul {x:Int}:∀ {l:List Int},l.Pairwise (· < ·)→x∉l→(aCS x l).Pairwise (· < ·)
  | [],_,_=>by show [x].Pairwise _; simp
  | a::t,h,hx=>by
    show (Bool.casesOn (ltF a x) (x::a::t) (a::aCS x t):List Int).Pairwise _
    rw [yA]
    by_cases e:a<x
    · rw [show decide (a<x)=true by simpa using e]
      obtain ⟨h1,h2⟩:=ib.1 h
      refine ib.2 ⟨fun y hy=>?_,aul h2 fun hm=>hx (ig _ hm)⟩
      rcases iP.1 ((axT x t).mem_iff.1 hy) with rfl | hy
      · exact e
      · exact h1 y hy
    · rw [show decide (a<x)=false by simpa using e]
      have hne:a≠x:=fun e'=>hx (by rw [e']; exact iV ..)
      refine ib.2 ⟨fun y hy=>?_,h⟩
      rcases iP.1 hy with rfl | hy
      · omega
      · have:=(ib.1 h).1 y hy; omega
theorem aiO:∀ {l:List Int},l.Nodup→(PD l).Pairwise (· < ·)
  | [],_=>by show ([]:List Int).Pairwise _; exact .nil
  | a::t,h=>by
    obtain ⟨h1,h2⟩:=List.nodup_cons.1 h
    exact aul (aiO h2) fun hm=>h1 ((Va t).mem_iff.1 hm)
theorem awe:∀ {l:List Int},l.Pairwise (· < ·)→au2 l=true
  | [],_=>rfl
  | [a],_=>rfl
  | a::b::t,h=>by
    obtain ⟨h1,h2⟩:=ib.1 h
    show (Bool.casesOn (ltF a b) false (au2 (b::t)):Bool)=true
    rw [yA,show decide (a<b)=true by simpa using h1 b (iV ..)]
    exact awe h2
end Go.Ai
/- The functions that the printed text does not reach into. -/
namespace Go.Proofs.YtnlbfbiogfilfaaGreat.Sh
open Go.Ai
abbrev aba:Nat:=60
abbrev Py:Nat:=81
noncomputable abbrev eI:List AV→ad→ah:=aex
noncomputable abbrev dL:List AV→ad→ah:=agz 76
noncomputable abbrev br:List AV→ad→ah:=ax2 [] (.bool true)
end Go.Proofs.YtnlbfbiogfilfaaGreat.Sh
