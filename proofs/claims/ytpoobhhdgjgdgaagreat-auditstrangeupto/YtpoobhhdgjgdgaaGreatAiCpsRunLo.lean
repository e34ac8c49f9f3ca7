/- Code with notes, in continuation style: what it returns, the interpreter's calls return. -/
import Derived.Test.YtpoobhhdgjgdgaaGreatAiCpsOk
import Derived.KernelRfl
set_option linter.all false
namespace Go.Ai
section
variable {r:AV} {H':Heap} {tbl:Tr AFn}
theorem Xc {t:Ty} {v:AV} {k:AV→aa} (h:abY t v k = .ret r H'):k v = .ret r H':=by
  cases t with
  | any=>exact h
  | int q=>
    have h0:D9 q v (fun n=>k (.int q n)) = .ret r H':=h
    obtain ⟨n,rfl,h2⟩:=aoE h0
    exact h2
  | bool=>
    have h0:JN v (fun n=>k (.bool n)) = .ret r H':=h
    obtain ⟨n,rfl,h2⟩:=alf h0
    exact h2
  | str=>
    have h0:vStr v (fun n=>k (.str n)) = .ret r H':=h
    obtain ⟨n,rfl,h2⟩:=an4 h0
    exact h2
theorem ahu {tm tm₀:Tr AV} (le:eE tm tm₀):∀ {g:Kp} {acc:Tr AV} {c:Tr AV→aa},eE acc tm₀→keepGo tm g acc c = .ret r H'→∃ tm',eE tm' tm₀∧c tm' = .ret r H'
  | [],acc,c,ha,h=>⟨acc,ha,h⟩
  | (p,t)::g,acc,c,ha,h=>by
    obtain ⟨v,hv,h⟩:=I2 (x:=tm.get p) h
    have h:=Xc h
    rw [Tr.fu] at h
    refine ahu le (g:=g) ?_ h
    intro q u hu
    by_cases e:p=q
    · subst e; rw [Tr.ft] at hu; cases hu; exact le _ _ hv
    · rw [Tr.fq e] at hu; exact ha _ _ hu
def SLe (s s':St):Prop:=eE s.tm s'.tm∧s.hp=s'.hp
theorem SLe.refl {s:St}:SLe s s:=⟨.refl,rfl⟩
theorem adF {g:Kp} {s s₀:St} {f:St→aa} (le:SLe s s₀) (h:ak5 g s f = .ret r H'):∃ s',SLe s' s₀∧f s' = .ret r H':=by
  obtain ⟨tm,H⟩:=s
  obtain ⟨tm',h1,h2⟩:=ahu le.1 (g:=g) (acc:=.leaf) (fun p v hv=>by rw [Tr.fC] at hv; cases hv) h
  exact ⟨⟨tm',H⟩,⟨h1,le.2⟩,h2⟩
theorem alG {g:Option Kp} {s s₀:St} {f:St→aa} (le:SLe s s₀) (h:jn g f s = .ret r H'):∃ s',SLe s' s₀∧f s' = .ret r H':=by
  cases g with
  | none=>exact ⟨s,le,h⟩
  | some g=>exact adF le (g:=g) h
theorem agT {ty:Tr Ty} {d:Option P} {v:AV} {tm:Tr AV} {k:Tr AV→aa} (h:putT ty d v tm k = .ret r H'):k (tm.putO d v) = .ret r H':=by
  cases d with
  | none=>exact h
  | some p=>
    have h':(Option.casesOn (ty.get p) (Tr.setK p v tm k) fun t=>abY t v fun v=>Tr.setK p v tm k:aa) = .ret r H':=h
    cases ht:ty.get p with
    | none=>rw [ht] at h'; show k (tm.set p v)=_; rw [← Tr.fu p v tm k]; exact h'
    | some t=>rw [ht] at h'; show k (tm.set p v)=_; rw [← Tr.fu p v tm k]; exact Xc (t:=t) (k:=fun v=>Tr.setK p v tm k) h'
theorem alJ {tm:Tr AV} {p:P} {kt kf ko:Tr AV→aa} (h:isD tm p kt kf ko = .ret r H') :
    ∃ v,tm.get p=some v∧((v = .bool true∧kt (tm.set p (.bool true)) = .ret r H')∨(v = .bool false∧kf (tm.set p (.bool false)) = .ret r H')∨((∀ b,v≠.bool b)∧ko tm = .ret r H')):=by
  obtain ⟨v,hv,h⟩:=I2 (x:=tm.get p) h
  refine ⟨v,hv,?_⟩
  cases v with
  | bool b=>
    cases b with
    | true=>exact .inl ⟨rfl,by rw [← Tr.fu p _ tm kt]; exact h⟩
    | false=>exact .inr (.inl ⟨rfl,by rw [← Tr.fu p _ tm kf]; exact h⟩)
  | _=>exact .inr (.inr ⟨fun b=>by simp,h⟩)
theorem ai6 {tm tm₀:Tr AV} (le:eE tm tm₀) {g:Gd} {ky kn:Tr AV→aa} (h:ajm g tm ky kn = .ret r H') :
    ∃ tm',eE tm' tm₀∧((Ca tm₀ g=some true∧ky tm' = .ret r H')∨(Ca tm₀ g=some false∧kn tm' = .ret r H')):=by
  cases g with
  | always=>exact ⟨tm,le,.inl ⟨rfl,h⟩⟩
  | on p want=>
    have hw:∀ v,tm.get p=some v→Ca tm₀ (.on p want)=match v with | .bool b=>some (b==want) | _=>some false:=by
      intro v hv
      simp only [Ca]; rw [le _ _ hv]; rfl
    cases want with
    | false=>
      obtain ⟨v,hv,h⟩:=alJ (kt:=kn) (kf:=ky) (ko:=kn) h
      have hw:=hw v hv
      rcases h with ⟨rfl,h⟩ | ⟨rfl,h⟩ | ⟨hn,h⟩
      · exact ⟨_,le.known hv,.inr ⟨hw,h⟩⟩
      · exact ⟨_,le.known hv,.inl ⟨hw,h⟩⟩
      · exact ⟨_,le,.inr ⟨by rw [hw]; split<;>first | exact (hn _ rfl).elim | rfl,h⟩⟩
    | true=>
      obtain ⟨v,hv,h⟩:=alJ (kt:=ky) (kf:=kn) (ko:=kn) h
      have hw:=hw v hv
      rcases h with ⟨rfl,h⟩ | ⟨rfl,h⟩ | ⟨hn,h⟩
      · exact ⟨_,le.known hv,.inl ⟨hw,h⟩⟩
      · exact ⟨_,le.known hv,.inr ⟨hw,h⟩⟩
      · exact ⟨_,le,.inr ⟨by rw [hw]; split<;>first | exact (hn _ rfl).elim | rfl,h⟩⟩
theorem aqA {c:Opd} {s s₀:St} (le:SLe s s₀) {ka kb:St→aa} (h:condD c s ka kb = .ret r H') :
    ∃ t s',SLe s' s₀∧ev s₀.tm c=some (.bool t)∧(if t then ka else kb) s' = .ret r H':=by
  obtain ⟨tm,H⟩:=s
  cases c with
  | t p=>
    have h0:isD tm p (fun tm=>ka ⟨tm,H⟩) (fun tm=>kb ⟨tm,H⟩) (fun _=>.err) = .ret r H':=h
    obtain ⟨v,hv,h⟩:=alJ h0
    rcases h with ⟨rfl,h⟩ | ⟨rfl,h⟩ | ⟨_,h⟩
    · exact ⟨true,⟨tm.set p (.bool true),H⟩,⟨le.1.known hv,le.2⟩,le.1 _ _ hv,by rw [if_pos rfl]; exact h⟩
    · exact ⟨false,⟨tm.set p (.bool false),H⟩,⟨le.1.known hv,le.2⟩,le.1 _ _ hv,by rw [if_neg (by simp)]; exact h⟩
    · cases h
  | c v=>
    obtain ⟨b,rfl,hz⟩:=MT (v:=v) h
    replace h:=hz
    clear hz
    cases b with
    | true=>exact ⟨true,⟨tm,H⟩,le,rfl,by rw [if_pos rfl]; exact h⟩
    | false=>exact ⟨false,⟨tm,H⟩,le,rfl,by rw [if_neg (by simp)]; exact h⟩
def CfOkD (tbl:Tr AFn) (cf:bf):Prop:=∀ fv vs H k r H',H.ro≤H.nx→cf fv vs H k = .ret r H'→∃ n v H₁,call tbl n fv vs H = .ret v H₁∧k v H₁ = .ret r H'
def bw (tbl:Tr AFn) (f:Nat) (w:Wr):Prop:=∀ first cap args H k r H',H.ro≤H.nx→w (first++(args++cap)) H k = .ret r H'→∃ n v H₁,call tbl n (.func f first cap) args H = .ret v H₁∧k v H₁ = .ret r H'
def eW (tbl:Tr AFn):List (Nat × Wr)→Prop
  | []=>True
  | e::l=>bw tbl e.1 e.2∧eW tbl l
theorem eW.find {f:Nat} {w:Wr}:∀ {l:List (Nat × Wr)},eW tbl l→findW f l=some w→bw tbl f w
  | [],_,h=>by cases h
  | (g,w')::l,hs,h=>by
    have h':(Bool.casesOn (Nat.beq f g) (findW f l) (some w'):Option Wr)=some w:=h
    cases hb:Nat.beq f g with
    | true=>rw [hb] at h'; cases h'; rw [gb hb]; exact hs.1
    | false=>rw [hb] at h'; exact eW.find hs.2 h'
theorem cfOf_ok {l:List (Nat × Wr)} (hs:eW tbl l):CfOkD tbl (lC l):=by
  intro fv vs H k r H' hro h
  cases fv with
  | func f first cap=>
    obtain ⟨w,hw,h⟩:=I2 (x:=findW f l) h
    rw [th,th] at h
    exact hs.find hw first cap vs H k r H' hro h
  | _=>cases h
variable {cf:bf} {ty:Tr Ty} (hp:dX tbl) (hcf:CfOkD tbl cf)
include hp hcf
theorem ZC {x:Ins} {s s₀:St} (le:SLe s s₀) (hro:s₀.hp.ro≤s₀.hp.nx) {k:St→aa} (h:insD cf ty x s k = .ret r H') :
    ∃ n v H₁,nQ (call tbl n) x s₀.tm s₀.hp=some (v,H₁)∧∃ s',SLe s' ⟨s₀.tm.putO x.dst v,H₁⟩∧k s' = .ret r H':=by
  obtain ⟨tm,H⟩:=s
  obtain ⟨tm₀,H₀⟩:=s₀
  obtain ⟨le,e⟩:=le
  dsimp only at le e hro
  subst e
  cases x with
  | op g d o=>
    have h0:ajm g tm (fun tm=>opD o tm H fun v H'=>putT ty d v tm fun tm=>k ⟨tm,H'⟩) (fun tm=>putK tm d .undef fun tm=>k ⟨tm,H⟩) = .ret r H':=h
    obtain ⟨tm',le',h⟩:=ai6 le h0
    rcases h with ⟨hw,h⟩ | ⟨hw,h⟩
    · obtain ⟨v,H₁,ho,h⟩:=aq6 le' h
      have h:=agT h
      exact ⟨0,v,H₁,by simp only [nQ]; rw [hw]; exact ho,⟨tm'.putO d v,H₁⟩,⟨le'.putO d v,rfl⟩,h⟩
    · rw [Xb] at h
      exact ⟨0,.undef,H,by simp only [nQ]; rw [hw],⟨tm'.putO d .undef,H⟩,⟨le'.putO d _,rfl⟩,h⟩
  | call g d q f args=>
    have h0:ajm g tm (fun tm=>evK tm f fun fv=>evsK tm args fun vs=>
      Bool.casesOn q (cf fv vs H fun v H'=>putT ty d v tm fun tm=>k ⟨tm,H'⟩)
        (cf fv vs (H.shut true) fun v H'=>putT ty d v tm fun tm=>k ⟨tm,H'.back H.ro⟩)) (fun tm=>putK tm d .undef fun tm=>k ⟨tm,H⟩) = .ret r H':=h
    obtain ⟨tm',le',h⟩:=ai6 le h0
    rcases h with ⟨hw,h⟩ | ⟨hw,h⟩
    · obtain ⟨fv,hf,h⟩:=kw le' h
      obtain ⟨vs,hv,h⟩:=Wc le' h
      cases q with
      | false=>
        obtain ⟨n,v,H₁,hc,h⟩:=hcf _ _ _ _ _ _ hro h
        have h:=agT h
        have m:=akV hp n _ _ _ _ _ hro hc
        have eb:H₁.back H.ro=H₁:=by
          have:=m.ro
          obtain ⟨t,nx,ro⟩:=H₁
          dsimp only at this; subst this; rfl
        refine ⟨n,v,H₁,?_,⟨tm'.putO d v,H₁⟩,⟨le'.putO d v,rfl⟩,h⟩
        have hc':call tbl n fv vs (H.shut false) = .ret v H₁:=hc
        simp only [nQ]; rw [hw]; dsimp only; rw [hf,hv]; dsimp only; rw [hc']; dsimp only; rw [eb]
      | true=>
        obtain ⟨n,v,H₁,hc,h⟩:=hcf _ _ _ _ _ _ (by simp [Heap.shut]) h
        have h:=agT h
        refine ⟨n,v,H₁.back H.ro,?_,⟨tm'.putO d v,H₁.back H.ro⟩,⟨le'.putO d v,rfl⟩,h⟩
        simp only [nQ]; rw [hw]; dsimp only; rw [hf,hv]; dsimp only; rw [hc]
    · rw [Xb] at h
      exact ⟨0,.undef,H,by simp only [nQ]; rw [hw],⟨tm'.putO d .undef,H⟩,⟨le'.putO d _,rfl⟩,h⟩
omit hcf in
theorem anl {x:Ins} {tm:Tr AV} {H H₁:Heap} {n:Nat} {v:AV} (hro:H.ro≤H.nx) (h:nQ (call tbl n) x tm H=some (v,H₁)):H₁.ro≤H₁.nx:=by
  have m:=Is (akV hp n) hro h
  rw [m.ro]; exact ga hro m.nx
theorem ais:∀ {l l':List Ins} {s s₀:St} {k:St→aa} {K:St→Prop},SLe s s₀→s₀.hp.ro≤s₀.hp.nx→gZ cf ty l k s = .ret r H'→
    (∀ s₁ s',SLe s' s₁→s₁.hp.ro≤s₁.hp.nx→k s' = .ret r H'→WpR tbl l' s₁ K)→WpR tbl (l++l') s₀ K
  | [],l',s,s₀,k,K,le,hro,h,hk=>hk s₀ s le hro h
  | x::l,l',s,s₀,k,K,le,hro,h,hk=>by
    obtain ⟨n,v,H₁,h1,s',le',h⟩:=ZC hp hcf le hro (x:=x) h
    obtain ⟨tm₀,H₀⟩:=s₀
    exact WpR.cons h1 (ais le' (anl hp hro h1) h hk)
theorem aev:∀ {l:List (Option Kp × List Ins)} {s s₀:St} {k:St→aa},SLe s s₀→s₀.hp.ro≤s₀.hp.nx→regsD cf ty l k s = .ret r H'→
    WpR tbl (al4 l) s₀ fun s₁=>s₁.hp.ro≤s₁.hp.nx∧∃ s',SLe s' s₁∧k s' = .ret r H'
  | [],s,s₀,k,le,hro,h=>WpR.nil ⟨hro,s,le,h⟩
  | (g,l)::ls,s,s₀,k,le,hro,h=>by
    refine ais hp hcf (l:=l) (l':=al4 ls) le hro h fun s₁ s' le' hro' h'=>?_
    obtain ⟨s'',le'',h''⟩:=alG le' h'
    exact aev le'' hro' h''
def SvLe (sv sv₀:List (Nat × Sv)):Prop:=∀ i y,Gg i sv=some y→∃ y₀,Gg i sv₀=some y₀∧y.x=y₀.x∧eE y.tm y₀.tm∧y.v=y₀.v∧y.nx=y₀.nx
omit hp hcf in
theorem aoD {d:P} {v w:AV} {tm tm₀:Tr AV} (le:eE tm (tm₀.putO (some d) v)) (h:tm.get d=some w):w=v:=by
  have:=le _ _ h
  rw [show tm₀.putO (some d) v=tm₀.set d v from rfl,Tr.ft] at this
  exact (Option.some.inj this).symm
theorem abN {sv sv₀:List (Nat × Sv)} (sl:SvLe sv sv₀) {H:Heap} (hro:H.ro≤H.nx):∀ {is:List Nat} {k:aa},ac7 cf ty sv H is k = .ret r H'→∃ n,ah3 (call tbl n) H sv₀ is=true∧k = .ret r H'
  | [],k,h=>⟨0,rfl,h⟩
  | i::is,k,h=>by
    have h0:(Option.casesOn (Gg i sv) .err fun y=>redoD cf ty y H (ac7 cf ty sv H is k):aa) = .ret r H':=h
    obtain ⟨y,hy,h1⟩:=I2 h0
    obtain ⟨y₀,hy₀,e1,e2,e3,e4⟩:=sl i y hy
    obtain ⟨n,v,H₁,q1,s',le',h2⟩:=ZC hp hcf (s:=⟨y.tm,H⟩) (s₀:=⟨y₀.tm,H⟩) ⟨e2,rfl⟩ hro (x:=y.x) h1
    obtain ⟨tm',Hp⟩:=s'
    have h3:(Option.casesOn y.x.dst .err fun d=>Option.casesOn (Tr.get d tm') .err fun v=>ifD (akN y.v v) (ifD (lowA y.nx y.v) (ac7 cf ty sv H is k) .err) .err:aa) = .ret r H':=h2
    obtain ⟨d,hd,h4⟩:=I2 h3
    obtain ⟨w,hw,h5⟩:=I2 h4
    rw [hd] at le'
    have ew:=aoD le'.1 hw
    subst ew
    cases hs:akN y.v w with
    | false=>rw [hs] at h5; cases h5
    | true=>
      rw [hs] at h5
      cases hl:lowA y.nx y.v with
      | false=>rw [hl] at h5; cases h5
      | true=>
        rw [hl] at h5
        obtain ⟨m,q2,h6⟩:=abN sl hro (is:=is) (k:=k) h5
        refine ⟨max n m,?_,h6⟩
        show (Bool.casesOn (Option.casesOn (Gg i sv₀) false fun s=>Bool.casesOn (Kl (call tbl (max n m)) s.x s.tm H s.v) false (lowA s.nx s.v):Bool) false (ah3 (call tbl (max n m)) H sv₀ is):Bool)=true
        have q3:Kl (call tbl (max n m)) y₀.x y₀.tm H y₀.v=true:=by
          unfold Kl
          rw [← e1,W4 (P1 (Nat.le_max_left n m)) q1, ← e3]; exact hs
        rw [hy₀]
        dsimp only
        rw [q3, ← e3, ← e4,hl]
        exact abc (fun j hj=>by
          cases hf:Gg j sv₀ with
          | none=>rw [hf] at hj; cases hj
          | some z=>
            rw [hf] at hj
            dsimp only at hj ⊢
            cases hd:Kl (call tbl m) z.x z.tm H z.v with
            | false=>rw [hd] at hj; cases hj
            | true=>rw [hd] at hj; rw [aaL (P1 (Nat.le_max_right n m)) hd]; exact hj) q2
theorem aeo:∀ {l:List UI} {j:Nat} {sv sv₀:List (Nat × Sv)} {sn:List (Nat × Heap)} {s s₀:St} {k:St→aa},SLe s s₀→s₀.hp.ro≤s₀.hp.nx→SvLe sv sv₀→akA cf ty l j sv k s = .ret r H'→
    ∃ n s₁,Ky (call tbl n) l j sn sv₀ s₀ = .fin .nrm s₁∧s₁.hp.ro≤s₁.hp.nx∧∃ s',SLe s' s₁∧k s' = .ret r H'
  | [],j,sv,sv₀,sn,s,s₀,k,le,hro,sl,h=>⟨0,s₀,rfl,hro,s,le,h⟩
  | u::l,j,sv,sv₀,sn,s,s₀,k,le,hro,sl,h=>by
    have h0:(List.casesOn u.back (insD cf ty u.x s fun s'=>ac7 cf ty sv s'.hp u.again
      (Bool.casesOn u.keep (akA cf ty l (j+1) sv k s') (Option.casesOn u.x.dst .err fun d=>Option.casesOn (Tr.get d s'.tm) .err fun v=>akA cf ty l (j+1) ((j,⟨u.x,s.tm,v,s.hp.nx⟩)::sv) k s'))) (fun _ _=>.err):aa) = .ret r H':=h
    cases hb:u.back with
    | cons _ _=>rw [hb] at h0; cases h0
    | nil=>
      rw [hb] at h0
      obtain ⟨n,v,H₁,q1,s',le',h1⟩:=ZC hp hcf le hro (x:=u.x) h0
      have hro1:=anl hp hro q1
      have eH:s'.hp=H₁:=le'.2
      have h1:ac7 cf ty sv s'.hp u.again _ = .ret r H':=h1
      rw [eH] at h1
      obtain ⟨m,q2,h2⟩:=abN hp hcf sl hro1 h1
      have key:∃ sv',SvLe sv' (if u.keep then (j,⟨u.x,s₀.tm,v,s₀.hp.nx⟩)::sv₀ else sv₀)∧akA cf ty l (j+1) sv' k s' = .ret r H':=by
        cases hk:u.keep with
        | false=>rw [hk] at h2; exact ⟨sv,sl,h2⟩
        | true=>
          rw [hk] at h2
          have h2:(Option.casesOn u.x.dst .err fun d=>Option.casesOn (Tr.get d s'.tm) .err fun v=>akA cf ty l (j+1) ((j,⟨u.x,s.tm,v,s.hp.nx⟩)::sv) k s':aa) = .ret r H':=h2
          obtain ⟨d,hd,h3⟩:=I2 h2
          obtain ⟨w,hw,h4⟩:=I2 h3
          have le1:=le'.1
          rw [hd] at le1
          have ew:=aoD le1 hw
          subst ew
          refine ⟨_,fun i y hy=>?_,h4⟩
          have hy':(Bool.casesOn (Nat.beq j i) (Gg i sv) (some ⟨u.x,s.tm,w,s.hp.nx⟩):Option Sv)=some y:=hy
          show ∃ y₀,(Bool.casesOn (Nat.beq j i) (Gg i sv₀) (some ⟨u.x,s₀.tm,w,s₀.hp.nx⟩):Option Sv)=some y₀∧_
          cases hji:Nat.beq j i with
          | false=>rw [hji] at hy'; exact sl i y hy'
          | true=>
            rw [hji] at hy'
            cases hy'
            exact ⟨_,rfl,rfl,le.1,rfl,by rw [le.2]⟩
      obtain ⟨sv',sl',h3⟩:=key
      obtain ⟨N,s₁,q3,ro3,r3⟩:=aeo (sn:=if u.snap then (j,s₀.hp)::sn else sn) le' hro1 sl' h3
      refine ⟨max N (max n m),s₁,?_,ro3,r3⟩
      have c1:CfLe (call tbl n) (call tbl (max N (max n m))):=P1 (by omega)
      have c2:CfLe (call tbl m) (call tbl (max N (max n m))):=P1 (by omega)
      simp only [Ky]
      rw [W4 c1 q1]
      dsimp only
      have b1:backF (call tbl (max N (max n m))) u.x s₀.tm v sn u.back=true:=by rw [hb]; rfl
      have b2:ah3 (call tbl (max N (max n m))) H₁ sv₀ u.again=true:=abc (fun i hi=>by
          cases hf:Gg i sv₀ with
          | none=>rw [hf] at hi; cases hi
          | some z=>
            rw [hf] at hi
            dsimp only at hi ⊢
            cases hd:Kl (call tbl m) z.x z.tm H₁ z.v with
            | false=>rw [hd] at hi; cases hi
            | true=>rw [hd] at hi; rw [aaL c2 hd]; exact hi) q2
      rw [b1,b2]
      exact agW (P1 (Nat.le_max_left ..)) q3
def goes (kn:St→aa) (ke:Nat→St→aa) (kr:St→aa):Ex→St→aa
  | .nrm=>kn
  | .exi i=>ke i
  | .ret=>kr
theorem D_sound {n:Nat}:∀ {c:SC} {kn:St→aa} {ke:Nat→St→aa} {kr:St→aa} {s s₀:St},SLe s s₀→s₀.hp.ro≤s₀.hp.nx→D cf ty n c kn ke kr s = .ret r H'→
    Wp tbl (Sq c) s₀ fun e s₁=>s₁.hp.ro≤s₁.hp.nx∧∃ s',SLe s' s₁∧goes kn ke kr e s' = .ret r H':=by
  intro c
  induction c with
  | skip=>intro kn ke kr s s₀ le hro h; exact Wp.skip ⟨hro,s,le,h⟩
  | reg l=>intro kn ke kr s s₀ le hro h; exact Wp.reg (aev hp hcf le hro h)
  | regU l=>
    intro kn ke kr s s₀ le hro h
    obtain ⟨m,s₁,h1,h2,h3⟩:=aeo hp hcf (sn:=[]) (sv:=[]) (sv₀:=[]) le hro (fun i y hy=>by cases hy) h
    exact Wp.regU h1 ⟨h2,h3⟩
  | seq g a b iha ihb=>
    intro kn ke kr s s₀ le hro h
    refine Wp.seq ((iha le hro h).mono fun e s₁ hq=>?_)
    obtain ⟨hro',s',le',h'⟩:=hq
    cases e with
    | nrm=>
      obtain ⟨s'',le'',h''⟩:=alG le' h'
      exact ihb le'' hro' h''
    | exi i=>exact ⟨hro',s',le',h'⟩
    | ret=>exact ⟨hro',s',le',h'⟩
  | cond c a b iha ihb=>
    intro kn ke kr s s₀ le hro h
    obtain ⟨t,s',le',hc,h⟩:=aqA le h
    cases t with
    | true=>exact Wp.cond hc (iha le' hro h)
    | false=>exact Wp.cond hc (ihb le' hro h)
  | block id g a iha=>
    intro kn ke kr s s₀ le hro h
    refine Wp.block ((iha le hro h).mono fun e s₁ hq=>?_)
    obtain ⟨hro',s',le',h'⟩:=hq
    cases e with
    | nrm=>
      obtain ⟨s'',le'',h''⟩:=alG le' h'
      exact ⟨hro',s'',le'',h''⟩
    | exi i=>
      have h2:(Bool.casesOn (Nat.beq i id) (ke i s') (jn g kn s'):aa) = .ret r H':=h'
      show if i=id then _ else _
      by_cases hi:i=id
      · rw [if_pos hi]
        have:Nat.beq i id=true:=by rw [hi]; exact Nat.beq_refl _
        rw [this] at h2
        obtain ⟨s'',le'',h''⟩:=alG le' h2
        exact ⟨hro',s'',le'',h''⟩
      · rw [if_neg hi]
        have:Nat.beq i id=false:=by cases hb:Nat.beq i id with
          | false=>rfl
          | true=>exact (hi (gb hb)).elim
        rw [this] at h2
        exact ⟨hro',s',le',h2⟩
    | ret=>exact ⟨hro',s',le',h'⟩
  | loop g a iha=>
    intro kn ke kr s s₀ le hro h
    obtain ⟨s',le',h⟩:=adF (g:=g) le h
    have go:∀ (m:Nat) (s s₀:St),SLe s s₀→s₀.hp.ro≤s₀.hp.nx→loopD g (fun F=>D cf ty n a F ke kr) m s = .ret r H'→
        Wp tbl (.loop (Sq a)) s₀ fun e s₁=>s₁.hp.ro≤s₁.hp.nx∧∃ s',SLe s' s₁∧goes kn ke kr e s' = .ret r H':=by
      intro m
      induction m with
      | zero=>intro s s₀ _ _ h; cases h
      | succ m ihm=>
        intro s s₀ le hro h
        refine Wp.round ((iha le hro (kn:=fun s=>ak5 g s (loopD g (fun F=>D cf ty n a F ke kr) m)) h).mono fun e s₁ hq=>?_)
        obtain ⟨hro',s',le',h'⟩:=hq
        cases e with
        | nrm=>
          obtain ⟨s'',le'',h''⟩:=adF (g:=g) le' h'
          exact ihm s'' s₁ le'' hro' h''
        | exi i=>exact ⟨hro',s',le',h'⟩
        | ret=>exact ⟨hro',s',le',h'⟩
    exact go n s' s₀ le' hro h
  | exit id=>intro kn ke kr s s₀ le hro h; exact Wp.exit ⟨hro,s,le,h⟩
  | ret=>intro kn ke kr s s₀ le hro h; exact Wp.ret ⟨hro,s,le,h⟩
omit hp hcf
theorem alg:∀ {g:Kp} {vs:List AV} {tm:Tr AV} {k:Tr AV→aa},aoK g vs tm k = .ret r H'→∃ tm',Ka (g.map (·.1)) vs tm none some=some tm'∧k tm' = .ret r H'
  | [],[],tm,k,h=>⟨tm,rfl,h⟩
  | [],_::_,tm,k,h=>by cases h
  | _::_,[],tm,k,h=>by cases h
  | (p,t)::g,v::vs,tm,k,h=>by
    have h0:abY t v (fun v=>Tr.setK p v tm fun tm=>aoK g vs tm k) = .ret r H':=h
    have h:=Xc h0
    rw [Tr.fu] at h
    obtain ⟨tm',h1,h2⟩:=alg h
    refine ⟨tm',?_,h2⟩
    show Tr.setK p v tm (fun tm'=>Ka (g.map (·.1)) vs tm' none some)=_
    rw [Tr.fu]; exact h1
theorem rvK_inv {s s₀:St} (le:SLe s s₀) {x:Rv} {k:AV→aa} (h:rvK x s k = .ret r H'):∃ v,resV s₀ x=some v∧k v = .ret r H':=by
  obtain ⟨tm,H⟩:=s
  cases x with
  | t p=>obtain ⟨v,h1,h2⟩:=I2 (x:=tm.get p) h; exact ⟨v,le.1 _ _ h1,h2⟩
  | cell p n agg=>
    obtain ⟨v,h1,h2⟩:=I2 (x:=tm.get p) h
    obtain ⟨b,off,l,cs,v,rfl,hl,hc,hv,h⟩:=alc h2
    refine ⟨v,?_,h⟩
    have e:H=s₀.hp:=le.2
    simp only [resV]; rw [le.1 _ _ h1]; dsimp only; rw [← e,hl]; dsimp only; rw [hc]; exact hv
theorem ak1 {s s₀:St} (le:SLe s s₀):∀ {rs:List (Rv × Ty)} {k:List AV→aa},finGo rs s k = .ret r H'→∃ vs,Zi s₀ (rs.map (·.1))=some vs∧k vs = .ret r H'
  | [],k,h=>⟨[],rfl,h⟩
  | (x,t)::rs,k,h=>by
    obtain ⟨v,hv,h⟩:=rvK_inv le (x:=x) h
    obtain ⟨vs,h1,h2⟩:=ak1 le (rs:=rs) (Xc h)
    refine ⟨v::vs,?_,h2⟩
    show (Option.casesOn (resV s₀ x) none fun v=>Option.casesOn (Zi s₀ (rs.map (·.1))) none fun us=>some (v::us):Option (List AV))=_
    rw [hv,h1]
theorem oneK_eq (vs:List AV):oneK vs=one vs:=by
  match vs with
  | []=>rfl
  | [v]=>rfl
  | _::_::_=>rfl
theorem aoz {s s₀:St} (le:SLe s s₀) {rs:List (Rv × Ty)} {k:AV→Heap→aa} (h:jk rs k s = .ret r H'):∃ vs,Zi s₀ (rs.map (·.1))=some vs∧k (one vs) s₀.hp = .ret r H':=by
  obtain ⟨vs,h1,h2⟩:=ak1 le h
  exact ⟨vs,h1,by rw [← oneK_eq, ← le.2]; exact h2⟩
theorem aqe (hp:dX tbl) {f:Nat} {ps:Kp} {rs:List (Rv × Ty)} {l:List (Nat × Wr)} {ty:Tr Ty} {n:Nat} {c:SC} (ht:tbl.get (key f)=some (.code (ps.map (·.1)) (Sq c) (rs.map (·.1)))) (hs:eW tbl l) :
    bw tbl f (W ps rs l ty n c):=by
  intro first cap args H k r H' hro h
  obtain ⟨tm,hb,h⟩:=alg h
  obtain ⟨m,e,s₁,h1,_,s',le,h2⟩:=D_sound hp (cfOf_ok hs) (s₀:=⟨tm,H⟩) SLe.refl hro h
  cases e with
  | nrm=>
    obtain ⟨vs,h3,h4⟩:=aoz le h2
    exact ⟨m,one vs,s₁.hp,Zp ht hb h1 (.inl rfl) h3,h4⟩
  | ret=>
    obtain ⟨vs,h3,h4⟩:=aoz le h2
    exact ⟨m,one vs,s₁.hp,Zp ht hb h1 (.inr rfl) h3,h4⟩
  | exi i=>cases h2
noncomputable def kT (g:List AV→Heap→aa):Wr:=fun args H k=>aa.casesOn (g args H) .err k
theorem Gn {f:Nat} {g:List AV→Heap→aa} (ht:tbl.get (key f)=some (.prim g)):bw tbl f (kT g):=by
  intro first cap args H k r H' _ h
  unfold kT at h
  cases hg:g (first++(args++cap)) H with
  | err=>rw [hg] at h; cases h
  | ret v H₁=>
    rw [hg] at h
    refine ⟨0,v,H₁,?_,h⟩
    show rr tbl _ _ _ _=_
    simp only [rr,ht,th,id,hg]
theorem aInt_inv {q:IntKind} {args:List AV} {k:Int→List AV→aa} (h:aInt q args k = .ret r H'):∃ n t,args = .int q n::t∧k n t = .ret r H':=by
  cases args with
  | nil=>cases h
  | cons v t=>obtain ⟨n,rfl,h2⟩:=aoE h; exact ⟨n,t,rfl,h2⟩
theorem aqw {args:List AV} {k:Bool→List AV→aa} (h:aBool args k = .ret r H'):∃ n t,args = .bool n::t∧k n t = .ret r H':=by
  cases args with
  | nil=>cases h
  | cons v t=>obtain ⟨n,rfl,h2⟩:=alf h; exact ⟨n,t,rfl,h2⟩
theorem aStr_inv {args:List AV} {k:List UInt8→List AV→aa} (h:aStr args k = .ret r H'):∃ n t,args = .str n::t∧k n t = .ret r H':=by
  cases args with
  | nil=>cases h
  | cons v t=>obtain ⟨n,rfl,h2⟩:=an4 h; exact ⟨n,t,rfl,h2⟩
theorem aAny_inv {args:List AV} {k:AV→List AV→aa} (h:aAny args k = .ret r H'):∃ n t,args=n::t∧k n t = .ret r H':=by
  cases args with
  | nil=>cases h
  | cons v t=>exact ⟨v,t,rfl,h⟩
theorem aNil_inv {args:List AV} {k:aa} (h:aNil args k = .ret r H'):args = []∧k = .ret r H':=by
  cases args with
  | nil=>exact ⟨rfl,h⟩
  | cons v t=>cases h
theorem bw.of {f:Nat} {w w':Wr} (h:bw tbl f w) (e:∀ args H k r H',w' args H k = .ret r H'→w args H k = .ret r H'):bw tbl f w':=
  fun first cap args H k r H' hro hw=>h first cap args H k r H' hro (e _ _ _ _ _ hw)
end
end Go.Ai
/- The printed functions and the interpreter's code: one form of agreement for all of them. -/
namespace Go.Ai
section
variable {r:AV} {H':Heap} {tbl:Tr AFn}
abbrev Ty.T (t:Ty):Type:=Ty.casesOn (motive:=fun _=>Type) t AV (fun _=>Int) Bool (List UInt8)
noncomputable def Ty.av (t:Ty):t.T→AV:=Ty.casesOn (motive:=fun t=>t.T→AV) t (fun v=>v) (fun q n=>.int q n) (fun b=>.bool b) (fun s=>.str s)
abbrev FK (g:Kp) (R:Type):Type:=List.rec (motive:=fun _=>Type) R (fun e _ ih=>e.2.T→ih) g
abbrev FZ (z:List (Rv × Ty)) (R:Type):Type:=List.rec (motive:=fun _=>Type) R (fun e _ ih=>e.2.T→ih) z
abbrev HC:Type:=Heap→aa
noncomputable def loG (g:Kp):((Tr AV→aa)→aa)→(St→aa)→FK g HC:=
  List.rec (motive:=fun g=>((Tr AV→aa)→aa)→(St→aa)→FK g HC) (fun F J h=>F fun tm=>J ⟨tm,h⟩)
    (fun e _ ih F J v=>ih (fun K=>F fun tm=>Tr.setK e.1 (e.2.av v) tm K) J) g
noncomputable def lo (g:Kp) (J:St→aa):FK g HC:=loG g (fun K=>K .leaf) J
noncomputable def kapG (z:List (Rv × Ty)):(List AV→List AV)→(AV→HC)→FZ z HC:=
  List.rec (motive:=fun z=>(List AV→List AV)→(AV→HC)→FZ z HC) (fun F k h=>k (oneK (F [])) h) (fun e _ ih F k u=>ih (fun l=>F (e.2.av u::l)) k) z
noncomputable def kap (z:List (Rv × Ty)) (k:AV→HC):FZ z HC:=kapG z (fun l=>l) k
noncomputable def cmp (a:Kp) {K:Type}:FK a (Heap→K→aa)→K→FK a HC:=
  List.rec (motive:=fun a=>FK a (Heap→K→aa)→K→FK a HC) (fun g k h=>g h k) (fun _ _ ih g k v=>ih (g v) k) a
noncomputable def argK (t:Ty) (l:List AV):(t.T→List AV→aa)→aa:=
  Ty.casesOn (motive:=fun t=>(t.T→List AV→aa)→aa) t (aAny l) (fun q=>aInt q l) (aBool l) (aStr l)
noncomputable def wrG (a:Kp):FK a HC→List AV→HC:=
  List.rec (motive:=fun a=>FK a HC→List AV→HC) (fun g l h=>aNil l (g h)) (fun e _ ih g l h=>argK e.2 l fun v l=>ih (g v) l h) a
noncomputable def wrT (a:Kp) (z:List (Rv × Ty)) (g:FK a (Heap→FZ z HC→aa)):Wr:=fun l h k=>wrG a (cmp a g (kap z k)) l h
noncomputable def lpS (t:(St→aa)→St→aa) (m:Nat):St→aa:=Nat.rec (motive:=fun _=>St→aa) (fun _=>.err) (fun _ ih=>t ih) m
noncomputable def lpF (g:Kp) (b:FK g HC→FK g HC) (m:Nat):FK g HC:=Nat.rec (motive:=fun _=>FK g HC) (lo g fun _=>.err) (fun _ ih=>b ih) m
noncomputable def kJ (g:Kp) (J:St→aa):St→aa:=fun s=>ak5 g s J
noncomputable def cJ (p:P) (a b:St→aa):St→aa:=fun s=>condD (.t p) s a b
noncomputable def DZ (cf:bf) (ty:Tr Ty) (n:Nat) (c:SC) (z:List (Rv × Ty)) (k0:AV→HC):St→aa:=D cf ty n c (jk z k0) (fun _ _=>.err) (jk z k0)
noncomputable def yL (a b:List P) (r:Kp):Tr Ty:=List.rec (motive:=fun _=>Tr Ty) (List.rec (motive:=fun _=>Tr Ty) (List.rec (motive:=fun _=>Tr Ty) .leaf (fun e _ ih=>Tr.set e.1 e.2 ih) r) (fun p _ ih=>Tr.set p .bool ih) b) (fun p _ ih=>Tr.set p (.int .i64) ih) a
theorem exi {α:Type} (x:α):∃ y,x=y:=⟨x,rfl⟩
theorem mQ {g:Kp} {t:(St→aa)→St→aa} {b:FK g HC→FK g HC} (h:∀ J,lo g (t J)=b (lo g J)):∀ m,lo g (lpS t m)=lpF g b m
  | 0=>rfl
  | m+1=>(h _).trans (congrArg b (mQ h m))
theorem argK_inv {t:Ty} {args:List AV} {k:t.T→List AV→aa} (h:argK t args k = .ret r H'):∃ v l,args=t.av v::l∧k v l = .ret r H':=by
  cases t with
  | any=>exact aAny_inv h
  | int q=>exact aInt_inv h
  | bool=>exact aqw h
  | str=>exact aStr_inv h
theorem viewK_av {t:Ty} {v:t.T} {k:AV→aa}:abY t (t.av v) k=k (t.av v):=by
  cases t with
  | int q=>cases q<;>rfl
  | _=>rfl
theorem aqn {J:St→aa} {h:Heap}:∀ {a:Kp} {args:List AV} {tm:Tr AV},wrG a (loG a (fun K=>K tm) J) args h = .ret r H'→aoK a args tm (fun tm=>J ⟨tm,h⟩) = .ret r H'
  | [],args,tm,hh=>by
    obtain ⟨rfl,h2⟩:=aNil_inv hh
    exact h2
  | (p,t)::a,args,tm,hh=>by
    obtain ⟨v,l,rfl,h2⟩:=argK_inv (t:=t) hh
    have h3:wrG a (loG a (fun K=>Tr.setK p (t.av v) tm K) J) l h = .ret r H':=h2
    rw [show (fun K:Tr AV→aa=>Tr.setK p (t.av v) tm K)=fun K=>K (tm.set p (t.av v)) from funext fun K=>Tr.fu ..] at h3
    show abY t (t.av v) (fun v=>Tr.setK p v tm fun tm=>aoK a l tm fun tm=>J ⟨tm,h⟩)=_
    rw [viewK_av,Tr.fu]
    exact aqn h3
theorem ale (hp:dX tbl) {f:Nat} {ps:Kp} {rs:List (Rv × Ty)} {l:List (Nat × Wr)} {ty:Tr Ty} {n:Nat} {c:SC} {F:FK ps (Heap→FZ rs HC→aa)}
    (e:∀ k0,lo ps (DZ (lC l) ty n c rs k0)=cmp ps F (kap rs k0))
    (ht:tbl.get (key f)=some (.code (ps.map (·.1)) (Sq c) (rs.map (·.1)))) (hs:eW tbl l):bw tbl f (wrT ps rs F):=
  bw.of (aqe hp (l:=l) (ty:=ty) (n:=n) (c:=c) ht hs) fun args H k r H' h=>by
    have h2:wrG ps (cmp ps F (kap rs k)) args H = .ret r H':=h
    rw [← e] at h2
    exact aqn h2
end
end Go.Ai
