/- Code with notes, in continuation style: what it returns, the interpreter's calls return. -/
import Derived.Test.YtnlbfbiogfilfaaGreatAiCpsOk
set_option linter.all false
namespace Go.Ai
section
variable {r:AV} {H':Heap} {tbl:Tr AFn}
theorem aiw {t:Ty} {v:AV} {k:AV→CRes} (h:asx t v k = .ret r H'):k v = .ret r H':=by
  cases t with
  | any=>exact h
  | int q=>
    have h0:Wa q v (fun n=>k (.int q n)) = .ret r H':=h
    obtain ⟨n,rfl,h2⟩:=axn h0
    exact h2
  | bool=>
    have h0:Te v (fun n=>k (.bool n)) = .ret r H':=h
    obtain ⟨n,rfl,h2⟩:=Np h0
    exact h2
  | str=>
    have h0:vStr v (fun n=>k (.str n)) = .ret r H':=h
    obtain ⟨n,rfl,h2⟩:=ami h0
    exact h2
theorem atE {tm tm₀:Tr AV} (le:TmLe tm tm₀):∀ {g:Kp} {acc:Tr AV} {c:Tr AV→CRes},TmLe acc tm₀→keepGo tm g acc c = .ret r H'→∃ tm',TmLe tm' tm₀∧c tm' = .ret r H'
  | [],acc,c,ha,h=>⟨acc,ha,h⟩
  | (p,t)::g,acc,c,ha,h=>by
    obtain ⟨v,hv,h⟩:=aoM (x:=tm.get p) h
    have h:=aiw h
    rw [Tr.setK_eq] at h
    refine atE le (g:=g) ?_ h
    intro q u hu
    by_cases e:p=q
    · subst e; rw [Tr.get_set_same] at hu; cases hu; exact le _ _ hv
    · rw [Tr.get_set_other e] at hu; exact ha _ _ hu
def SLe (s s':St):Prop:=TmLe s.tm s'.tm∧s.hp=s'.hp
theorem SLe.refl {s:St}:SLe s s:=⟨.refl,rfl⟩
theorem apz {g:Kp} {s s₀:St} {f:St→CRes} (le:SLe s s₀) (h:cI g s f = .ret r H'):∃ s',SLe s' s₀∧f s' = .ret r H':=by
  obtain ⟨tm,H⟩:=s
  obtain ⟨tm',h1,h2⟩:=atE le.1 (g:=g) (acc:=.leaf) (fun p v hv=>by rw [Tr.get_leaf] at hv; cases hv) h
  exact ⟨⟨tm',H⟩,⟨h1,le.2⟩,h2⟩
theorem aw4 {g:Option Kp} {s s₀:St} {f:St→CRes} (le:SLe s s₀) (h:jn g f s = .ret r H'):∃ s',SLe s' s₀∧f s' = .ret r H':=by
  cases g with
  | none=>exact ⟨s,le,h⟩
  | some g=>exact apz le (g:=g) h
theorem atp {ty:Tr Ty} {d:Option P} {v:AV} {tm:Tr AV} {k:Tr AV→CRes} (h:putT ty d v tm k = .ret r H'):k (tm.putO d v) = .ret r H':=by
  cases d with
  | none=>exact h
  | some p=>
    have h':(Option.casesOn (ty.get p) (Tr.setK p v tm k) fun t=>asx t v fun v=>Tr.setK p v tm k:CRes) = .ret r H':=h
    cases ht:ty.get p with
    | none=>rw [ht] at h'; show k (tm.set p v)=_; rw [← Tr.setK_eq p v tm k]; exact h'
    | some t=>rw [ht] at h'; show k (tm.set p v)=_; rw [← Tr.setK_eq p v tm k]; exact aiw (t:=t) (k:=fun v=>Tr.setK p v tm k) h'
theorem awQ {tm:Tr AV} {p:P} {kt kf ko:Tr AV→CRes} (h:isD tm p kt kf ko = .ret r H') :
    ∃ v,tm.get p=some v∧((v = .bool true∧kt (tm.set p (.bool true)) = .ret r H')∨(v = .bool false∧kf (tm.set p (.bool false)) = .ret r H')∨((∀ b,v≠.bool b)∧ko tm = .ret r H')):=by
  obtain ⟨v,hv,h⟩:=aoM (x:=tm.get p) h
  refine ⟨v,hv,?_⟩
  cases v with
  | bool b=>
    cases b with
    | true=>exact .inl ⟨rfl,by rw [← Tr.setK_eq p _ tm kt]; exact h⟩
    | false=>exact .inr (.inl ⟨rfl,by rw [← Tr.setK_eq p _ tm kf]; exact h⟩)
  | _=>exact .inr (.inr ⟨fun b=>by simp,h⟩)
theorem atG {tm tm₀:Tr AV} (le:TmLe tm tm₀) {g:Gd} {ky kn:Tr AV→CRes} (h:arV g tm ky kn = .ret r H') :
    ∃ tm',TmLe tm' tm₀∧((yZ tm₀ g=some true∧ky tm' = .ret r H')∨(yZ tm₀ g=some false∧kn tm' = .ret r H')):=by
  cases g with
  | always=>exact ⟨tm,le,.inl ⟨rfl,h⟩⟩
  | on p want=>
    have hw:∀ v,tm.get p=some v→yZ tm₀ (.on p want)=match v with | .bool b=>some (b==want) | _=>some false:=by
      intro v hv
      simp only [yZ]; rw [le _ _ hv]; rfl
    cases want with
    | false=>
      obtain ⟨v,hv,h⟩:=awQ (kt:=kn) (kf:=ky) (ko:=kn) h
      have hw:=hw v hv
      rcases h with ⟨rfl,h⟩ | ⟨rfl,h⟩ | ⟨hn,h⟩
      · exact ⟨_,le.known hv,.inr ⟨hw,h⟩⟩
      · exact ⟨_,le.known hv,.inl ⟨hw,h⟩⟩
      · exact ⟨_,le,.inr ⟨by rw [hw]; split<;>first | exact (hn _ rfl).elim | rfl,h⟩⟩
    | true=>
      obtain ⟨v,hv,h⟩:=awQ (kt:=ky) (kf:=kn) (ko:=kn) h
      have hw:=hw v hv
      rcases h with ⟨rfl,h⟩ | ⟨rfl,h⟩ | ⟨hn,h⟩
      · exact ⟨_,le.known hv,.inl ⟨hw,h⟩⟩
      · exact ⟨_,le.known hv,.inr ⟨hw,h⟩⟩
      · exact ⟨_,le,.inr ⟨by rw [hw]; split<;>first | exact (hn _ rfl).elim | rfl,h⟩⟩
theorem aA8 {c:Opd} {s s₀:St} (le:SLe s s₀) {ka kb:St→CRes} (h:dH c s ka kb = .ret r H') :
    ∃ t s',SLe s' s₀∧ev s₀.tm c=some (.bool t)∧(if t then ka else kb) s' = .ret r H':=by
  obtain ⟨tm,H⟩:=s
  cases c with
  | t p=>
    have h0:isD tm p (fun tm=>ka ⟨tm,H⟩) (fun tm=>kb ⟨tm,H⟩) (fun _=>.err) = .ret r H':=h
    obtain ⟨v,hv,h⟩:=awQ h0
    rcases h with ⟨rfl,h⟩ | ⟨rfl,h⟩ | ⟨_,h⟩
    · exact ⟨true,⟨tm.set p (.bool true),H⟩,⟨le.1.known hv,le.2⟩,le.1 _ _ hv,by rw [if_pos rfl]; exact h⟩
    · exact ⟨false,⟨tm.set p (.bool false),H⟩,⟨le.1.known hv,le.2⟩,le.1 _ _ hv,by rw [if_neg (by simp)]; exact h⟩
    · cases h
  | c v=>
    obtain ⟨b,rfl,hz⟩:=YE (v:=v) h
    replace h:=hz
    clear hz
    cases b with
    | true=>exact ⟨true,⟨tm,H⟩,le,rfl,by rw [if_pos rfl]; exact h⟩
    | false=>exact ⟨false,⟨tm,H⟩,le,rfl,by rw [if_neg (by simp)]; exact h⟩
def CfOkD (tbl:Tr AFn) (cf:dD):Prop:=∀ fv vs H k r H',H.ro≤H.nx→cf fv vs H k = .ret r H'→∃ n v H₁,call tbl n fv vs H = .ret v H₁∧k v H₁ = .ret r H'
def Sound (tbl:Tr AFn) (f:Nat) (w:Wr):Prop:=∀ first cap args H k r H',H.ro≤H.nx→w (first++(args++cap)) H k = .ret r H'→∃ n v H₁,call tbl n (.func f first cap) args H = .ret v H₁∧k v H₁ = .ret r H'
def Sounds (tbl:Tr AFn):List (Nat × Wr)→Prop
  | []=>True
  | e::l=>Sound tbl e.1 e.2∧Sounds tbl l
theorem Sounds.find {f:Nat} {w:Wr}:∀ {l:List (Nat × Wr)},Sounds tbl l→findW f l=some w→Sound tbl f w
  | [],_,h=>by cases h
  | (g,w')::l,hs,h=>by
    have h':(Bool.casesOn (Nat.beq f g) (findW f l) (some w'):Option Wr)=some w:=h
    cases hb:Nat.beq f g with
    | true=>rw [hb] at h'; cases h'; rw [Nat.eq_of_beq_eq_true hb]; exact hs.1
    | false=>rw [hb] at h'; exact Sounds.find hs.2 h'
theorem cfOf_ok {l:List (Nat × Wr)} (hs:Sounds tbl l):CfOkD tbl (ez l):=by
  intro fv vs H k r H' hro h
  cases fv with
  | func f first cap=>
    obtain ⟨w,hw,h⟩:=aoM (x:=findW f l) h
    rw [jz,jz] at h
    exact hs.find hw first cap vs H k r H' hro h
  | _=>cases h
variable {cf:dD} {ty:Tr Ty} (hp:IE tbl) (hcf:CfOkD tbl cf)
include hp hcf
theorem azz {x:Ins} {s s₀:St} (le:SLe s s₀) (hro:s₀.hp.ro≤s₀.hp.nx) {k:St→CRes} (h:insD cf ty x s k = .ret r H') :
    ∃ n v H₁,lT (call tbl n) x s₀.tm s₀.hp=some (v,H₁)∧∃ s',SLe s' ⟨s₀.tm.putO x.dst v,H₁⟩∧k s' = .ret r H':=by
  obtain ⟨tm,H⟩:=s
  obtain ⟨tm₀,H₀⟩:=s₀
  obtain ⟨le,e⟩:=le
  dsimp only at le e hro
  subst e
  cases x with
  | op g d o=>
    have h0:arV g tm (fun tm=>opD o tm H fun v H'=>putT ty d v tm fun tm=>k ⟨tm,H'⟩) (fun tm=>putK tm d .undef fun tm=>k ⟨tm,H⟩) = .ret r H':=h
    obtain ⟨tm',le',h⟩:=atG le h0
    rcases h with ⟨hw,h⟩ | ⟨hw,h⟩
    · obtain ⟨v,H₁,ho,h⟩:=aAs le' h
      have h:=atp h
      exact ⟨0,v,H₁,by simp only [lT]; rw [hw]; exact ho,⟨tm'.putO d v,H₁⟩,⟨le'.putO d v,rfl⟩,h⟩
    · rw [aiy] at h
      exact ⟨0,.undef,H,by simp only [lT]; rw [hw],⟨tm'.putO d .undef,H⟩,⟨le'.putO d _,rfl⟩,h⟩
  | call g d q f args=>
    have h0:arV g tm (fun tm=>evK tm f fun fv=>evsK tm args fun vs=>
      Bool.casesOn q (cf fv vs H fun v H'=>putT ty d v tm fun tm=>k ⟨tm,H'⟩)
        (cf fv vs (H.shut true) fun v H'=>putT ty d v tm fun tm=>k ⟨tm,H'.back H.ro⟩)) (fun tm=>putK tm d .undef fun tm=>k ⟨tm,H⟩) = .ret r H':=h
    obtain ⟨tm',le',h⟩:=atG le h0
    rcases h with ⟨hw,h⟩ | ⟨hw,h⟩
    · obtain ⟨fv,hf,h⟩:=fR le' h
      obtain ⟨vs,hv,h⟩:=aib le' h
      cases q with
      | false=>
        obtain ⟨n,v,H₁,hc,h⟩:=hcf _ _ _ _ _ _ hro h
        have h:=atp h
        have m:=aiR hp n _ _ _ _ _ hro hc
        have eb:H₁.back H.ro=H₁:=by
          have:=m.ro
          obtain ⟨t,nx,ro⟩:=H₁
          dsimp only at this; subst this; rfl
        refine ⟨n,v,H₁,?_,⟨tm'.putO d v,H₁⟩,⟨le'.putO d v,rfl⟩,h⟩
        have hc':call tbl n fv vs (H.shut false) = .ret v H₁:=hc
        simp only [lT]; rw [hw]; dsimp only; rw [hf,hv]; dsimp only; rw [hc']; dsimp only; rw [eb]
      | true=>
        obtain ⟨n,v,H₁,hc,h⟩:=hcf _ _ _ _ _ _ (by simp [Heap.shut]) h
        have h:=atp h
        refine ⟨n,v,H₁.back H.ro,?_,⟨tm'.putO d v,H₁.back H.ro⟩,⟨le'.putO d v,rfl⟩,h⟩
        simp only [lT]; rw [hw]; dsimp only; rw [hf,hv]; dsimp only; rw [hc]
    · rw [aiy] at h
      exact ⟨0,.undef,H,by simp only [lT]; rw [hw],⟨tm'.putO d .undef,H⟩,⟨le'.putO d _,rfl⟩,h⟩
omit hcf in
theorem insV_roD {x:Ins} {tm:Tr AV} {H H₁:Heap} {n:Nat} {v:AV} (hro:H.ro≤H.nx) (h:lT (call tbl n) x tm H=some (v,H₁)):H₁.ro≤H₁.nx:=by
  have m:=OI (aiR hp n) hro h
  rw [m.ro]; exact Nat.le_trans hro m.nx
theorem ase:∀ {l l':List Ins} {s s₀:St} {k:St→CRes} {K:St→Prop},SLe s s₀→s₀.hp.ro≤s₀.hp.nx→bE cf ty l k s = .ret r H'→
    (∀ s₁ s',SLe s' s₁→s₁.hp.ro≤s₁.hp.nx→k s' = .ret r H'→WpR tbl l' s₁ K)→WpR tbl (l++l') s₀ K
  | [],l',s,s₀,k,K,le,hro,h,hk=>hk s₀ s le hro h
  | x::l,l',s,s₀,k,K,le,hro,h,hk=>by
    obtain ⟨n,v,H₁,h1,s',le',h⟩:=azz hp hcf le hro (x:=x) h
    obtain ⟨tm₀,H₀⟩:=s₀
    exact WpR.cons h1 (ase le' (insV_roD hp hro h1) h hk)
theorem ap8:∀ {l:List (Option Kp × List Ins)} {s s₀:St} {k:St→CRes},SLe s s₀→s₀.hp.ro≤s₀.hp.nx→regsD cf ty l k s = .ret r H'→
    WpR tbl (av8 l) s₀ fun s₁=>s₁.hp.ro≤s₁.hp.nx∧∃ s',SLe s' s₁∧k s' = .ret r H'
  | [],s,s₀,k,le,hro,h=>WpR.nil ⟨hro,s,le,h⟩
  | (g,l)::ls,s,s₀,k,le,hro,h=>by
    refine ase hp hcf (l:=l) (l':=av8 ls) le hro h fun s₁ s' le' hro' h'=>?_
    obtain ⟨s'',le'',h''⟩:=aw4 le' h'
    exact ap8 le'' hro' h''
omit hcf in
theorem Wp.ro {c:AC} {s:St} {Q:Ex→St→Prop} (hro:s.hp.ro≤s.hp.nx) (h:Wp tbl c s Q):Wp tbl c s fun e s'=>s'.hp.ro≤s'.hp.nx∧Q e s':=by
  obtain ⟨n,e,s',h1,h2⟩:=h
  have m:=aof hp n c s e s' hro h1
  exact ⟨n,e,s',h1,by rw [m.ro]; exact Nat.le_trans hro m.nx,h2⟩
def goes (kn:St→CRes) (ke:Nat→St→CRes) (kr:St→CRes):Ex→St→CRes
  | .nrm=>kn
  | .exi i=>ke i
  | .ret=>kr
theorem D_sound {n:Nat}:∀ {c:SC} {kn:St→CRes} {ke:Nat→St→CRes} {kr:St→CRes} {s s₀:St},SLe s s₀→s₀.hp.ro≤s₀.hp.nx→D cf ty n c kn ke kr s = .ret r H'→
    Wp tbl (amB c) s₀ fun e s₁=>s₁.hp.ro≤s₁.hp.nx∧∃ s',SLe s' s₁∧goes kn ke kr e s' = .ret r H':=by
  intro c
  induction c with
  | skip=>intro kn ke kr s s₀ le hro h; exact Wp.skip ⟨hro,s,le,h⟩
  | reg l=>intro kn ke kr s s₀ le hro h; exact Wp.reg (ap8 hp hcf le hro h)
  | seq g a b iha ihb=>
    intro kn ke kr s s₀ le hro h
    refine Wp.seq ((iha le hro h).mono fun e s₁ hq=>?_)
    obtain ⟨hro',s',le',h'⟩:=hq
    cases e with
    | nrm=>
      obtain ⟨s'',le'',h''⟩:=aw4 le' h'
      exact ihb le'' hro' h''
    | exi i=>exact ⟨hro',s',le',h'⟩
    | ret=>exact ⟨hro',s',le',h'⟩
  | cond c a b iha ihb=>
    intro kn ke kr s s₀ le hro h
    obtain ⟨t,s',le',hc,h⟩:=aA8 le h
    cases t with
    | true=>exact Wp.cond hc (iha le' hro h)
    | false=>exact Wp.cond hc (ihb le' hro h)
  | block id g a iha=>
    intro kn ke kr s s₀ le hro h
    refine Wp.block ((iha le hro h).mono fun e s₁ hq=>?_)
    obtain ⟨hro',s',le',h'⟩:=hq
    cases e with
    | nrm=>
      obtain ⟨s'',le'',h''⟩:=aw4 le' h'
      exact ⟨hro',s'',le'',h''⟩
    | exi i=>
      have h2:(Bool.casesOn (Nat.beq i id) (ke i s') (jn g kn s'):CRes) = .ret r H':=h'
      show if i=id then _ else _
      by_cases hi:i=id
      · rw [if_pos hi]
        have:Nat.beq i id=true:=by rw [hi]; exact Nat.beq_refl _
        rw [this] at h2
        obtain ⟨s'',le'',h''⟩:=aw4 le' h2
        exact ⟨hro',s'',le'',h''⟩
      · rw [if_neg hi]
        have:Nat.beq i id=false:=by cases hb:Nat.beq i id with
          | false=>rfl
          | true=>exact (hi (Nat.eq_of_beq_eq_true hb)).elim
        rw [this] at h2
        exact ⟨hro',s',le',h2⟩
    | ret=>exact ⟨hro',s',le',h'⟩
  | loop g a iha=>
    intro kn ke kr s s₀ le hro h
    obtain ⟨s',le',h⟩:=apz (g:=g) le h
    have go:∀ (m:Nat) (s s₀:St),SLe s s₀→s₀.hp.ro≤s₀.hp.nx→loopD g (fun F=>D cf ty n a F ke kr) m s = .ret r H'→
        Wp tbl (.loop (amB a)) s₀ fun e s₁=>s₁.hp.ro≤s₁.hp.nx∧∃ s',SLe s' s₁∧goes kn ke kr e s' = .ret r H':=by
      intro m
      induction m with
      | zero=>intro s s₀ _ _ h; cases h
      | succ m ihm=>
        intro s s₀ le hro h
        refine Wp.round ((iha le hro (kn:=fun s=>cI g s (loopD g (fun F=>D cf ty n a F ke kr) m)) h).mono fun e s₁ hq=>?_)
        obtain ⟨hro',s',le',h'⟩:=hq
        cases e with
        | nrm=>
          obtain ⟨s'',le'',h''⟩:=apz (g:=g) le' h'
          exact ihm s'' s₁ le'' hro' h''
        | exi i=>exact ⟨hro',s',le',h'⟩
        | ret=>exact ⟨hro',s',le',h'⟩
    exact go n s' s₀ le' hro h
  | exit id=>intro kn ke kr s s₀ le hro h; exact Wp.exit ⟨hro,s,le,h⟩
  | ret=>intro kn ke kr s s₀ le hro h; exact Wp.ret ⟨hro,s,le,h⟩
omit hp hcf
theorem avj:∀ {g:Kp} {vs:List AV} {tm:Tr AV} {k:Tr AV→CRes},fJ g vs tm k = .ret r H'→∃ tm',MA (g.map (·.1)) vs tm none some=some tm'∧k tm' = .ret r H'
  | [],[],tm,k,h=>⟨tm,rfl,h⟩
  | [],_::_,tm,k,h=>by cases h
  | _::_,[],tm,k,h=>by cases h
  | (p,t)::g,v::vs,tm,k,h=>by
    have h0:asx t v (fun v=>Tr.setK p v tm fun tm=>fJ g vs tm k) = .ret r H':=h
    have h:=aiw h0
    rw [Tr.setK_eq] at h
    obtain ⟨tm',h1,h2⟩:=avj h
    refine ⟨tm',?_,h2⟩
    show Tr.setK p v tm (fun tm'=>MA (g.map (·.1)) vs tm' none some)=_
    rw [Tr.setK_eq]; exact h1
theorem rvK_inv {s s₀:St} (le:SLe s s₀) {x:Rv} {k:AV→CRes} (h:rvK x s k = .ret r H'):∃ v,resV s₀ x=some v∧k v = .ret r H':=by
  obtain ⟨tm,H⟩:=s
  cases x with
  | t p=>obtain ⟨v,h1,h2⟩:=aoM (x:=tm.get p) h; exact ⟨v,le.1 _ _ h1,h2⟩
  | cell p n agg=>
    obtain ⟨v,h1,h2⟩:=aoM (x:=tm.get p) h
    obtain ⟨b,off,l,cs,v,rfl,hl,hc,hv,h⟩:=aip h2
    refine ⟨v,?_,h⟩
    have e:H=s₀.hp:=le.2
    simp only [resV]; rw [le.1 _ _ h1]; dsimp only; rw [← e,hl]; dsimp only; rw [hc]; exact hv
theorem au7 {s s₀:St} (le:SLe s s₀):∀ {rs:List (Rv × Ty)} {k:List AV→CRes},finGo rs s k = .ret r H'→∃ vs,abH s₀ (rs.map (·.1))=some vs∧k vs = .ret r H'
  | [],k,h=>⟨[],rfl,h⟩
  | (x,t)::rs,k,h=>by
    obtain ⟨v,hv,h⟩:=rvK_inv le (x:=x) h
    obtain ⟨vs,h1,h2⟩:=au7 le (rs:=rs) (aiw h)
    refine ⟨v::vs,?_,h2⟩
    show (Option.casesOn (resV s₀ x) none fun v=>Option.casesOn (abH s₀ (rs.map (·.1))) none fun us=>some (v::us):Option (List AV))=_
    rw [hv,h1]
theorem oneK_eq (vs:List AV):oneK vs=one vs:=by
  match vs with
  | []=>rfl
  | [v]=>rfl
  | _::_::_=>rfl
theorem axU {s s₀:St} (le:SLe s s₀) {rs:List (Rv × Ty)} {k:AV→Heap→CRes} (h:cG rs k s = .ret r H'):∃ vs,abH s₀ (rs.map (·.1))=some vs∧k (one vs) s₀.hp = .ret r H':=by
  obtain ⟨vs,h1,h2⟩:=au7 le h
  exact ⟨vs,h1,by rw [← oneK_eq, ← le.2]; exact h2⟩
theorem dx (hp:IE tbl) {f:Nat} {ps:Kp} {rs:List (Rv × Ty)} {l:List (Nat × Wr)} {ty:Tr Ty} {n:Nat} {c:SC} (ht:tbl.get (key f)=some (.code (ps.map (·.1)) (amB c) (rs.map (·.1)))) (hs:Sounds tbl l) :
    Sound tbl f (W ps rs l ty n c):=by
  intro first cap args H k r H' hro h
  obtain ⟨tm,hb,h⟩:=avj h
  obtain ⟨m,e,s₁,h1,_,s',le,h2⟩:=D_sound hp (cfOf_ok hs) (s₀:=⟨tm,H⟩) SLe.refl hro h
  cases e with
  | nrm=>
    obtain ⟨vs,h3,h4⟩:=axU le h2
    exact ⟨m,one vs,s₁.hp,NL ht hb h1 (.inl rfl) h3,h4⟩
  | ret=>
    obtain ⟨vs,h3,h4⟩:=axU le h2
    exact ⟨m,one vs,s₁.hp,NL ht hb h1 (.inr rfl) h3,h4⟩
  | exi i=>cases h2
theorem lD {ps:Kp} {rs:List (Rv × Ty)} {l:List (Nat × Wr)} {ty:Tr Ty} {n:Nat} {c:SC} {args:List AV} {h:Heap} {k:AV→Heap→CRes} {tm:Tr AV} (hb:∀ F:Tr AV→CRes,fJ ps args .leaf F=F tm) :
    W ps rs l ty n c args h k=D (ez l) ty n c (cG rs k) (fun _ _=>.err) (cG rs k) ⟨tm,h⟩:=hb _
noncomputable def GF (g:List AV→Heap→CRes):Wr:=fun args H k=>CRes.casesOn (g args H) .err k
theorem agd {f:Nat} {g:List AV→Heap→CRes} (ht:tbl.get (key f)=some (.prim g)):Sound tbl f (GF g):=by
  intro first cap args H k r H' _ h
  unfold GF at h
  cases hg:g (first++(args++cap)) H with
  | err=>rw [hg] at h; cases h
  | ret v H₁=>
    rw [hg] at h
    refine ⟨0,v,H₁,?_,h⟩
    show td tbl _ _ _ _=_
    simp only [td,ht,jz,id,hg]
theorem dv {q:IntKind} {args:List AV} {k:Int→List AV→CRes} (h:nH q args k = .ret r H'):∃ n t,args = .int q n::t∧k n t = .ret r H':=by
  cases args with
  | nil=>cases h
  | cons v t=>obtain ⟨n,rfl,h2⟩:=axn h; exact ⟨n,t,rfl,h2⟩
theorem aAN {args:List AV} {k:Bool→List AV→CRes} (h:aBool args k = .ret r H'):∃ n t,args = .bool n::t∧k n t = .ret r H':=by
  cases args with
  | nil=>cases h
  | cons v t=>obtain ⟨n,rfl,h2⟩:=Np h; exact ⟨n,t,rfl,h2⟩
theorem c8 {args:List AV} {k:AV→List AV→CRes} (h:kL args k = .ret r H'):∃ n t,args=n::t∧k n t = .ret r H':=by
  cases args with
  | nil=>cases h
  | cons v t=>exact ⟨v,t,rfl,h⟩
theorem dc {args:List AV} {k:CRes} (h:lw args k = .ret r H'):args = []∧k = .ret r H':=by
  cases args with
  | nil=>exact ⟨rfl,h⟩
  | cons v t=>cases h
theorem Sound.of {f:Nat} {w w':Wr} (h:Sound tbl f w) (e:∀ args H k r H',w' args H k = .ret r H'→w args H k = .ret r H'):Sound tbl f w':=
  fun first cap args H k r H' hro hw=>h first cap args H k r H' hro (e _ _ _ _ _ hw)
end
end Go.Ai
