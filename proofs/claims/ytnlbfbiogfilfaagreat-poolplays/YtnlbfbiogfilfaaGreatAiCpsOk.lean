/- What the continuation style computes, the interpreter's runs compute. -/
import Derived.Test.YtnlbfbiogfilfaaGreatAiCps
set_option linter.all false
namespace Go.Ai
theorem rV (m:Nat) (c:Nat→ah):zK m c=c m:=by cases m<;>rfl
theorem E2 (n:Int) (c:Int→ah):SF n c=c n:=by
  cases n with
  | ofNat m=>exact rV m fun m=>c (.ofNat m)
  | negSucc m=>exact rV m fun m=>c (.negSucc m)
theorem aFc (b:Bool) (t e:ah):ifB b t e=if b=true then t else e:=by cases b<;>rfl
theorem aDc (q:IntKind):ikTop q=IntKind.top q:=by cases q<;>rfl
theorem wrap_neg (q:IntKind) (m:Nat) (hs:aD5 q=true) (h:m<IntKind.top q):q.wrap (Int.negSucc m)=Int.negSucc m:=by
  rw [Int.negSucc_eq]
  cases q<;>simp only [IntKind.top] at h<;>first | exact absurd hs (by decide) | (simp only [IntKind.wrap,IntKind.signed,IntKind.bits]; simp; omega)
theorem amE (b:Bool):mW b = !b:=by cases b<;>rfl
theorem aqP (a b:Bool):andB a b=(a&&b):=by cases a<;>rfl
theorem aB5 (a b:Bool):eqBB a b=(a==b):=by cases a<;>cases b<;>rfl
theorem aCv (a b:Bool):X1 a b=(b ^^ a):=by cases a<;>cases b<;>rfl
theorem azs (q:IntKind) (m:Nat) (c:Int→ah):aDa q m c=c (q.wrap (.ofNat m)):=by
  unfold aDa
  rw [rV,aFc]
  split
  · rename_i h
    rw [aDc] at h
    rw [aCV q m (by simp [Nat.blt] at h; omega)]
  · exact E2 _ _
theorem wrapM_eq (q:IntKind) (m:Nat) (c:Int→ah):wrapM q m c=c (q.wrap (.negSucc m)):=by
  unfold wrapM
  rw [rV,aFc]
  split
  · rename_i h
    rw [aDc,aqP,iw] at h
    obtain ⟨h1,h2⟩:=h
    rw [wrap_neg q m h1 (by simp [Nat.blt] at h2; omega)]
  · exact E2 _ _
theorem aa4 (q:IntKind) (n:Int) (c:Int→ah):NR q n c=c (q.wrap n):=by
  cases n with
  | ofNat m=>exact azs q m c
  | negSucc m=>exact wrapM_eq q m c
theorem aCt (q:IntKind) (a b:Int) (c:Int→ah):oK q a b c=c (q.wrap (a+b)):=by
  have g:NR q (addF a b) c=c (q.wrap (a+b)):=by rw [aa4,axG]
  cases a with
  | negSucc x=>exact g
  | ofNat x=>cases b with
    | negSucc y=>exact g
    | ofNat y=>exact azs q _ c
theorem aCj (q:IntKind) (a b:Int) (c:Int→ah):amc q a b c=c (q.wrap (a-b)):=by unfold amc; rw [aa4,axF]
theorem aBR (q:IntKind) (a b:Int) (c:Int→ah):Gb q a b c=c (q.wrap (a*b)):=by
  have g:NR q (mulF a b) c=c (q.wrap (a*b)):=by rw [aa4,axD]
  cases a with
  | negSucc x=>exact g
  | ofNat x=>cases b with
    | negSucc y=>exact g
    | ofNat y=>exact azs q _ c
theorem aBI {q q':IntKind} (h:ajY q q'=true):q=q':=by
  have:=iG h
  cases q<;>cases q'<;>first | rfl | (simp [ikN] at this)
theorem at7:∀ (p:P) (t:Tr Blk) (k:Blk→ah),getB p t k=oC (t.get p) k
  | .h,.leaf,_=>rfl
  | .h,.node _ _ _,_=>rfl
  | .o p,.leaf,_=>rfl
  | .o p,.node l v r,k=>at7 p l k
  | .i p,.leaf,_=>rfl
  | .i p,.node l v r,k=>at7 p r k
theorem aqK:∀ (p:P) (x:Blk) (t:Tr Blk) (k:Tr Blk→ah),setB p x t k=k (t.set p x)
  | .h,_,.leaf,_=>rfl
  | .h,_,.node _ _ _,_=>rfl
  | .o p,x,.leaf,k=>by rw [Tr.set_o]; exact aqK p x .leaf fun l=>k (.node l none .leaf)
  | .o p,x,.node l v r,k=>by rw [Tr.set_o]; exact aqK p x l fun l=>k (.node l v r)
  | .i p,x,.leaf,k=>by rw [Tr.set_i]; exact aqK p x .leaf fun r=>k (.node .leaf none r)
  | .i p,x,.node l v r,k=>by rw [Tr.set_i]; exact aqK p x r fun r=>k (.node l v r)
theorem QN (H:ad) (x:Blk) (c:Nat→ad→ah):Jr H x c=c H.nx (H.add x):=by
  rw [← ad.gU H x c]
  obtain ⟨t,nx,ro⟩:=H
  show setB (key nx) x t (fun t=>zK (Nat.succ nx) fun nx'=>c nx ⟨t,nx',ro⟩)=Tr.setK (key nx) x t fun t'=>c nx ⟨t',Nat.succ nx,ro⟩
  rw [aqK,rV,Tr.gT]
theorem alr (H:ad) (b:Nat) (x:Blk) (c:ad→ah):setX H b x c=c (H.set b x):=by
  rw [← ad.gT H b x c]
  obtain ⟨t,nx,ro⟩:=H
  show setB (key b) x t (fun t=>c ⟨t,nx,ro⟩)=Tr.setK (key b) x t fun t'=>c ⟨t',nx,ro⟩
  rw [aqK,Tr.gT]
theorem EW (v:AV) (c:AV→ah):aEe v c=c v:=by
  cases v with
  | slice b o l e p=>
    show zK b (fun b=>zK o fun o=>zK l fun l=>zK e fun e=>ifB p (c (.slice b o l e true)) (c (.slice b o l e false)))=_
    simp only [rV]
    cases p<;>rfl
  | _=>rfl
theorem N6 (H:ad) (c:ad→ah):forceH H c=c H:=by
  obtain ⟨t,nx,ro⟩:=H
  exact rV nx fun nx=>c ⟨t,nx,ro⟩
theorem axz:∀ (l:List AV) (i:Nat) (k:AV→ah),nthX l i k=oC l[i]? k
  | [],_,_=>rfl
  | _::_,0,_=>rfl
  | _::t,i+1,k=>axz t i k
theorem auH (x:AV):∀ (l:List AV) (i:Nat) (k:List AV→ah),axU x l i k=if i<l.length then k (l.set i x) else .err
  | [],_,_=>rfl
  | _::_,0,_=>rfl
  | a::t,i+1,k=>by
    show axU x t i (fun t=>k (a::t))=_
    rw [auH x t i]
    simp
theorem ayF:∀ (cs l:List AV) (k:List AV→ah),aAy cs l k=if cs.length≤l.length then k (cs++l.drop cs.length) else .err
  | [],_,_=>rfl
  | _::_,[],_=>rfl
  | c::cs,a::t,k=>by
    show aAy cs t (fun t=>k (c::t))=_
    rw [ayF cs t]
    simp
theorem ava {x:AV}:∀ (cs l:List AV) (n:Nat),L1 cs (x::l) (n+1)=x::L1 cs l n
  | [],_,_=>rfl
  | c::cs,l,n=>by show L1 cs ((x::l).set (n+1) c) (n+1+1)=_; rw [List.set_cons_succ,ava cs]; rfl
theorem aqB:∀ (cs l:List AV),cs.length≤l.length→L1 cs l 0=cs++l.drop cs.length
  | [],_,_=>rfl
  | _::_,[],h=>by simp at h
  | c::cs,a::t,h=>by
    show L1 cs (c::t) (0+1)=_
    rw [ava,aqB cs t (by simpa using h)]; rfl
theorem auv (cs:List AV):∀ (l:List AV) (i:Nat) (k:List AV→ah),aAO cs l i k=if i+cs.length≤l.length then k (L1 cs l i) else .err
  | [],0,k=>by
    show aAy cs [] k=_
    rw [ayF,Nat.zero_add]
    split
    · rename_i h; rw [aqB cs [] h]
    · rfl
  | [],i+1,k=>by rw [if_neg (by rw [List.length_nil]; omega)]; rfl
  | a::t,0,k=>by
    show aAy cs (a::t) k=_
    rw [ayF,Nat.zero_add]
    split
    · rename_i h; rw [aqB cs _ h]
    · rfl
  | a::t,i+1,k=>by
    show aAO cs t i (fun t=>k (a::t))=_
    rw [auv cs t i]
    by_cases h:i+cs.length≤t.length
    · rw [if_pos h,if_pos (by simp; omega),ava]
    · rw [if_neg h,if_neg (by simp; omega)]
section
variable {r:AV} {H':ad}
theorem Gm {α:Type} {x:Option α} {k:α→ah} (h:oC x k = .ret r H'):∃ a,x=some a∧k a = .ret r H':=by
  cases x with
  | none=>cases h
  | some a=>exact ⟨a,rfl,h⟩
theorem afO {α:Type} {x:Option α} {k:α→ah} (h:(Option.casesOn x .err k:ah) = .ret r H'):∃ a,x=some a∧k a = .ret r H':=by
  cases x with
  | none=>cases h
  | some a=>exact ⟨a,rfl,h⟩
theorem bcaseR {b:Bool} {k:ah} (h:(Bool.casesOn b .err k:ah) = .ret r H'):b=true∧k = .ret r H':=by
  cases b with
  | false=>cases h
  | true=>exact ⟨rfl,h⟩
theorem Uo {b:Bool} {k:ah} (h:ifB b k .err = .ret r H'):b=true∧k = .ret r H':=by
  cases b with
  | false=>cases h
  | true=>exact ⟨rfl,h⟩
theorem atA {b:Bool} {k:ah} (h:ifB b .err k = .ret r H'):b=false∧k = .ret r H':=by
  cases b with
  | true=>cases h
  | false=>exact ⟨rfl,h⟩
theorem axC {c:Prop} [Decidable c] {k:ah} (h:(if c then k else .err) = .ret r H'):c∧k = .ret r H':=by
  split at h
  · exact ⟨by assumption,h⟩
  · cases h
theorem natR {a:Int} {k:Nat→ah} (h:axl a k = .ret r H'):∃ n:Nat,a=(n:Int)∧k n = .ret r H':=by
  cases a with
  | ofNat n=>exact ⟨n,rfl,h⟩
  | negSucc n=>cases h
theorem acv {β:Type} (n:Nat) (e:β) (k:Nat→β):aeN (n:Int) e k=k n:=rfl
theorem abz {v:AV} {k:IntKind→Int→ah} (h:intD v k = .ret r H'):∃ q n,v = .int q n∧k q n = .ret r H':=by
  cases v<;>first | exact ⟨_,_,rfl,h⟩ | cases h
theorem aj9 {v:AV} {k:Bool→ah} (h:aA3 v k = .ret r H'):∃ b,v = .bool b∧k b = .ret r H':=by
  cases v<;>first | exact ⟨_,rfl,h⟩ | cases h
theorem ay4 {v:AV} {k:List UInt8→ah} (h:strD v k = .ret r H'):∃ s,v = .str s∧k s = .ret r H':=by
  cases v<;>first | exact ⟨_,rfl,h⟩ | cases h
theorem extD_inv {ix:Nat} {v:AV} {k:AV→ah} (h:extD ix v k = .ret r H'):∃ vs u,v = .tuple vs∧nth vs ix=some u∧k u = .ret r H':=by
  cases v with
  | tuple vs=>
    have h':oC (nth vs ix) k = .ret r H':=h
    obtain ⟨u,h1,h2⟩:=Gm h'
    exact ⟨vs,u,rfl,h1,h2⟩
  | _=>cases h
theorem aDi {q:IntKind} {v:AV} {k:Int→ah} (h:ac0 q v k = .ret r H'):∃ n,v = .int q n∧k n = .ret r H':=by
  cases v with
  | int q' n=>
    have h':ifB (ajY q q') (k n) .err = .ret r H':=h
    obtain ⟨h1,h2⟩:=Uo h'
    rw [aBI h1]; exact ⟨_,rfl,h2⟩
  | _=>cases h
theorem aA6 {v:AV} {k:Bool→ah} (h:aoK v k = .ret r H'):∃ b,v = .bool b∧k b = .ret r H':=by
  cases v<;>first | exact ⟨_,rfl,h⟩ | cases h
theorem aCJ {v:AV} {k:List UInt8→ah} (h:vStr v k = .ret r H'):∃ s,v = .str s∧k s = .ret r H':=by
  cases v<;>first | exact ⟨_,rfl,h⟩ | cases h
theorem aqn {v:AV} {k:Nat→Nat→ah} (h:aAB v k = .ret r H'):∃ b o,v = .ptr b o∧k b o = .ret r H':=by
  cases v<;>first | exact ⟨_,_,rfl,h⟩ | cases h
theorem aGz {v:AV} {k:Nat→Nat→Nat→ah} (h:asSlc v k = .ret r H'):∃ b o l e p,v = .slice b o l e p∧k b o l = .ret r H':=by
  cases v<;>first | exact ⟨_,_,_,_,_,rfl,h⟩ | cases h
theorem aGq {v:AV} {k:Nat→ah} (h:asMap v k = .ret r H'):∃ b,v = .map b∧k b = .ret r H':=by
  cases v<;>first | exact ⟨_,rfl,h⟩ | cases h
theorem aG2 {v:AV} {k:List AV→ah} (h:asAgg v k = .ret r H'):∃ l,v = .agg l∧k l = .ret r H':=by
  cases v<;>first | exact ⟨_,rfl,h⟩ | cases h
theorem aCI {v:AV} {k:ah} (h:ahr v k = .ret r H'):((∃ b o,v = .ptr b o)∨(∃ f a c,v = .func f a c))∧k = .ret r H':=by
  cases v<;>first | exact ⟨.inl ⟨_,_,rfl⟩,h⟩ | exact ⟨.inr ⟨_,_,_,rfl⟩,h⟩ | cases h
theorem getH {H:ad} {b:Nat} {k:Blk→ah} (h:getB (key b) H.t k = .ret r H'):∃ x,H.get b=some x∧k x = .ret r H':=by
  rw [at7] at h
  exact Gm h
theorem aEw {H:ad} {b:Nat} {k:List AV→ah} (h:acN H b k = .ret r H'):∃ l,yV H b=some l∧k l = .ret r H':=by
  obtain ⟨x,hx,h⟩:=getH h
  cases x with
  | cells l rw_ g=>exact ⟨l,by unfold yV; rw [hx],h⟩
  | mp es=>cases h
  | dead=>cases h
theorem ownX_inv {H:ad} {b:Nat} {k:List AV→Nat→ah} (h:ownX H b k = .ret r H'):∃ l g,k l g = .ret r H'∧∀ {β:Type} (e:β) (k':List AV→Nat→β),avP H b e k'=k' l g:=by
  obtain ⟨hb,h⟩:=atA h
  obtain ⟨x,hx,h⟩:=getH h
  cases x with
  | cells l rw_ g=>
    have h':ifB rw_ (k l g) .err = .ret r H':=h
    obtain ⟨h2,h3⟩:=Uo h'
    refine ⟨l,g,h3,fun e k'=>?_⟩
    unfold avP
    rw [hb,hx,h2]
  | mp es=>cases h
  | dead=>cases h
theorem avc {v:AV} {f:List AV→ah} {c:ah} (h:aAE v f c = .ret r H'):(∃ l,v = .agg l∧f l = .ret r H')∨((v matches .tuple _)=false∧v.cells = [v]∧ak8 v=true∧c = .ret r H'):=by
  cases v<;>first | exact .inl ⟨_,rfl,h⟩ | exact .inr ⟨rfl,rfl,rfl,h⟩ | cases h
def gc (tm tm':Tr AV):Prop:=∀ p v,tm.get p=some v→tm'.get p=some v
theorem gc.refl {tm:Tr AV}:gc tm tm:=fun _ _ h=>h
theorem gc.set {tm tm':Tr AV} (h:gc tm tm') (p:P) (v:AV):gc (tm.set p v) (tm'.set p v):=by
  intro q u hu
  by_cases e:p=q
  · subst e; rw [Tr.gS] at hu ⊢; exact hu
  · rw [Tr.gR e] at hu ⊢; exact h _ _ hu
theorem gc.known {tm tm':Tr AV} (h:gc tm tm') {p:P} {v:AV} (hv:tm.get p=some v):gc (tm.set p v) tm':=by
  intro q u hu
  by_cases e:p=q
  · subst e; rw [Tr.gS] at hu; rw [← hu]; exact h _ _ hv
  · rw [Tr.gR e] at hu; exact h _ _ hu
theorem gc.putO {tm tm':Tr AV} (h:gc tm tm') (d:Option P) (v:AV):gc (tm.putO d v) (tm'.putO d v):=by
  cases d with
  | none=>exact h
  | some p=>exact h.set p v
variable {tm tm₀:Tr AV}
theorem pB (le:gc tm tm₀) {x:Opd} {k:AV→ah} (h:evK tm x k = .ret r H'):∃ v,ev tm₀ x=some v∧k v = .ret r H':=by
  cases x with
  | t p=>obtain ⟨v,h1,h2⟩:=afO (x:=tm.get p) h; exact ⟨v,le _ _ h1,h2⟩
  | c v=>exact ⟨v,rfl,h⟩
theorem apX (le:gc tm tm₀):∀ {xs:List Opd} {k:List AV→ah},evsK tm xs k = .ret r H'→∃ vs,evs tm₀ xs=some vs∧k vs = .ret r H'
  | [],k,h=>⟨[],rfl,h⟩
  | x::xs,k,h=>by
    obtain ⟨v,h1,h2⟩:=pB le (x:=x) h
    obtain ⟨vs,h3,h4⟩:=apX le (xs:=xs) h2
    refine ⟨v::vs,?_,h4⟩
    show (Option.casesOn (ev tm₀ x) none fun v=>Option.casesOn (evs tm₀ xs) none fun vs=>some (v::vs):Option (List AV))=_
    rw [h1,h3]
def ax4 (tm:Tr AV) (x:Option Opd) (o:Option AV):Prop:=(x=none∧o=none)∨∃ y v,x=some y∧o=some v∧ev tm y=some v
theorem axY (le:gc tm tm₀) {x:Option Opd} {k:Option AV→ah} (h:evOK tm x k = .ret r H'):∃ o,ax4 tm₀ x o∧k o = .ret r H':=by
  cases x with
  | none=>exact ⟨none,.inl ⟨rfl,rfl⟩,h⟩
  | some y=>obtain ⟨v,h1,h2⟩:=pB le (x:=y) h; exact ⟨some v,.inr ⟨y,v,rfl,rfl,h1⟩,h2⟩
noncomputable def ayH (parts:List (Nat × Nat × AV)):List AV→Option (List AV):=
  List.rec (motive:=fun _=>List AV→Option (List AV)) (fun z=>some z)
    (fun p _ ih z=>
      match Ao p.2.2.cells==p.2.1&&Nat.ble (p.1+p.2.1) (Ao z)&&!(p.2.2 matches .tuple _) with
      | true=>apz p.2.2.cells z p.1 ih
      | false=>none) parts
theorem ay8 (le:gc tm tm₀):∀ {xs:List (Nat × Nat × Opd)} {k:List (Nat × Nat × AV)→ah},evPK tm xs k = .ret r H'→∃ ps,ahm tm₀ xs=ayH ps∧k ps = .ret r H'
  | [],k,h=>⟨[],rfl,h⟩
  | (a,b,x)::xs,k,h=>by
    obtain ⟨v,h1,h2⟩:=pB le (x:=x) h
    obtain ⟨ps,h3,h4⟩:=ay8 le (xs:=xs) h2
    refine ⟨(a,b,v)::ps,?_,h4⟩
    funext z
    simp only [ahm,ayH] at h3 ⊢
    rw [h1]
    dsimp only
    rw [h3]
    rfl
theorem azg {a b:Nat} {v:AV} {ps:List (Nat × Nat × AV)} {z:List AV} (e1:Ao v.cells=b) (e2:a+b≤z.length) (e3:∀ l,v≠.tuple l):ayH ((a,b,v)::ps) z=ayH ps (L1 v.cells z a):=by
  subst e1
  have hc:Nat.ble (a+Ao v.cells) (Ao z)=true:=by rw [uP z]; exact hO e2
  rw [← Fr v.cells z a (ayH ps)]
  simp only [ayH]
  cases v<;>first | exact (e3 _ rfl).elim | (rw [hc]; simp only [BEq.rfl,Bool.not_false,Bool.and_self])
theorem aqJ:∀ {ps:List (Nat × Nat × AV)} {z:List AV} {k:List AV→ah},awC ps z k = .ret r H'→∃ l,ayH ps z=some l∧k l = .ret r H'
  | [],z,k,h=>⟨z,rfl,h⟩
  | (a,b,v)::ps,z,k,h=>by
    have h0:aAE v (fun l=>ifB (Nat.beq (Ao l) b) (aAO l z a fun z=>awC ps z k) .err) (ifB (Nat.beq 1 b) (axU v z a fun z=>awC ps z k) .err) = .ret r H':=h
    rcases avc h0 with ⟨l,rfl,h⟩ | ⟨h1,h2,h3,h⟩
    · obtain ⟨hb,h⟩:=Uo h
      rw [auv] at h
      obtain ⟨hl,h⟩:=axC h
      have hb':=iG hb
      obtain ⟨l',h4,h5⟩:=aqJ h
      exact ⟨l',by rw [azg (show Ao (AV.agg l).cells=b from hb') (by have:Ao l=b:=hb'; rw [← this,uP]; exact hl) (fun _=>by simp)]; exact h4,h5⟩
    · obtain ⟨hb,h⟩:=Uo h
      rw [auH] at h
      obtain ⟨hl,h⟩:=axC h
      have hb':=iG hb
      obtain ⟨l',h4,h5⟩:=aqJ h
      exact ⟨l',by rw [azg (by rw [h2]; exact hb') (by omega) (fun l e=>by subst e; cases h3),h2]; exact h4,h5⟩
theorem aCg {x:Option Opd} {o:Option AV} (h:ax4 tm x o) (d m:Nat):bnd tm x d m=Yt o d m:=by
  rcases h with ⟨rfl,rfl⟩ | ⟨y,v,rfl,rfl,h⟩
  · rfl
  · simp only [bnd,Yt]; rw [h]; rfl
theorem slF_slV {k:SlK} {u:AV} {lo hi mx:Option Opd} {lo' hi' mx':Option AV} (h1:ax4 tm lo lo') (h2:ax4 tm hi hi') (h3:ax4 tm mx mx'):slF tm k u lo hi mx=slV k u lo' hi' mx':=by
  unfold slF slV
  simp only [aCg h1,aCg h2,aCg h3]
  rcases h2 with ⟨rfl,rfl⟩ | ⟨_,_,rfl,rfl,_⟩<;>rcases h3 with ⟨rfl,rfl⟩ | ⟨_,_,rfl,rfl,_⟩<;>rfl
theorem aGu {op:BinOp} {q q':IntKind} {a b:Int} {k:AV→ah} (h:binID op q q' a b k = .ret r H'):∃ v,binF op (.int q a) (.int q' b)=some v∧k v = .ret r H':=by
  have same:∀ {c:ah},(Bool.casesOn (ajY q q') .err c:ah) = .ret r H'→q=q'∧c = .ret r H':=fun h=>⟨aBI (bcaseR h).1,(bcaseR h).2⟩
  cases op with
  | add=>
    obtain ⟨rfl,h1⟩:=same h
    replace h:=h1
    clear h1
    rw [aCt] at h
    refine ⟨_,?_,h⟩
    show (if q=q then amQ q (addF a b) (fun n=>some (AV.int q n)) else none)=_
    rw [if_pos rfl,JS,axG]
  | sub=>
    obtain ⟨rfl,h1⟩:=same h
    replace h:=h1
    clear h1
    rw [aCj] at h
    refine ⟨_,?_,h⟩
    show (if q=q then amQ q (subF a b) (fun n=>some (AV.int q n)) else none)=_
    rw [if_pos rfl,JS,axF]
  | mul=>
    obtain ⟨rfl,h1⟩:=same h
    replace h:=h1
    clear h1
    rw [aBR] at h
    refine ⟨_,?_,h⟩
    show (if q=q then amQ q (mulF a b) (fun n=>some (AV.int q n)) else none)=_
    rw [if_pos rfl,JS,axD]
  | quo=>
    obtain ⟨rfl,h1⟩:=same h
    replace h:=h1
    clear h1
    have h0:ifB (isZ b) .err (NR q (divF a b) fun n=>k (.int q n)) = .ret r H':=h
    obtain ⟨h1,h2⟩:=atA h0
    rw [aa4] at h2
    refine ⟨_,?_,h2⟩
    show (if q=q then (Bool.casesOn (isZ b) (amQ q (divF a b) (fun n=>some (AV.int q n))) none:Option AV) else none)=_
    rw [if_pos rfl,h1]
    exact JS _ _ _
  | rem=>
    obtain ⟨rfl,h1⟩:=same h
    replace h:=h1
    clear h1
    have h0:ifB (isZ b) .err (SF (modF a b) fun n=>k (.int q n)) = .ret r H':=h
    obtain ⟨h1,h2⟩:=atA h0
    rw [E2] at h2
    refine ⟨_,?_,h2⟩
    show (if q=q then (Bool.casesOn (isZ b) (some (AV.int q (modF a b))) none:Option AV) else none)=_
    rw [if_pos rfl,h1]
  | and=>
    obtain ⟨rfl,h1⟩:=same h
    replace h:=h1
    clear h1
    have h0:(Option.casesOn (abL .and q a b) .err fun n=>SF n fun n=>k (.int q n):ah) = .ret r H':=h
    cases hb:abL .and q a b with
    | none=>rw [hb] at h0; cases h0
    | some n=>
      rw [hb] at h0
      have h2:SF n (fun n=>k (.int q n)) = .ret r H':=h0
      rw [E2] at h2
      refine ⟨_,?_,h2⟩
      show (if q=q then (Option.casesOn (abL .and q a b) none (fun n=>some (AV.int q n)):Option AV) else none)=_
      rw [if_pos rfl,hb]
  | or=>
    obtain ⟨rfl,h1⟩:=same h
    replace h:=h1
    clear h1
    have h0:(Option.casesOn (abL .or q a b) .err fun n=>SF n fun n=>k (.int q n):ah) = .ret r H':=h
    cases hb:abL .or q a b with
    | none=>rw [hb] at h0; cases h0
    | some n=>
      rw [hb] at h0
      have h2:SF n (fun n=>k (.int q n)) = .ret r H':=h0
      rw [E2] at h2
      refine ⟨_,?_,h2⟩
      show (if q=q then (Option.casesOn (abL .or q a b) none (fun n=>some (AV.int q n)):Option AV) else none)=_
      rw [if_pos rfl,hb]
  | xor=>
    obtain ⟨rfl,h1⟩:=same h
    replace h:=h1
    clear h1
    have h0:(Option.casesOn (abL .xor q a b) .err fun n=>SF n fun n=>k (.int q n):ah) = .ret r H':=h
    cases hb:abL .xor q a b with
    | none=>rw [hb] at h0; cases h0
    | some n=>
      rw [hb] at h0
      have h2:SF n (fun n=>k (.int q n)) = .ret r H':=h0
      rw [E2] at h2
      refine ⟨_,?_,h2⟩
      show (if q=q then (Option.casesOn (abL .xor q a b) none (fun n=>some (AV.int q n)):Option AV) else none)=_
      rw [if_pos rfl,hb]
  | andNot=>
    obtain ⟨rfl,h1⟩:=same h
    replace h:=h1
    clear h1
    have h0:(Option.casesOn (abL .andNot q a b) .err fun n=>SF n fun n=>k (.int q n):ah) = .ret r H':=h
    cases hb:abL .andNot q a b with
    | none=>rw [hb] at h0; cases h0
    | some n=>
      rw [hb] at h0
      have h2:SF n (fun n=>k (.int q n)) = .ret r H':=h0
      rw [E2] at h2
      refine ⟨_,?_,h2⟩
      show (if q=q then (Option.casesOn (abL .andNot q a b) none (fun n=>some (AV.int q n)):Option AV) else none)=_
      rw [if_pos rfl,hb]
  | shl=>
    obtain ⟨n,rfl,hz⟩:=natR (a:=b) h
    replace h:=hz
    clear hz
    rw [aa4] at h
    refine ⟨_,?_,h⟩
    show amQ q (an4 q a n) (fun r=>some (AV.int q r))=_
    exact JS _ _ _
  | shr=>
    obtain ⟨n,rfl,hz⟩:=natR (a:=b) h
    replace h:=hz
    clear hz
    rw [E2] at h
    exact ⟨_,rfl,h⟩
  | eql=>
    obtain ⟨rfl,h1⟩:=same h
    replace h:=h1
    clear h1
    refine ⟨_,?_,h⟩
    show (if q=q then some (AV.bool (eqF a b)) else none)=_
    rw [if_pos rfl]
  | neq=>
    obtain ⟨rfl,h1⟩:=same h
    replace h:=h1
    clear h1
    refine ⟨_,?_,h⟩
    show (if q=q then (Bool.casesOn (eqF a b) (some (AV.bool true)) (some (AV.bool false)):Option AV) else none)=_
    rw [if_pos rfl]; cases eqF a b<;>rfl
  | lss=>
    obtain ⟨rfl,h1⟩:=same h
    replace h:=h1
    clear h1
    refine ⟨_,?_,h⟩
    show (if q=q then some (AV.bool (ltF a b)) else none)=_
    rw [if_pos rfl]
  | leq=>
    obtain ⟨rfl,h1⟩:=same h
    replace h:=h1
    clear h1
    refine ⟨_,?_,h⟩
    show (if q=q then (Bool.casesOn (ltF b a) (some (AV.bool true)) (some (AV.bool false)):Option AV) else none)=_
    rw [if_pos rfl]; cases ltF b a<;>rfl
  | gtr=>
    obtain ⟨rfl,h1⟩:=same h
    replace h:=h1
    clear h1
    refine ⟨_,?_,h⟩
    show (if q=q then some (AV.bool (ltF b a)) else none)=_
    rw [if_pos rfl]
  | geq=>
    obtain ⟨rfl,h1⟩:=same h
    replace h:=h1
    clear h1
    refine ⟨_,?_,h⟩
    show (if q=q then (Bool.casesOn (ltF a b) (some (AV.bool true)) (some (AV.bool false)):Option AV) else none)=_
    rw [if_pos rfl]; cases ltF a b<;>rfl
theorem binD_inv {op:BinOp} {u v:AV} {k:AV→ah} (h:binD op u v k = .ret r H'):∃ w,binF op u v=some w∧k w = .ret r H':=by
  cases u with
  | int q a=>
    obtain ⟨q',b,rfl,hz⟩:=abz (v:=v) h
    replace h:=hz
    clear hz
    exact aGu h
  | str a=>
    obtain ⟨b,rfl,hz⟩:=ay4 (v:=v) h
    replace h:=hz
    clear hz
    cases op with
    | add=>
      have h0:ifB (Nat.ble (Nat.add (Ao a) (Ao b)) 1099511627776) (amp a b fun n=>k (.str n)) .err = .ret r H':=h
      obtain ⟨h1,h2⟩:=Uo h0
      rw [vJ] at h2
      refine ⟨_,?_,h2⟩
      show (Bool.casesOn (Nat.ble (Nat.add (Ao a) (Ao b)) 1099511627776) none (some (AV.str (amp a b id))):Option AV)=_
      rw [h1,vJ]; rfl
    | eql=>exact ⟨_,rfl,h⟩
    | neq=>exact ⟨_,by show some (AV.bool (!aeQ a b))=some _; rw [← amE],h⟩
    | _=>cases h
  | _=>cases h
theorem ax9 {o:Option (AV × ad)} {c:AV→ad→ah} (h:outK o c = .ret r H'):∃ v H₁,o=some (v,H₁)∧c v H₁ = .ret r H':=by
  obtain ⟨⟨v,H₁⟩,h1,h2⟩:=Gm h
  exact ⟨v,H₁,h1,h2⟩
theorem nilB_eq (k:NilK) (v:AV):nilB k v=isNil k v:=by cases k<;>cases v<;>rfl
theorem aDB {e:EqK} {x y:AV} {c:Bool→ah} (h:aha e x y c = .ret r H'):∃ b,eqK e x y=some b∧c b = .ret r H':=by
  cases e with
  | nil k=>
    have h0:oC (nilB k x) (fun a=>oC (nilB k y) fun b=>ifB a (c b) (ifB b (c false) .err)) = .ret r H':=h
    obtain ⟨a,ha,h⟩:=Gm h0
    obtain ⟨b,hb,h⟩:=Gm h
    rw [nilB_eq] at ha hb
    cases a with
    | true=>exact ⟨b,by simp only [eqK]; rw [ha,hb],h⟩
    | false=>cases b with
      | true=>exact ⟨false,by simp only [eqK]; rw [ha,hb],h⟩
      | false=>cases h
  | bool=>exact Gm h
  | plain ks=>exact Gm h
theorem aAP {H:ad} {u:AV} {n:Nat} {agg:Bool} {k:AV→ah} (h:nq H u n agg k = .ret r H') :
    ∃ b off l cs v,u = .ptr b off∧yV H b=some l∧sub l off n=some cs∧adV agg cs=some v∧k v = .ret r H':=by
  obtain ⟨b,off,rfl,h2⟩:=aqn h
  obtain ⟨l,hl,h⟩:=aEw h2
  cases agg with
  | true=>
    obtain ⟨cs,hc,h⟩:=Gm (x:=sub l off n) h
    exact ⟨b,off,l,cs,_,rfl,hl,hc,rfl,h⟩
  | false=>
    have h0:ifB (Nat.beq n 1) (nthX l off k) .err = .ret r H':=h
    obtain ⟨hn,h⟩:=Uo h0
    have hn:=iG hn
    subst hn
    rw [axz] at h
    obtain ⟨v,hv,h⟩:=Gm h
    have hc:sub l off 1=some [v]:=by
      rw [zj]
      have:off<l.length:=(iB.1 hv).1
      rw [if_pos (by rw [List.length_drop]; omega),iH this]
      have h2:=(iB.1 hv).2
      rw [← h2]; rfl
    exact ⟨b,off,l,[v],v,rfl,hl,hc,rfl,h⟩
theorem aF4 (le:gc tm tm₀) {o:AOp} {H:ad} {k:AV→ad→ah} (h:opD o tm H k = .ret r H'):∃ v H₁,opF o tm₀ H=some (v,H₁)∧k v H₁ = .ret r H':=by
  cases o with
  | mov x=>
    obtain ⟨v,hv,h⟩:=pB le h
    exact ⟨v,H,by simp only [opF]; rw [hv],h⟩
  | pick c a b=>
    obtain ⟨v,hv,h⟩:=pB le h
    obtain ⟨t,rfl,hz⟩:=aj9 h
    replace h:=hz
    clear hz
    cases t with
    | true=>
      obtain ⟨u,hu,h⟩:=pB le (x:=a) h
      exact ⟨u,H,by simp only [opF]; rw [hv]; dsimp only; rw [hu],h⟩
    | false=>
      obtain ⟨u,hu,h⟩:=pB le (x:=b) h
      exact ⟨u,H,by simp only [opF]; rw [hv]; dsimp only; rw [hu],h⟩
  | not x=>
    obtain ⟨v,hv,h⟩:=pB le h
    obtain ⟨t,rfl,hz⟩:=aj9 h
    replace h:=hz
    clear hz
    refine ⟨_,H,?_,h⟩
    simp only [opF]; rw [hv]; cases t<;>rfl
  | bin op x y=>
    obtain ⟨u,hu,h⟩:=pB le h
    obtain ⟨v,hv,h⟩:=pB le h
    obtain ⟨w,hw,h⟩:=binD_inv h
    exact ⟨w,H,by simp only [opF]; rw [hu]; dsimp only; rw [hv]; dsimp only; rw [hw],h⟩
  | eq e neg x y=>
    obtain ⟨u,hu,h⟩:=pB le h
    obtain ⟨v,hv,h⟩:=pB le h
    have fin:∀ b,eqK e u v=some b→k (.bool (X1 neg b)) H = .ret r H'→∃ v H₁,opF (.eq e neg x y) tm₀ H=some (v,H₁)∧k v H₁ = .ret r H':=by
      intro b hb hk
      refine ⟨_,H,?_,hk⟩
      simp only [opF]; rw [hu]; dsimp only; rw [hv]; dsimp only; rw [hb]; dsimp only; rw [aCv]
    cases e with
    | nil n=>
      have h0:aha (.nil n) u v (fun r=>k (.bool (X1 neg r)) H) = .ret r H':=h
      obtain ⟨b,hb,h⟩:=aDB h0
      exact fin b hb h
    | bool=>
      obtain ⟨a,rfl,hz⟩:=aj9 (v:=u) h
      replace h:=hz
      clear hz
      obtain ⟨b,rfl,hz⟩:=aj9 (v:=v) h
      replace h:=hz
      clear hz
      exact fin (eqBB a b) (by rw [aB5]; rfl) h
    | plain ks=>
      have h0:aha (.plain ks) u v (fun r=>k (.bool (X1 neg r)) H) = .ret r H':=h
      obtain ⟨b,hb,h⟩:=aDB h0
      exact fin b hb h
  | conv q x=>
    obtain ⟨u,hu,h⟩:=pB le h
    obtain ⟨_,n,rfl,hz⟩:=abz h
    replace h:=hz
    clear hz
    rw [aa4] at h
    refine ⟨_,H,?_,h⟩
    simp only [opF]; rw [hu]; exact JS _ _ _
  | alloc z=>
    have h':Jr H (.cells z true 0) (fun b H'=>k (.ptr b 0) H') = .ret r H':=h
    rw [QN] at h'
    exact ⟨_,_,by simp only [opF]; rw [ad.gU],h'⟩
  | box x=>
    obtain ⟨u,hu,h⟩:=pB le h
    rcases avc h with ⟨l,rfl,h5⟩ | ⟨h1,h2,h3,h⟩
    · replace h:=h5
      rw [QN] at h
      exact ⟨_,_,by simp only [opF]; rw [hu]; dsimp only [ak8]; rw [ad.gU]; rfl,h⟩
    · rw [QN] at h
      exact ⟨_,_,by simp only [opF]; rw [hu]; dsimp only; rw [h3,h2]; dsimp only; rw [ad.gU],h⟩
  | build z parts=>
    obtain ⟨ps,hp,h⟩:=ay8 le h
    obtain ⟨l,hl,h⟩:=aqJ h
    exact ⟨_,H,by simp only [opF]; rw [hp,hl],h⟩
  | buildSlice len z parts=>
    obtain ⟨ps,hp,h⟩:=ay8 le h
    obtain ⟨l,hl,h⟩:=aqJ h
    rw [QN] at h
    exact ⟨_,_,by simp only [opF]; rw [hp,hl]; dsimp only; rw [ad.gU],h⟩
  | load n agg x=>
    obtain ⟨u,hu,h⟩:=pB le h
    obtain ⟨b,off,l,cs,v,rfl,hl,hc,hp,h⟩:=aAP h
    exact ⟨v,H,by simp only [opF]; rw [hu]; dsimp only; rw [hl]; dsimp only; rw [hc]; dsimp only; rw [hp],h⟩
  | store n a x=>
    obtain ⟨a',ha,h⟩:=pB le h
    obtain ⟨u,hu,h⟩:=pB le h
    obtain ⟨b,off,rfl,h⟩:=aqn h
    obtain ⟨l,g,h,ho⟩:=ownX_inv h
    have fin:ak8 u=true→Ao u.cells=n→off+n≤l.length→k .undef (H.set b (.cells (L1 u.cells l off) true g)) = .ret r H'→∃ v H₁,opF (.store n a x) tm₀ H=some (v,H₁)∧k v H₁ = .ret r H':=by
      intro e1 e2 e3 e4
      refine ⟨_,_,?_,e4⟩
      simp only [opF]; rw [ha]; dsimp only; rw [hu]; dsimp only; rw [ho]
      have h2:(ak8 u&&Ao u.cells==n&&Nat.ble (off+n) (Ao l))=true:=by
        rw [e1,e2,uP l]; simp [e3]
      rw [h2]; dsimp only; rw [Fr,ad.gT]
    rcases avc h with ⟨cs,rfl,h5⟩ | ⟨h1,h2,h3,h⟩
    · obtain ⟨hn,h⟩:=Uo h5
      have hn:=iG hn
      rw [auv] at h
      obtain ⟨hl,h⟩:=axC h
      rw [alr] at h
      exact fin rfl hn (by rw [← hn,uP]; exact hl) h
    · obtain ⟨hn,h⟩:=Uo h
      have hn:=iG hn
      rw [auH] at h
      obtain ⟨hl,h⟩:=axC h
      rw [alr] at h
      refine fin h3 (by rw [h2]; exact hn) (by omega) ?_
      rw [h2]; exact h
  | nilchk x=>
    obtain ⟨u,hu,h⟩:=pB le h
    obtain ⟨h1,h⟩:=aCI h
    refine ⟨u,H,?_,h⟩
    simp only [opF]; rw [hu]
    rcases h1 with ⟨b,o,rfl⟩ | ⟨f,a,c,rfl⟩<;>rfl
  | fa d x=>
    obtain ⟨u,hu,h⟩:=pB le h
    obtain ⟨b,off,rfl,hz⟩:=aqn h
    replace h:=hz
    clear hz
    rw [rV] at h
    exact ⟨_,H,by simp only [opF]; rw [hu]; rfl,h⟩
  | iaS sz x i=>
    obtain ⟨u,hu,h⟩:=pB le h
    obtain ⟨v,hv,h⟩:=pB le h
    obtain ⟨_,i,rfl,hz⟩:=abz h
    replace h:=hz
    clear hz
    obtain ⟨b,off,l,e,p,rfl,hz⟩:=aGz h
    replace h:=hz
    clear hz
    obtain ⟨j,rfl,hz⟩:=natR h
    replace h:=hz
    clear hz
    obtain ⟨h1,h⟩:=Uo h
    rw [rV] at h
    exact ⟨_,H,by simp only [opF]; rw [hu]; dsimp only; rw [hv]; dsimp only; rw [acv,h1]; rfl,h⟩
  | iaA sz len x i=>
    obtain ⟨u,hu,h⟩:=pB le h
    obtain ⟨v,hv,h⟩:=pB le h
    obtain ⟨_,i,rfl,hz⟩:=abz h
    replace h:=hz
    clear hz
    obtain ⟨b,off,rfl,hz⟩:=aqn h
    replace h:=hz
    clear hz
    obtain ⟨j,rfl,hz⟩:=natR h
    replace h:=hz
    clear hz
    obtain ⟨h1,h⟩:=Uo h
    rw [rV] at h
    exact ⟨_,H,by simp only [opF]; rw [hu]; dsimp only; rw [hv]; dsimp only; rw [acv,h1]; rfl,h⟩
  | idxA sz len agg x i=>
    obtain ⟨u,hu,h⟩:=pB le h
    obtain ⟨v,hv,h⟩:=pB le h
    obtain ⟨_,i,rfl,hz⟩:=abz h
    replace h:=hz
    clear hz
    obtain ⟨cs,rfl,hz⟩:=aG2 h
    replace h:=hz
    clear hz
    obtain ⟨j,rfl,hz⟩:=natR h
    replace h:=hz
    clear hz
    obtain ⟨h1,h⟩:=Uo h
    rw [rV] at h
    obtain ⟨l,hl,h⟩:=Gm h
    obtain ⟨w,hw,h⟩:=Gm h
    have hl':sub cs (j*sz) sz=some l:=hl
    exact ⟨w,H,by simp only [opF]; rw [hu]; dsimp only; rw [hv]; dsimp only; rw [acv,h1]; dsimp only; rw [hl']; dsimp only; rw [hw],h⟩
  | idxS x i=>
    obtain ⟨u,hu,h⟩:=pB le h
    obtain ⟨v,hv,h⟩:=pB le h
    obtain ⟨s,rfl,hz⟩:=ay4 h
    replace h:=hz
    clear hz
    obtain ⟨_,i,rfl,hz⟩:=abz h
    replace h:=hz
    clear hz
    obtain ⟨j,rfl,hz⟩:=natR h
    replace h:=hz
    clear hz
    obtain ⟨c,hc,h⟩:=Gm h
    rw [rV] at h
    exact ⟨_,H,by simp only [opF]; rw [hu]; dsimp only; rw [hv]; dsimp only; rw [acv,hc]; rfl,h⟩
  | sl sk x lo hi mx=>
    obtain ⟨u,hu,h⟩:=pB le h
    obtain ⟨lo',h1,h⟩:=axY le h
    obtain ⟨hi',h2,h⟩:=axY le h
    obtain ⟨mx',h3,h⟩:=axY le h
    obtain ⟨v,hv,h⟩:=Gm h
    rw [EW] at h
    exact ⟨v,H,by simp only [opF]; rw [hu]; dsimp only; rw [slF_slV h1 h2 h3,hv],h⟩
  | ext ix x=>
    obtain ⟨u,hu,h⟩:=pB le h
    obtain ⟨vs,v,rfl,hv,hz⟩:=extD_inv h
    replace h:=hz
    clear hz
    exact ⟨v,H,by simp only [opF]; rw [hu]; dsimp only; rw [hv],h⟩
  | mkfunc f a c=>
    obtain ⟨va,ha,h⟩:=apX le h
    obtain ⟨cs,hc,h⟩:=apX le h
    exact ⟨_,H,by simp only [opF]; rw [ha]; dsimp only; rw [hc],h⟩
  | mkmap=>
    have h':Jr H (.mp []) (fun b H'=>k (.map b) H') = .ret r H':=h
    rw [QN] at h'
    exact ⟨_,_,by simp only [opF]; rw [ad.gU],h'⟩
  | mk z len cap=>
    obtain ⟨u,hu,h⟩:=pB le h
    obtain ⟨v,hv,h⟩:=pB le h
    obtain ⟨_,l,rfl,hz⟩:=abz h
    replace h:=hz
    clear hz
    obtain ⟨_,c,rfl,hz⟩:=abz h
    replace h:=hz
    clear hz
    obtain ⟨l,rfl,hz⟩:=natR h
    replace h:=hz
    clear hz
    obtain ⟨c,rfl,hz⟩:=natR h
    replace h:=hz
    clear hz
    obtain ⟨h1,h⟩:=Uo h
    rw [QN,rV] at h
    rw [aqP] at h1
    exact ⟨_,_,by simp only [opF]; rw [hu]; dsimp only; rw [hv]; dsimp only; rw [acv,acv,h1]; dsimp only; rw [ad.gU]; rfl,h⟩
  | lookup kk z ok m key=>
    obtain ⟨u,hu,h⟩:=pB le h
    obtain ⟨v,hv,h⟩:=pB le h
    obtain ⟨es,hes,h⟩:=Gm h
    obtain ⟨e1,he,h⟩:=Gm h
    obtain ⟨w,hw,h⟩:=Gm h
    have pre:∀ {β:AV × ad},(Option.casesOn w (some (if ok then .tuple [z,.bool false] else z,H)) fun x=>some (if ok then .tuple [x,.bool true] else x,H):Option (AV × ad))=some β→opF (.lookup kk z ok m key) tm₀ H=some β:=by
      intro β hβ
      simp only [opF]; rw [hu]; dsimp only; rw [hv]
      cases u with
      | map b=>
        have hes':JA H b=some es:=hes
        dsimp only; rw [hes']; dsimp only; rw [he]; dsimp only; rw [hw]; exact hβ
      | nilmap=>
        have hes':some []=some es:=hes
        cases hes'
        dsimp only; rw [he]; dsimp only; rw [hw]; exact hβ
      | _=>cases hes
    cases w with
    | none=>cases ok<;>exact ⟨_,H,pre rfl,h⟩
    | some x=>cases ok<;>exact ⟨_,H,pre rfl,h⟩
  | mapset kk m key x=>
    obtain ⟨u,hu,h⟩:=pB le h
    obtain ⟨v,hv,h⟩:=pB le h
    obtain ⟨y,hy,h⟩:=pB le h
    obtain ⟨b,rfl,hz⟩:=aGq h
    replace h:=hz
    clear hz
    obtain ⟨h1,h⟩:=atA h
    obtain ⟨es,hes,h⟩:=Gm h
    obtain ⟨e1,he,h⟩:=Gm h
    obtain ⟨es',hp,h⟩:=Gm h
    rw [alr] at h
    exact ⟨_,_,by simp only [opF]; rw [hu]; dsimp only; rw [hv]; dsimp only; rw [hy]; dsimp only; rw [h1]; dsimp only; rw [hes]; dsimp only; rw [he]; dsimp only; rw [hp]; dsimp only; rw [ad.gT],h⟩
  | mapdel kk m key=>
    obtain ⟨u,hu,h⟩:=pB le h
    obtain ⟨v,hv,h⟩:=pB le h
    obtain ⟨H₁,h1,h⟩:=Gm h
    refine ⟨_,H₁,?_,h⟩
    obtain ⟨e1,he,h2⟩:=lg h1
    clear h1
    simp only [opF]; rw [hu]; dsimp only; rw [hv]; dsimp only; rw [he]; dsimp only
    cases u with
    | map b=>
      have h1:(Bool.casesOn (Nat.blt b H.ro) (Option.casesOn (JA H b) none fun es=>Option.casesOn (delF kk v es) none fun es'=>H.setK b (.mp es') some) none:Option ad)=some H₁:=h2
      cases hb:Nat.blt b H.ro with
      | true=>rw [hb] at h1; cases h1
      | false=>
        rw [hb] at h1
        obtain ⟨es,hes,h2⟩:=lg h1
        obtain ⟨es',hp,h3⟩:=lg h2
        rw [ad.gT] at h3
        cases h3
        dsimp only; rw [hes]; dsimp only; rw [hp]; dsimp only; rw [ad.gT,hb]
    | nilmap=>
      have h1:some H=some H₁:=h2
      cases h1; rfl
    | _=>cases h2
  | len lk x=>
    obtain ⟨u,hu,h⟩:=pB le h
    cases lk with
    | str=>
      obtain ⟨s,rfl,hz⟩:=ay4 h
      replace h:=hz
      clear hz
      have h':zK (Ao s) (fun n=>k (.int .i64 (.ofNat n)) H) = .ret r H':=h
      rw [rV] at h'
      exact ⟨_,H,by simp only [opF]; rw [hu],h'⟩
    | arr n=>exact ⟨_,H,by simp only [opF]; rw [hu]; try rfl,h⟩
    | sl=>
      have h':mX u (fun n=>k (.int .i64 n) H) = .ret r H':=h
      cases u<;>first | exact ⟨_,H,by simp only [opF]; rw [hu]; try rfl,h'⟩ | cases h'
    | mp=>
      have h':oC (aAZ H u) (fun es=>zK (Ao es) fun n=>k (.int .i64 (.ofNat n)) H) = .ret r H':=h
      obtain ⟨es,hes,h2⟩:=Gm h'
      rw [rV] at h2
      cases u with
      | map b=>
        have hes':JA H b=some es:=hes
        exact ⟨_,H,by simp only [opF]; rw [hu]; dsimp only; rw [hes'],h2⟩
      | nilmap=>
        have hes':some []=some es:=hes
        cases hes'
        exact ⟨_,H,by simp only [opF]; rw [hu]; try rfl,h2⟩
      | _=>cases hes
  | minmax mx xs=>
    obtain ⟨vs,hv,h⟩:=apX le h
    cases vs with
    | nil=>cases h
    | cons v vs=>
      obtain ⟨w,hw,h⟩:=Gm h
      exact ⟨w,H,by simp only [opF]; rw [hv]; dsimp only; rw [hw],h⟩
  | append sz s x=>
    obtain ⟨u,hu,h⟩:=pB le h
    obtain ⟨v,hv,h⟩:=pB le h
    obtain ⟨w,H₁,hw,h⟩:=ax9 h
    rw [EW,N6] at h
    exact ⟨w,H₁,by simp only [opF]; rw [hu]; dsimp only; rw [hv]; exact hw,h⟩
  | copy sz d x=>
    obtain ⟨u,hu,h⟩:=pB le h
    obtain ⟨v,hv,h⟩:=pB le h
    obtain ⟨w,H₁,hw,h⟩:=ax9 h
    exact ⟨w,H₁,by simp only [opF]; rw [hu]; dsimp only; rw [hv]; exact hw,h⟩
  | clear z x=>
    obtain ⟨u,hu,h⟩:=pB le h
    obtain ⟨w,H₁,hw,h⟩:=ax9 h
    have hw':w = .undef:=by
      have h1:=hw
      unfold aod at h1
      split at h1
      · cases h1; rfl
      · cases h1; rfl
      · cases h1; rfl
      · split at h1
        · cases h1; rfl
        · obtain ⟨_,l,g,_,h2⟩:=ahW h1
          obtain ⟨_,h3⟩:=y7 h2
          rw [Fr,ad.gT] at h3
          cases h3; rfl
      · cases h1
    subst hw'
    exact ⟨_,H₁,by simp only [opF]; rw [hu]; exact hw,h⟩
end
end Go.Ai
