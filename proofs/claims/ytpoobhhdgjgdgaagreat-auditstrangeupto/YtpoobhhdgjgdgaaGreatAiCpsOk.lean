/- What the continuation style computes, the interpreter's runs compute. -/
import Derived.Test.YtpoobhhdgjgdgaaGreatAiCps
set_option linter.all false
namespace Go.Ai
theorem mS (m:Nat) (c:Nat→aa):nV m c=c m:=by cases m<;>rfl
theorem pU (n:Int) (c:Int→aa):A9 n c=c n:=by
  cases n with
  | ofNat m=>exact mS m fun m=>c (.ofNat m)
  | negSucc m=>exact mS m fun m=>c (.negSucc m)
theorem apK (b:Bool) (t e:aa):ifB b t e=if b=true then t else e:=by cases b<;>rfl
theorem anP (q:IntKind):ikTop q=IntKind.top q:=by cases q<;>rfl
theorem wrap_neg (q:IntKind) (m:Nat) (hs:aoc q=true) (h:m<IntKind.top q):q.wrap (Int.negSucc m)=Int.negSucc m:=by
  rw [Int.negSucc_eq]
  cases q<;>simp only [IntKind.top] at h<;>first | exact absurd hs (by decide) | (simp only [IntKind.wrap,IntKind.signed,IntKind.bits]; simp; omega)
theorem alW (b:Bool):jK b = !b:=by cases b<;>rfl
theorem Z0 (a b:Bool):andB a b=(a&&b):=by cases a<;>rfl
theorem ali (a b:Bool):eqBB a b=(a==b):=by cases a<;>cases b<;>rfl
theorem amN (a b:Bool):xorB a b=(b ^^ a):=by cases a<;>cases b<;>rfl
theorem ahI (q:IntKind) (m:Nat) (c:Int→aa):an5 q m c=c (q.wrap (.ofNat m)):=by
  unfold an5
  rw [mS,apK]
  split
  · rename_i h
    rw [anP] at h
    rw [anW q m (by simp [Nat.blt] at h; omega)]
  · exact pU _ _
theorem wrapM_eq (q:IntKind) (m:Nat) (c:Int→aa):wrapM q m c=c (q.wrap (.negSucc m)):=by
  unfold wrapM
  rw [mS,apK]
  split
  · rename_i h
    rw [anP,Z0,fV] at h
    obtain ⟨h1,h2⟩:=h
    rw [wrap_neg q m h1 (by simp [Nat.blt] at h2; omega)]
  · exact pU _ _
theorem zG (q:IntKind) (n:Int) (c:Int→aa):uq q n c=c (q.wrap n):=by
  cases n with
  | ofNat m=>exact ahI q m c
  | negSucc m=>exact wrapM_eq q m c
theorem agN (q:IntKind) (a b:Int) (c:Int→aa):la q a b c=c (q.wrap (a+b)):=by
  have g:uq q (Cw a b) c=c (q.wrap (a+b)):=by rw [zG,agL]
  cases a with
  | negSucc x=>exact g
  | ofNat x=>cases b with
    | negSucc y=>exact g
    | ofNat y=>exact ahI q _ c
theorem agK (q:IntKind) (a b:Int) (c:Int→aa):PU q a b c=c (q.wrap (a-b)):=by unfold PU; rw [zG,agD]
theorem amV (q:IntKind) (a b:Int) (c:Int→aa):A7 q a b c=c (q.wrap (a*b)):=by
  have g:uq q (mulF a b) c=c (q.wrap (a*b)):=by rw [zG,agE]
  cases a with
  | negSucc x=>exact g
  | ofNat x=>cases b with
    | negSucc y=>exact g
    | ofNat y=>exact ahI q _ c
theorem amG {q q':IntKind} (h:NM q q'=true):q=q':=by
  have:=gb h
  cases q<;>cases q'<;>first | rfl | (simp [ikN] at this)
theorem aaK:∀ (p:P) (t:Tr Blk) (k:Blk→aa),getB p t k=oC (t.get p) k
  | .h,.leaf,_=>rfl
  | .h,.node _ _ _,_=>rfl
  | .o p,.leaf,_=>rfl
  | .o p,.node l v r,k=>aaK p l k
  | .i p,.leaf,_=>rfl
  | .i p,.node l v r,k=>aaK p r k
theorem WZ:∀ (p:P) (x:Blk) (t:Tr Blk) (k:Tr Blk→aa),setB p x t k=k (t.set p x)
  | .h,_,.leaf,_=>rfl
  | .h,_,.node _ _ _,_=>rfl
  | .o p,x,.leaf,k=>by rw [Tr.set_o]; exact WZ p x .leaf fun l=>k (.node l none .leaf)
  | .o p,x,.node l v r,k=>by rw [Tr.set_o]; exact WZ p x l fun l=>k (.node l v r)
  | .i p,x,.leaf,k=>by rw [Tr.set_i]; exact WZ p x .leaf fun r=>k (.node .leaf none r)
  | .i p,x,.node l v r,k=>by rw [Tr.set_i]; exact WZ p x r fun r=>k (.node l v r)
theorem FV (H:Heap) (x:Blk) (c:Nat→Heap→aa):lG H x c=c H.nx (H.add x):=by
  rw [← Heap.fx H x c]
  obtain ⟨t,nx,ro⟩:=H
  show setB (key nx) x t (fun t=>nV (Nat.succ nx) fun nx'=>c nx ⟨t,nx',ro⟩)=Tr.setK (key nx) x t fun t'=>c nx ⟨t',Nat.succ nx,ro⟩
  rw [WZ,mS,Tr.fu]
theorem Qh (H:Heap) (b:Nat) (x:Blk) (c:Heap→aa):setX H b x c=c (H.set b x):=by
  rw [← Heap.fu H b x c]
  obtain ⟨t,nx,ro⟩:=H
  show setB (key b) x t (fun t=>c ⟨t,nx,ro⟩)=Tr.setK (key b) x t fun t'=>c ⟨t',nx,ro⟩
  rw [WZ,Tr.fu]
theorem Bn (v:AV) (c:AV→aa):apF v c=c v:=by
  cases v with
  | slice b o l e p=>
    show nV b (fun b=>nV o fun o=>nV l fun l=>nV e fun e=>ifB p (c (.slice b o l e true)) (c (.slice b o l e false)))=_
    simp only [mS]
    cases p<;>rfl
  | _=>rfl
theorem It (H:Heap) (c:Heap→aa):forceH H c=c H:=by
  obtain ⟨t,nx,ro⟩:=H
  exact mS nx fun nx=>c ⟨t,nx,ro⟩
theorem agB:∀ (l:List AV) (i:Nat) (k:AV→aa),nthX l i k=oC l[i]? k
  | [],_,_=>rfl
  | _::_,0,_=>rfl
  | _::t,i+1,k=>agB t i k
theorem aaA (x:AV):∀ (l:List AV) (i:Nat) (k:List AV→aa),aib x l i k=if i<l.length then k (l.set i x) else .err
  | [],_,_=>rfl
  | _::_,0,_=>rfl
  | a::t,i+1,k=>by
    show aib x t i (fun t=>k (a::t))=_
    rw [aaA x t i]
    simp
theorem ag0:∀ (cs l:List AV) (k:List AV→aa),ak0 cs l k=if cs.length≤l.length then k (cs++l.drop cs.length) else .err
  | [],_,_=>rfl
  | _::_,[],_=>rfl
  | c::cs,a::t,k=>by
    show ak0 cs t (fun t=>k (c::t))=_
    rw [ag0 cs t]
    simp
theorem ac5 {x:AV}:∀ (cs l:List AV) (n:Nat),Bb cs (x::l) (n+1)=x::Bb cs l n
  | [],_,_=>rfl
  | c::cs,l,n=>by show Bb cs ((x::l).set (n+1) c) (n+1+1)=_; rw [List.set_cons_succ,ac5 cs]; rfl
theorem WY:∀ (cs l:List AV),cs.length≤l.length→Bb cs l 0=cs++l.drop cs.length
  | [],_,_=>rfl
  | _::_,[],h=>by simp at h
  | c::cs,a::t,h=>by
    show Bb cs (c::t) (0+1)=_
    rw [ac5,WY cs t (by simpa using h)]; rfl
theorem abx (cs:List AV):∀ (l:List AV) (i:Nat) (k:List AV→aa),alb cs l i k=if i+cs.length≤l.length then k (Bb cs l i) else .err
  | [],0,k=>by
    show ak0 cs [] k=_
    rw [ag0,Nat.zero_add]
    split
    · rename_i h; rw [WY cs [] h]
    · rfl
  | [],i+1,k=>by rw [if_neg (by rw [List.length_nil]; omega)]; rfl
  | a::t,0,k=>by
    show ak0 cs (a::t) k=_
    rw [ag0,Nat.zero_add]
    split
    · rename_i h; rw [WY cs _ h]
    · rfl
  | a::t,i+1,k=>by
    show alb cs t i (fun t=>k (a::t))=_
    rw [abx cs t i]
    by_cases h:i+cs.length≤t.length
    · rw [if_pos h,if_pos (by simp; omega),ac5]
    · rw [if_neg h,if_neg (by simp; omega)]
section
variable {r:AV} {H':Heap}
theorem ru {α:Type} {x:Option α} {k:α→aa} (h:oC x k = .ret r H'):∃ a,x=some a∧k a = .ret r H':=by
  cases x with
  | none=>cases h
  | some a=>exact ⟨a,rfl,h⟩
theorem I2 {α:Type} {x:Option α} {k:α→aa} (h:(Option.casesOn x .err k:aa) = .ret r H'):∃ a,x=some a∧k a = .ret r H':=by
  cases x with
  | none=>cases h
  | some a=>exact ⟨a,rfl,h⟩
theorem bcaseR {b:Bool} {k:aa} (h:(Bool.casesOn b .err k:aa) = .ret r H'):b=true∧k = .ret r H':=by
  cases b with
  | false=>cases h
  | true=>exact ⟨rfl,h⟩
theorem Ar {b:Bool} {k:aa} (h:ifB b k .err = .ret r H'):b=true∧k = .ret r H':=by
  cases b with
  | false=>cases h
  | true=>exact ⟨rfl,h⟩
theorem abO {b:Bool} {k:aa} (h:ifB b .err k = .ret r H'):b=false∧k = .ret r H':=by
  cases b with
  | true=>cases h
  | false=>exact ⟨rfl,h⟩
theorem agP {c:Prop} [Decidable c] {k:aa} (h:(if c then k else .err) = .ret r H'):c∧k = .ret r H':=by
  split at h
  · exact ⟨by assumption,h⟩
  · cases h
theorem natR {a:Int} {k:Nat→aa} (h:ahY a k = .ret r H'):∃ n:Nat,a=(n:Int)∧k n = .ret r H':=by
  cases a with
  | ofNat n=>exact ⟨n,rfl,h⟩
  | negSucc n=>cases h
theorem Nf {β:Type} (n:Nat) (e:β) (k:Nat→β):LG (n:Int) e k=k n:=rfl
theorem F9 {v:AV} {k:IntKind→Int→aa} (h:intD v k = .ret r H'):∃ q n,v = .int q n∧k q n = .ret r H':=by
  cases v<;>first | exact ⟨_,_,rfl,h⟩ | cases h
theorem MT {v:AV} {k:Bool→aa} (h:akO v k = .ret r H'):∃ b,v = .bool b∧k b = .ret r H':=by
  cases v<;>first | exact ⟨_,rfl,h⟩ | cases h
theorem ag2 {v:AV} {k:List UInt8→aa} (h:strD v k = .ret r H'):∃ s,v = .str s∧k s = .ret r H':=by
  cases v<;>first | exact ⟨_,rfl,h⟩ | cases h
theorem extD_inv {ix:Nat} {v:AV} {k:AV→aa} (h:extD ix v k = .ret r H'):∃ vs u,v = .tuple vs∧nth vs ix=some u∧k u = .ret r H':=by
  cases v with
  | tuple vs=>
    have h':oC (nth vs ix) k = .ret r H':=h
    obtain ⟨u,h1,h2⟩:=ru h'
    exact ⟨vs,u,rfl,h1,h2⟩
  | _=>cases h
theorem aoE {q:IntKind} {v:AV} {k:Int→aa} (h:D9 q v k = .ret r H'):∃ n,v = .int q n∧k n = .ret r H':=by
  cases v with
  | int q' n=>
    have h':ifB (NM q q') (k n) .err = .ret r H':=h
    obtain ⟨h1,h2⟩:=Ar h'
    rw [amG h1]; exact ⟨_,rfl,h2⟩
  | _=>cases h
theorem alf {v:AV} {k:Bool→aa} (h:JN v k = .ret r H'):∃ b,v = .bool b∧k b = .ret r H':=by
  cases v<;>first | exact ⟨_,rfl,h⟩ | cases h
theorem an4 {v:AV} {k:List UInt8→aa} (h:vStr v k = .ret r H'):∃ s,v = .str s∧k s = .ret r H':=by
  cases v<;>first | exact ⟨_,rfl,h⟩ | cases h
theorem W7 {v:AV} {k:Nat→Nat→aa} (h:akI v k = .ret r H'):∃ b o,v = .ptr b o∧k b o = .ret r H':=by
  cases v<;>first | exact ⟨_,_,rfl,h⟩ | cases h
theorem aqF {v:AV} {k:Nat→Nat→Nat→aa} (h:asSlc v k = .ret r H'):∃ b o l e p,v = .slice b o l e p∧k b o l = .ret r H':=by
  cases v<;>first | exact ⟨_,_,_,_,_,rfl,h⟩ | cases h
theorem aqp {v:AV} {k:Nat→aa} (h:asMap v k = .ret r H'):∃ b,v = .map b∧k b = .ret r H':=by
  cases v<;>first | exact ⟨_,rfl,h⟩ | cases h
theorem aqY {v:AV} {k:List AV→aa} (h:asAgg v k = .ret r H'):∃ l,v = .agg l∧k l = .ret r H':=by
  cases v<;>first | exact ⟨_,rfl,h⟩ | cases h
theorem anL {v:AV} {k:aa} (h:P2 v k = .ret r H'):((∃ b o,v = .ptr b o)∨(∃ f a c,v = .func f a c))∧k = .ret r H':=by
  cases v<;>first | exact ⟨.inl ⟨_,_,rfl⟩,h⟩ | exact ⟨.inr ⟨_,_,_,rfl⟩,h⟩ | cases h
theorem getH {H:Heap} {b:Nat} {k:Blk→aa} (h:getB (key b) H.t k = .ret r H'):∃ x,H.get b=some x∧k x = .ret r H':=by
  rw [aaK] at h
  exact ru h
theorem ao8 {H:Heap} {b:Nat} {k:List AV→aa} (h:GO H b k = .ret r H'):∃ l,sm H b=some l∧k l = .ret r H':=by
  obtain ⟨x,hx,h⟩:=getH h
  cases x with
  | cells l rw_ g=>exact ⟨l,by unfold sm; rw [hx],h⟩
  | mp es=>cases h
  | dead=>cases h
theorem ownX_inv {H:Heap} {b:Nat} {k:List AV→Nat→aa} (h:ownX H b k = .ret r H'):∃ l g,k l g = .ret r H'∧∀ {β:Type} (e:β) (k':List AV→Nat→β),afi H b e k'=k' l g:=by
  obtain ⟨hb,h⟩:=abO h
  obtain ⟨x,hx,h⟩:=getH h
  cases x with
  | cells l rw_ g=>
    have h':ifB rw_ (k l g) .err = .ret r H':=h
    obtain ⟨h2,h3⟩:=Ar h'
    refine ⟨l,g,h3,fun e k'=>?_⟩
    unfold afi
    rw [hb,hx,h2]
  | mp es=>cases h
  | dead=>cases h
theorem acB {v:AV} {f:List AV→aa} {c:aa} (h:akQ v f c = .ret r H'):(∃ l,v = .agg l∧f l = .ret r H')∨((v matches .tuple _)=false∧v.cells = [v]∧Pn v=true∧c = .ret r H'):=by
  cases v<;>first | exact .inl ⟨_,rfl,h⟩ | exact .inr ⟨rfl,rfl,rfl,h⟩ | cases h
def eE (tm tm':Tr AV):Prop:=∀ p v,tm.get p=some v→tm'.get p=some v
theorem eE.refl {tm:Tr AV}:eE tm tm:=fun _ _ h=>h
theorem eE.set {tm tm':Tr AV} (h:eE tm tm') (p:P) (v:AV):eE (tm.set p v) (tm'.set p v):=by
  intro q u hu
  by_cases e:p=q
  · subst e; rw [Tr.ft] at hu ⊢; exact hu
  · rw [Tr.fq e] at hu ⊢; exact h _ _ hu
theorem eE.known {tm tm':Tr AV} (h:eE tm tm') {p:P} {v:AV} (hv:tm.get p=some v):eE (tm.set p v) tm':=by
  intro q u hu
  by_cases e:p=q
  · subst e; rw [Tr.ft] at hu; rw [← hu]; exact h _ _ hv
  · rw [Tr.fq e] at hu; exact h _ _ hu
theorem eE.putO {tm tm':Tr AV} (h:eE tm tm') (d:Option P) (v:AV):eE (tm.putO d v) (tm'.putO d v):=by
  cases d with
  | none=>exact h
  | some p=>exact h.set p v
variable {tm tm₀:Tr AV}
theorem kw (le:eE tm tm₀) {x:Opd} {k:AV→aa} (h:evK tm x k = .ret r H'):∃ v,ev tm₀ x=some v∧k v = .ret r H':=by
  cases x with
  | t p=>obtain ⟨v,h1,h2⟩:=I2 (x:=tm.get p) h; exact ⟨v,le _ _ h1,h2⟩
  | c v=>exact ⟨v,rfl,h⟩
theorem Wc (le:eE tm tm₀):∀ {xs:List Opd} {k:List AV→aa},evsK tm xs k = .ret r H'→∃ vs,evs tm₀ xs=some vs∧k vs = .ret r H'
  | [],k,h=>⟨[],rfl,h⟩
  | x::xs,k,h=>by
    obtain ⟨v,h1,h2⟩:=kw le (x:=x) h
    obtain ⟨vs,h3,h4⟩:=Wc le (xs:=xs) h2
    refine ⟨v::vs,?_,h4⟩
    show (Option.casesOn (ev tm₀ x) none fun v=>Option.casesOn (evs tm₀ xs) none fun vs=>some (v::vs):Option (List AV))=_
    rw [h1,h3]
def aiL (tm:Tr AV) (x:Option Opd) (o:Option AV):Prop:=(x=none∧o=none)∨∃ y v,x=some y∧o=some v∧ev tm y=some v
theorem ahm (le:eE tm tm₀) {x:Option Opd} {k:Option AV→aa} (h:evOK tm x k = .ret r H'):∃ o,aiL tm₀ x o∧k o = .ret r H':=by
  cases x with
  | none=>exact ⟨none,.inl ⟨rfl,rfl⟩,h⟩
  | some y=>obtain ⟨v,h1,h2⟩:=kw le (x:=y) h; exact ⟨some v,.inr ⟨y,v,rfl,rfl,h1⟩,h2⟩
noncomputable def ah0 (parts:List (Nat × Nat × AV)):List AV→Option (List AV):=
  List.rec (motive:=fun _=>List AV→Option (List AV)) (fun z=>some z)
    (fun p _ ih z=>
      match sZ p.2.2.cells==p.2.1&&Nat.ble (p.1+p.2.1) (sZ z)&&!(p.2.2 matches .tuple _) with
      | true=>Ui p.2.2.cells z p.1 ih
      | false=>none) parts
theorem ajl (le:eE tm tm₀):∀ {xs:List (Nat × Nat × Opd)} {k:List (Nat × Nat × AV)→aa},evPK tm xs k = .ret r H'→∃ ps,KT tm₀ xs=ah0 ps∧k ps = .ret r H'
  | [],k,h=>⟨[],rfl,h⟩
  | (a,b,x)::xs,k,h=>by
    obtain ⟨v,h1,h2⟩:=kw le (x:=x) h
    obtain ⟨ps,h3,h4⟩:=ajl le (xs:=xs) h2
    refine ⟨(a,b,v)::ps,?_,h4⟩
    funext z
    simp only [KT,ah0] at h3 ⊢
    rw [h1]
    dsimp only
    rw [h3]
    rfl
theorem aiD {a b:Nat} {v:AV} {ps:List (Nat × Nat × AV)} {z:List AV} (e1:sZ v.cells=b) (e2:a+b≤z.length) (e3:∀ l,v≠.tuple l):ah0 ((a,b,v)::ps) z=ah0 ps (Bb v.cells z a):=by
  subst e1
  have hc:Nat.ble (a+sZ v.cells) (sZ z)=true:=by rw [rm z]; exact fG e2
  rw [← vC v.cells z a (ah0 ps)]
  simp only [ah0]
  cases v<;>first | exact (e3 _ rfl).elim | (rw [hc]; simp only [BEq.rfl,Bool.not_false,Bool.and_self])
theorem Xf:∀ {ps:List (Nat × Nat × AV)} {z:List AV} {k:List AV→aa},aiM ps z k = .ret r H'→∃ l,ah0 ps z=some l∧k l = .ret r H'
  | [],z,k,h=>⟨z,rfl,h⟩
  | (a,b,v)::ps,z,k,h=>by
    have h0:akQ v (fun l=>ifB (Nat.beq (sZ l) b) (alb l z a fun z=>aiM ps z k) .err) (ifB (Nat.beq 1 b) (aib v z a fun z=>aiM ps z k) .err) = .ret r H':=h
    rcases acB h0 with ⟨l,rfl,h⟩ | ⟨h1,h2,h3,h⟩
    · obtain ⟨hb,h⟩:=Ar h
      rw [abx] at h
      obtain ⟨hl,h⟩:=agP h
      have hb':=gb hb
      obtain ⟨l',h4,h5⟩:=Xf h
      exact ⟨l',by rw [aiD (show sZ (AV.agg l).cells=b from hb') (by have:sZ l=b:=hb'; rw [← this,rm]; exact hl) (fun _=>by simp)]; exact h4,h5⟩
    · obtain ⟨hb,h⟩:=Ar h
      rw [aaA] at h
      obtain ⟨hl,h⟩:=agP h
      have hb':=gb hb
      obtain ⟨l',h4,h5⟩:=Xf h
      exact ⟨l',by rw [aiD (by rw [h2]; exact hb') (by omega) (fun l e=>by subst e; cases h3),h2]; exact h4,h5⟩
theorem amX {x:Option Opd} {o:Option AV} (h:aiL tm x o) (d m:Nat):bnd tm x d m=Xh o d m:=by
  rcases h with ⟨rfl,rfl⟩ | ⟨y,v,rfl,rfl,h⟩
  · rfl
  · simp only [bnd,Xh]; rw [h]; rfl
theorem slF_slV {k:SlK} {u:AV} {lo hi mx:Option Opd} {lo' hi' mx':Option AV} (h1:aiL tm lo lo') (h2:aiL tm hi hi') (h3:aiL tm mx mx'):slF tm k u lo hi mx=slV k u lo' hi' mx':=by
  unfold slF slV
  simp only [amX h1,amX h2,amX h3]
  rcases h2 with ⟨rfl,rfl⟩ | ⟨_,_,rfl,rfl,_⟩<;>rcases h3 with ⟨rfl,rfl⟩ | ⟨_,_,rfl,rfl,_⟩<;>rfl
theorem aqt {op:BinOp} {q q':IntKind} {a b:Int} {k:AV→aa} (h:binID op q q' a b k = .ret r H'):∃ v,binF op (.int q a) (.int q' b)=some v∧k v = .ret r H':=by
  have same:∀ {c:aa},(Bool.casesOn (NM q q') .err c:aa) = .ret r H'→q=q'∧c = .ret r H':=fun h=>⟨amG (bcaseR h).1,(bcaseR h).2⟩
  cases op with
  | add=>
    obtain ⟨rfl,h1⟩:=same h
    replace h:=h1
    clear h1
    rw [agN] at h
    refine ⟨_,?_,h⟩
    show (if q=q then Sm q (Cw a b) (fun n=>some (AV.int q n)) else none)=_
    rw [if_pos rfl,uA,agL]
  | sub=>
    obtain ⟨rfl,h1⟩:=same h
    replace h:=h1
    clear h1
    rw [agK] at h
    refine ⟨_,?_,h⟩
    show (if q=q then Sm q (subF a b) (fun n=>some (AV.int q n)) else none)=_
    rw [if_pos rfl,uA,agD]
  | mul=>
    obtain ⟨rfl,h1⟩:=same h
    replace h:=h1
    clear h1
    rw [amV] at h
    refine ⟨_,?_,h⟩
    show (if q=q then Sm q (mulF a b) (fun n=>some (AV.int q n)) else none)=_
    rw [if_pos rfl,uA,agE]
  | quo=>
    obtain ⟨rfl,h1⟩:=same h
    replace h:=h1
    clear h1
    have h0:ifB (isZ b) .err (uq q (divF a b) fun n=>k (.int q n)) = .ret r H':=h
    obtain ⟨h1,h2⟩:=abO h0
    rw [zG] at h2
    refine ⟨_,?_,h2⟩
    show (if q=q then (Bool.casesOn (isZ b) (Sm q (divF a b) (fun n=>some (AV.int q n))) none:Option AV) else none)=_
    rw [if_pos rfl,h1]
    exact uA _ _ _
  | rem=>
    obtain ⟨rfl,h1⟩:=same h
    replace h:=h1
    clear h1
    have h0:ifB (isZ b) .err (A9 (modF a b) fun n=>k (.int q n)) = .ret r H':=h
    obtain ⟨h1,h2⟩:=abO h0
    rw [pU] at h2
    refine ⟨_,?_,h2⟩
    show (if q=q then (Bool.casesOn (isZ b) (some (AV.int q (modF a b))) none:Option AV) else none)=_
    rw [if_pos rfl,h1]
  | and=>
    obtain ⟨rfl,h1⟩:=same h
    replace h:=h1
    clear h1
    have h0:(Option.casesOn (F8 .and q a b) .err fun n=>A9 n fun n=>k (.int q n):aa) = .ret r H':=h
    cases hb:F8 .and q a b with
    | none=>rw [hb] at h0; cases h0
    | some n=>
      rw [hb] at h0
      have h2:A9 n (fun n=>k (.int q n)) = .ret r H':=h0
      rw [pU] at h2
      refine ⟨_,?_,h2⟩
      show (if q=q then (Option.casesOn (F8 .and q a b) none (fun n=>some (AV.int q n)):Option AV) else none)=_
      rw [if_pos rfl,hb]
  | or=>
    obtain ⟨rfl,h1⟩:=same h
    replace h:=h1
    clear h1
    have h0:(Option.casesOn (F8 .or q a b) .err fun n=>A9 n fun n=>k (.int q n):aa) = .ret r H':=h
    cases hb:F8 .or q a b with
    | none=>rw [hb] at h0; cases h0
    | some n=>
      rw [hb] at h0
      have h2:A9 n (fun n=>k (.int q n)) = .ret r H':=h0
      rw [pU] at h2
      refine ⟨_,?_,h2⟩
      show (if q=q then (Option.casesOn (F8 .or q a b) none (fun n=>some (AV.int q n)):Option AV) else none)=_
      rw [if_pos rfl,hb]
  | xor=>
    obtain ⟨rfl,h1⟩:=same h
    replace h:=h1
    clear h1
    have h0:(Option.casesOn (F8 .xor q a b) .err fun n=>A9 n fun n=>k (.int q n):aa) = .ret r H':=h
    cases hb:F8 .xor q a b with
    | none=>rw [hb] at h0; cases h0
    | some n=>
      rw [hb] at h0
      have h2:A9 n (fun n=>k (.int q n)) = .ret r H':=h0
      rw [pU] at h2
      refine ⟨_,?_,h2⟩
      show (if q=q then (Option.casesOn (F8 .xor q a b) none (fun n=>some (AV.int q n)):Option AV) else none)=_
      rw [if_pos rfl,hb]
  | andNot=>
    obtain ⟨rfl,h1⟩:=same h
    replace h:=h1
    clear h1
    have h0:(Option.casesOn (F8 .andNot q a b) .err fun n=>A9 n fun n=>k (.int q n):aa) = .ret r H':=h
    cases hb:F8 .andNot q a b with
    | none=>rw [hb] at h0; cases h0
    | some n=>
      rw [hb] at h0
      have h2:A9 n (fun n=>k (.int q n)) = .ret r H':=h0
      rw [pU] at h2
      refine ⟨_,?_,h2⟩
      show (if q=q then (Option.casesOn (F8 .andNot q a b) none (fun n=>some (AV.int q n)):Option AV) else none)=_
      rw [if_pos rfl,hb]
  | shl=>
    obtain ⟨n,rfl,hz⟩:=natR (a:=b) h
    replace h:=hz
    clear hz
    rw [zG] at h
    refine ⟨_,?_,h⟩
    show Sm q (shlF q a n) (fun r=>some (AV.int q r))=_
    exact uA _ _ _
  | shr=>
    obtain ⟨n,rfl,hz⟩:=natR (a:=b) h
    replace h:=hz
    clear hz
    rw [pU] at h
    exact ⟨_,rfl,h⟩
  | eql=>
    obtain ⟨rfl,h1⟩:=same h
    replace h:=h1
    clear h1
    refine ⟨_,?_,h⟩
    show (if q=q then some (AV.bool (eqF a b)) else none)=_
    rw [if_pos rfl]
  | neq=>
    obtain ⟨rfl,h1⟩:=same h
    replace h:=h1
    clear h1
    refine ⟨_,?_,h⟩
    show (if q=q then (Bool.casesOn (eqF a b) (some (AV.bool true)) (some (AV.bool false)):Option AV) else none)=_
    rw [if_pos rfl]; cases eqF a b<;>rfl
  | lss=>
    obtain ⟨rfl,h1⟩:=same h
    replace h:=h1
    clear h1
    refine ⟨_,?_,h⟩
    show (if q=q then some (AV.bool (ltF a b)) else none)=_
    rw [if_pos rfl]
  | leq=>
    obtain ⟨rfl,h1⟩:=same h
    replace h:=h1
    clear h1
    refine ⟨_,?_,h⟩
    show (if q=q then (Bool.casesOn (ltF b a) (some (AV.bool true)) (some (AV.bool false)):Option AV) else none)=_
    rw [if_pos rfl]; cases ltF b a<;>rfl
  | gtr=>
    obtain ⟨rfl,h1⟩:=same h
    replace h:=h1
    clear h1
    refine ⟨_,?_,h⟩
    show (if q=q then some (AV.bool (ltF b a)) else none)=_
    rw [if_pos rfl]
  | geq=>
    obtain ⟨rfl,h1⟩:=same h
    replace h:=h1
    clear h1
    refine ⟨_,?_,h⟩
    show (if q=q then (Bool.casesOn (ltF a b) (some (AV.bool true)) (some (AV.bool false)):Option AV) else none)=_
    rw [if_pos rfl]; cases ltF a b<;>rfl
theorem binD_inv {op:BinOp} {u v:AV} {k:AV→aa} (h:binD op u v k = .ret r H'):∃ w,binF op u v=some w∧k w = .ret r H':=by
  cases u with
  | int q a=>
    obtain ⟨q',b,rfl,hz⟩:=F9 (v:=v) h
    replace h:=hz
    clear hz
    exact aqt h
  | str a=>
    obtain ⟨b,rfl,hz⟩:=ag2 (v:=v) h
    replace h:=hz
    clear hz
    cases op with
    | add=>
      have h0:ifB (Nat.ble (Nat.add (sZ a) (sZ b)) 1099511627776) (ZK a b fun n=>k (.str n)) .err = .ret r H':=h
      obtain ⟨h1,h2⟩:=Ar h0
      rw [th] at h2
      refine ⟨_,?_,h2⟩
      show (Bool.casesOn (Nat.ble (Nat.add (sZ a) (sZ b)) 1099511627776) none (some (AV.str (ZK a b id))):Option AV)=_
      rw [h1,th]; rfl
    | eql=>exact ⟨_,rfl,h⟩
    | neq=>exact ⟨_,by show some (AV.bool (!Ii a b))=some _; rw [← alW],h⟩
    | _=>cases h
  | _=>cases h
theorem ajp {o:Option (AV × Heap)} {c:AV→Heap→aa} (h:outK o c = .ret r H'):∃ v H₁,o=some (v,H₁)∧c v H₁ = .ret r H':=by
  obtain ⟨⟨v,H₁⟩,h1,h2⟩:=ru h
  exact ⟨v,H₁,h1,h2⟩
theorem nilB_eq (k:NilK) (v:AV):nilB k v=isNil k v:=by cases k<;>cases v<;>rfl
theorem an2 {e:EqK} {x y:AV} {c:Bool→aa} (h:eqRK e x y c = .ret r H'):∃ b,eqK e x y=some b∧c b = .ret r H':=by
  cases e with
  | nil k=>
    have h0:oC (nilB k x) (fun a=>oC (nilB k y) fun b=>ifB a (c b) (ifB b (c false) .err)) = .ret r H':=h
    obtain ⟨a,ha,h⟩:=ru h0
    obtain ⟨b,hb,h⟩:=ru h
    rw [nilB_eq] at ha hb
    cases a with
    | true=>exact ⟨b,by simp only [eqK]; rw [ha,hb],h⟩
    | false=>cases b with
      | true=>exact ⟨false,by simp only [eqK]; rw [ha,hb],h⟩
      | false=>cases h
  | bool=>exact ru h
  | plain ks=>exact ru h
theorem alc {H:Heap} {u:AV} {n:Nat} {agg:Bool} {k:AV→aa} (h:jg H u n agg k = .ret r H') :
    ∃ b off l cs v,u = .ptr b off∧sm H b=some l∧sub l off n=some cs∧HE agg cs=some v∧k v = .ret r H':=by
  obtain ⟨b,off,rfl,h2⟩:=W7 h
  obtain ⟨l,hl,h⟩:=ao8 h2
  cases agg with
  | true=>
    obtain ⟨cs,hc,h⟩:=ru (x:=sub l off n) h
    exact ⟨b,off,l,cs,_,rfl,hl,hc,rfl,h⟩
  | false=>
    have h0:ifB (Nat.beq n 1) (nthX l off k) .err = .ret r H':=h
    obtain ⟨hn,h⟩:=Ar h0
    have hn:=gb hn
    subst hn
    rw [agB] at h
    obtain ⟨v,hv,h⟩:=ru h
    have hc:sub l off 1=some [v]:=by
      rw [nP]
      have:off<l.length:=(fZ.1 hv).1
      rw [if_pos (by rw [List.length_drop]; omega),gc this]
      have h2:=(fZ.1 hv).2
      rw [← h2]; rfl
    exact ⟨b,off,l,[v],v,rfl,hl,hc,rfl,h⟩
theorem aq6 (le:eE tm tm₀) {o:AOp} {H:Heap} {k:AV→Heap→aa} (h:opD o tm H k = .ret r H'):∃ v H₁,opF o tm₀ H=some (v,H₁)∧k v H₁ = .ret r H':=by
  cases o with
  | mov x=>
    obtain ⟨v,hv,h⟩:=kw le h
    exact ⟨v,H,by simp only [opF]; rw [hv],h⟩
  | pick c a b=>
    obtain ⟨v,hv,h⟩:=kw le h
    obtain ⟨t,rfl,hz⟩:=MT h
    replace h:=hz
    clear hz
    cases t with
    | true=>
      obtain ⟨u,hu,h⟩:=kw le (x:=a) h
      exact ⟨u,H,by simp only [opF]; rw [hv]; dsimp only; rw [hu],h⟩
    | false=>
      obtain ⟨u,hu,h⟩:=kw le (x:=b) h
      exact ⟨u,H,by simp only [opF]; rw [hv]; dsimp only; rw [hu],h⟩
  | not x=>
    obtain ⟨v,hv,h⟩:=kw le h
    obtain ⟨t,rfl,hz⟩:=MT h
    replace h:=hz
    clear hz
    refine ⟨_,H,?_,h⟩
    simp only [opF]; rw [hv]; cases t<;>rfl
  | bin op x y=>
    obtain ⟨u,hu,h⟩:=kw le h
    obtain ⟨v,hv,h⟩:=kw le h
    obtain ⟨w,hw,h⟩:=binD_inv h
    exact ⟨w,H,by simp only [opF]; rw [hu]; dsimp only; rw [hv]; dsimp only; rw [hw],h⟩
  | eq e neg x y=>
    obtain ⟨u,hu,h⟩:=kw le h
    obtain ⟨v,hv,h⟩:=kw le h
    have fin:∀ b,eqK e u v=some b→k (.bool (xorB neg b)) H = .ret r H'→∃ v H₁,opF (.eq e neg x y) tm₀ H=some (v,H₁)∧k v H₁ = .ret r H':=by
      intro b hb hk
      refine ⟨_,H,?_,hk⟩
      simp only [opF]; rw [hu]; dsimp only; rw [hv]; dsimp only; rw [hb]; dsimp only; rw [amN]
    cases e with
    | nil n=>
      have h0:eqRK (.nil n) u v (fun r=>k (.bool (xorB neg r)) H) = .ret r H':=h
      obtain ⟨b,hb,h⟩:=an2 h0
      exact fin b hb h
    | bool=>
      obtain ⟨a,rfl,hz⟩:=MT (v:=u) h
      replace h:=hz
      clear hz
      obtain ⟨b,rfl,hz⟩:=MT (v:=v) h
      replace h:=hz
      clear hz
      exact fin (eqBB a b) (by rw [ali]; rfl) h
    | plain ks=>
      have h0:eqRK (.plain ks) u v (fun r=>k (.bool (xorB neg r)) H) = .ret r H':=h
      obtain ⟨b,hb,h⟩:=an2 h0
      exact fin b hb h
  | conv q x=>
    obtain ⟨u,hu,h⟩:=kw le h
    obtain ⟨_,n,rfl,hz⟩:=F9 h
    replace h:=hz
    clear hz
    rw [zG] at h
    refine ⟨_,H,?_,h⟩
    simp only [opF]; rw [hu]; exact uA _ _ _
  | alloc z=>
    have h':lG H (.cells z true 0) (fun b H'=>k (.ptr b 0) H') = .ret r H':=h
    rw [FV] at h'
    exact ⟨_,_,by simp only [opF]; rw [Heap.fx],h'⟩
  | box x=>
    obtain ⟨u,hu,h⟩:=kw le h
    rcases acB h with ⟨l,rfl,h5⟩ | ⟨h1,h2,h3,h⟩
    · replace h:=h5
      rw [FV] at h
      exact ⟨_,_,by simp only [opF]; rw [hu]; dsimp only [Pn]; rw [Heap.fx]; rfl,h⟩
    · rw [FV] at h
      exact ⟨_,_,by simp only [opF]; rw [hu]; dsimp only; rw [h3,h2]; dsimp only; rw [Heap.fx],h⟩
  | build z parts=>
    obtain ⟨ps,hp,h⟩:=ajl le h
    obtain ⟨l,hl,h⟩:=Xf h
    exact ⟨_,H,by simp only [opF]; rw [hp,hl],h⟩
  | buildSlice len z parts=>
    obtain ⟨ps,hp,h⟩:=ajl le h
    obtain ⟨l,hl,h⟩:=Xf h
    rw [FV] at h
    exact ⟨_,_,by simp only [opF]; rw [hp,hl]; dsimp only; rw [Heap.fx],h⟩
  | load n agg x=>
    obtain ⟨u,hu,h⟩:=kw le h
    obtain ⟨b,off,l,cs,v,rfl,hl,hc,hp,h⟩:=alc h
    exact ⟨v,H,by simp only [opF]; rw [hu]; dsimp only; rw [hl]; dsimp only; rw [hc]; dsimp only; rw [hp],h⟩
  | store n a x=>
    obtain ⟨a',ha,h⟩:=kw le h
    obtain ⟨u,hu,h⟩:=kw le h
    obtain ⟨b,off,rfl,h⟩:=W7 h
    obtain ⟨l,g,h,ho⟩:=ownX_inv h
    have fin:Pn u=true→sZ u.cells=n→off+n≤l.length→k .undef (H.set b (.cells (Bb u.cells l off) true g)) = .ret r H'→∃ v H₁,opF (.store n a x) tm₀ H=some (v,H₁)∧k v H₁ = .ret r H':=by
      intro e1 e2 e3 e4
      refine ⟨_,_,?_,e4⟩
      simp only [opF]; rw [ha]; dsimp only; rw [hu]; dsimp only; rw [ho]
      have h2:(Pn u&&sZ u.cells==n&&Nat.ble (off+n) (sZ l))=true:=by
        rw [e1,e2,rm l]; simp [e3]
      rw [h2]; dsimp only; rw [vC,Heap.fu]
    rcases acB h with ⟨cs,rfl,h5⟩ | ⟨h1,h2,h3,h⟩
    · obtain ⟨hn,h⟩:=Ar h5
      have hn:=gb hn
      rw [abx] at h
      obtain ⟨hl,h⟩:=agP h
      rw [Qh] at h
      exact fin rfl hn (by rw [← hn,rm]; exact hl) h
    · obtain ⟨hn,h⟩:=Ar h
      have hn:=gb hn
      rw [aaA] at h
      obtain ⟨hl,h⟩:=agP h
      rw [Qh] at h
      refine fin h3 (by rw [h2]; exact hn) (by omega) ?_
      rw [h2]; exact h
  | nilchk x=>
    obtain ⟨u,hu,h⟩:=kw le h
    obtain ⟨h1,h⟩:=anL h
    refine ⟨u,H,?_,h⟩
    simp only [opF]; rw [hu]
    rcases h1 with ⟨b,o,rfl⟩ | ⟨f,a,c,rfl⟩<;>rfl
  | fa d x=>
    obtain ⟨u,hu,h⟩:=kw le h
    obtain ⟨b,off,rfl,hz⟩:=W7 h
    replace h:=hz
    clear hz
    rw [mS] at h
    exact ⟨_,H,by simp only [opF]; rw [hu]; rfl,h⟩
  | iaS sz x i=>
    obtain ⟨u,hu,h⟩:=kw le h
    obtain ⟨v,hv,h⟩:=kw le h
    obtain ⟨_,i,rfl,hz⟩:=F9 h
    replace h:=hz
    clear hz
    obtain ⟨b,off,l,e,p,rfl,hz⟩:=aqF h
    replace h:=hz
    clear hz
    obtain ⟨j,rfl,hz⟩:=natR h
    replace h:=hz
    clear hz
    obtain ⟨h1,h⟩:=Ar h
    rw [mS] at h
    exact ⟨_,H,by simp only [opF]; rw [hu]; dsimp only; rw [hv]; dsimp only; rw [Nf,h1]; rfl,h⟩
  | iaA sz len x i=>
    obtain ⟨u,hu,h⟩:=kw le h
    obtain ⟨v,hv,h⟩:=kw le h
    obtain ⟨_,i,rfl,hz⟩:=F9 h
    replace h:=hz
    clear hz
    obtain ⟨b,off,rfl,hz⟩:=W7 h
    replace h:=hz
    clear hz
    obtain ⟨j,rfl,hz⟩:=natR h
    replace h:=hz
    clear hz
    obtain ⟨h1,h⟩:=Ar h
    rw [mS] at h
    exact ⟨_,H,by simp only [opF]; rw [hu]; dsimp only; rw [hv]; dsimp only; rw [Nf,h1]; rfl,h⟩
  | idxA sz len agg x i=>
    obtain ⟨u,hu,h⟩:=kw le h
    obtain ⟨v,hv,h⟩:=kw le h
    obtain ⟨_,i,rfl,hz⟩:=F9 h
    replace h:=hz
    clear hz
    obtain ⟨cs,rfl,hz⟩:=aqY h
    replace h:=hz
    clear hz
    obtain ⟨j,rfl,hz⟩:=natR h
    replace h:=hz
    clear hz
    obtain ⟨h1,h⟩:=Ar h
    rw [mS] at h
    obtain ⟨l,hl,h⟩:=ru h
    obtain ⟨w,hw,h⟩:=ru h
    have hl':sub cs (j*sz) sz=some l:=hl
    exact ⟨w,H,by simp only [opF]; rw [hu]; dsimp only; rw [hv]; dsimp only; rw [Nf,h1]; dsimp only; rw [hl']; dsimp only; rw [hw],h⟩
  | idxS x i=>
    obtain ⟨u,hu,h⟩:=kw le h
    obtain ⟨v,hv,h⟩:=kw le h
    obtain ⟨s,rfl,hz⟩:=ag2 h
    replace h:=hz
    clear hz
    obtain ⟨_,i,rfl,hz⟩:=F9 h
    replace h:=hz
    clear hz
    obtain ⟨j,rfl,hz⟩:=natR h
    replace h:=hz
    clear hz
    obtain ⟨c,hc,h⟩:=ru h
    rw [mS] at h
    exact ⟨_,H,by simp only [opF]; rw [hu]; dsimp only; rw [hv]; dsimp only; rw [Nf,hc]; rfl,h⟩
  | sl sk x lo hi mx=>
    obtain ⟨u,hu,h⟩:=kw le h
    obtain ⟨lo',h1,h⟩:=ahm le h
    obtain ⟨hi',h2,h⟩:=ahm le h
    obtain ⟨mx',h3,h⟩:=ahm le h
    obtain ⟨v,hv,h⟩:=ru h
    rw [Bn] at h
    exact ⟨v,H,by simp only [opF]; rw [hu]; dsimp only; rw [slF_slV h1 h2 h3,hv],h⟩
  | ext ix x=>
    obtain ⟨u,hu,h⟩:=kw le h
    obtain ⟨vs,v,rfl,hv,hz⟩:=extD_inv h
    replace h:=hz
    clear hz
    exact ⟨v,H,by simp only [opF]; rw [hu]; dsimp only; rw [hv],h⟩
  | mkfunc f a c=>
    obtain ⟨va,ha,h⟩:=Wc le h
    obtain ⟨cs,hc,h⟩:=Wc le h
    exact ⟨_,H,by simp only [opF]; rw [ha]; dsimp only; rw [hc],h⟩
  | mkmap=>
    have h':lG H (.mp []) (fun b H'=>k (.map b) H') = .ret r H':=h
    rw [FV] at h'
    exact ⟨_,_,by simp only [opF]; rw [Heap.fx],h'⟩
  | mk z len cap=>
    obtain ⟨u,hu,h⟩:=kw le h
    obtain ⟨v,hv,h⟩:=kw le h
    obtain ⟨_,l,rfl,hz⟩:=F9 h
    replace h:=hz
    clear hz
    obtain ⟨_,c,rfl,hz⟩:=F9 h
    replace h:=hz
    clear hz
    obtain ⟨l,rfl,hz⟩:=natR h
    replace h:=hz
    clear hz
    obtain ⟨c,rfl,hz⟩:=natR h
    replace h:=hz
    clear hz
    obtain ⟨h1,h⟩:=Ar h
    rw [FV,mS] at h
    rw [Z0] at h1
    exact ⟨_,_,by simp only [opF]; rw [hu]; dsimp only; rw [hv]; dsimp only; rw [Nf,Nf,h1]; dsimp only; rw [Heap.fx]; rfl,h⟩
  | lookup kk z ok m key=>
    obtain ⟨u,hu,h⟩:=kw le h
    obtain ⟨v,hv,h⟩:=kw le h
    obtain ⟨es,hes,h⟩:=ru h
    obtain ⟨e1,he,h⟩:=ru h
    obtain ⟨w,hw,h⟩:=ru h
    have pre:∀ {β:AV × Heap},(Option.casesOn w (some (if ok then .tuple [z,.bool false] else z,H)) fun x=>some (if ok then .tuple [x,.bool true] else x,H):Option (AV × Heap))=some β→opF (.lookup kk z ok m key) tm₀ H=some β:=by
      intro β hβ
      simp only [opF]; rw [hu]; dsimp only; rw [hv]
      cases u with
      | map b=>
        have hes':Jg H b=some es:=hes
        dsimp only; rw [hes']; dsimp only; rw [he]; dsimp only; rw [hw]; exact hβ
      | nilmap=>
        have hes':some []=some es:=hes
        cases hes'
        dsimp only; rw [he]; dsimp only; rw [hw]; exact hβ
      | _=>cases hes
    cases w with
    | none=>cases ok<;>exact ⟨_,H,pre rfl,h⟩
    | some x=>cases ok<;>exact ⟨_,H,pre rfl,h⟩
  | mapset kk m key x=>
    obtain ⟨u,hu,h⟩:=kw le h
    obtain ⟨v,hv,h⟩:=kw le h
    obtain ⟨y,hy,h⟩:=kw le h
    obtain ⟨b,rfl,hz⟩:=aqp h
    replace h:=hz
    clear hz
    obtain ⟨h1,h⟩:=abO h
    obtain ⟨es,hes,h⟩:=ru h
    obtain ⟨e1,he,h⟩:=ru h
    obtain ⟨es',hp,h⟩:=ru h
    rw [Qh] at h
    exact ⟨_,_,by simp only [opF]; rw [hu]; dsimp only; rw [hv]; dsimp only; rw [hy]; dsimp only; rw [h1]; dsimp only; rw [hes]; dsimp only; rw [he]; dsimp only; rw [hp]; dsimp only; rw [Heap.fu],h⟩
  | mapdel kk m key=>
    obtain ⟨u,hu,h⟩:=kw le h
    obtain ⟨v,hv,h⟩:=kw le h
    obtain ⟨H₁,h1,h⟩:=ru h
    refine ⟨_,H₁,?_,h⟩
    obtain ⟨e1,he,h2⟩:=iW h1
    clear h1
    simp only [opF]; rw [hu]; dsimp only; rw [hv]; dsimp only; rw [he]; dsimp only
    cases u with
    | map b=>
      have h1:(Bool.casesOn (Nat.blt b H.ro) (Option.casesOn (Jg H b) none fun es=>Option.casesOn (delF kk v es) none fun es'=>H.setK b (.mp es') some) none:Option Heap)=some H₁:=h2
      cases hb:Nat.blt b H.ro with
      | true=>rw [hb] at h1; cases h1
      | false=>
        rw [hb] at h1
        obtain ⟨es,hes,h2⟩:=iW h1
        obtain ⟨es',hp,h3⟩:=iW h2
        rw [Heap.fu] at h3
        cases h3
        dsimp only; rw [hes]; dsimp only; rw [hp]; dsimp only; rw [Heap.fu,hb]
    | nilmap=>
      have h1:some H=some H₁:=h2
      cases h1; rfl
    | _=>cases h2
  | len lk x=>
    obtain ⟨u,hu,h⟩:=kw le h
    cases lk with
    | str=>
      obtain ⟨s,rfl,hz⟩:=ag2 h
      replace h:=hz
      clear hz
      have h':nV (sZ s) (fun n=>k (.int .i64 (.ofNat n)) H) = .ret r H':=h
      rw [mS] at h'
      exact ⟨_,H,by simp only [opF]; rw [hu],h'⟩
    | arr n=>exact ⟨_,H,by simp only [opF]; rw [hu]; try rfl,h⟩
    | sl=>
      have h':jC u (fun n=>k (.int .i64 n) H) = .ret r H':=h
      cases u<;>first | exact ⟨_,H,by simp only [opF]; rw [hu]; try rfl,h'⟩ | cases h'
    | mp=>
      have h':oC (mapOf H u) (fun es=>nV (sZ es) fun n=>k (.int .i64 (.ofNat n)) H) = .ret r H':=h
      obtain ⟨es,hes,h2⟩:=ru h'
      rw [mS] at h2
      cases u with
      | map b=>
        have hes':Jg H b=some es:=hes
        exact ⟨_,H,by simp only [opF]; rw [hu]; dsimp only; rw [hes'],h2⟩
      | nilmap=>
        have hes':some []=some es:=hes
        cases hes'
        exact ⟨_,H,by simp only [opF]; rw [hu]; try rfl,h2⟩
      | _=>cases hes
  | minmax mx xs=>
    obtain ⟨vs,hv,h⟩:=Wc le h
    cases vs with
    | nil=>cases h
    | cons v vs=>
      obtain ⟨w,hw,h⟩:=ru h
      exact ⟨w,H,by simp only [opF]; rw [hv]; dsimp only; rw [hw],h⟩
  | append sz s x=>
    obtain ⟨u,hu,h⟩:=kw le h
    obtain ⟨v,hv,h⟩:=kw le h
    obtain ⟨w,H₁,hw,h⟩:=ajp h
    rw [Bn,It] at h
    exact ⟨w,H₁,by simp only [opF]; rw [hu]; dsimp only; rw [hv]; exact hw,h⟩
  | copy sz d x=>
    obtain ⟨u,hu,h⟩:=kw le h
    obtain ⟨v,hv,h⟩:=kw le h
    obtain ⟨w,H₁,hw,h⟩:=ajp h
    exact ⟨w,H₁,by simp only [opF]; rw [hu]; dsimp only; rw [hv]; exact hw,h⟩
  | clear z x=>
    obtain ⟨u,hu,h⟩:=kw le h
    obtain ⟨w,H₁,hw,h⟩:=ajp h
    have hw':w = .undef:=by
      have h1:=hw
      unfold ady at h1
      split at h1
      · cases h1; rfl
      · cases h1; rfl
      · cases h1; rfl
      · split at h1
        · cases h1; rfl
        · obtain ⟨_,l,g,_,h2⟩:=WW h1
          obtain ⟨_,h3⟩:=uy h2
          rw [vC,Heap.fu] at h3
          cases h3; rfl
      · cases h1
    subst hw'
    exact ⟨_,H₁,by simp only [opF]; rw [hu]; exact hw,h⟩
end
end Go.Ai
