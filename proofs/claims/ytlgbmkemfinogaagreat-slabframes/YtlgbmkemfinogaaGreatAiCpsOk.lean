/- What the continuation style computes, the interpreter's runs compute. -/
import Derived.Test.YtlgbmkemfinogaaGreatAiCps
set_option linter.all false
namespace Go.Ai
theorem nd (m:Nat) (c:Nat→ab):qX m c=c m:=by cases m<;>rfl
theorem qZ (n:Int) (c:Int→ab):DA n c=c n:=by
  cases n with
  | ofNat m=>exact nd m fun m=>c (.ofNat m)
  | negSucc m=>exact nd m fun m=>c (.negSucc m)
theorem anA (b:Bool) (t e:ab):ifB b t e=if b=true then t else e:=by cases b<;>rfl
theorem am6 (q:IntKind):ikTop q=IntKind.top q:=by cases q<;>rfl
theorem wrap_neg (q:IntKind) (m:Nat) (hs:ama q=true) (h:m<IntKind.top q):q.wrap (Int.negSucc m)=Int.negSucc m:=by
  rw [Int.negSucc_eq]
  cases q<;>simp only [IntKind.top] at h<;>first | exact absurd hs (by decide) | (simp only [IntKind.wrap,IntKind.signed,IntKind.bits]; simp; omega)
theorem Ue (b:Bool):lH b = !b:=by cases b<;>rfl
theorem Yf (a b:Bool):andB a b=(a&&b):=by cases a<;>rfl
theorem akV (a b:Bool):eqBB a b=(a==b):=by cases a<;>cases b<;>rfl
theorem aku (a b:Bool):Vx a b=(b ^^ a):=by cases a<;>cases b<;>rfl
theorem ahz (q:IntKind) (m:Nat) (c:Int→ab):amg q m c=c (q.wrap (.ofNat m)):=by
  unfold amg
  rw [nd,anA]
  split
  · rename_i h
    rw [am6] at h
    rw [al6 q m (by simp [Nat.blt] at h; omega)]
  · exact qZ _ _
theorem wrapM_eq (q:IntKind) (m:Nat) (c:Int→ab):wrapM q m c=c (q.wrap (.negSucc m)):=by
  unfold wrapM
  rw [nd,anA]
  split
  · rename_i h
    rw [am6,Yf,gl] at h
    obtain ⟨h1,h2⟩:=h
    rw [wrap_neg q m h1 (by simp [Nat.blt] at h2; omega)]
  · exact qZ _ _
theorem Lc (q:IntKind) (n:Int) (c:Int→ab):xv q n c=c (q.wrap n):=by
  cases n with
  | ofNat m=>exact ahz q m c
  | negSucc m=>exact wrapM_eq q m c
theorem akl (q:IntKind) (a b:Int) (c:Int→ab):og q a b c=c (q.wrap (a+b)):=by
  have g:xv q (addF a b) c=c (q.wrap (a+b)):=by rw [Lc,agm]
  cases a with
  | negSucc x=>exact g
  | ofNat x=>cases b with
    | negSucc y=>exact g
    | ofNat y=>exact ahz q _ c
theorem alg (q:IntKind) (a b:Int) (c:Int→ab):TH q a b c=c (q.wrap (a-b)):=by unfold TH; rw [Lc,agq]
theorem ak7 (q:IntKind) (a b:Int) (c:Int→ab):L2 q a b c=c (q.wrap (a*b)):=by
  have g:xv q (mulF a b) c=c (q.wrap (a*b)):=by rw [Lc,agl]
  cases a with
  | negSucc x=>exact g
  | ofNat x=>cases b with
    | negSucc y=>exact g
    | ofNat y=>exact ahz q _ c
theorem akW {q q':IntKind} (h:SP q q'=true):q=q':=by
  have:=gw h
  cases q<;>cases q'<;>first | rfl | (simp [ikN] at this)
theorem acV:∀ (p:P) (t:Tr Blk) (k:Blk→ab),getB p t k=oC (t.get p) k
  | .h,.leaf,_=>rfl
  | .h,.node _ _ _,_=>rfl
  | .o p,.leaf,_=>rfl
  | .o p,.node l v r,k=>acV p l k
  | .i p,.leaf,_=>rfl
  | .i p,.node l v r,k=>acV p r k
theorem Yl:∀ (p:P) (x:Blk) (t:Tr Blk) (k:Tr Blk→ab),setB p x t k=k (t.set p x)
  | .h,_,.leaf,_=>rfl
  | .h,_,.node _ _ _,_=>rfl
  | .o p,x,.leaf,k=>by rw [Tr.set_o]; exact Yl p x .leaf fun l=>k (.node l none .leaf)
  | .o p,x,.node l v r,k=>by rw [Tr.set_o]; exact Yl p x l fun l=>k (.node l v r)
  | .i p,x,.leaf,k=>by rw [Tr.set_i]; exact Yl p x .leaf fun r=>k (.node .leaf none r)
  | .i p,x,.node l v r,k=>by rw [Tr.set_i]; exact Yl p x r fun r=>k (.node l v r)
theorem AJ (H:Heap) (x:Blk) (c:Nat→Heap→ab):zy H x c=c H.nx (H.add x):=by
  rw [← Heap.fP H x c]
  obtain ⟨t,nx,ro⟩:=H
  show setB (key nx) x t (fun t=>qX (Nat.succ nx) fun nx'=>c nx ⟨t,nx',ro⟩)=Tr.setK (key nx) x t fun t'=>c nx ⟨t',Nat.succ nx,ro⟩
  rw [Yl,nd,Tr.fO]
theorem P0 (H:Heap) (b:Nat) (x:Blk) (c:Heap→ab):setX H b x c=c (H.set b x):=by
  rw [← Heap.fO H b x c]
  obtain ⟨t,nx,ro⟩:=H
  show setB (key b) x t (fun t=>c ⟨t,nx,ro⟩)=Tr.setK (key b) x t fun t'=>c ⟨t',nx,ro⟩
  rw [Yl,Tr.fO]
theorem tf (v:AV) (c:AV→ab):an4 v c=c v:=by
  cases v with
  | slice b o l e p=>
    show qX b (fun b=>qX o fun o=>qX l fun l=>qX e fun e=>ifB p (c (.slice b o l e true)) (c (.slice b o l e false)))=_
    simp only [nd]
    cases p<;>rfl
  | _=>rfl
theorem xK (H:Heap) (c:Heap→ab):forceH H c=c H:=by
  obtain ⟨t,nx,ro⟩:=H
  exact nd nx fun nx=>c ⟨t,nx,ro⟩
theorem ags:∀ (l:List AV) (i:Nat) (k:AV→ab),nthX l i k=oC l[i]? k
  | [],_,_=>rfl
  | _::_,0,_=>rfl
  | _::t,i+1,k=>ags t i k
theorem abG (x:AV):∀ (l:List AV) (i:Nat) (k:List AV→ab),ahe x l i k=if i<l.length then k (l.set i x) else .err
  | [],_,_=>rfl
  | _::_,0,_=>rfl
  | a::t,i+1,k=>by
    show ahe x t i (fun t=>k (a::t))=_
    rw [abG x t i]
    simp
theorem agv:∀ (cs l:List AV) (k:List AV→ab),ajN cs l k=if cs.length≤l.length then k (cs++l.drop cs.length) else .err
  | [],_,_=>rfl
  | _::_,[],_=>rfl
  | c::cs,a::t,k=>by
    show ajN cs t (fun t=>k (c::t))=_
    rw [agv cs t]
    simp
theorem adE {x:AV}:∀ (cs l:List AV) (n:Nat),Aq cs (x::l) (n+1)=x::Aq cs l n
  | [],_,_=>rfl
  | c::cs,l,n=>by show Aq cs ((x::l).set (n+1) c) (n+1+1)=_; rw [List.set_cons_succ,adE cs]; rfl
theorem Yo:∀ (cs l:List AV),cs.length≤l.length→Aq cs l 0=cs++l.drop cs.length
  | [],_,_=>rfl
  | _::_,[],h=>by simp at h
  | c::cs,a::t,h=>by
    show Aq cs (c::t) (0+1)=_
    rw [adE,Yo cs t (by simpa using h)]; rfl
theorem ada (cs:List AV):∀ (l:List AV) (i:Nat) (k:List AV→ab),ajC cs l i k=if i+cs.length≤l.length then k (Aq cs l i) else .err
  | [],0,k=>by
    show ajN cs [] k=_
    rw [agv,Nat.zero_add]
    split
    · rename_i h; rw [Yo cs [] h]
    · rfl
  | [],i+1,k=>by rw [if_neg (by rw [List.length_nil]; omega)]; rfl
  | a::t,0,k=>by
    show ajN cs (a::t) k=_
    rw [agv,Nat.zero_add]
    split
    · rename_i h; rw [Yo cs _ h]
    · rfl
  | a::t,i+1,k=>by
    show ajC cs t i (fun t=>k (a::t))=_
    rw [ada cs t i]
    by_cases h:i+cs.length≤t.length
    · rw [if_pos h,if_pos (by simp; omega),adE]
    · rw [if_neg h,if_neg (by simp; omega)]
section
variable {r:AV} {H':Heap}
theorem vy {α:Type} {x:Option α} {k:α→ab} (h:oC x k = .ret r H'):∃ a,x=some a∧k a = .ret r H':=by
  cases x with
  | none=>cases h
  | some a=>exact ⟨a,rfl,h⟩
theorem OQ {α:Type} {x:Option α} {k:α→ab} (h:(Option.casesOn x .err k:ab) = .ret r H'):∃ a,x=some a∧k a = .ret r H':=by
  cases x with
  | none=>cases h
  | some a=>exact ⟨a,rfl,h⟩
theorem bcaseR {b:Bool} {k:ab} (h:(Bool.casesOn b .err k:ab) = .ret r H'):b=true∧k = .ret r H':=by
  cases b with
  | false=>cases h
  | true=>exact ⟨rfl,h⟩
theorem EY {b:Bool} {k:ab} (h:ifB b k .err = .ret r H'):b=true∧k = .ret r H':=by
  cases b with
  | false=>cases h
  | true=>exact ⟨rfl,h⟩
theorem acG {b:Bool} {k:ab} (h:ifB b .err k = .ret r H'):b=false∧k = .ret r H':=by
  cases b with
  | true=>cases h
  | false=>exact ⟨rfl,h⟩
theorem ago {c:Prop} [Decidable c] {k:ab} (h:(if c then k else .err) = .ret r H'):c∧k = .ret r H':=by
  split at h
  · exact ⟨by assumption,h⟩
  · cases h
theorem natR {a:Int} {k:Nat→ab} (h:afS a k = .ret r H'):∃ n:Nat,a=(n:Int)∧k n = .ret r H':=by
  cases a with
  | ofNat n=>exact ⟨n,rfl,h⟩
  | negSucc n=>cases h
theorem KQ {β:Type} (n:Nat) (e:β) (k:Nat→β):NW (n:Int) e k=k n:=rfl
theorem Kw {v:AV} {k:IntKind→Int→ab} (h:intD v k = .ret r H'):∃ q n,v = .int q n∧k q n = .ret r H':=by
  cases v<;>first | exact ⟨_,_,rfl,h⟩ | cases h
theorem RV {v:AV} {k:Bool→ab} (h:aj3 v k = .ret r H'):∃ b,v = .bool b∧k b = .ret r H':=by
  cases v<;>first | exact ⟨_,rfl,h⟩ | cases h
theorem aiB {v:AV} {k:List UInt8→ab} (h:strD v k = .ret r H'):∃ s,v = .str s∧k s = .ret r H':=by
  cases v<;>first | exact ⟨_,rfl,h⟩ | cases h
theorem extD_inv {ix:Nat} {v:AV} {k:AV→ab} (h:extD ix v k = .ret r H'):∃ vs u,v = .tuple vs∧nth vs ix=some u∧k u = .ret r H':=by
  cases v with
  | tuple vs=>
    have h':oC (nth vs ix) k = .ret r H':=h
    obtain ⟨u,h1,h2⟩:=vy h'
    exact ⟨vs,u,rfl,h1,h2⟩
  | _=>cases h
theorem am0 {q:IntKind} {v:AV} {k:Int→ab} (h:Pr q v k = .ret r H'):∃ n,v = .int q n∧k n = .ret r H':=by
  cases v with
  | int q' n=>
    have h':ifB (SP q q') (k n) .err = .ret r H':=h
    obtain ⟨h1,h2⟩:=EY h'
    rw [akW h1]; exact ⟨_,rfl,h2⟩
  | _=>cases h
theorem ajK {v:AV} {k:Bool→ab} (h:Vc v k = .ret r H'):∃ b,v = .bool b∧k b = .ret r H':=by
  cases v<;>first | exact ⟨_,rfl,h⟩ | cases h
theorem amQ {v:AV} {k:List UInt8→ab} (h:vStr v k = .ret r H'):∃ s,v = .str s∧k s = .ret r H':=by
  cases v<;>first | exact ⟨_,rfl,h⟩ | cases h
theorem Ys {v:AV} {k:Nat→Nat→ab} (h:ajM v k = .ret r H'):∃ b o,v = .ptr b o∧k b o = .ret r H':=by
  cases v<;>first | exact ⟨_,_,rfl,h⟩ | cases h
theorem apd {v:AV} {k:Nat→Nat→Nat→ab} (h:asSlc v k = .ret r H'):∃ b o l e p,v = .slice b o l e p∧k b o l = .ret r H':=by
  cases v<;>first | exact ⟨_,_,_,_,_,rfl,h⟩ | cases h
theorem apY {v:AV} {k:Nat→ab} (h:asMap v k = .ret r H'):∃ b,v = .map b∧k b = .ret r H':=by
  cases v<;>first | exact ⟨_,rfl,h⟩ | cases h
theorem apg {v:AV} {k:List AV→ab} (h:asAgg v k = .ret r H'):∃ l,v = .agg l∧k l = .ret r H':=by
  cases v<;>first | exact ⟨_,rfl,h⟩ | cases h
theorem ane {v:AV} {k:ab} (h:PP v k = .ret r H'):((∃ b o,v = .ptr b o)∨(∃ f a c,v = .func f a c))∧k = .ret r H':=by
  cases v<;>first | exact ⟨.inl ⟨_,_,rfl⟩,h⟩ | exact ⟨.inr ⟨_,_,_,rfl⟩,h⟩ | cases h
theorem getH {H:Heap} {b:Nat} {k:Blk→ab} (h:getB (key b) H.t k = .ret r H'):∃ x,H.get b=some x∧k x = .ret r H':=by
  rw [acV] at h
  exact vy h
theorem anv {H:Heap} {b:Nat} {k:List AV→ab} (h:LR H b k = .ret r H'):∃ l,nU H b=some l∧k l = .ret r H':=by
  obtain ⟨x,hx,h⟩:=getH h
  cases x with
  | cells l rw_ g=>exact ⟨l,by unfold nU; rw [hx],h⟩
  | mp es=>cases h
  | dead=>cases h
theorem ownX_inv {H:Heap} {b:Nat} {k:List AV→Nat→ab} (h:ownX H b k = .ret r H'):∃ l g,k l g = .ret r H'∧∀ {β:Type} (e:β) (k':List AV→Nat→β),ad8 H b e k'=k' l g:=by
  obtain ⟨hb,h⟩:=acG h
  obtain ⟨x,hx,h⟩:=getH h
  cases x with
  | cells l rw_ g=>
    have h':ifB rw_ (k l g) .err = .ret r H':=h
    obtain ⟨h2,h3⟩:=EY h'
    refine ⟨l,g,h3,fun e k'=>?_⟩
    unfold ad8
    rw [hb,hx,h2]
  | mp es=>cases h
  | dead=>cases h
theorem adP {v:AV} {f:List AV→ab} {c:ab} (h:ajx v f c = .ret r H'):(∃ l,v = .agg l∧f l = .ret r H')∨((v matches .tuple _)=false∧v.cells = [v]∧RW v=true∧c = .ret r H'):=by
  cases v<;>first | exact .inl ⟨_,rfl,h⟩ | exact .inr ⟨rfl,rfl,rfl,h⟩ | cases h
def eV (tm tm':Tr AV):Prop:=∀ p v,tm.get p=some v→tm'.get p=some v
theorem eV.refl {tm:Tr AV}:eV tm tm:=fun _ _ h=>h
theorem eV.set {tm tm':Tr AV} (h:eV tm tm') (p:P) (v:AV):eV (tm.set p v) (tm'.set p v):=by
  intro q u hu
  by_cases e:p=q
  · subst e; rw [Tr.fN] at hu ⊢; exact hu
  · rw [Tr.fM e] at hu ⊢; exact h _ _ hu
theorem eV.known {tm tm':Tr AV} (h:eV tm tm') {p:P} {v:AV} (hv:tm.get p=some v):eV (tm.set p v) tm':=by
  intro q u hu
  by_cases e:p=q
  · subst e; rw [Tr.fN] at hu; rw [← hu]; exact h _ _ hv
  · rw [Tr.fM e] at hu; exact h _ _ hu
theorem eV.putO {tm tm':Tr AV} (h:eV tm tm') (d:Option P) (v:AV):eV (tm.putO d v) (tm'.putO d v):=by
  cases d with
  | none=>exact h
  | some p=>exact h.set p v
variable {tm tm₀:Tr AV}
theorem lL (le:eV tm tm₀) {x:Opd} {k:AV→ab} (h:evK tm x k = .ret r H'):∃ v,ev tm₀ x=some v∧k v = .ret r H':=by
  cases x with
  | t p=>obtain ⟨v,h1,h2⟩:=OQ (x:=tm.get p) h; exact ⟨v,le _ _ h1,h2⟩
  | c v=>exact ⟨v,rfl,h⟩
theorem Ya (le:eV tm tm₀):∀ {xs:List Opd} {k:List AV→ab},evsK tm xs k = .ret r H'→∃ vs,evs tm₀ xs=some vs∧k vs = .ret r H'
  | [],k,h=>⟨[],rfl,h⟩
  | x::xs,k,h=>by
    obtain ⟨v,h1,h2⟩:=lL le (x:=x) h
    obtain ⟨vs,h3,h4⟩:=Ya le (xs:=xs) h2
    refine ⟨v::vs,?_,h4⟩
    show (Option.casesOn (ev tm₀ x) none fun v=>Option.casesOn (evs tm₀ xs) none fun vs=>some (v::vs):Option (List AV))=_
    rw [h1,h3]
def agV (tm:Tr AV) (x:Option Opd) (o:Option AV):Prop:=(x=none∧o=none)∨∃ y v,x=some y∧o=some v∧ev tm y=some v
theorem agQ (le:eV tm tm₀) {x:Option Opd} {k:Option AV→ab} (h:evOK tm x k = .ret r H'):∃ o,agV tm₀ x o∧k o = .ret r H':=by
  cases x with
  | none=>exact ⟨none,.inl ⟨rfl,rfl⟩,h⟩
  | some y=>obtain ⟨v,h1,h2⟩:=lL le (x:=y) h; exact ⟨some v,.inr ⟨y,v,rfl,rfl,h1⟩,h2⟩
noncomputable def ag3 (parts:List (Nat × Nat × AV)):List AV→Option (List AV):=
  List.rec (motive:=fun _=>List AV→Option (List AV)) (fun z=>some z)
    (fun p _ ih z=>
      match qh p.2.2.cells==p.2.1&&Nat.ble (p.1+p.2.1) (qh z)&&!(p.2.2 matches .tuple _) with
      | true=>Xg p.2.2.cells z p.1 ih
      | false=>none) parts
theorem aim (le:eV tm tm₀):∀ {xs:List (Nat × Nat × Opd)} {k:List (Nat × Nat × AV)→ab},evPK tm xs k = .ret r H'→∃ ps,P8 tm₀ xs=ag3 ps∧k ps = .ret r H'
  | [],k,h=>⟨[],rfl,h⟩
  | (a,b,x)::xs,k,h=>by
    obtain ⟨v,h1,h2⟩:=lL le (x:=x) h
    obtain ⟨ps,h3,h4⟩:=aim le (xs:=xs) h2
    refine ⟨(a,b,v)::ps,?_,h4⟩
    funext z
    simp only [P8,ag3] at h3 ⊢
    rw [h1]
    dsimp only
    rw [h3]
    rfl
theorem aiE {a b:Nat} {v:AV} {ps:List (Nat × Nat × AV)} {z:List AV} (e1:qh v.cells=b) (e2:a+b≤z.length) (e3:∀ l,v≠.tuple l):ag3 ((a,b,v)::ps) z=ag3 ps (Aq v.cells z a):=by
  subst e1
  have hc:Nat.ble (a+qh v.cells) (qh z)=true:=by rw [mU z]; exact fW e2
  rw [← uQ v.cells z a (ag3 ps)]
  simp only [ag3]
  cases v<;>first | exact (e3 _ rfl).elim | (rw [hc]; simp only [BEq.rfl,Bool.not_false,Bool.and_self])
theorem Yp:∀ {ps:List (Nat × Nat × AV)} {z:List AV} {k:List AV→ab},afb ps z k = .ret r H'→∃ l,ag3 ps z=some l∧k l = .ret r H'
  | [],z,k,h=>⟨z,rfl,h⟩
  | (a,b,v)::ps,z,k,h=>by
    have h0:ajx v (fun l=>ifB (Nat.beq (qh l) b) (ajC l z a fun z=>afb ps z k) .err) (ifB (Nat.beq 1 b) (ahe v z a fun z=>afb ps z k) .err) = .ret r H':=h
    rcases adP h0 with ⟨l,rfl,h⟩ | ⟨h1,h2,h3,h⟩
    · obtain ⟨hb,h⟩:=EY h
      rw [ada] at h
      obtain ⟨hl,h⟩:=ago h
      have hb':=gw hb
      obtain ⟨l',h4,h5⟩:=Yp h
      exact ⟨l',by rw [aiE (show qh (AV.agg l).cells=b from hb') (by have:qh l=b:=hb'; rw [← this,mU]; exact hl) (fun _=>by simp)]; exact h4,h5⟩
    · obtain ⟨hb,h⟩:=EY h
      rw [abG] at h
      obtain ⟨hl,h⟩:=ago h
      have hb':=gw hb
      obtain ⟨l',h4,h5⟩:=Yp h
      exact ⟨l',by rw [aiE (by rw [h2]; exact hb') (by omega) (fun l e=>by subst e; cases h3),h2]; exact h4,h5⟩
theorem akw {x:Option Opd} {o:Option AV} (h:agV tm x o) (d m:Nat):bnd tm x d m=HP o d m:=by
  rcases h with ⟨rfl,rfl⟩ | ⟨y,v,rfl,rfl,h⟩
  · rfl
  · simp only [bnd,HP]; rw [h]; rfl
theorem slF_slV {k:SlK} {u:AV} {lo hi mx:Option Opd} {lo' hi' mx':Option AV} (h1:agV tm lo lo') (h2:agV tm hi hi') (h3:agV tm mx mx'):slF tm k u lo hi mx=slV k u lo' hi' mx':=by
  unfold slF slV
  simp only [akw h1,akw h2,akw h3]
  rcases h2 with ⟨rfl,rfl⟩ | ⟨_,_,rfl,rfl,_⟩<;>rcases h3 with ⟨rfl,rfl⟩ | ⟨_,_,rfl,rfl,_⟩<;>rfl
theorem apM {op:BinOp} {q q':IntKind} {a b:Int} {k:AV→ab} (h:binID op q q' a b k = .ret r H'):∃ v,binF op (.int q a) (.int q' b)=some v∧k v = .ret r H':=by
  have same:∀ {c:ab},(Bool.casesOn (SP q q') .err c:ab) = .ret r H'→q=q'∧c = .ret r H':=fun h=>⟨akW (bcaseR h).1,(bcaseR h).2⟩
  cases op with
  | add=>
    obtain ⟨rfl,h1⟩:=same h
    replace h:=h1
    clear h1
    rw [akl] at h
    refine ⟨_,?_,h⟩
    show (if q=q then Vj q (addF a b) (fun n=>some (AV.int q n)) else none)=_
    rw [if_pos rfl,xM,agm]
  | sub=>
    obtain ⟨rfl,h1⟩:=same h
    replace h:=h1
    clear h1
    rw [alg] at h
    refine ⟨_,?_,h⟩
    show (if q=q then Vj q (subF a b) (fun n=>some (AV.int q n)) else none)=_
    rw [if_pos rfl,xM,agq]
  | mul=>
    obtain ⟨rfl,h1⟩:=same h
    replace h:=h1
    clear h1
    rw [ak7] at h
    refine ⟨_,?_,h⟩
    show (if q=q then Vj q (mulF a b) (fun n=>some (AV.int q n)) else none)=_
    rw [if_pos rfl,xM,agl]
  | quo=>
    obtain ⟨rfl,h1⟩:=same h
    replace h:=h1
    clear h1
    have h0:ifB (isZ b) .err (xv q (divF a b) fun n=>k (.int q n)) = .ret r H':=h
    obtain ⟨h1,h2⟩:=acG h0
    rw [Lc] at h2
    refine ⟨_,?_,h2⟩
    show (if q=q then (Bool.casesOn (isZ b) (Vj q (divF a b) (fun n=>some (AV.int q n))) none:Option AV) else none)=_
    rw [if_pos rfl,h1]
    exact xM _ _ _
  | rem=>
    obtain ⟨rfl,h1⟩:=same h
    replace h:=h1
    clear h1
    have h0:ifB (isZ b) .err (DA (modF a b) fun n=>k (.int q n)) = .ret r H':=h
    obtain ⟨h1,h2⟩:=acG h0
    rw [qZ] at h2
    refine ⟨_,?_,h2⟩
    show (if q=q then (Bool.casesOn (isZ b) (some (AV.int q (modF a b))) none:Option AV) else none)=_
    rw [if_pos rfl,h1]
  | and=>
    obtain ⟨rfl,h1⟩:=same h
    replace h:=h1
    clear h1
    have h0:(Option.casesOn (KK .and q a b) .err fun n=>DA n fun n=>k (.int q n):ab) = .ret r H':=h
    cases hb:KK .and q a b with
    | none=>rw [hb] at h0; cases h0
    | some n=>
      rw [hb] at h0
      have h2:DA n (fun n=>k (.int q n)) = .ret r H':=h0
      rw [qZ] at h2
      refine ⟨_,?_,h2⟩
      show (if q=q then (Option.casesOn (KK .and q a b) none (fun n=>some (AV.int q n)):Option AV) else none)=_
      rw [if_pos rfl,hb]
  | or=>
    obtain ⟨rfl,h1⟩:=same h
    replace h:=h1
    clear h1
    have h0:(Option.casesOn (KK .or q a b) .err fun n=>DA n fun n=>k (.int q n):ab) = .ret r H':=h
    cases hb:KK .or q a b with
    | none=>rw [hb] at h0; cases h0
    | some n=>
      rw [hb] at h0
      have h2:DA n (fun n=>k (.int q n)) = .ret r H':=h0
      rw [qZ] at h2
      refine ⟨_,?_,h2⟩
      show (if q=q then (Option.casesOn (KK .or q a b) none (fun n=>some (AV.int q n)):Option AV) else none)=_
      rw [if_pos rfl,hb]
  | xor=>
    obtain ⟨rfl,h1⟩:=same h
    replace h:=h1
    clear h1
    have h0:(Option.casesOn (KK .xor q a b) .err fun n=>DA n fun n=>k (.int q n):ab) = .ret r H':=h
    cases hb:KK .xor q a b with
    | none=>rw [hb] at h0; cases h0
    | some n=>
      rw [hb] at h0
      have h2:DA n (fun n=>k (.int q n)) = .ret r H':=h0
      rw [qZ] at h2
      refine ⟨_,?_,h2⟩
      show (if q=q then (Option.casesOn (KK .xor q a b) none (fun n=>some (AV.int q n)):Option AV) else none)=_
      rw [if_pos rfl,hb]
  | andNot=>
    obtain ⟨rfl,h1⟩:=same h
    replace h:=h1
    clear h1
    have h0:(Option.casesOn (KK .andNot q a b) .err fun n=>DA n fun n=>k (.int q n):ab) = .ret r H':=h
    cases hb:KK .andNot q a b with
    | none=>rw [hb] at h0; cases h0
    | some n=>
      rw [hb] at h0
      have h2:DA n (fun n=>k (.int q n)) = .ret r H':=h0
      rw [qZ] at h2
      refine ⟨_,?_,h2⟩
      show (if q=q then (Option.casesOn (KK .andNot q a b) none (fun n=>some (AV.int q n)):Option AV) else none)=_
      rw [if_pos rfl,hb]
  | shl=>
    obtain ⟨n,rfl,hz⟩:=natR (a:=b) h
    replace h:=hz
    clear hz
    rw [Lc] at h
    refine ⟨_,?_,h⟩
    show Vj q (YO q a n) (fun r=>some (AV.int q r))=_
    exact xM _ _ _
  | shr=>
    obtain ⟨n,rfl,hz⟩:=natR (a:=b) h
    replace h:=hz
    clear hz
    rw [qZ] at h
    exact ⟨_,rfl,h⟩
  | eql=>
    obtain ⟨rfl,h1⟩:=same h
    replace h:=h1
    clear h1
    refine ⟨_,?_,h⟩
    show (if q=q then some (AV.bool (eqF a b)) else none)=_
    rw [if_pos rfl]
  | neq=>
    obtain ⟨rfl,h1⟩:=same h
    replace h:=h1
    clear h1
    refine ⟨_,?_,h⟩
    show (if q=q then (Bool.casesOn (eqF a b) (some (AV.bool true)) (some (AV.bool false)):Option AV) else none)=_
    rw [if_pos rfl]; cases eqF a b<;>rfl
  | lss=>
    obtain ⟨rfl,h1⟩:=same h
    replace h:=h1
    clear h1
    refine ⟨_,?_,h⟩
    show (if q=q then some (AV.bool (ltF a b)) else none)=_
    rw [if_pos rfl]
  | leq=>
    obtain ⟨rfl,h1⟩:=same h
    replace h:=h1
    clear h1
    refine ⟨_,?_,h⟩
    show (if q=q then (Bool.casesOn (ltF b a) (some (AV.bool true)) (some (AV.bool false)):Option AV) else none)=_
    rw [if_pos rfl]; cases ltF b a<;>rfl
  | gtr=>
    obtain ⟨rfl,h1⟩:=same h
    replace h:=h1
    clear h1
    refine ⟨_,?_,h⟩
    show (if q=q then some (AV.bool (ltF b a)) else none)=_
    rw [if_pos rfl]
  | geq=>
    obtain ⟨rfl,h1⟩:=same h
    replace h:=h1
    clear h1
    refine ⟨_,?_,h⟩
    show (if q=q then (Bool.casesOn (ltF a b) (some (AV.bool true)) (some (AV.bool false)):Option AV) else none)=_
    rw [if_pos rfl]; cases ltF a b<;>rfl
theorem binD_inv {op:BinOp} {u v:AV} {k:AV→ab} (h:binD op u v k = .ret r H'):∃ w,binF op u v=some w∧k w = .ret r H':=by
  cases u with
  | int q a=>
    obtain ⟨q',b,rfl,hz⟩:=Kw (v:=v) h
    replace h:=hz
    clear hz
    exact apM h
  | str a=>
    obtain ⟨b,rfl,hz⟩:=aiB (v:=v) h
    replace h:=hz
    clear hz
    cases op with
    | add=>
      have h0:ifB (Nat.ble (Nat.add (qh a) (qh b)) 1099511627776) (Tn a b fun n=>k (.str n)) .err = .ret r H':=h
      obtain ⟨h1,h2⟩:=EY h0
      rw [ou] at h2
      refine ⟨_,?_,h2⟩
      show (Bool.casesOn (Nat.ble (Nat.add (qh a) (qh b)) 1099511627776) none (some (AV.str (Tn a b id))):Option AV)=_
      rw [h1,ou]; rfl
    | eql=>exact ⟨_,rfl,h⟩
    | neq=>exact ⟨_,by show some (AV.bool (!NB a b))=some _; rw [← Ue],h⟩
    | _=>cases h
  | _=>cases h
theorem ahR {o:Option (AV × Heap)} {c:AV→Heap→ab} (h:outK o c = .ret r H'):∃ v H₁,o=some (v,H₁)∧c v H₁ = .ret r H':=by
  obtain ⟨⟨v,H₁⟩,h1,h2⟩:=vy h
  exact ⟨v,H₁,h1,h2⟩
theorem nilB_eq (k:NilK) (v:AV):nilB k v=isNil k v:=by cases k<;>cases v<;>rfl
theorem amF {e:EqK} {x y:AV} {c:Bool→ab} (h:Tt e x y c = .ret r H'):∃ b,eqK e x y=some b∧c b = .ret r H':=by
  cases e with
  | nil k=>
    have h0:oC (nilB k x) (fun a=>oC (nilB k y) fun b=>ifB a (c b) (ifB b (c false) .err)) = .ret r H':=h
    obtain ⟨a,ha,h⟩:=vy h0
    obtain ⟨b,hb,h⟩:=vy h
    rw [nilB_eq] at ha hb
    cases a with
    | true=>exact ⟨b,by simp only [eqK]; rw [ha,hb],h⟩
    | false=>cases b with
      | true=>exact ⟨false,by simp only [eqK]; rw [ha,hb],h⟩
      | false=>cases h
  | bool=>exact vy h
  | plain ks=>exact vy h
theorem ajG {H:Heap} {u:AV} {n:Nat} {agg:Bool} {k:AV→ab} (h:me H u n agg k = .ret r H') :
    ∃ b off l cs v,u = .ptr b off∧nU H b=some l∧sub l off n=some cs∧MO agg cs=some v∧k v = .ret r H':=by
  obtain ⟨b,off,rfl,h2⟩:=Ys h
  obtain ⟨l,hl,h⟩:=anv h2
  cases agg with
  | true=>
    obtain ⟨cs,hc,h⟩:=vy (x:=sub l off n) h
    exact ⟨b,off,l,cs,_,rfl,hl,hc,rfl,h⟩
  | false=>
    have h0:ifB (Nat.beq n 1) (nthX l off k) .err = .ret r H':=h
    obtain ⟨hn,h⟩:=EY h0
    have hn:=gw hn
    subst hn
    rw [ags] at h
    obtain ⟨v,hv,h⟩:=vy h
    have hc:sub l off 1=some [v]:=by
      rw [pN]
      have:off<l.length:=(gr.1 hv).1
      rw [if_pos (by rw [List.length_drop]; omega),gx this]
      have h2:=(gr.1 hv).2
      rw [← h2]; rfl
    exact ⟨b,off,l,[v],v,rfl,hl,hc,rfl,h⟩
theorem apX (le:eV tm tm₀) {o:AOp} {H:Heap} {k:AV→Heap→ab} (h:opD o tm H k = .ret r H'):∃ v H₁,opF o tm₀ H=some (v,H₁)∧k v H₁ = .ret r H':=by
  cases o with
  | mov x=>
    obtain ⟨v,hv,h⟩:=lL le h
    exact ⟨v,H,by simp only [opF]; rw [hv],h⟩
  | pick c a b=>
    obtain ⟨v,hv,h⟩:=lL le h
    obtain ⟨t,rfl,hz⟩:=RV h
    replace h:=hz
    clear hz
    cases t with
    | true=>
      obtain ⟨u,hu,h⟩:=lL le (x:=a) h
      exact ⟨u,H,by simp only [opF]; rw [hv]; dsimp only; rw [hu],h⟩
    | false=>
      obtain ⟨u,hu,h⟩:=lL le (x:=b) h
      exact ⟨u,H,by simp only [opF]; rw [hv]; dsimp only; rw [hu],h⟩
  | not x=>
    obtain ⟨v,hv,h⟩:=lL le h
    obtain ⟨t,rfl,hz⟩:=RV h
    replace h:=hz
    clear hz
    refine ⟨_,H,?_,h⟩
    simp only [opF]; rw [hv]; cases t<;>rfl
  | bin op x y=>
    obtain ⟨u,hu,h⟩:=lL le h
    obtain ⟨v,hv,h⟩:=lL le h
    obtain ⟨w,hw,h⟩:=binD_inv h
    exact ⟨w,H,by simp only [opF]; rw [hu]; dsimp only; rw [hv]; dsimp only; rw [hw],h⟩
  | eq e neg x y=>
    obtain ⟨u,hu,h⟩:=lL le h
    obtain ⟨v,hv,h⟩:=lL le h
    have fin:∀ b,eqK e u v=some b→k (.bool (Vx neg b)) H = .ret r H'→∃ v H₁,opF (.eq e neg x y) tm₀ H=some (v,H₁)∧k v H₁ = .ret r H':=by
      intro b hb hk
      refine ⟨_,H,?_,hk⟩
      simp only [opF]; rw [hu]; dsimp only; rw [hv]; dsimp only; rw [hb]; dsimp only; rw [aku]
    cases e with
    | nil n=>
      have h0:Tt (.nil n) u v (fun r=>k (.bool (Vx neg r)) H) = .ret r H':=h
      obtain ⟨b,hb,h⟩:=amF h0
      exact fin b hb h
    | bool=>
      obtain ⟨a,rfl,hz⟩:=RV (v:=u) h
      replace h:=hz
      clear hz
      obtain ⟨b,rfl,hz⟩:=RV (v:=v) h
      replace h:=hz
      clear hz
      exact fin (eqBB a b) (by rw [akV]; rfl) h
    | plain ks=>
      have h0:Tt (.plain ks) u v (fun r=>k (.bool (Vx neg r)) H) = .ret r H':=h
      obtain ⟨b,hb,h⟩:=amF h0
      exact fin b hb h
  | conv q x=>
    obtain ⟨u,hu,h⟩:=lL le h
    obtain ⟨_,n,rfl,hz⟩:=Kw h
    replace h:=hz
    clear hz
    rw [Lc] at h
    refine ⟨_,H,?_,h⟩
    simp only [opF]; rw [hu]; exact xM _ _ _
  | alloc z=>
    have h':zy H (.cells z true 0) (fun b H'=>k (.ptr b 0) H') = .ret r H':=h
    rw [AJ] at h'
    exact ⟨_,_,by simp only [opF]; rw [Heap.fP],h'⟩
  | box x=>
    obtain ⟨u,hu,h⟩:=lL le h
    rcases adP h with ⟨l,rfl,h5⟩ | ⟨h1,h2,h3,h⟩
    · replace h:=h5
      rw [AJ] at h
      exact ⟨_,_,by simp only [opF]; rw [hu]; dsimp only [RW]; rw [Heap.fP]; rfl,h⟩
    · rw [AJ] at h
      exact ⟨_,_,by simp only [opF]; rw [hu]; dsimp only; rw [h3,h2]; dsimp only; rw [Heap.fP],h⟩
  | build z parts=>
    obtain ⟨ps,hp,h⟩:=aim le h
    obtain ⟨l,hl,h⟩:=Yp h
    exact ⟨_,H,by simp only [opF]; rw [hp,hl],h⟩
  | buildSlice len z parts=>
    obtain ⟨ps,hp,h⟩:=aim le h
    obtain ⟨l,hl,h⟩:=Yp h
    rw [AJ] at h
    exact ⟨_,_,by simp only [opF]; rw [hp,hl]; dsimp only; rw [Heap.fP],h⟩
  | load n agg x=>
    obtain ⟨u,hu,h⟩:=lL le h
    obtain ⟨b,off,l,cs,v,rfl,hl,hc,hp,h⟩:=ajG h
    exact ⟨v,H,by simp only [opF]; rw [hu]; dsimp only; rw [hl]; dsimp only; rw [hc]; dsimp only; rw [hp],h⟩
  | store n a x=>
    obtain ⟨a',ha,h⟩:=lL le h
    obtain ⟨u,hu,h⟩:=lL le h
    obtain ⟨b,off,rfl,h⟩:=Ys h
    obtain ⟨l,g,h,ho⟩:=ownX_inv h
    have fin:RW u=true→qh u.cells=n→off+n≤l.length→k .undef (H.set b (.cells (Aq u.cells l off) true g)) = .ret r H'→∃ v H₁,opF (.store n a x) tm₀ H=some (v,H₁)∧k v H₁ = .ret r H':=by
      intro e1 e2 e3 e4
      refine ⟨_,_,?_,e4⟩
      simp only [opF]; rw [ha]; dsimp only; rw [hu]; dsimp only; rw [ho]
      have h2:(RW u&&qh u.cells==n&&Nat.ble (off+n) (qh l))=true:=by
        rw [e1,e2,mU l]; simp [e3]
      rw [h2]; dsimp only; rw [uQ,Heap.fO]
    rcases adP h with ⟨cs,rfl,h5⟩ | ⟨h1,h2,h3,h⟩
    · obtain ⟨hn,h⟩:=EY h5
      have hn:=gw hn
      rw [ada] at h
      obtain ⟨hl,h⟩:=ago h
      rw [P0] at h
      exact fin rfl hn (by rw [← hn,mU]; exact hl) h
    · obtain ⟨hn,h⟩:=EY h
      have hn:=gw hn
      rw [abG] at h
      obtain ⟨hl,h⟩:=ago h
      rw [P0] at h
      refine fin h3 (by rw [h2]; exact hn) (by omega) ?_
      rw [h2]; exact h
  | nilchk x=>
    obtain ⟨u,hu,h⟩:=lL le h
    obtain ⟨h1,h⟩:=ane h
    refine ⟨u,H,?_,h⟩
    simp only [opF]; rw [hu]
    rcases h1 with ⟨b,o,rfl⟩ | ⟨f,a,c,rfl⟩<;>rfl
  | fa d x=>
    obtain ⟨u,hu,h⟩:=lL le h
    obtain ⟨b,off,rfl,hz⟩:=Ys h
    replace h:=hz
    clear hz
    rw [nd] at h
    exact ⟨_,H,by simp only [opF]; rw [hu]; rfl,h⟩
  | iaS sz x i=>
    obtain ⟨u,hu,h⟩:=lL le h
    obtain ⟨v,hv,h⟩:=lL le h
    obtain ⟨_,i,rfl,hz⟩:=Kw h
    replace h:=hz
    clear hz
    obtain ⟨b,off,l,e,p,rfl,hz⟩:=apd h
    replace h:=hz
    clear hz
    obtain ⟨j,rfl,hz⟩:=natR h
    replace h:=hz
    clear hz
    obtain ⟨h1,h⟩:=EY h
    rw [nd] at h
    exact ⟨_,H,by simp only [opF]; rw [hu]; dsimp only; rw [hv]; dsimp only; rw [KQ,h1]; rfl,h⟩
  | iaA sz len x i=>
    obtain ⟨u,hu,h⟩:=lL le h
    obtain ⟨v,hv,h⟩:=lL le h
    obtain ⟨_,i,rfl,hz⟩:=Kw h
    replace h:=hz
    clear hz
    obtain ⟨b,off,rfl,hz⟩:=Ys h
    replace h:=hz
    clear hz
    obtain ⟨j,rfl,hz⟩:=natR h
    replace h:=hz
    clear hz
    obtain ⟨h1,h⟩:=EY h
    rw [nd] at h
    exact ⟨_,H,by simp only [opF]; rw [hu]; dsimp only; rw [hv]; dsimp only; rw [KQ,h1]; rfl,h⟩
  | idxA sz len agg x i=>
    obtain ⟨u,hu,h⟩:=lL le h
    obtain ⟨v,hv,h⟩:=lL le h
    obtain ⟨_,i,rfl,hz⟩:=Kw h
    replace h:=hz
    clear hz
    obtain ⟨cs,rfl,hz⟩:=apg h
    replace h:=hz
    clear hz
    obtain ⟨j,rfl,hz⟩:=natR h
    replace h:=hz
    clear hz
    obtain ⟨h1,h⟩:=EY h
    rw [nd] at h
    obtain ⟨l,hl,h⟩:=vy h
    obtain ⟨w,hw,h⟩:=vy h
    have hl':sub cs (j*sz) sz=some l:=hl
    exact ⟨w,H,by simp only [opF]; rw [hu]; dsimp only; rw [hv]; dsimp only; rw [KQ,h1]; dsimp only; rw [hl']; dsimp only; rw [hw],h⟩
  | idxS x i=>
    obtain ⟨u,hu,h⟩:=lL le h
    obtain ⟨v,hv,h⟩:=lL le h
    obtain ⟨s,rfl,hz⟩:=aiB h
    replace h:=hz
    clear hz
    obtain ⟨_,i,rfl,hz⟩:=Kw h
    replace h:=hz
    clear hz
    obtain ⟨j,rfl,hz⟩:=natR h
    replace h:=hz
    clear hz
    obtain ⟨c,hc,h⟩:=vy h
    rw [nd] at h
    exact ⟨_,H,by simp only [opF]; rw [hu]; dsimp only; rw [hv]; dsimp only; rw [KQ,hc]; rfl,h⟩
  | sl sk x lo hi mx=>
    obtain ⟨u,hu,h⟩:=lL le h
    obtain ⟨lo',h1,h⟩:=agQ le h
    obtain ⟨hi',h2,h⟩:=agQ le h
    obtain ⟨mx',h3,h⟩:=agQ le h
    obtain ⟨v,hv,h⟩:=vy h
    rw [tf] at h
    exact ⟨v,H,by simp only [opF]; rw [hu]; dsimp only; rw [slF_slV h1 h2 h3,hv],h⟩
  | ext ix x=>
    obtain ⟨u,hu,h⟩:=lL le h
    obtain ⟨vs,v,rfl,hv,hz⟩:=extD_inv h
    replace h:=hz
    clear hz
    exact ⟨v,H,by simp only [opF]; rw [hu]; dsimp only; rw [hv],h⟩
  | mkfunc f a c=>
    obtain ⟨va,ha,h⟩:=Ya le h
    obtain ⟨cs,hc,h⟩:=Ya le h
    exact ⟨_,H,by simp only [opF]; rw [ha]; dsimp only; rw [hc],h⟩
  | mkmap=>
    have h':zy H (.mp []) (fun b H'=>k (.map b) H') = .ret r H':=h
    rw [AJ] at h'
    exact ⟨_,_,by simp only [opF]; rw [Heap.fP],h'⟩
  | mk z len cap=>
    obtain ⟨u,hu,h⟩:=lL le h
    obtain ⟨v,hv,h⟩:=lL le h
    obtain ⟨_,l,rfl,hz⟩:=Kw h
    replace h:=hz
    clear hz
    obtain ⟨_,c,rfl,hz⟩:=Kw h
    replace h:=hz
    clear hz
    obtain ⟨l,rfl,hz⟩:=natR h
    replace h:=hz
    clear hz
    obtain ⟨c,rfl,hz⟩:=natR h
    replace h:=hz
    clear hz
    obtain ⟨h1,h⟩:=EY h
    rw [AJ,nd] at h
    rw [Yf] at h1
    exact ⟨_,_,by simp only [opF]; rw [hu]; dsimp only; rw [hv]; dsimp only; rw [KQ,KQ,h1]; dsimp only; rw [Heap.fP]; rfl,h⟩
  | lookup kk z ok m key=>
    obtain ⟨u,hu,h⟩:=lL le h
    obtain ⟨v,hv,h⟩:=lL le h
    obtain ⟨es,hes,h⟩:=vy h
    obtain ⟨e1,he,h⟩:=vy h
    obtain ⟨w,hw,h⟩:=vy h
    have pre:∀ {β:AV × Heap},(Option.casesOn w (some (if ok then .tuple [z,.bool false] else z,H)) fun x=>some (if ok then .tuple [x,.bool true] else x,H):Option (AV × Heap))=some β→opF (.lookup kk z ok m key) tm₀ H=some β:=by
      intro β hβ
      simp only [opF]; rw [hu]; dsimp only; rw [hv]
      cases u with
      | map b=>
        have hes':uw H b=some es:=hes
        dsimp only; rw [hes']; dsimp only; rw [he]; dsimp only; rw [hw]; exact hβ
      | nilmap=>
        have hes':some []=some es:=hes
        cases hes'
        dsimp only; rw [he]; dsimp only; rw [hw]; exact hβ
      | _=>cases hes
    cases w with
    | none=>cases ok<;>exact ⟨_,H,pre rfl,h⟩
    | some x=>cases ok<;>exact ⟨_,H,pre rfl,h⟩
  | mapset kk m key x=>
    obtain ⟨u,hu,h⟩:=lL le h
    obtain ⟨v,hv,h⟩:=lL le h
    obtain ⟨y,hy,h⟩:=lL le h
    obtain ⟨b,rfl,hz⟩:=apY h
    replace h:=hz
    clear hz
    obtain ⟨h1,h⟩:=acG h
    obtain ⟨es,hes,h⟩:=vy h
    obtain ⟨e1,he,h⟩:=vy h
    obtain ⟨es',hp,h⟩:=vy h
    rw [P0] at h
    exact ⟨_,_,by simp only [opF]; rw [hu]; dsimp only; rw [hv]; dsimp only; rw [hy]; dsimp only; rw [h1]; dsimp only; rw [hes]; dsimp only; rw [he]; dsimp only; rw [hp]; dsimp only; rw [Heap.fO],h⟩
  | mapdel kk m key=>
    obtain ⟨u,hu,h⟩:=lL le h
    obtain ⟨v,hv,h⟩:=lL le h
    obtain ⟨H₁,h1,h⟩:=vy h
    refine ⟨_,H₁,?_,h⟩
    obtain ⟨e1,he,h2⟩:=jj h1
    clear h1
    simp only [opF]; rw [hu]; dsimp only; rw [hv]; dsimp only; rw [he]; dsimp only
    cases u with
    | map b=>
      have h1:(Bool.casesOn (Nat.blt b H.ro) (Option.casesOn (uw H b) none fun es=>Option.casesOn (ahq kk v es) none fun es'=>H.setK b (.mp es') some) none:Option Heap)=some H₁:=h2
      cases hb:Nat.blt b H.ro with
      | true=>rw [hb] at h1; cases h1
      | false=>
        rw [hb] at h1
        obtain ⟨es,hes,h2⟩:=jj h1
        obtain ⟨es',hp,h3⟩:=jj h2
        rw [Heap.fO] at h3
        cases h3
        dsimp only; rw [hes]; dsimp only; rw [hp]; dsimp only; rw [Heap.fO,hb]
    | nilmap=>
      have h1:some H=some H₁:=h2
      cases h1; rfl
    | _=>cases h2
  | len lk x=>
    obtain ⟨u,hu,h⟩:=lL le h
    cases lk with
    | str=>
      obtain ⟨s,rfl,hz⟩:=aiB h
      replace h:=hz
      clear hz
      have h':qX (qh s) (fun n=>k (.int .i64 (.ofNat n)) H) = .ret r H':=h
      rw [nd] at h'
      exact ⟨_,H,by simp only [opF]; rw [hu],h'⟩
    | arr n=>exact ⟨_,H,by simp only [opF]; rw [hu]; try rfl,h⟩
    | sl=>
      have h':lz u (fun n=>k (.int .i64 n) H) = .ret r H':=h
      cases u<;>first | exact ⟨_,H,by simp only [opF]; rw [hu]; try rfl,h'⟩ | cases h'
    | mp=>
      have h':oC (ajT H u) (fun es=>qX (qh es) fun n=>k (.int .i64 (.ofNat n)) H) = .ret r H':=h
      obtain ⟨es,hes,h2⟩:=vy h'
      rw [nd] at h2
      cases u with
      | map b=>
        have hes':uw H b=some es:=hes
        exact ⟨_,H,by simp only [opF]; rw [hu]; dsimp only; rw [hes'],h2⟩
      | nilmap=>
        have hes':some []=some es:=hes
        cases hes'
        exact ⟨_,H,by simp only [opF]; rw [hu]; try rfl,h2⟩
      | _=>cases hes
  | minmax mx xs=>
    obtain ⟨vs,hv,h⟩:=Ya le h
    cases vs with
    | nil=>cases h
    | cons v vs=>
      obtain ⟨w,hw,h⟩:=vy h
      exact ⟨w,H,by simp only [opF]; rw [hv]; dsimp only; rw [hw],h⟩
  | append sz s x=>
    obtain ⟨u,hu,h⟩:=lL le h
    obtain ⟨v,hv,h⟩:=lL le h
    obtain ⟨w,H₁,hw,h⟩:=ahR h
    rw [tf,xK] at h
    exact ⟨w,H₁,by simp only [opF]; rw [hu]; dsimp only; rw [hv]; exact hw,h⟩
  | copy sz d x=>
    obtain ⟨u,hu,h⟩:=lL le h
    obtain ⟨v,hv,h⟩:=lL le h
    obtain ⟨w,H₁,hw,h⟩:=ahR h
    exact ⟨w,H₁,by simp only [opF]; rw [hu]; dsimp only; rw [hv]; exact hw,h⟩
  | clear z x=>
    obtain ⟨u,hu,h⟩:=lL le h
    obtain ⟨w,H₁,hw,h⟩:=ahR h
    have hw':w = .undef:=by
      have h1:=hw
      unfold Yb at h1
      split at h1
      · cases h1; rfl
      · cases h1; rfl
      · cases h1; rfl
      · split at h1
        · cases h1; rfl
        · obtain ⟨_,l,g,_,h2⟩:=PG h1
          obtain ⟨_,h3⟩:=qK h2
          rw [uQ,Heap.fO] at h3
          cases h3; rfl
      · cases h1
    subst hw'
    exact ⟨_,H₁,by simp only [opF]; rw [hu]; exact hw,h⟩
end
end Go.Ai
