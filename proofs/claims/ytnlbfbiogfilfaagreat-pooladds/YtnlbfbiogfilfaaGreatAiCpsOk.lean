/- What the continuation style computes, the interpreter's runs compute. -/
import Derived.Test.YtnlbfbiogfilfaaGreatAiCps
set_option linter.all false
namespace Go.Ai
theorem gw (m:Nat) (c:Nat→CRes):nf m c=c m:=by cases m<;>rfl
theorem lW (n:Int) (c:Int→CRes):rD n c=c n:=by
  cases n with
  | ofNat m=>exact gw m fun m=>c (.ofNat m)
  | negSucc m=>exact gw m fun m=>c (.negSucc m)
theorem awt (b:Bool) (t e:CRes):ifB b t e=if b=true then t else e:=by cases b<;>rfl
theorem ayl (q:IntKind):ikTop q=IntKind.top q:=by cases q<;>rfl
theorem wrap_neg (q:IntKind) (m:Nat) (hs:ayB q=true) (h:m<IntKind.top q):q.wrap (Int.negSucc m)=Int.negSucc m:=by
  rw [Int.negSucc_eq]
  cases q<;>simp only [IntKind.top] at h<;>first | exact absurd hs (by decide) | (simp only [IntKind.wrap,IntKind.signed,IntKind.bits]; simp; omega)
theorem abY (b:Bool):fS b = !b:=by cases b<;>rfl
theorem aiv (a b:Bool):andB a b=(a&&b):=by cases a<;>rfl
theorem aiL (a b:Bool):eqBB a b=(a==b):=by cases a<;>cases b<;>rfl
theorem amR (a b:Bool):aeZ a b=(b ^^ a):=by cases a<;>cases b<;>rfl
theorem arG (q:IntKind) (m:Nat) (c:Int→CRes):ayi q m c=c (q.wrap (.ofNat m)):=by
  unfold ayi
  rw [gw,awt]
  split
  · rename_i h
    rw [ayl] at h
    rw [axf q m (by simp [Nat.blt] at h; omega)]
  · exact lW _ _
theorem wrapM_eq (q:IntKind) (m:Nat) (c:Int→CRes):wrapM q m c=c (q.wrap (.negSucc m)):=by
  unfold wrapM
  rw [gw,awt]
  split
  · rename_i h
    rw [ayl,aiv,Bool.and_eq_true] at h
    obtain ⟨h1,h2⟩:=h
    rw [wrap_neg q m h1 (by simp [Nat.blt] at h2; omega)]
  · exact lW _ _
theorem DY (q:IntKind) (n:Int) (c:Int→CRes):Dn q n c=c (q.wrap n):=by
  cases n with
  | ofNat m=>exact arG q m c
  | negSucc m=>exact wrapM_eq q m c
theorem arq (q:IntKind) (a b:Int) (c:Int→CRes):lp q a b c=c (q.wrap (a+b)):=by
  have g:Dn q (addF a b) c=c (q.wrap (a+b)):=by rw [DY,amC]
  cases a with
  | negSucc x=>exact g
  | ofNat x=>cases b with
    | negSucc y=>exact g
    | ofNat y=>exact arG q _ c
theorem arB (q:IntKind) (a b:Int) (c:Int→CRes):YK q a b c=c (q.wrap (a-b)):=by unfold YK; rw [DY,amx]
theorem aru (q:IntKind) (a b:Int) (c:Int→CRes):Ve q a b c=c (q.wrap (a*b)):=by
  have g:Dn q (mulF a b) c=c (q.wrap (a*b)):=by rw [DY,ams]
  cases a with
  | negSucc x=>exact g
  | ofNat x=>cases b with
    | negSucc y=>exact g
    | ofNat y=>exact arG q _ c
theorem aro {q q':IntKind} (h:Da q q'=true):q=q':=by
  have:=Nat.eq_of_beq_eq_true h
  cases q<;>cases q'<;>first | rfl | (simp [ikN] at this)
theorem amS:∀ (p:P) (t:Tr Blk) (k:Blk→CRes),getB p t k=oC (t.get p) k
  | .h,.leaf,_=>rfl
  | .h,.node _ _ _,_=>rfl
  | .o p,.leaf,_=>rfl
  | .o p,.node l v r,k=>amS p l k
  | .i p,.leaf,_=>rfl
  | .i p,.node l v r,k=>amS p r k
theorem aiN:∀ (p:P) (x:Blk) (t:Tr Blk) (k:Tr Blk→CRes),setB p x t k=k (t.set p x)
  | .h,_,.leaf,_=>rfl
  | .h,_,.node _ _ _,_=>rfl
  | .o p,x,.leaf,k=>by rw [Tr.set_o]; exact aiN p x .leaf fun l=>k (.node l none .leaf)
  | .o p,x,.node l v r,k=>by rw [Tr.set_o]; exact aiN p x l fun l=>k (.node l v r)
  | .i p,x,.leaf,k=>by rw [Tr.set_i]; exact aiN p x .leaf fun r=>k (.node .leaf none r)
  | .i p,x,.node l v r,k=>by rw [Tr.set_i]; exact aiN p x r fun r=>k (.node l v r)
theorem uE (H:Heap) (x:Blk) (c:Nat→Heap→CRes):Bv H x c=c H.nx (H.add x):=by
  rw [← Heap.newK_eq H x c]
  obtain ⟨t,nx,ro⟩:=H
  show setB (key nx) x t (fun t=>nf (Nat.succ nx) fun nx'=>c nx ⟨t,nx',ro⟩)=Tr.setK (key nx) x t fun t'=>c nx ⟨t',Nat.succ nx,ro⟩
  rw [aiN,gw,Tr.setK_eq]
theorem O6 (H:Heap) (b:Nat) (x:Blk) (c:Heap→CRes):setX H b x c=c (H.set b x):=by
  rw [← Heap.setK_eq H b x c]
  obtain ⟨t,nx,ro⟩:=H
  show setB (key b) x t (fun t=>c ⟨t,nx,ro⟩)=Tr.setK (key b) x t fun t'=>c ⟨t',nx,ro⟩
  rw [aiN,Tr.setK_eq]
theorem pQ (v:AV) (c:AV→CRes):ayP v c=c v:=by
  cases v with
  | slice b o l e p=>
    show nf b (fun b=>nf o fun o=>nf l fun l=>nf e fun e=>ifB p (c (.slice b o l e true)) (c (.slice b o l e false)))=_
    simp only [gw]
    cases p<;>rfl
  | _=>rfl
theorem yq (H:Heap) (c:Heap→CRes):forceH H c=c H:=by
  obtain ⟨t,nx,ro⟩:=H
  exact gw nx fun nx=>c ⟨t,nx,ro⟩
theorem art:∀ (l:List AV) (i:Nat) (k:AV→CRes),nthX l i k=oC l[i]? k
  | [],_,_=>rfl
  | _::_,0,_=>rfl
  | _::t,i+1,k=>art t i k
theorem afZ (x:AV):∀ (l:List AV) (i:Nat) (k:List AV→CRes),atr x l i k=if i<l.length then k (l.set i x) else .err
  | [],_,_=>rfl
  | _::_,0,_=>rfl
  | a::t,i+1,k=>by
    show atr x t i (fun t=>k (a::t))=_
    rw [afZ x t i]
    simp
theorem at0:∀ (cs l:List AV) (k:List AV→CRes),avm cs l k=if cs.length≤l.length then k (cs++l.drop cs.length) else .err
  | [],_,_=>rfl
  | _::_,[],_=>rfl
  | c::cs,a::t,k=>by
    show avm cs t (fun t=>k (c::t))=_
    rw [at0 cs t]
    simp
theorem aok {x:AV}:∀ (cs l:List AV) (n:Nat),zP cs (x::l) (n+1)=x::zP cs l n
  | [],_,_=>rfl
  | c::cs,l,n=>by show zP cs ((x::l).set (n+1) c) (n+1+1)=_; rw [List.set_cons_succ,aok cs]; rfl
theorem aiC:∀ (cs l:List AV),cs.length≤l.length→zP cs l 0=cs++l.drop cs.length
  | [],_,_=>rfl
  | _::_,[],h=>by simp at h
  | c::cs,a::t,h=>by
    show zP cs (c::t) (0+1)=_
    rw [aok,aiC cs t (by simpa using h)]; rfl
theorem afV (cs:List AV):∀ (l:List AV) (i:Nat) (k:List AV→CRes),avf cs l i k=if i+cs.length≤l.length then k (zP cs l i) else .err
  | [],0,k=>by
    show avm cs [] k=_
    rw [at0,Nat.zero_add]
    split
    · rename_i h; rw [aiC cs [] h]
    · rfl
  | [],i+1,k=>by rw [if_neg (by rw [List.length_nil]; omega)]; rfl
  | a::t,0,k=>by
    show avm cs (a::t) k=_
    rw [at0,Nat.zero_add]
    split
    · rename_i h; rw [aiC cs _ h]
    · rfl
  | a::t,i+1,k=>by
    show avf cs t i (fun t=>k (a::t))=_
    rw [afV cs t i]
    by_cases h:i+cs.length≤t.length
    · rw [if_pos h,if_pos (by simp; omega),aok]
    · rw [if_neg h,if_neg (by simp; omega)]
section
variable {r:AV} {H':Heap}
theorem lc {α:Type} {x:Option α} {k:α→CRes} (h:oC x k = .ret r H'):∃ a,x=some a∧k a = .ret r H':=by
  cases x with
  | none=>cases h
  | some a=>exact ⟨a,rfl,h⟩
theorem aoM {α:Type} {x:Option α} {k:α→CRes} (h:(Option.casesOn x .err k:CRes) = .ret r H'):∃ a,x=some a∧k a = .ret r H':=by
  cases x with
  | none=>cases h
  | some a=>exact ⟨a,rfl,h⟩
theorem bcaseR {b:Bool} {k:CRes} (h:(Bool.casesOn b .err k:CRes) = .ret r H'):b=true∧k = .ret r H':=by
  cases b with
  | false=>cases h
  | true=>exact ⟨rfl,h⟩
theorem qa {b:Bool} {k:CRes} (h:ifB b k .err = .ret r H'):b=true∧k = .ret r H':=by
  cases b with
  | false=>cases h
  | true=>exact ⟨rfl,h⟩
theorem UA {b:Bool} {k:CRes} (h:ifB b .err k = .ret r H'):b=false∧k = .ret r H':=by
  cases b with
  | true=>cases h
  | false=>exact ⟨rfl,h⟩
theorem aiu {c:Prop} [Decidable c] {k:CRes} (h:(if c then k else .err) = .ret r H'):c∧k = .ret r H':=by
  split at h
  · exact ⟨by assumption,h⟩
  · cases h
theorem ajs {a:Int} {k:Nat→CRes} (h:aqw a k = .ret r H'):∃ n:Nat,a=(n:Int)∧k n = .ret r H':=by
  cases a with
  | ofNat n=>exact ⟨n,rfl,h⟩
  | negSucc n=>cases h
theorem wh {β:Type} (n:Nat) (e:β) (k:Nat→β):Tt (n:Int) e k=k n:=rfl
theorem Qc {v:AV} {k:IntKind→Int→CRes} (h:intD v k = .ret r H'):∃ q n,v = .int q n∧k q n = .ret r H':=by
  cases v<;>first | exact ⟨_,_,rfl,h⟩ | cases h
theorem YE {v:AV} {k:Bool→CRes} (h:au0 v k = .ret r H'):∃ b,v = .bool b∧k b = .ret r H':=by
  cases v<;>first | exact ⟨_,rfl,h⟩ | cases h
theorem ate {v:AV} {k:List UInt8→CRes} (h:strD v k = .ret r H'):∃ s,v = .str s∧k s = .ret r H':=by
  cases v<;>first | exact ⟨_,rfl,h⟩ | cases h
theorem axg {ix:Nat} {v:AV} {k:AV→CRes} (h:extD ix v k = .ret r H'):∃ vs u,v = .tuple vs∧nth vs ix=some u∧k u = .ret r H':=by
  cases v with
  | tuple vs=>
    have h':oC (nth vs ix) k = .ret r H':=h
    obtain ⟨u,h1,h2⟩:=lc h'
    exact ⟨vs,u,rfl,h1,h2⟩
  | _=>cases h
theorem axn {q:IntKind} {v:AV} {k:Int→CRes} (h:Wa q v k = .ret r H'):∃ n,v = .int q n∧k n = .ret r H':=by
  cases v with
  | int q' n=>
    have h':ifB (Da q q') (k n) .err = .ret r H':=h
    obtain ⟨h1,h2⟩:=qa h'
    rw [aro h1]; exact ⟨_,rfl,h2⟩
  | _=>cases h
theorem Np {v:AV} {k:Bool→CRes} (h:Te v k = .ret r H'):∃ b,v = .bool b∧k b = .ret r H':=by
  cases v<;>first | exact ⟨_,rfl,h⟩ | cases h
theorem ami {v:AV} {k:List UInt8→CRes} (h:vStr v k = .ret r H'):∃ s,v = .str s∧k s = .ret r H':=by
  cases v<;>first | exact ⟨_,rfl,h⟩ | cases h
theorem N9 {v:AV} {k:Nat→Nat→CRes} (h:au3 v k = .ret r H'):∃ b o,v = .ptr b o∧k b o = .ret r H':=by
  cases v<;>first | exact ⟨_,_,rfl,h⟩ | cases h
theorem avh {v:AV} {k:Nat→Nat→Nat→CRes} (h:asSlc v k = .ret r H'):∃ b o l e p,v = .slice b o l e p∧k b o l = .ret r H':=by
  cases v<;>first | exact ⟨_,_,_,_,_,rfl,h⟩ | cases h
theorem avu {v:AV} {k:Nat→CRes} (h:asMap v k = .ret r H'):∃ b,v = .map b∧k b = .ret r H':=by
  cases v<;>first | exact ⟨_,rfl,h⟩ | cases h
theorem au8 {v:AV} {k:List AV→CRes} (h:asAgg v k = .ret r H'):∃ l,v = .agg l∧k l = .ret r H':=by
  cases v<;>first | exact ⟨_,rfl,h⟩ | cases h
theorem apV {v:AV} {k:CRes} (h:Tw v k = .ret r H'):((∃ b o,v = .ptr b o)∨(∃ f a c,v = .func f a c))∧k = .ret r H':=by
  cases v<;>first | exact ⟨.inl ⟨_,_,rfl⟩,h⟩ | exact ⟨.inr ⟨_,_,_,rfl⟩,h⟩ | cases h
theorem getH {H:Heap} {b:Nat} {k:Blk→CRes} (h:getB (key b) H.t k = .ret r H'):∃ x,H.get b=some x∧k x = .ret r H':=by
  rw [amS] at h
  exact lc h
theorem azc {H:Heap} {b:Nat} {k:List AV→CRes} (h:Rk H b k = .ret r H'):∃ l,ol H b=some l∧k l = .ret r H':=by
  obtain ⟨x,hx,h⟩:=getH h
  cases x with
  | cells l rw_ g=>exact ⟨l,by unfold ol; rw [hx],h⟩
  | mp es=>cases h
  | dead=>cases h
theorem axv {H:Heap} {b:Nat} {k:List AV→Nat→CRes} (h:ownX H b k = .ret r H'):∃ l g,k l g = .ret r H'∧∀ {β:Type} (e:β) (k':List AV→Nat→β),aoW H b e k'=k' l g:=by
  obtain ⟨hb,h⟩:=UA h
  obtain ⟨x,hx,h⟩:=getH h
  cases x with
  | cells l rw_ g=>
    have h':ifB rw_ (k l g) .err = .ret r H':=h
    obtain ⟨h2,h3⟩:=qa h'
    refine ⟨l,g,h3,fun e k'=>?_⟩
    unfold aoW
    rw [hb,hx,h2]
  | mp es=>cases h
  | dead=>cases h
theorem Z2 {v:AV} {f:List AV→CRes} {c:CRes} (h:avz v f c = .ret r H'):(∃ l,v = .agg l∧f l = .ret r H')∨((v matches .tuple _)=false∧v.cells = [v]∧Km v=true∧c = .ret r H'):=by
  cases v<;>first | exact .inl ⟨_,rfl,h⟩ | exact .inr ⟨rfl,rfl,rfl,h⟩ | cases h
def TmLe (tm tm':Tr AV):Prop:=∀ p v,tm.get p=some v→tm'.get p=some v
theorem TmLe.refl {tm:Tr AV}:TmLe tm tm:=fun _ _ h=>h
theorem TmLe.set {tm tm':Tr AV} (h:TmLe tm tm') (p:P) (v:AV):TmLe (tm.set p v) (tm'.set p v):=by
  intro q u hu
  by_cases e:p=q
  · subst e; rw [Tr.get_set_same] at hu ⊢; exact hu
  · rw [Tr.get_set_other e] at hu ⊢; exact h _ _ hu
theorem TmLe.known {tm tm':Tr AV} (h:TmLe tm tm') {p:P} {v:AV} (hv:tm.get p=some v):TmLe (tm.set p v) tm':=by
  intro q u hu
  by_cases e:p=q
  · subst e; rw [Tr.get_set_same] at hu; rw [← hu]; exact h _ _ hv
  · rw [Tr.get_set_other e] at hu; exact h _ _ hu
theorem TmLe.putO {tm tm':Tr AV} (h:TmLe tm tm') (d:Option P) (v:AV):TmLe (tm.putO d v) (tm'.putO d v):=by
  cases d with
  | none=>exact h
  | some p=>exact h.set p v
variable {tm tm₀:Tr AV}
theorem fR (le:TmLe tm tm₀) {x:Opd} {k:AV→CRes} (h:evK tm x k = .ret r H'):∃ v,ev tm₀ x=some v∧k v = .ret r H':=by
  cases x with
  | t p=>obtain ⟨v,h1,h2⟩:=aoM (x:=tm.get p) h; exact ⟨v,le _ _ h1,h2⟩
  | c v=>exact ⟨v,rfl,h⟩
theorem aib (le:TmLe tm tm₀):∀ {xs:List Opd} {k:List AV→CRes},evsK tm xs k = .ret r H'→∃ vs,evs tm₀ xs=some vs∧k vs = .ret r H'
  | [],k,h=>⟨[],rfl,h⟩
  | x::xs,k,h=>by
    obtain ⟨v,h1,h2⟩:=fR le (x:=x) h
    obtain ⟨vs,h3,h4⟩:=aib le (xs:=xs) h2
    refine ⟨v::vs,?_,h4⟩
    show (Option.casesOn (ev tm₀ x) none fun v=>Option.casesOn (evs tm₀ xs) none fun vs=>some (v::vs):Option (List AV))=_
    rw [h1,h3]
def aoJ (tm:Tr AV) (x:Option Opd) (o:Option AV):Prop:=(x=none∧o=none)∨∃ y v,x=some y∧o=some v∧ev tm y=some v
theorem asZ (le:TmLe tm tm₀) {x:Option Opd} {k:Option AV→CRes} (h:evOK tm x k = .ret r H'):∃ o,aoJ tm₀ x o∧k o = .ret r H':=by
  cases x with
  | none=>exact ⟨none,.inl ⟨rfl,rfl⟩,h⟩
  | some y=>obtain ⟨v,h1,h2⟩:=fR le (x:=y) h; exact ⟨some v,.inr ⟨y,v,rfl,rfl,h1⟩,h2⟩
noncomputable def anz (parts:List (Nat × Nat × AV)):List AV→Option (List AV):=
  List.rec (motive:=fun _=>List AV→Option (List AV)) (fun z=>some z)
    (fun p _ ih z=>
      match mv p.2.2.cells==p.2.1&&Nat.ble (p.1+p.2.1) (mv z)&&!(p.2.2 matches .tuple _) with
      | true=>ah4 p.2.2.cells z p.1 ih
      | false=>none) parts
theorem asK (le:TmLe tm tm₀):∀ {xs:List (Nat × Nat × Opd)} {k:List (Nat × Nat × AV)→CRes},evPK tm xs k = .ret r H'→∃ ps,Sm tm₀ xs=anz ps∧k ps = .ret r H'
  | [],k,h=>⟨[],rfl,h⟩
  | (a,b,x)::xs,k,h=>by
    obtain ⟨v,h1,h2⟩:=fR le (x:=x) h
    obtain ⟨ps,h3,h4⟩:=asK le (xs:=xs) h2
    refine ⟨(a,b,v)::ps,?_,h4⟩
    funext z
    simp only [Sm,anz] at h3 ⊢
    rw [h1]
    dsimp only
    rw [h3]
    rfl
theorem atg {a b:Nat} {v:AV} {ps:List (Nat × Nat × AV)} {z:List AV} (e1:mv v.cells=b) (e2:a+b≤z.length) (e3:∀ l,v≠.tuple l):anz ((a,b,v)::ps) z=anz ps (zP v.cells z a):=by
  subst e1
  have hc:Nat.ble (a+mv v.cells) (mv z)=true:=by rw [jC z]; exact Nat.ble_eq_true_of_le e2
  rw [← qQ v.cells z a (anz ps)]
  simp only [anz]
  cases v<;>first | exact (e3 _ rfl).elim | (rw [hc]; simp only [BEq.rfl,Bool.not_false,Bool.and_self])
theorem T2:∀ {ps:List (Nat × Nat × AV)} {z:List AV} {k:List AV→CRes},ap6 ps z k = .ret r H'→∃ l,anz ps z=some l∧k l = .ret r H'
  | [],z,k,h=>⟨z,rfl,h⟩
  | (a,b,v)::ps,z,k,h=>by
    have h0:avz v (fun l=>ifB (Nat.beq (mv l) b) (avf l z a fun z=>ap6 ps z k) .err) (ifB (Nat.beq 1 b) (atr v z a fun z=>ap6 ps z k) .err) = .ret r H':=h
    rcases Z2 h0 with ⟨l,rfl,h⟩ | ⟨h1,h2,h3,h⟩
    · obtain ⟨hb,h⟩:=qa h
      rw [afV] at h
      obtain ⟨hl,h⟩:=aiu h
      have hb':=Nat.eq_of_beq_eq_true hb
      obtain ⟨l',h4,h5⟩:=T2 h
      exact ⟨l',by rw [atg (show mv (AV.agg l).cells=b from hb') (by have:mv l=b:=hb'; rw [← this,jC]; exact hl) (fun _=>by simp)]; exact h4,h5⟩
    · obtain ⟨hb,h⟩:=qa h
      rw [afZ] at h
      obtain ⟨hl,h⟩:=aiu h
      have hb':=Nat.eq_of_beq_eq_true hb
      obtain ⟨l',h4,h5⟩:=T2 h
      exact ⟨l',by rw [atg (by rw [h2]; exact hb') (by omega) (fun l e=>by subst e; cases h3),h2]; exact h4,h5⟩
theorem aw6 {x:Option Opd} {o:Option AV} (h:aoJ tm x o) (d m:Nat):bnd tm x d m=Lv o d m:=by
  rcases h with ⟨rfl,rfl⟩ | ⟨y,v,rfl,rfl,h⟩
  · rfl
  · simp only [bnd,Lv]; rw [h]; rfl
theorem azW {k:SlK} {u:AV} {lo hi mx:Option Opd} {lo' hi' mx':Option AV} (h1:aoJ tm lo lo') (h2:aoJ tm hi hi') (h3:aoJ tm mx mx'):slF tm k u lo hi mx=slV k u lo' hi' mx':=by
  unfold slF slV
  simp only [aw6 h1,aw6 h2,aw6 h3]
  rcases h2 with ⟨rfl,rfl⟩ | ⟨_,_,rfl,rfl,_⟩<;>rcases h3 with ⟨rfl,rfl⟩ | ⟨_,_,rfl,rfl,_⟩<;>rfl
theorem aAp {op:BinOp} {q q':IntKind} {a b:Int} {k:AV→CRes} (h:binID op q q' a b k = .ret r H'):∃ v,binF op (.int q a) (.int q' b)=some v∧k v = .ret r H':=by
  have same:∀ {c:CRes},(Bool.casesOn (Da q q') .err c:CRes) = .ret r H'→q=q'∧c = .ret r H':=fun h=>⟨aro (bcaseR h).1,(bcaseR h).2⟩
  cases op with
  | add=>
    obtain ⟨rfl,h1⟩:=same h
    replace h:=h1
    clear h1
    rw [arq] at h
    refine ⟨_,?_,h⟩
    show (if q=q then Qs q (addF a b) (fun n=>some (AV.int q n)) else none)=_
    rw [if_pos rfl,oP,amC]
  | sub=>
    obtain ⟨rfl,h1⟩:=same h
    replace h:=h1
    clear h1
    rw [arB] at h
    refine ⟨_,?_,h⟩
    show (if q=q then Qs q (subF a b) (fun n=>some (AV.int q n)) else none)=_
    rw [if_pos rfl,oP,amx]
  | mul=>
    obtain ⟨rfl,h1⟩:=same h
    replace h:=h1
    clear h1
    rw [aru] at h
    refine ⟨_,?_,h⟩
    show (if q=q then Qs q (mulF a b) (fun n=>some (AV.int q n)) else none)=_
    rw [if_pos rfl,oP,ams]
  | quo=>
    obtain ⟨rfl,h1⟩:=same h
    replace h:=h1
    clear h1
    have h0:ifB (isZ b) .err (Dn q (divF a b) fun n=>k (.int q n)) = .ret r H':=h
    obtain ⟨h1,h2⟩:=UA h0
    rw [DY] at h2
    refine ⟨_,?_,h2⟩
    show (if q=q then (Bool.casesOn (isZ b) (Qs q (divF a b) (fun n=>some (AV.int q n))) none:Option AV) else none)=_
    rw [if_pos rfl,h1]
    exact oP _ _ _
  | rem=>
    obtain ⟨rfl,h1⟩:=same h
    replace h:=h1
    clear h1
    have h0:ifB (isZ b) .err (rD (modF a b) fun n=>k (.int q n)) = .ret r H':=h
    obtain ⟨h1,h2⟩:=UA h0
    rw [lW] at h2
    refine ⟨_,?_,h2⟩
    show (if q=q then (Bool.casesOn (isZ b) (some (AV.int q (modF a b))) none:Option AV) else none)=_
    rw [if_pos rfl,h1]
  | and=>
    obtain ⟨rfl,h1⟩:=same h
    replace h:=h1
    clear h1
    have h0:(Option.casesOn (wB .and q a b) .err fun n=>rD n fun n=>k (.int q n):CRes) = .ret r H':=h
    cases hb:wB .and q a b with
    | none=>rw [hb] at h0; cases h0
    | some n=>
      rw [hb] at h0
      have h2:rD n (fun n=>k (.int q n)) = .ret r H':=h0
      rw [lW] at h2
      refine ⟨_,?_,h2⟩
      show (if q=q then (Option.casesOn (wB .and q a b) none (fun n=>some (AV.int q n)):Option AV) else none)=_
      rw [if_pos rfl,hb]
  | or=>
    obtain ⟨rfl,h1⟩:=same h
    replace h:=h1
    clear h1
    have h0:(Option.casesOn (wB .or q a b) .err fun n=>rD n fun n=>k (.int q n):CRes) = .ret r H':=h
    cases hb:wB .or q a b with
    | none=>rw [hb] at h0; cases h0
    | some n=>
      rw [hb] at h0
      have h2:rD n (fun n=>k (.int q n)) = .ret r H':=h0
      rw [lW] at h2
      refine ⟨_,?_,h2⟩
      show (if q=q then (Option.casesOn (wB .or q a b) none (fun n=>some (AV.int q n)):Option AV) else none)=_
      rw [if_pos rfl,hb]
  | xor=>
    obtain ⟨rfl,h1⟩:=same h
    replace h:=h1
    clear h1
    have h0:(Option.casesOn (wB .xor q a b) .err fun n=>rD n fun n=>k (.int q n):CRes) = .ret r H':=h
    cases hb:wB .xor q a b with
    | none=>rw [hb] at h0; cases h0
    | some n=>
      rw [hb] at h0
      have h2:rD n (fun n=>k (.int q n)) = .ret r H':=h0
      rw [lW] at h2
      refine ⟨_,?_,h2⟩
      show (if q=q then (Option.casesOn (wB .xor q a b) none (fun n=>some (AV.int q n)):Option AV) else none)=_
      rw [if_pos rfl,hb]
  | andNot=>
    obtain ⟨rfl,h1⟩:=same h
    replace h:=h1
    clear h1
    have h0:(Option.casesOn (wB .andNot q a b) .err fun n=>rD n fun n=>k (.int q n):CRes) = .ret r H':=h
    cases hb:wB .andNot q a b with
    | none=>rw [hb] at h0; cases h0
    | some n=>
      rw [hb] at h0
      have h2:rD n (fun n=>k (.int q n)) = .ret r H':=h0
      rw [lW] at h2
      refine ⟨_,?_,h2⟩
      show (if q=q then (Option.casesOn (wB .andNot q a b) none (fun n=>some (AV.int q n)):Option AV) else none)=_
      rw [if_pos rfl,hb]
  | shl=>
    obtain ⟨n,rfl,hz⟩:=ajs (a:=b) h
    replace h:=hz
    clear hz
    rw [DY] at h
    refine ⟨_,?_,h⟩
    show Qs q (aly q a n) (fun r=>some (AV.int q r))=_
    exact oP _ _ _
  | shr=>
    obtain ⟨n,rfl,hz⟩:=ajs (a:=b) h
    replace h:=hz
    clear hz
    rw [lW] at h
    exact ⟨_,rfl,h⟩
  | eql=>
    obtain ⟨rfl,h1⟩:=same h
    replace h:=h1
    clear h1
    refine ⟨_,?_,h⟩
    show (if q=q then some (AV.bool (eqF a b)) else none)=_
    rw [if_pos rfl]
  | neq=>
    obtain ⟨rfl,h1⟩:=same h
    replace h:=h1
    clear h1
    refine ⟨_,?_,h⟩
    show (if q=q then (Bool.casesOn (eqF a b) (some (AV.bool true)) (some (AV.bool false)):Option AV) else none)=_
    rw [if_pos rfl]; cases eqF a b<;>rfl
  | lss=>
    obtain ⟨rfl,h1⟩:=same h
    replace h:=h1
    clear h1
    refine ⟨_,?_,h⟩
    show (if q=q then some (AV.bool (ltF a b)) else none)=_
    rw [if_pos rfl]
  | leq=>
    obtain ⟨rfl,h1⟩:=same h
    replace h:=h1
    clear h1
    refine ⟨_,?_,h⟩
    show (if q=q then (Bool.casesOn (ltF b a) (some (AV.bool true)) (some (AV.bool false)):Option AV) else none)=_
    rw [if_pos rfl]; cases ltF b a<;>rfl
  | gtr=>
    obtain ⟨rfl,h1⟩:=same h
    replace h:=h1
    clear h1
    refine ⟨_,?_,h⟩
    show (if q=q then some (AV.bool (ltF b a)) else none)=_
    rw [if_pos rfl]
  | geq=>
    obtain ⟨rfl,h1⟩:=same h
    replace h:=h1
    clear h1
    refine ⟨_,?_,h⟩
    show (if q=q then (Bool.casesOn (ltF a b) (some (AV.bool true)) (some (AV.bool false)):Option AV) else none)=_
    rw [if_pos rfl]; cases ltF a b<;>rfl
theorem binD_inv {op:BinOp} {u v:AV} {k:AV→CRes} (h:binD op u v k = .ret r H'):∃ w,binF op u v=some w∧k w = .ret r H':=by
  cases u with
  | int q a=>
    obtain ⟨q',b,rfl,hz⟩:=Qc (v:=v) h
    replace h:=hz
    clear hz
    exact aAp h
  | str a=>
    obtain ⟨b,rfl,hz⟩:=ate (v:=v) h
    replace h:=hz
    clear hz
    cases op with
    | add=>
      have h0:ifB (Nat.ble (Nat.add (mv a) (mv b)) 1099511627776) (UB a b fun n=>k (.str n)) .err = .ret r H':=h
      obtain ⟨h1,h2⟩:=qa h0
      rw [jz] at h2
      refine ⟨_,?_,h2⟩
      show (Bool.casesOn (Nat.ble (Nat.add (mv a) (mv b)) 1099511627776) none (some (AV.str (UB a b id))):Option AV)=_
      rw [h1,jz]; rfl
    | eql=>exact ⟨_,rfl,h⟩
    | neq=>exact ⟨_,by show some (AV.bool (!CU a b))=some _; rw [← abY],h⟩
    | _=>cases h
  | _=>cases h
theorem YL {o:Option (AV × Heap)} {c:AV→Heap→CRes} (h:outK o c = .ret r H'):∃ v H₁,o=some (v,H₁)∧c v H₁ = .ret r H':=by
  obtain ⟨⟨v,H₁⟩,h1,h2⟩:=lc h
  exact ⟨v,H₁,h1,h2⟩
theorem nilB_eq (k:NilK) (v:AV):nilB k v=isNil k v:=by cases k<;>cases v<;>rfl
theorem ane {e:EqK} {x y:AV} {c:Bool→CRes} (h:ajj e x y c = .ret r H'):∃ b,eqK e x y=some b∧c b = .ret r H':=by
  cases e with
  | nil k=>
    have h0:oC (nilB k x) (fun a=>oC (nilB k y) fun b=>ifB a (c b) (ifB b (c false) .err)) = .ret r H':=h
    obtain ⟨a,ha,h⟩:=lc h0
    obtain ⟨b,hb,h⟩:=lc h
    rw [nilB_eq] at ha hb
    cases a with
    | true=>exact ⟨b,by simp only [eqK]; rw [ha,hb],h⟩
    | false=>cases b with
      | true=>exact ⟨false,by simp only [eqK]; rw [ha,hb],h⟩
      | false=>cases h
  | bool=>exact lc h
  | plain ks=>exact lc h
theorem aip {H:Heap} {u:AV} {n:Nat} {agg:Bool} {k:AV→CRes} (h:f8 H u n agg k = .ret r H') :
    ∃ b off l cs v,u = .ptr b off∧ol H b=some l∧sub l off n=some cs∧Td agg cs=some v∧k v = .ret r H':=by
  obtain ⟨b,off,rfl,h2⟩:=N9 h
  obtain ⟨l,hl,h⟩:=azc h2
  cases agg with
  | true=>
    obtain ⟨cs,hc,h⟩:=lc (x:=sub l off n) h
    exact ⟨b,off,l,cs,_,rfl,hl,hc,rfl,h⟩
  | false=>
    have h0:ifB (Nat.beq n 1) (nthX l off k) .err = .ret r H':=h
    obtain ⟨hn,h⟩:=qa h0
    have hn:=Nat.eq_of_beq_eq_true hn
    subst hn
    rw [art] at h
    obtain ⟨v,hv,h⟩:=lc h
    have hc:sub l off 1=some [v]:=by
      rw [oB]
      have:off<l.length:=(List.getElem?_eq_some_iff.1 hv).1
      rw [if_pos (by rw [List.length_drop]; omega),List.drop_eq_getElem_cons this]
      have h2:=(List.getElem?_eq_some_iff.1 hv).2
      rw [← h2]; rfl
    exact ⟨b,off,l,[v],v,rfl,hl,hc,rfl,h⟩
theorem aAs (le:TmLe tm tm₀) {o:AOp} {H:Heap} {k:AV→Heap→CRes} (h:opD o tm H k = .ret r H'):∃ v H₁,opF o tm₀ H=some (v,H₁)∧k v H₁ = .ret r H':=by
  cases o with
  | mov x=>
    obtain ⟨v,hv,h⟩:=fR le h
    exact ⟨v,H,by simp only [opF]; rw [hv],h⟩
  | pick c a b=>
    obtain ⟨v,hv,h⟩:=fR le h
    obtain ⟨t,rfl,hz⟩:=YE h
    replace h:=hz
    clear hz
    cases t with
    | true=>
      obtain ⟨u,hu,h⟩:=fR le (x:=a) h
      exact ⟨u,H,by simp only [opF]; rw [hv]; dsimp only; rw [hu],h⟩
    | false=>
      obtain ⟨u,hu,h⟩:=fR le (x:=b) h
      exact ⟨u,H,by simp only [opF]; rw [hv]; dsimp only; rw [hu],h⟩
  | not x=>
    obtain ⟨v,hv,h⟩:=fR le h
    obtain ⟨t,rfl,hz⟩:=YE h
    replace h:=hz
    clear hz
    refine ⟨_,H,?_,h⟩
    simp only [opF]; rw [hv]; cases t<;>rfl
  | bin op x y=>
    obtain ⟨u,hu,h⟩:=fR le h
    obtain ⟨v,hv,h⟩:=fR le h
    obtain ⟨w,hw,h⟩:=binD_inv h
    exact ⟨w,H,by simp only [opF]; rw [hu]; dsimp only; rw [hv]; dsimp only; rw [hw],h⟩
  | eq e neg x y=>
    obtain ⟨u,hu,h⟩:=fR le h
    obtain ⟨v,hv,h⟩:=fR le h
    have fin:∀ b,eqK e u v=some b→k (.bool (aeZ neg b)) H = .ret r H'→∃ v H₁,opF (.eq e neg x y) tm₀ H=some (v,H₁)∧k v H₁ = .ret r H':=by
      intro b hb hk
      refine ⟨_,H,?_,hk⟩
      simp only [opF]; rw [hu]; dsimp only; rw [hv]; dsimp only; rw [hb]; dsimp only; rw [amR]
    cases e with
    | nil n=>
      have h0:ajj (.nil n) u v (fun r=>k (.bool (aeZ neg r)) H) = .ret r H':=h
      obtain ⟨b,hb,h⟩:=ane h0
      exact fin b hb h
    | bool=>
      obtain ⟨a,rfl,hz⟩:=YE (v:=u) h
      replace h:=hz
      clear hz
      obtain ⟨b,rfl,hz⟩:=YE (v:=v) h
      replace h:=hz
      clear hz
      exact fin (eqBB a b) (by rw [aiL]; rfl) h
    | plain ks=>
      have h0:ajj (.plain ks) u v (fun r=>k (.bool (aeZ neg r)) H) = .ret r H':=h
      obtain ⟨b,hb,h⟩:=ane h0
      exact fin b hb h
  | conv q x=>
    obtain ⟨u,hu,h⟩:=fR le h
    obtain ⟨_,n,rfl,hz⟩:=Qc h
    replace h:=hz
    clear hz
    rw [DY] at h
    refine ⟨_,H,?_,h⟩
    simp only [opF]; rw [hu]; exact oP _ _ _
  | alloc z=>
    have h':Bv H (.cells z true 0) (fun b H'=>k (.ptr b 0) H') = .ret r H':=h
    rw [uE] at h'
    exact ⟨_,_,by simp only [opF]; rw [Heap.newK_eq],h'⟩
  | box x=>
    obtain ⟨u,hu,h⟩:=fR le h
    rcases Z2 h with ⟨l,rfl,h5⟩ | ⟨h1,h2,h3,h⟩
    · replace h:=h5
      rw [uE] at h
      exact ⟨_,_,by simp only [opF]; rw [hu]; dsimp only [Km]; rw [Heap.newK_eq]; rfl,h⟩
    · rw [uE] at h
      exact ⟨_,_,by simp only [opF]; rw [hu]; dsimp only; rw [h3,h2]; dsimp only; rw [Heap.newK_eq],h⟩
  | build z parts=>
    obtain ⟨ps,hp,h⟩:=asK le h
    obtain ⟨l,hl,h⟩:=T2 h
    exact ⟨_,H,by simp only [opF]; rw [hp,hl],h⟩
  | buildSlice len z parts=>
    obtain ⟨ps,hp,h⟩:=asK le h
    obtain ⟨l,hl,h⟩:=T2 h
    rw [uE] at h
    exact ⟨_,_,by simp only [opF]; rw [hp,hl]; dsimp only; rw [Heap.newK_eq],h⟩
  | load n agg x=>
    obtain ⟨u,hu,h⟩:=fR le h
    obtain ⟨b,off,l,cs,v,rfl,hl,hc,hp,h⟩:=aip h
    exact ⟨v,H,by simp only [opF]; rw [hu]; dsimp only; rw [hl]; dsimp only; rw [hc]; dsimp only; rw [hp],h⟩
  | store n a x=>
    obtain ⟨a',ha,h⟩:=fR le h
    obtain ⟨u,hu,h⟩:=fR le h
    obtain ⟨b,off,rfl,h⟩:=N9 h
    obtain ⟨l,g,h,ho⟩:=axv h
    have fin:Km u=true→mv u.cells=n→off+n≤l.length→k .undef (H.set b (.cells (zP u.cells l off) true g)) = .ret r H'→∃ v H₁,opF (.store n a x) tm₀ H=some (v,H₁)∧k v H₁ = .ret r H':=by
      intro e1 e2 e3 e4
      refine ⟨_,_,?_,e4⟩
      simp only [opF]; rw [ha]; dsimp only; rw [hu]; dsimp only; rw [ho]
      have h2:(Km u&&mv u.cells==n&&Nat.ble (off+n) (mv l))=true:=by
        rw [e1,e2,jC l]; simp [e3]
      rw [h2]; dsimp only; rw [qQ,Heap.setK_eq]
    rcases Z2 h with ⟨cs,rfl,h5⟩ | ⟨h1,h2,h3,h⟩
    · obtain ⟨hn,h⟩:=qa h5
      have hn:=Nat.eq_of_beq_eq_true hn
      rw [afV] at h
      obtain ⟨hl,h⟩:=aiu h
      rw [O6] at h
      exact fin rfl hn (by rw [← hn,jC]; exact hl) h
    · obtain ⟨hn,h⟩:=qa h
      have hn:=Nat.eq_of_beq_eq_true hn
      rw [afZ] at h
      obtain ⟨hl,h⟩:=aiu h
      rw [O6] at h
      refine fin h3 (by rw [h2]; exact hn) (by omega) ?_
      rw [h2]; exact h
  | nilchk x=>
    obtain ⟨u,hu,h⟩:=fR le h
    obtain ⟨h1,h⟩:=apV h
    refine ⟨u,H,?_,h⟩
    simp only [opF]; rw [hu]
    rcases h1 with ⟨b,o,rfl⟩ | ⟨f,a,c,rfl⟩<;>rfl
  | fa d x=>
    obtain ⟨u,hu,h⟩:=fR le h
    obtain ⟨b,off,rfl,hz⟩:=N9 h
    replace h:=hz
    clear hz
    rw [gw] at h
    exact ⟨_,H,by simp only [opF]; rw [hu]; rfl,h⟩
  | iaS sz x i=>
    obtain ⟨u,hu,h⟩:=fR le h
    obtain ⟨v,hv,h⟩:=fR le h
    obtain ⟨_,i,rfl,hz⟩:=Qc h
    replace h:=hz
    clear hz
    obtain ⟨b,off,l,e,p,rfl,hz⟩:=avh h
    replace h:=hz
    clear hz
    obtain ⟨j,rfl,hz⟩:=ajs h
    replace h:=hz
    clear hz
    obtain ⟨h1,h⟩:=qa h
    rw [gw] at h
    exact ⟨_,H,by simp only [opF]; rw [hu]; dsimp only; rw [hv]; dsimp only; rw [wh,h1]; rfl,h⟩
  | iaA sz len x i=>
    obtain ⟨u,hu,h⟩:=fR le h
    obtain ⟨v,hv,h⟩:=fR le h
    obtain ⟨_,i,rfl,hz⟩:=Qc h
    replace h:=hz
    clear hz
    obtain ⟨b,off,rfl,hz⟩:=N9 h
    replace h:=hz
    clear hz
    obtain ⟨j,rfl,hz⟩:=ajs h
    replace h:=hz
    clear hz
    obtain ⟨h1,h⟩:=qa h
    rw [gw] at h
    exact ⟨_,H,by simp only [opF]; rw [hu]; dsimp only; rw [hv]; dsimp only; rw [wh,h1]; rfl,h⟩
  | idxA sz len agg x i=>
    obtain ⟨u,hu,h⟩:=fR le h
    obtain ⟨v,hv,h⟩:=fR le h
    obtain ⟨_,i,rfl,hz⟩:=Qc h
    replace h:=hz
    clear hz
    obtain ⟨cs,rfl,hz⟩:=au8 h
    replace h:=hz
    clear hz
    obtain ⟨j,rfl,hz⟩:=ajs h
    replace h:=hz
    clear hz
    obtain ⟨h1,h⟩:=qa h
    rw [gw] at h
    obtain ⟨l,hl,h⟩:=lc h
    obtain ⟨w,hw,h⟩:=lc h
    have hl':sub cs (j*sz) sz=some l:=hl
    exact ⟨w,H,by simp only [opF]; rw [hu]; dsimp only; rw [hv]; dsimp only; rw [wh,h1]; dsimp only; rw [hl']; dsimp only; rw [hw],h⟩
  | idxS x i=>
    obtain ⟨u,hu,h⟩:=fR le h
    obtain ⟨v,hv,h⟩:=fR le h
    obtain ⟨s,rfl,hz⟩:=ate h
    replace h:=hz
    clear hz
    obtain ⟨_,i,rfl,hz⟩:=Qc h
    replace h:=hz
    clear hz
    obtain ⟨j,rfl,hz⟩:=ajs h
    replace h:=hz
    clear hz
    obtain ⟨c,hc,h⟩:=lc h
    rw [gw] at h
    exact ⟨_,H,by simp only [opF]; rw [hu]; dsimp only; rw [hv]; dsimp only; rw [wh,hc]; rfl,h⟩
  | sl sk x lo hi mx=>
    obtain ⟨u,hu,h⟩:=fR le h
    obtain ⟨lo',h1,h⟩:=asZ le h
    obtain ⟨hi',h2,h⟩:=asZ le h
    obtain ⟨mx',h3,h⟩:=asZ le h
    obtain ⟨v,hv,h⟩:=lc h
    rw [pQ] at h
    exact ⟨v,H,by simp only [opF]; rw [hu]; dsimp only; rw [azW h1 h2 h3,hv],h⟩
  | ext ix x=>
    obtain ⟨u,hu,h⟩:=fR le h
    obtain ⟨vs,v,rfl,hv,hz⟩:=axg h
    replace h:=hz
    clear hz
    exact ⟨v,H,by simp only [opF]; rw [hu]; dsimp only; rw [hv],h⟩
  | mkfunc f a c=>
    obtain ⟨va,ha,h⟩:=aib le h
    obtain ⟨cs,hc,h⟩:=aib le h
    exact ⟨_,H,by simp only [opF]; rw [ha]; dsimp only; rw [hc],h⟩
  | mkmap=>
    have h':Bv H (.mp []) (fun b H'=>k (.map b) H') = .ret r H':=h
    rw [uE] at h'
    exact ⟨_,_,by simp only [opF]; rw [Heap.newK_eq],h'⟩
  | mk z len cap=>
    obtain ⟨u,hu,h⟩:=fR le h
    obtain ⟨v,hv,h⟩:=fR le h
    obtain ⟨_,l,rfl,hz⟩:=Qc h
    replace h:=hz
    clear hz
    obtain ⟨_,c,rfl,hz⟩:=Qc h
    replace h:=hz
    clear hz
    obtain ⟨l,rfl,hz⟩:=ajs h
    replace h:=hz
    clear hz
    obtain ⟨c,rfl,hz⟩:=ajs h
    replace h:=hz
    clear hz
    obtain ⟨h1,h⟩:=qa h
    rw [uE,gw] at h
    rw [aiv] at h1
    exact ⟨_,_,by simp only [opF]; rw [hu]; dsimp only; rw [hv]; dsimp only; rw [wh,wh,h1]; dsimp only; rw [Heap.newK_eq]; rfl,h⟩
  | lookup kk z ok m key=>
    obtain ⟨u,hu,h⟩:=fR le h
    obtain ⟨v,hv,h⟩:=fR le h
    obtain ⟨es,hes,h⟩:=lc h
    obtain ⟨e1,he,h⟩:=lc h
    obtain ⟨w,hw,h⟩:=lc h
    have pre:∀ {β:AV × Heap},(Option.casesOn w (some (if ok then .tuple [z,.bool false] else z,H)) fun x=>some (if ok then .tuple [x,.bool true] else x,H):Option (AV × Heap))=some β→opF (.lookup kk z ok m key) tm₀ H=some β:=by
      intro β hβ
      simp only [opF]; rw [hu]; dsimp only; rw [hv]
      cases u with
      | map b=>
        have hes':vc H b=some es:=hes
        dsimp only; rw [hes']; dsimp only; rw [he]; dsimp only; rw [hw]; exact hβ
      | nilmap=>
        have hes':some []=some es:=hes
        cases hes'
        dsimp only; rw [he]; dsimp only; rw [hw]; exact hβ
      | _=>cases hes
    cases w with
    | none=>cases ok<;>exact ⟨_,H,pre rfl,h⟩
    | some x=>cases ok<;>exact ⟨_,H,pre rfl,h⟩
  | mapset kk m key x=>
    obtain ⟨u,hu,h⟩:=fR le h
    obtain ⟨v,hv,h⟩:=fR le h
    obtain ⟨y,hy,h⟩:=fR le h
    obtain ⟨b,rfl,hz⟩:=avu h
    replace h:=hz
    clear hz
    obtain ⟨h1,h⟩:=UA h
    obtain ⟨es,hes,h⟩:=lc h
    obtain ⟨e1,he,h⟩:=lc h
    obtain ⟨es',hp,h⟩:=lc h
    rw [O6] at h
    exact ⟨_,_,by simp only [opF]; rw [hu]; dsimp only; rw [hv]; dsimp only; rw [hy]; dsimp only; rw [h1]; dsimp only; rw [hes]; dsimp only; rw [he]; dsimp only; rw [hp]; dsimp only; rw [Heap.setK_eq],h⟩
  | mapdel kk m key=>
    obtain ⟨u,hu,h⟩:=fR le h
    obtain ⟨v,hv,h⟩:=fR le h
    obtain ⟨H₁,h1,h⟩:=lc h
    refine ⟨_,H₁,?_,h⟩
    obtain ⟨e1,he,h2⟩:=cB h1
    clear h1
    simp only [opF]; rw [hu]; dsimp only; rw [hv]; dsimp only; rw [he]; dsimp only
    cases u with
    | map b=>
      have h1:(Bool.casesOn (Nat.blt b H.ro) (Option.casesOn (vc H b) none fun es=>Option.casesOn (delF kk v es) none fun es'=>H.setK b (.mp es') some) none:Option Heap)=some H₁:=h2
      cases hb:Nat.blt b H.ro with
      | true=>rw [hb] at h1; cases h1
      | false=>
        rw [hb] at h1
        obtain ⟨es,hes,h2⟩:=cB h1
        obtain ⟨es',hp,h3⟩:=cB h2
        rw [Heap.setK_eq] at h3
        cases h3
        dsimp only; rw [hes]; dsimp only; rw [hp]; dsimp only; rw [Heap.setK_eq,hb]
    | nilmap=>
      have h1:some H=some H₁:=h2
      cases h1; rfl
    | _=>cases h2
  | len lk x=>
    obtain ⟨u,hu,h⟩:=fR le h
    cases lk with
    | str=>
      obtain ⟨s,rfl,hz⟩:=ate h
      replace h:=hz
      clear hz
      have h':nf (mv s) (fun n=>k (.int .i64 (.ofNat n)) H) = .ret r H':=h
      rw [gw] at h'
      exact ⟨_,H,by simp only [opF]; rw [hu],h'⟩
    | arr n=>exact ⟨_,H,by simp only [opF]; rw [hu]; try rfl,h⟩
    | sl=>
      have h':fH u (fun n=>k (.int .i64 n) H) = .ret r H':=h
      cases u<;>first | exact ⟨_,H,by simp only [opF]; rw [hu]; try rfl,h'⟩ | cases h'
    | mp=>
      have h':oC (atB H u) (fun es=>nf (mv es) fun n=>k (.int .i64 (.ofNat n)) H) = .ret r H':=h
      obtain ⟨es,hes,h2⟩:=lc h'
      rw [gw] at h2
      cases u with
      | map b=>
        have hes':vc H b=some es:=hes
        exact ⟨_,H,by simp only [opF]; rw [hu]; dsimp only; rw [hes'],h2⟩
      | nilmap=>
        have hes':some []=some es:=hes
        cases hes'
        exact ⟨_,H,by simp only [opF]; rw [hu]; try rfl,h2⟩
      | _=>cases hes
  | minmax mx xs=>
    obtain ⟨vs,hv,h⟩:=aib le h
    cases vs with
    | nil=>cases h
    | cons v vs=>
      obtain ⟨w,hw,h⟩:=lc h
      exact ⟨w,H,by simp only [opF]; rw [hv]; dsimp only; rw [hw],h⟩
  | append sz s x=>
    obtain ⟨u,hu,h⟩:=fR le h
    obtain ⟨v,hv,h⟩:=fR le h
    obtain ⟨w,H₁,hw,h⟩:=YL h
    rw [pQ,yq] at h
    exact ⟨w,H₁,by simp only [opF]; rw [hu]; dsimp only; rw [hv]; exact hw,h⟩
  | copy sz d x=>
    obtain ⟨u,hu,h⟩:=fR le h
    obtain ⟨v,hv,h⟩:=fR le h
    obtain ⟨w,H₁,hw,h⟩:=YL h
    exact ⟨w,H₁,by simp only [opF]; rw [hu]; dsimp only; rw [hv]; exact hw,h⟩
  | clear z x=>
    obtain ⟨u,hu,h⟩:=fR le h
    obtain ⟨w,H₁,hw,h⟩:=YL h
    have hw':w = .undef:=by
      have h1:=hw
      unfold acd at h1
      split at h1
      · cases h1; rfl
      · cases h1; rfl
      · cases h1; rfl
      · split at h1
        · cases h1; rfl
        · obtain ⟨_,l,g,_,h2⟩:=TX h1
          obtain ⟨_,h3⟩:=ni h2
          rw [qQ,Heap.setK_eq] at h3
          cases h3; rfl
      · cases h1
    subst hw'
    exact ⟨_,H₁,by simp only [opF]; rw [hu]; exact hw,h⟩
end
end Go.Ai
