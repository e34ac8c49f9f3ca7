/- The interpreter in continuation style: instructions, code, calls. What it returns, the interpreter's calls return. -/
import Derived.Test.YtnlbfbiogfilfaaGreatAiXTbl
import Derived.Test.YtnlbfbiogfilfaaGreatAiInsert
import Derived.Lib.SlKeysI
import Derived.Test.YtnlbfbiogfilfaaGreatPaQCode
set_option linter.all false
namespace Go.Ai
section
variable {r:AV} {H':Heap} {tbl:Tr AFn} {tm:Tr AV} {H:Heap}
def CfOk (tbl:Tr AFn) (cf:dD):Prop:=∀ fv vs H k r H',H.ro≤H.nx→cf fv vs H k = .ret r H'→∃ n v H₁,call tbl n fv vs H = .ret v H₁∧k v H₁ = .ret r H'
theorem agi {d:Option P} {v:AV} {k:Tr AV→CRes} (h:as0 d v tm k = .ret r H'):k (tm.putO d v) = .ret r H':=by
  cases d with
  | none=>exact h
  | some p=>exact (aiG p v tm k).symm.trans h
theorem aAq {want:Bool} {v:AV} {y n:CRes} (h:wantX want v y n = .ret r H') :
    ∃ t,(match v with | .bool b=>some (b==want) | _=>some false)=some t∧(if t then y else n) = .ret r H':=by
  cases v with
  | bool b=>
    have h0:ifB (eqBB b want) y n = .ret r H':=h
    rw [awt,aiL] at h0
    exact ⟨b==want,rfl,h0⟩
  | _=>exact ⟨false,rfl,by rw [if_neg (by simp)]; exact h⟩
theorem ash {g:Gd} {y n:CRes} (h:azG g tm y n = .ret r H'):(yZ tm g=some true∧y = .ret r H')∨(yZ tm g=some false∧n = .ret r H'):=by
  cases g with
  | always=>exact .inl ⟨rfl,h⟩
  | on p want=>
    obtain ⟨v,hv,h⟩:=am3 (p:=p) h
    obtain ⟨t,h1,h2⟩:=aAq h
    have hw:yZ tm (.on p want)=some t:=by
      simp only [yZ]; rw [hv]; exact h1
    cases t with
    | true=>exact .inl ⟨hw,h2⟩
    | false=>exact .inr ⟨hw,h2⟩
variable {cf:dD} (hp:IE tbl) (hcf:CfOk tbl cf)
include hp hcf
theorem azL (hro:H.ro≤H.nx) {x:Ins} {k:KS} (h:insX cf x tm H k = .ret r H') :
    ∃ n v H₁,lT (call tbl n) x tm H=some (v,H₁)∧k (tm.putO x.dst v) H₁ = .ret r H':=by
  cases x with
  | op g d o=>
    rcases ash (y:=opX o tm H fun v H=>as0 d v tm fun tm=>k tm H) (n:=as0 d .undef tm fun tm=>k tm H) h with ⟨hw,h⟩ | ⟨hw,h⟩
    · obtain ⟨v,H₁,ho,h⟩:=aAD h
      exact ⟨0,v,H₁,by simp only [lT]; rw [hw]; exact ho,agi h⟩
    · exact ⟨0,.undef,H,by simp only [lT]; rw [hw],agi h⟩
  | call g d q f args=>
    rcases ash (y:=evX tm f fun fv=>evsX tm args fun vs=>
      ifB q (cf fv vs (H.shut true) fun v H'=>as0 d v tm fun tm=>k tm (H'.back H.ro)) (cf fv vs H fun v H'=>as0 d v tm fun tm=>k tm H')) (n:=as0 d .undef tm fun tm=>k tm H) h with ⟨hw,h⟩ | ⟨hw,h⟩
    · obtain ⟨fv,hf,h⟩:=fI h
      obtain ⟨vs,hv,h⟩:=af5 h
      cases q with
      | false=>
        obtain ⟨n,v,H₁,hc,h⟩:=hcf _ _ _ _ _ _ hro h
        have m:=aiR hp n _ _ _ _ _ hro hc
        have eb:H₁.back H.ro=H₁:=by
          have:=m.ro
          obtain ⟨t,nx,ro⟩:=H₁
          dsimp only at this; subst this; rfl
        refine ⟨n,v,H₁,?_,agi h⟩
        have hc':call tbl n fv vs (H.shut false) = .ret v H₁:=hc
        simp only [lT]; rw [hw]; dsimp only; rw [hf,hv]; dsimp only; rw [hc']; dsimp only; rw [eb]
      | true=>
        obtain ⟨n,v,H₁,hc,h⟩:=hcf _ _ _ _ _ _ (by simp [Heap.shut]) h
        refine ⟨n,v,H₁.back H.ro,?_,agi h⟩
        simp only [lT]; rw [hw]; dsimp only; rw [hf,hv]; dsimp only; rw [hc]
    · exact ⟨0,.undef,H,by simp only [lT]; rw [hw],agi h⟩
omit hcf in
theorem insV_ro {x:Ins} {H₁:Heap} {n:Nat} {v:AV} (hro:H.ro≤H.nx) (h:lT (call tbl n) x tm H=some (v,H₁)):H₁.ro≤H₁.nx:=by
  have m:=OI (aiR hp n) hro h
  rw [m.ro]; exact Nat.le_trans hro m.nx
theorem ar3:∀ {l:List Ins} {tm:Tr AV} {H:Heap} {k:KS},H.ro≤H.nx→regX cf l tm H k = .ret r H'→WpR tbl l ⟨tm,H⟩ fun s=>s.hp.ro≤s.hp.nx∧k s.tm s.hp = .ret r H'
  | [],tm,H,k,hro,h=>WpR.nil ⟨hro,h⟩
  | x::l,tm,H,k,hro,h=>by
    obtain ⟨n,v,H₁,h1,h2⟩:=azL hp hcf hro (x:=x) h
    exact WpR.cons h1 (ar3 (insV_ro hp hro h1) h2)
def goesX (kn:KS) (ke:Nat→KS) (kr:KS):Ex→KS
  | .nrm=>kn
  | .exi i=>ke i
  | .ret=>kr
theorem ays {n:Nat}:∀ {c:AC} {kn:KS} {ke:Nat→KS} {kr:KS} {tm:Tr AV} {H:Heap},H.ro≤H.nx→avv cf n c kn ke kr tm H = .ret r H'→
    Wp tbl c ⟨tm,H⟩ fun e s=>s.hp.ro≤s.hp.nx∧goesX kn ke kr e s.tm s.hp = .ret r H':=by
  intro c
  induction c with
  | skip=>intro kn ke kr tm H hro h; exact Wp.skip ⟨hro,h⟩
  | reg l=>intro kn ke kr tm H hro h; exact Wp.reg (ar3 hp hcf hro h)
  | regU l=>intro kn ke kr tm H hro h; cases h
  | seq a b iha ihb=>
    intro kn ke kr tm H hro h
    refine Wp.seq ((iha hro h).mono fun e s hq=>?_)
    obtain ⟨hro',h'⟩:=hq
    cases e with
    | nrm=>exact ihb hro' h'
    | exi i=>exact ⟨hro',h'⟩
    | ret=>exact ⟨hro',h'⟩
  | cond c a b iha ihb=>
    intro kn ke kr tm H hro h
    have h0:evX tm c (fun v=>Te v fun t=>ifB t (avv cf n a kn ke kr tm H) (avv cf n b kn ke kr tm H)) = .ret r H':=h
    obtain ⟨v,hv,h1⟩:=fI h0
    obtain ⟨t,rfl,h2⟩:=Np h1
    cases t with
    | true=>exact Wp.cond hv (iha hro h2)
    | false=>exact Wp.cond hv (ihb hro h2)
  | block id a iha=>
    intro kn ke kr tm H hro h
    refine Wp.block ((iha hro h).mono fun e s hq=>?_)
    obtain ⟨hro',h'⟩:=hq
    cases e with
    | nrm=>exact ⟨hro',h'⟩
    | exi i=>
      have h2:ifB (Nat.beq i id) (kn s.tm s.hp) (ke i s.tm s.hp) = .ret r H':=h'
      show if i=id then _ else _
      by_cases hi:i=id
      · rw [if_pos hi]
        have:Nat.beq i id=true:=by rw [hi]; exact Nat.beq_refl _
        rw [this] at h2
        exact ⟨hro',h2⟩
      · rw [if_neg hi]
        have:Nat.beq i id=false:=by cases hb:Nat.beq i id with
          | false=>rfl
          | true=>exact (hi (Nat.eq_of_beq_eq_true hb)).elim
        rw [this] at h2
        exact ⟨hro',h2⟩
    | ret=>exact ⟨hro',h'⟩
  | loop a iha=>
    intro kn ke kr tm H hro h
    have go:∀ (m:Nat) (tm:Tr AV) (H:Heap),H.ro≤H.nx→loopX (fun F=>avv cf n a F ke kr) m tm H = .ret r H'→
        Wp tbl (.loop a) ⟨tm,H⟩ fun e s=>s.hp.ro≤s.hp.nx∧goesX kn ke kr e s.tm s.hp = .ret r H':=by
      intro m
      induction m with
      | zero=>intro tm H _ h; cases h
      | succ m ihm=>
        intro tm H hro h
        refine Wp.round ((iha hro (kn:=loopX (fun F=>avv cf n a F ke kr) m) h).mono fun e s hq=>?_)
        obtain ⟨hro',h'⟩:=hq
        cases e with
        | nrm=>exact ihm s.tm s.hp hro' h'
        | exi i=>exact ⟨hro',h'⟩
        | ret=>exact ⟨hro',h'⟩
    exact go n tm H hro h
  | exit id=>intro kn ke kr tm H hro h; exact Wp.exit ⟨hro,h⟩
  | ret=>intro kn ke kr tm H hro h; exact Wp.ret ⟨hro,h⟩
omit hp hcf
theorem avI:∀ {ps:List P} {vs:List AV} {tm:Tr AV} {k:Tr AV→CRes},bindX ps vs tm k = .ret r H'→∃ tm',MA ps vs tm none some=some tm'∧k tm' = .ret r H'
  | [],[],tm,k,h=>⟨tm,rfl,h⟩
  | [],_::_,tm,k,h=>by cases h
  | _::_,[],tm,k,h=>by cases h
  | p::ps,v::vs,tm,k,h=>by
    have h0:setV p v tm (fun tm=>bindX ps vs tm k) = .ret r H':=h
    rw [aiG] at h0
    obtain ⟨tm',h1,h2⟩:=avI h0
    refine ⟨tm',?_,h2⟩
    show Tr.setK p v tm (fun tm'=>MA ps vs tm' none some)=_
    rw [Tr.setK_eq]; exact h1
theorem axk:∀ {rs:List Rv} {k:List AV→CRes},resX tm H rs k = .ret r H'→∃ vs,abH ⟨tm,H⟩ rs=some vs∧k vs = .ret r H'
  | [],k,h=>⟨[],rfl,h⟩
  | x::rs,k,h=>by
    have key:∃ v,resV ⟨tm,H⟩ x=some v∧resX tm H rs (fun vs=>k (v::vs)) = .ret r H':=by
      cases x with
      | t p=>exact am3 (p:=p) h
      | cell p n agg=>
        obtain ⟨u,hu,h1⟩:=am3 (p:=p) h
        obtain ⟨b,off,l,cs,v,rfl,hl,hc,hv,h2⟩:=aip h1
        refine ⟨v,?_,h2⟩
        simp only [resV]; rw [hu]; dsimp only; rw [hl]; dsimp only; rw [hc]; exact hv
    obtain ⟨v,hv,h1⟩:=key
    obtain ⟨vs,h3,h4⟩:=axk h1
    refine ⟨v::vs,?_,h4⟩
    show (Option.casesOn (resV ⟨tm,H⟩ x) none fun v=>Option.casesOn (abH ⟨tm,H⟩ rs) none fun us=>some (v::us):Option (List AV))=_
    rw [hv,h3]
theorem oneX_eq (vs:List AV):oneX vs=one vs:=by
  match vs with
  | []=>rfl
  | [v]=>rfl
  | _::_::_=>rfl
theorem axG {rs:List Rv} {k:AV→Heap→CRes} (h:finX rs k tm H = .ret r H'):∃ vs,abH ⟨tm,H⟩ rs=some vs∧k (one vs) H = .ret r H':=by
  obtain ⟨vs,h1,h2⟩:=axk h
  exact ⟨vs,h1,by rw [← oneX_eq]; exact h2⟩
def aox (tbl:Tr AFn) (find:Nat→(AFn→CRes)→CRes):Prop:=∀ f k r H',find f k = .ret r H'→∃ fn,tbl.get (key f)=some fn∧k fn = .ret r H'
theorem ayd (hp:IE tbl) {find:Nat→(AFn→CRes)→CRes} (hf:aox tbl find) {n:Nat}:∀ m,CfOk tbl (callX find n m):=by
  intro m
  induction m with
  | zero=>intro fv vs H k r H' _ h; cases h
  | succ m ih=>
    intro fv vs H k r H' hro h
    cases fv with
    | func f first cap=>
      obtain ⟨fn,hfn,h1⟩:=hf _ _ _ _ h
      rw [jz,jz] at h1
      cases fn with
      | code ps body res=>
        obtain ⟨tm,hb,h2⟩:=avI h1
        obtain ⟨N,e,s,h3,_,h4⟩:=ays hp ih hro h2
        cases e with
        | nrm=>
          obtain ⟨us,h5,h6⟩:=axG h4
          exact ⟨N,one us,s.hp,NL hfn hb h3 (.inl rfl) h5,h6⟩
        | ret=>
          obtain ⟨us,h5,h6⟩:=axG h4
          exact ⟨N,one us,s.hp,NL hfn hb h3 (.inr rfl) h5,h6⟩
        | exi i=>cases h4
      | prim g=>
        have h2:(CRes.rec (motive:=fun _=>CRes) .err (fun v H=>k v H) (g (first++(vs++cap)) H):CRes) = .ret r H':=h1
        cases hg:g (first++(vs++cap)) H with
        | err=>rw [hg] at h2; cases h2
        | ret v H₁=>
          rw [hg] at h2
          refine ⟨0,v,H₁,?_,h2⟩
          show td tbl _ _ _ _=_
          simp only [td,hfn,jz,id,hg]
    | _=>cases h
end
end Go.Ai
/- The table of all functions that the compiler takes, found by compiling. -/
namespace Go.Ai
noncomputable def arL (f:Nat) (g:List AV→Heap→CRes) (find:Nat→(AFn→CRes)→CRes) (f':Nat) (k:AFn→CRes):CRes:=ifB (Nat.beq f' f) (k (.prim g)) (find f' k)
theorem ayJ {tbl:Tr AFn} {f:Nat} {g:List AV→Heap→CRes} {find:Nat→(AFn→CRes)→CRes} (h:aox tbl find):aox (tbl.set (key f) (.prim g)) (arL f g find):=fun f' k r H' h'=>by
  unfold arL at h'
  cases hb:Nat.beq f' f with
  | true=>
    rw [hb] at h'
    have:=Nat.eq_of_beq_eq_true hb
    subst this
    exact ⟨_,Tr.get_set_same _ _ _,h'⟩
  | false=>
    rw [hb] at h'
    obtain ⟨fn,h1,h2⟩:=h f' k r H' h'
    refine ⟨fn,?_,h2⟩
    rw [Tr.get_set_other (fun e=>by have:=G5 e; subst this; rw [Nat.beq_refl] at hb; cases hb)]
    exact h1
end Go.Ai
/- A call of plain values whose run from an empty heap is known: it answers so from every heap. -/
namespace Go.Ai
theorem Ext.of_below' {M:Mp} {D:Nat→Prop} {K:Heap} {w W:World} (hs:w.heap.size≤W.heap.size) (hf:∀ c,c<w.heap.size→W.heap[c]?=w.heap[c]?) (ho:W.os=w.os) (ht:W.tape=w.tape) (hp:W.output=w.output):Ext M D K w M D K W:={
  keep:=fun _ h=>h
  agree:=fun _ _=>rfl
  old:=fun _ h _=>h
  nx:=Nat.le_refl _
  wrm:=fun _ _ h=>h
  newb:=fun _ h hn=>(hn h).elim
  frame:=fun c hc _=>hf c hc
  unm:=fun _ _ _=>rfl
  size:=hs
  os:=ho
  tape:=ht
  output:=hp }
theorem Rel.of_below' {M:Mp} {D:Nat→Prop} {K:Heap} {w W:World} (hr:Rel M D K w) (hs:w.heap.size≤W.heap.size) (hf:∀ c,c<w.heap.size→W.heap[c]?=w.heap[c]?):Rel M D K W:=
  ⟨hr.dom,fun b hb=>(hr.blk b hb).keep (fun _ h=>h) (fun _ _=>rfl) (fun hl=>hf _ ((hr.blk b hb).lt hl)) hs,hr.inj⟩
def ala:AV→Bool
  | .int _ _=>true
  | .bool _=>true
  | .str _=>true
  | _=>false
def azq:AV→Bool
  | .tuple l=>l.all ala
  | v=>ala v
theorem axF {v:AV} (h:ala v=true) (M M':Mp):bF M v=bF M' v:=by cases v<;>first | rfl | cases h
theorem avd {v:AV} (h:ala v=true) (D:Nat→Prop):okv D v:=by cases v<;>first | exact trivial | (simp [okv]; done) | cases h
theorem ayu {v:AV} (h:azq v=true) (M M':Mp):bF M v=bF M' v:=by
  cases v with
  | tuple l=>
    have h:l.all ala=true:=h
    simp only [bF,lX]
    congr 2
    exact List.map_congr_left fun x hx=>axF (List.all_eq_true.1 h x hx) M M'
  | int _ _=>rfl
  | bool _=>rfl
  | str _=>rfl
  | _=>cases h
theorem aBn {v:AV} (h:azq v=true) (D:Nat→Prop):okv D v:=by
  cases v with
  | tuple l=>
    have h:l.all ala=true:=h
    simp only [okv]
    exact (py D _).2 fun x hx=>avd (List.all_eq_true.1 h x hx) D
  | int _ _=>simp [okv]
  | bool _=>simp [okv]
  | str _=>simp [okv]
  | _=>cases h
noncomputable def sameV:AV→AV→Bool
  | .int q a,.int q' b=>ikN q==ikN q'&&decide (a=b)
  | .bool a,.bool b=>a==b
  | _,_=>false
noncomputable def sameL (l:List AV):List AV→Bool:=List.rec (motive:=fun _=>List AV→Bool) (fun l'=>List.rec (motive:=fun _=>Bool) true (fun _ _ _=>false) l')
  (fun a _ ih l'=>List.rec (motive:=fun _=>Bool) false (fun b t _=>andB (sameV a b) (ih t)) l') l
theorem sameV_ok {a b:AV} (h:sameV a b=true):a=b:=by
  unfold sameV at h
  split at h
  · simp only [Bool.and_eq_true,beq_iff_eq,decide_eq_true_eq] at h
    rename_i q a q' b
    have:q=q':=aro (by show Nat.beq _ _=true; rw [h.1]; exact Nat.beq_refl _)
    rw [this,h.2]
  · simp only [beq_iff_eq] at h; rw [h]
  · cases h
theorem axB:∀ {l l':List AV},sameL l l'=true→l=l'
  | [],[],_=>rfl
  | [],_::_,h=>by cases h
  | _::_,[],h=>by cases h
  | a::l,b::l',h=>by
    have h0:andB (sameV a b) (sameL l l')=true:=h
    rw [aiv,Bool.and_eq_true] at h0
    rw [sameV_ok h0.1,axB h0.2]
noncomputable def avc (vs:List AV) (u:AV) (args:List AV) (H:Heap):CRes:=ifB (sameL vs args) (.ret u H) .err
theorem au6 {vs:List AV} {u:AV} {args:List AV} {H H':Heap} {v:AV} (h:avc vs u args H = .ret v H'):args=vs∧v=u∧H'=H:=by
  unfold avc at h
  rw [awt] at h
  split at h
  · rename_i hs
    cases h
    exact ⟨(axB hs).symm,rfl,rfl⟩
  · cases h
theorem azk {vs:List AV} {u:AV} {args:List AV} {H H':Heap} {v:AV} (h:avc vs u args H = .ret v H'):Mono H H':=by
  obtain ⟨_,_,rfl⟩:=au6 h
  exact .refl
theorem memo_ok {P:Program} {tbl:Tr AFn} (T:TblOk P tbl) {find:Nat→(AFn→CRes)→CRes} (hf:aox tbl find) {n m f:Nat} {vs:List AV} {u:AV} (hv:vs.all ala=true) (hu:azq u=true)
    (h:∀ J:AV→CRes,callX find n m (.func f [] []) vs ⟨.leaf,0,0⟩ (fun v _=>J v)=J u):asp P f (avc vs u):=by
  obtain ⟨N,v,H₁,h1,h2⟩:=ayd T.mono hf (n:=n) m (.func f [] []) vs ⟨.leaf,0,0⟩ (fun v _=>.ret v ⟨.leaf,0,0⟩) u ⟨.leaf,0,0⟩ (Nat.le_refl _) (h fun v=>.ret v ⟨.leaf,0,0⟩)
  cases h2
  intro args H v H' hg M D w hp hr hok
  obtain ⟨rfl,rfl,rfl⟩:=au6 hg
  obtain ⟨f',first,cap,hfv,hc⟩:=az9 T N _ _ _ _ _ h1
  cases hfv
  have hge:∀ b,(⟨.leaf,0,0⟩:Heap).get b=none:=fun b=>Tr.get_leaf _
  have hr0:Rel M (fun _=>False) ⟨.leaf,0,0⟩ w:=⟨fun _ h=>h.elim,fun _ h=>h.elim,fun _ _ h=>h.elim⟩
  obtain ⟨_,hcalls⟩:=hc M (fun _=>False) w ⟨Nat.le_refl _,fun b hb=>by rw [hge] at hb; exact hb.1.elim⟩ hr0
    ((py _ _).2 fun x hx=>by
      have hx':x∈args:=by simpa using hx
      exact avd (List.all_eq_true.1 hv x hx') _)
  refine Calls.mono (by simpa using hcalls) fun e w' hpost=>?_
  obtain ⟨M',D',he,_,hx,_⟩:=hpost
  have hfr:∀ c,c<w.heap.size→w'.heap[c]?=w.heap[c]?:=fun c hc=>hx.frame c hc fun _ h=>h.elim
  exact ⟨M,D,by rw [he,ayu hu M' M],hr.of_below' hx.size hfr,Ext.of_below' hx.size hfr hx.os hx.tape hx.output,aBn hu D⟩
end Go.Ai
/- The sorted keys of a map, for the interpreter, however many: what the library's slices.Sorted makes of what maps.Keys hands back. -/
namespace Go.Ai
abbrev I64N (x:Int):AV:=.int .i64 x
def ajS (x:Int):Prop := -9223372036854775808≤x∧x≤9223372036854775807
noncomputable def axM (x:Int) (l:List Int):List Int:=List.rec (motive:=fun _=>List Int) [x] (fun a t ih=>Bool.casesOn (ltF a x) (x::a::t) (a::ih)) l
noncomputable def D7 (l:List Int):List Int:=List.rec (motive:=fun _=>List Int) [] (fun a _ ih=>axM a ih) l
noncomputable def an8 (l:List Int):Bool:=List.rec (motive:=fun _=>Bool) true (fun a t ih=>List.casesOn t true fun b _=>Bool.casesOn (ltF a b) false ih) l
theorem att (x:Int) (l:List Int):(axM x l).Perm (x::l):=by
  induction l with
  | nil=>exact .refl _
  | cons a t ih=>
    show (Bool.casesOn (ltF a x) (x::a::t) (a::axM x t):List Int).Perm _
    cases ltF a x
    · exact .refl _
    · exact (List.Perm.cons a ih).trans (List.Perm.swap x a t)
theorem Dp (l:List Int):(D7 l).Perm l:=by
  induction l with
  | nil=>exact .refl _
  | cons a t ih=>exact (att a (D7 t)).trans (List.Perm.cons a ih)
theorem acQ:∀ {l:List Int},an8 l=true→l.Pairwise (· < ·)
  | [],_=>.nil
  | [a],_=>by simp
  | a::b::t,h=>by
    have h':(Bool.casesOn (ltF a b) false (an8 (b::t)):Bool)=true:=h
    rw [y4] at h'
    by_cases hab:a<b
    · rw [show decide (a<b)=true by simpa using hab] at h'
      have ih:=acQ (l:=b::t) h'
      refine List.pairwise_cons.2 ⟨fun c hc=>?_,ih⟩
      rcases List.mem_cons.1 hc with rfl | hc
      · exact hab
      · exact Int.lt_trans hab ((List.pairwise_cons.1 ih).1 c hc)
    · rw [show decide (a<b)=false by simpa using hab] at h'
      cases h'
noncomputable def agR (es:List (AV × AV)):Option (List Int):=List.rec (motive:=fun _=>Option (List Int)) (some [])
  (fun e _ ih=>match e.1 with
    | .int .i64 x=>match ltF x (-9223372036854775808),ltF 9223372036854775807 x with
      | false,false=>Option.casesOn ih none fun l=>some (x::l)
      | _,_=>none
    | _=>none) es
theorem ap3:∀ {es:List (AV × AV)} {zs:List Int},agR es=some zs→es.map (·.1)=zs.map I64N∧∀ x∈zs,ajS x
  | [],zs,h=>by
    have h':some []=some zs:=h
    cases h'; simp
  | e::es,zs,h=>by
    have h':(match e.1 with
      | .int .i64 x=>match ltF x (-9223372036854775808),ltF 9223372036854775807 x with
        | false,false=>Option.casesOn (agR es) none fun l=>some (x::l)
        | _,_=>none
      | _=>none:Option (List Int))=some zs:=h
    split at h'
    · rename_i x hx
      split at h'
      · rename_i h1 h2
        obtain ⟨l,hl,h3⟩:=cB h'
        cases h3
        obtain ⟨i1,i2⟩:=ap3 hl
        rw [y4] at h1 h2
        refine ⟨by simp [hx,i1],fun y hy=>?_⟩
        rcases List.mem_cons.1 hy with rfl | hy
        · unfold ajS; simp at h1 h2; omega
        · exact i2 y hy
      · cases h'
    · cases h'
noncomputable def afv (keysF:Nat) (args:List AV) (H:Heap):Option (AV × Heap):=match args with
  | [.func f [] [.ptr b off]]=>Bool.casesOn (Nat.beq f keysF) none
    (Option.casesOn (ol H b) none fun l=>Option.casesOn (nth l off) none fun v=>match v with
      | .map m=>Option.casesOn (vc H m) none fun es=>Option.casesOn (agR es) none fun zs=>
        Bool.casesOn (Nat.beq (mv zs) 0) (Bool.casesOn (an8 (D7 zs)&&Nat.ble (mv zs) 1000000) none
          (H.newK (.cells (mapK I64N (D7 zs)) true 1) fun c H'=>some (.slice c 0 (mv zs) 0 true,H'))) (some (.nilslice,H))
      | _=>none)
  | _=>none
noncomputable def U5 (keysF:Nat) (args:List AV) (H:Heap):CRes:=match afv keysF args H with
  | some r=>.ret r.1 r.2
  | none=>.err
theorem akU {keysF:Nat} {args:List AV} {H H':Heap} {v:AV} (h:U5 keysF args H = .ret v H'):∃ b off l m es zs,args = [.func keysF [] [.ptr b off]]∧ol H b=some l∧l[off]?=some (.map m)∧vc H m=some es∧agR es=some zs∧
    ((zs = []∧v = .nilslice∧H'=H)∨((D7 zs).Pairwise (· < ·)∧zs.length≤1000000∧1≤zs.length∧v = .slice H.nx 0 zs.length 0 true∧H'=H.add (.cells ((D7 zs).map I64N) true 1))):=by
  unfold U5 at h
  split at h
  · rename_i r hr
    cases h
    unfold afv at hr
    split at hr
    · rename_i f b off
      obtain ⟨hf,h1⟩:=ni hr
      obtain ⟨l,hl,h2⟩:=cB h1
      obtain ⟨u,hu,h3⟩:=cB h2
      clear hr h1 h2
      split at h3
      · rename_i m
        obtain ⟨es,hes,h4⟩:=cB h3
        obtain ⟨zs,hzs,h5⟩:=cB h4
        rw [azB] at hu
        have hf:=Nat.eq_of_beq_eq_true hf
        subst hf
        refine ⟨b,off,l,m,es,zs,rfl,hl,hu,hes,hzs,?_⟩
        cases h0:Nat.beq (mv zs) 0 with
        | true=>
          rw [h0] at h5
          cases h5
          have:=Nat.eq_of_beq_eq_true h0
          rw [jC] at this
          exact .inl ⟨List.eq_nil_of_length_eq_zero this,rfl,rfl⟩
        | false=>
          rw [h0] at h5
          obtain ⟨hb,h6⟩:=ni h5
          rw [Heap.newK_eq,awh,jC] at h6
          cases h6
          simp only [Bool.and_eq_true,Nat.ble_eq,jC] at hb
          refine .inr ⟨acQ hb.1,hb.2,?_,rfl,rfl⟩
          cases zs with
          | nil=>cases h0
          | cons z zs=>simp
      · cases h3
    · cases hr
  · cases h
theorem auw {keysF:Nat} {args:List AV} {H H':Heap} {v:AV} (hr:H.ro≤H.nx) (h:U5 keysF args H = .ret v H'):Mono H H':=by
  obtain ⟨b,off,l,m,es,zs,_,_,_,_,_,hor⟩:=akU h
  rcases hor with ⟨_,_,rfl⟩ | ⟨_,_,_,_,rfl⟩
  · exact .refl
  · exact Mono.add hr (pP _ _)
theorem amI {x:Int}:∀ {l:List Int},l.Pairwise (· < ·)→x∉l→(axM x l).Pairwise (· < ·)
  | [],_,_=>by show [x].Pairwise _; simp
  | a::t,h,hx=>by
    show (Bool.casesOn (ltF a x) (x::a::t) (a::axM x t):List Int).Pairwise _
    rw [y4]
    by_cases e:a<x
    · rw [show decide (a<x)=true by simpa using e]
      obtain ⟨h1,h2⟩:=List.pairwise_cons.1 h
      refine List.pairwise_cons.2 ⟨fun y hy=>?_,amI h2 fun hm=>hx (List.mem_cons_of_mem _ hm)⟩
      rcases List.mem_cons.1 ((att x t).mem_iff.1 hy) with rfl | hy
      · exact e
      · exact h1 y hy
    · rw [show decide (a<x)=false by simpa using e]
      have hne:a≠x:=fun e'=>hx (by rw [e']; exact List.mem_cons_self ..)
      refine List.pairwise_cons.2 ⟨fun y hy=>?_,h⟩
      rcases List.mem_cons.1 hy with rfl | hy
      · omega
      · have:=(List.pairwise_cons.1 h).1 y hy; omega
theorem XE:∀ {l:List Int},l.Nodup→(D7 l).Pairwise (· < ·)
  | [],_=>by show ([]:List Int).Pairwise _; exact .nil
  | a::t,h=>by
    obtain ⟨h1,h2⟩:=List.nodup_cons.1 h
    exact amI (XE h2) fun hm=>h1 ((Dp t).mem_iff.1 hm)
theorem apH:∀ {l:List Int},l.Pairwise (· < ·)→an8 l=true
  | [],_=>rfl
  | [a],_=>rfl
  | a::b::t,h=>by
    obtain ⟨h1,h2⟩:=List.pairwise_cons.1 h
    show (Bool.casesOn (ltF a b) false (an8 (b::t)):Bool)=true
    rw [y4,show decide (a<b)=true by simpa using h1 b (List.mem_cons_self ..)]
    exact apH h2
end Go.Ai
/- The functions that the printed text does not reach into. -/
namespace Go.Proofs.YtnlbfbiogfilfaaGreat.Sh
open Go.Ai
abbrev oj:Nat:=6
abbrev qO:Nat:=60
abbrev lO:Nat:=81
noncomputable abbrev oA:List AV→Heap→CRes:=O0
noncomputable abbrev lM:List AV→Heap→CRes:=U5 76
noncomputable abbrev oh:List AV→Heap→CRes:=avc [] (.bool true)
end Go.Proofs.YtnlbfbiogfilfaaGreat.Sh
