/- The interpreter in continuation style, for long runs by the kernel: what it returns, the interpreter's calls return. -/
import Derived.Test.YtnlbfbiogfilfaaGreatAiCpsOk
import Derived.Test.YtnlbfbiogfilfaaGreatAiCallSym
set_option linter.all false
namespace Go.Ai
noncomputable def getV:P→Tr AV→(AV→CRes)→CRes:=P.rec (motive:=fun _=>Tr AV→(AV→CRes)→CRes)
  (Tr.rec (motive:=fun _=>(AV→CRes)→CRes) (fun _=>.err) (fun _ v _ _ _ k=>oC v k))
  (fun _ ih=>Tr.rec (motive:=fun _=>(AV→CRes)→CRes) (fun _=>.err) (fun l _ _ _ _ k=>ih l k))
  (fun _ ih=>Tr.rec (motive:=fun _=>(AV→CRes)→CRes) (fun _=>.err) (fun _ _ r _ _ k=>ih r k))
noncomputable def setV:P→AV→Tr AV→(Tr AV→CRes)→CRes:=P.rec (motive:=fun _=>AV→Tr AV→(Tr AV→CRes)→CRes)
  (fun x=>Tr.rec (motive:=fun _=>(Tr AV→CRes)→CRes) (fun k=>k (.node .leaf (some x) .leaf)) (fun l _ r _ _ k=>k (.node l (some x) r)))
  (fun _ ih x=>Tr.rec (motive:=fun _=>(Tr AV→CRes)→CRes) (fun k=>ih x .leaf fun l=>k (.node l none .leaf)) (fun l v r _ _ k=>ih x l fun l=>k (.node l v r)))
  (fun _ ih x=>Tr.rec (motive:=fun _=>(Tr AV→CRes)→CRes) (fun k=>ih x .leaf fun r=>k (.node .leaf none r)) (fun l v r _ _ k=>ih x r fun r=>k (.node l v r)))
noncomputable def evX (tm:Tr AV) (x:Opd):(AV→CRes)→CRes:=Opd.rec (motive:=fun _=>(AV→CRes)→CRes) (fun p k=>getV p tm k) (fun v k=>k v) x
noncomputable def evsX (tm:Tr AV):List Opd→(List AV→CRes)→CRes:=List.rec (motive:=fun _=>(List AV→CRes)→CRes) (fun k=>k []) (fun x _ ih k=>evX tm x fun v=>ih fun vs=>k (v::vs))
noncomputable def evOX (tm:Tr AV) (x:Option Opd):(Option AV→CRes)→CRes:=Option.rec (motive:=fun _=>(Option AV→CRes)→CRes) (fun k=>k none) (fun x k=>evX tm x fun v=>k (some v)) x
noncomputable def evPX (tm:Tr AV):List (Nat × Nat × Opd)→(List (Nat × Nat × AV)→CRes)→CRes:=
  List.rec (motive:=fun _=>(List (Nat × Nat × AV)→CRes)→CRes) (fun k=>k []) (fun x _ ih k=>evX tm x.2.2 fun v=>ih fun vs=>k ((x.1,x.2.1,v)::vs))
noncomputable def fbX (b:Bool) (k:AV→CRes):CRes:=ifB b (k (.bool true)) (k (.bool false))
noncomputable def amP:AV→(IntKind→Int→CRes)→CRes:=AV.rec (motive_1:=fun _=>(IntKind→Int→CRes)→CRes) (motive_2:=fun _=>Unit) (fun _ _=>.err) (fun q n k=>k q n) (fun _ _=>.err) (fun _ _ _=>.err) (fun _=>.err) (fun _ _ _ _ _ _=>.err) (fun _ _ _ _=>.err) (fun _=>.err) (fun _ _=>.err) (fun _=>.err) (fun _ _ _ _ _ _=>.err) (fun _=>.err) (fun _ _ _ _=>.err) (fun _=>.err) (fun _ _ _=>.err) (fun _ _ _=>.err) () (fun _ _ _ _=>())
noncomputable def binIX:BinOp→IntKind→IntKind→Int→Int→(AV→CRes)→CRes:=BinOp.rec (motive:=fun _=>IntKind→IntKind→Int→Int→(AV→CRes)→CRes)
  (fun q q' a b k=>ifB (Da q q') (lp q a b fun n=>k (.int q n)) .err)
  (fun q q' a b k=>ifB (Da q q') (YK q a b fun n=>k (.int q n)) .err)
  (fun q q' a b k=>ifB (Da q q') (Ve q a b fun n=>k (.int q n)) .err)
  (fun q q' a b k=>ifB (Da q q') (quoK q a b fun n=>k (.int q n)) .err)
  (fun q q' a b k=>ifB (Da q q') (asT q a b fun n=>k (.int q n)) .err)
  (fun q q' a b k=>ifB (Da q q') (aol .and q a b fun n=>k (.int q n)) .err)
  (fun q q' a b k=>ifB (Da q q') (aol .or q a b fun n=>k (.int q n)) .err)
  (fun q q' a b k=>ifB (Da q q') (aol .xor q a b fun n=>k (.int q n)) .err)
  (fun q _ a b k=>al0 q a b fun n=>k (.int q n))
  (fun q _ a b k=>shrK q a b fun n=>k (.int q n))
  (fun q q' a b k=>ifB (Da q q') (aol .andNot q a b fun n=>k (.int q n)) .err)
  (fun q q' a b k=>ifB (Da q q') (fbX (eqF a b) k) .err)
  (fun q q' a b k=>ifB (Da q q') (fbX (fS (eqF a b)) k) .err)
  (fun q q' a b k=>ifB (Da q q') (fbX (ltF a b) k) .err)
  (fun q q' a b k=>ifB (Da q q') (fbX (fS (ltF b a)) k) .err)
  (fun q q' a b k=>ifB (Da q q') (fbX (ltF b a) k) .err)
  (fun q q' a b k=>ifB (Da q q') (fbX (fS (ltF a b)) k) .err)
noncomputable def binSX:BinOp→List UInt8→List UInt8→(AV→CRes)→CRes:=BinOp.rec (motive:=fun _=>List UInt8→List UInt8→(AV→CRes)→CRes)
  (fun a b k=>catK a b fun n=>k (.str n)) (fun _ _ _=>.err) (fun _ _ _=>.err) (fun _ _ _=>.err) (fun _ _ _=>.err) (fun _ _ _=>.err) (fun _ _ _=>.err) (fun _ _ _=>.err) (fun _ _ _=>.err) (fun _ _ _=>.err) (fun _ _ _=>.err) (fun a b k=>fbX (CU a b) k) (fun a b k=>fbX (fS (CU a b)) k) (fun _ _ _=>.err) (fun _ _ _=>.err) (fun _ _ _=>.err) (fun _ _ _=>.err)
noncomputable def binX (op:BinOp):AV→AV→(AV→CRes)→CRes:=AV.rec (motive_1:=fun _=>AV→(AV→CRes)→CRes) (motive_2:=fun _=>Unit) (fun _ _ _=>.err) (fun q a v k=>amP v fun q' b=>binIX op q q' a b k) (fun a v k=>vStr v fun b=>binSX op a b k) (fun _ _ _ _=>.err) (fun _ _=>.err) (fun _ _ _ _ _ _ _=>.err) (fun _ _ _ _ _=>.err) (fun _ _=>.err) (fun _ _ _=>.err) (fun _ _=>.err) (fun _ _ _ _ _ _ _=>.err) (fun _ _=>.err) (fun _ _ _ _ _=>.err) (fun _ _=>.err) (fun _ _ _ _=>.err) (fun _ _ _ _=>.err) () (fun _ _ _ _=>())
noncomputable def opX:AOp→Tr AV→Heap→(AV→Heap→CRes)→CRes:=AOp.rec (motive:=fun _=>Tr AV→Heap→(AV→Heap→CRes)→CRes)
  (fun x tm H k=>evX tm x fun v=>k v H)
  (fun c a b tm H k=>evX tm c fun v=>Te v fun t=>ifB t (evX tm a fun v=>k v H) (evX tm b fun v=>k v H))
  (fun x tm H k=>evX tm x fun v=>Te v fun t=>fbX (fS t) fun r=>k r H)
  (fun op x y tm H k=>evX tm x fun u=>evX tm y fun v=>binX op u v fun r=>k r H)
  (fun e neg x y tm H k=>evX tm x fun u=>evX tm y fun v=>EqK.casesOn e (fun n=>ajj (.nil n) u v fun r=>fbX (aeZ neg r) fun r=>k r H)
      (Te u fun a=>Te v fun b=>fbX (aeZ neg (eqBB a b)) fun r=>k r H) (fun ks=>ajj (.plain ks) u v fun r=>fbX (aeZ neg r) fun r=>k r H))
  (fun q x tm H k=>evX tm x fun u=>amP u fun _ n=>Dn q n fun r=>k (.int q r) H)
  (fun z tm H k=>Bv H (.cells z true 0) fun b H'=>k (.ptr b 0) H')
  (fun x tm H k=>evX tm x fun u=>Dh H u fun b H'=>k (.ptr b 0) H')
  (fun z parts tm H k=>evPX tm parts fun ps=>yL z ps fun r=>k r H)
  (fun len z parts tm H k=>evPX tm parts fun ps=>pG H len z ps k)
  (fun n agg x tm H k=>evX tm x fun u=>f8 H u n agg fun r=>k r H)
  (fun n a x tm H k=>evX tm a fun a=>evX tm x fun u=>lS H a n u fun H'=>k .undef H')
  (fun x tm H k=>evX tm x fun u=>Tw u (k u H))
  (fun d x tm H k=>evX tm x fun u=>faK d u fun r=>k r H)
  (fun sz x i tm H k=>evX tm x fun u=>evX tm i fun i=>amP i fun _ i=>LC sz u i fun r=>k r H)
  (fun sz len x i tm H k=>evX tm x fun u=>evX tm i fun i=>amP i fun _ i=>Fw sz len u i fun r=>k r H)
  (fun sz len agg x i tm H k=>evX tm x fun u=>evX tm i fun i=>amP i fun _ i=>aes sz len agg u i fun r=>k r H)
  (fun x i tm H k=>evX tm x fun u=>evX tm i fun i=>vStr u fun s=>amP i fun _ i=>idxSK s i fun n=>k (.int .u8 n) H)
  (fun sk x lo hi mx tm H k=>evX tm x fun u=>evOX tm lo fun lo=>evOX tm hi fun hi=>evOX tm mx fun mx=>slK sk u lo hi mx fun r=>k r H)
  (fun ix x tm H k=>evX tm x fun u=>extK ix u fun r=>k r H)
  (fun f a c tm H k=>evsX tm a fun va=>evsX tm c fun cs=>k (.func f va cs) H)
  (fun tm H k=>Bv H (.mp []) fun b H'=>k (.map b) H')
  (fun z len cap tm H k=>evX tm len fun u=>evX tm cap fun v=>amP u fun _ l=>amP v fun _ c=>mkK H z l c k)
  (fun kk z ok m key tm H k=>evX tm m fun m=>evX tm key fun u=>Tn H kk z m u fun r b=>ifB ok (k (.tuple [r,.bool b]) H) (k r H))
  (fun kk m key x tm H k=>evX tm m fun m=>evX tm key fun u=>evX tm x fun y=>aiP H kk m u y fun H'=>k .undef H')
  (fun kk m key tm H k=>evX tm m fun m=>evX tm key fun u=>aiE H kk m u fun H'=>k .undef H')
  (fun lk x tm H k=>evX tm x fun u=>LenK.casesOn lk (vStr u fun s=>aAf s fun n=>k (.int .i64 n) H) (fun n=>k (.int .i64 (.ofNat n)) H)
      (fH u fun n=>k (.int .i64 n) H) (aoB H u fun n=>k (.int .i64 n) H))
  (fun mx xs tm H k=>evsX tm xs fun vs=>O1 mx vs fun r=>k r H)
  (fun sz s x tm H k=>evX tm s fun s=>evX tm x fun x=>mQ H sz s x k)
  (fun sz d x tm H k=>evX tm d fun d=>evX tm x fun x=>copyK H sz d x k)
  (fun z x tm H k=>evX tm x fun x=>arT H z x fun H'=>k .undef H')
noncomputable def as0 (d:Option P) (v:AV) (tm:Tr AV) (k:Tr AV→CRes):CRes:=Option.rec (motive:=fun _=>CRes) (k tm) (fun p=>setV p v tm k) d
noncomputable def wantX (want:Bool):AV→CRes→CRes→CRes:=AV.rec (motive_1:=fun _=>CRes→CRes→CRes) (motive_2:=fun _=>Unit) (fun b y n=>ifB (eqBB b want) y n) (fun _ _ _ n=>n) (fun _ _ n=>n) (fun _ _ _ n=>n) (fun _ n=>n) (fun _ _ _ _ _ _ n=>n) (fun _ _ _ _ n=>n) (fun _ n=>n) (fun _ _ n=>n) (fun _ n=>n) (fun _ _ _ _ _ _ n=>n) (fun _ n=>n) (fun _ _ _ _ n=>n) (fun _ n=>n) (fun _ _ _ n=>n) (fun _ _ _ n=>n) () (fun _ _ _ _=>())
noncomputable def azG:Gd→Tr AV→CRes→CRes→CRes:=Gd.rec (motive:=fun _=>Tr AV→CRes→CRes→CRes) (fun _ y _=>y) (fun p want tm y n=>getV p tm fun v=>wantX want v y n)
abbrev KS:=Tr AV→Heap→CRes
noncomputable def insX (cf:dD):Ins→Tr AV→Heap→KS→CRes:=Ins.rec (motive:=fun _=>Tr AV→Heap→KS→CRes)
  (fun g d o tm H k=>azG g tm (opX o tm H fun v H=>as0 d v tm fun tm=>k tm H) (as0 d .undef tm fun tm=>k tm H))
  (fun g d q f args tm H k=>azG g tm (evX tm f fun fv=>evsX tm args fun vs=>
      ifB q (cf fv vs (H.shut true) fun v H'=>as0 d v tm fun tm=>k tm (H'.back H.ro)) (cf fv vs H fun v H'=>as0 d v tm fun tm=>k tm H'))
    (as0 d .undef tm fun tm=>k tm H))
noncomputable def regX (cf:dD):List Ins→Tr AV→Heap→KS→CRes:=List.rec (motive:=fun _=>Tr AV→Heap→KS→CRes) (fun tm H k=>k tm H)
  (fun x _ ih tm H k=>insX cf x tm H fun tm H=>ih tm H k)
noncomputable def loopX (body:KS→KS):Nat→KS:=Nat.rec (motive:=fun _=>KS) (fun _ _=>.err) (fun _ F=>body F)
noncomputable def avv (cf:dD) (n:Nat):AC→KS→(Nat→KS)→KS→KS:=AC.rec (motive:=fun _=>KS→(Nat→KS)→KS→KS)
  (fun kn _ _ tm H=>kn tm H)
  (fun l kn _ _ tm H=>regX cf l tm H kn)
  (fun _ _ _ _ _ _=>.err)
  (fun _ _ iha ihb kn ke kr tm H=>iha (ihb kn ke kr) ke kr tm H)
  (fun c _ _ iha ihb kn ke kr tm H=>evX tm c fun v=>Te v fun b=>ifB b (iha kn ke kr tm H) (ihb kn ke kr tm H))
  (fun id _ ih kn ke kr tm H=>ih kn (fun i tm H=>ifB (Nat.beq i id) (kn tm H) (ke i tm H)) kr tm H)
  (fun _ ih _ ke kr tm H=>loopX (fun F=>ih F ke kr) n tm H)
  (fun id _ ke _ tm H=>ke id tm H)
  (fun _ _ kr tm H=>kr tm H)
noncomputable def bindX:List P→List AV→Tr AV→(Tr AV→CRes)→CRes:=List.rec (motive:=fun _=>List AV→Tr AV→(Tr AV→CRes)→CRes)
  (List.rec (motive:=fun _=>Tr AV→(Tr AV→CRes)→CRes) (fun tm k=>k tm) (fun _ _ _ _ _=>.err))
  (fun p _ ih=>List.rec (motive:=fun _=>Tr AV→(Tr AV→CRes)→CRes) (fun _ _=>.err) (fun v vs _ tm k=>setV p v tm fun tm=>ih vs tm k))
noncomputable def resX (tm:Tr AV) (H:Heap):List Rv→(List AV→CRes)→CRes:=List.rec (motive:=fun _=>(List AV→CRes)→CRes) (fun k=>k [])
  (fun r _ ih k=>Rv.rec (motive:=fun _=>(AV→CRes)→CRes) (fun p k=>getV p tm k) (fun p n agg k=>getV p tm fun v=>f8 H v n agg k) r fun v=>ih fun vs=>k (v::vs))
noncomputable def oneX:List AV→AV:=List.rec (motive:=fun _=>AV) (.tuple []) (fun v t _=>List.rec (motive:=fun _=>AV) v (fun u t _=>.tuple (v::u::t)) t)
noncomputable def finX (rs:List Rv) (k:AV→Heap→CRes) (tm:Tr AV) (H:Heap):CRes:=resX tm H rs fun vs=>k (oneX vs) H
noncomputable def funC:AV→(Nat→List AV→List AV→CRes)→CRes:=AV.rec (motive_1:=fun _=>(Nat→List AV→List AV→CRes)→CRes) (motive_2:=fun _=>Unit) (fun _ _=>.err) (fun _ _ _=>.err) (fun _ _=>.err) (fun _ _ _=>.err) (fun _=>.err) (fun _ _ _ _ _ _=>.err) (fun _ _ _ _=>.err) (fun _=>.err) (fun _ _=>.err) (fun _=>.err) (fun f a c _ _ k=>k f a c) (fun _=>.err) (fun _ _ _ _=>.err) (fun _=>.err) (fun _ _ _=>.err) (fun _ _ _=>.err) () (fun _ _ _ _=>())
noncomputable def appX (cf:dD) (n:Nat):AFn→List AV→Heap→(AV→Heap→CRes)→CRes:=AFn.rec (motive:=fun _=>List AV→Heap→(AV→Heap→CRes)→CRes)
  (fun ps body res args H k=>bindX ps args .leaf fun tm=>avv cf n body (finX res k) (fun _ _ _=>.err) (finX res k) tm H)
  (fun g args H k=>CRes.rec (motive:=fun _=>CRes) .err (fun v H=>k v H) (g args H))
noncomputable def callX (find:Nat→(AFn→CRes)→CRes) (n:Nat):Nat→dD:=Nat.rec (motive:=fun _=>dD) (fun _ _ _ _=>.err)
  (fun _ cf fv vs H k=>funC fv fun f first cap=>find f fun fn=>appX cf n fn (UB first (UB vs cap id) id) H k)
section
variable {r:AV} {H':Heap} {tm:Tr AV}
theorem av2:∀ (p:P) (t:Tr AV) (k:AV→CRes),getV p t k=oC (t.get p) k
  | .h,.leaf,_=>rfl
  | .h,.node _ _ _,_=>rfl
  | .o p,.leaf,_=>rfl
  | .o p,.node l v r,k=>av2 p l k
  | .i p,.leaf,_=>rfl
  | .i p,.node l v r,k=>av2 p r k
theorem aiG:∀ (p:P) (x:AV) (t:Tr AV) (k:Tr AV→CRes),setV p x t k=k (t.set p x)
  | .h,_,.leaf,_=>rfl
  | .h,_,.node _ _ _,_=>rfl
  | .o p,x,.leaf,k=>by rw [Tr.set_o]; exact aiG p x .leaf fun l=>k (.node l none .leaf)
  | .o p,x,.node l v r,k=>by rw [Tr.set_o]; exact aiG p x l fun l=>k (.node l v r)
  | .i p,x,.leaf,k=>by rw [Tr.set_i]; exact aiG p x .leaf fun r=>k (.node .leaf none r)
  | .i p,x,.node l v r,k=>by rw [Tr.set_i]; exact aiG p x r fun r=>k (.node l v r)
theorem am3 {p:P} {k:AV→CRes} (h:getV p tm k = .ret r H'):∃ v,tm.get p=some v∧k v = .ret r H':=by
  rw [av2] at h
  exact lc h
theorem Hj {b:Bool} {k:AV→CRes} (h:fbX b k = .ret r H'):k (.bool b) = .ret r H':=by cases b<;>exact h
theorem IC {v:AV} {k:IntKind→Int→CRes} (h:amP v k = .ret r H'):∃ q n,v = .int q n∧k q n = .ret r H':=by
  cases v<;>first | exact ⟨_,_,rfl,h⟩ | cases h
theorem extK_inv {ix:Nat} {v:AV} {k:AV→CRes} (h:extK ix v k = .ret r H'):∃ vs u,v = .tuple vs∧nth vs ix=some u∧k u = .ret r H':=axg h
theorem fI {x:Opd} {k:AV→CRes} (h:evX tm x k = .ret r H'):∃ v,ev tm x=some v∧k v = .ret r H':=by
  cases x with
  | t p=>exact am3 h
  | c v=>exact ⟨v,rfl,h⟩
theorem af5:∀ {xs:List Opd} {k:List AV→CRes},evsX tm xs k = .ret r H'→∃ vs,evs tm xs=some vs∧k vs = .ret r H'
  | [],k,h=>⟨[],rfl,h⟩
  | x::xs,k,h=>by
    obtain ⟨v,h1,h2⟩:=fI (x:=x) h
    obtain ⟨vs,h3,h4⟩:=af5 (xs:=xs) h2
    refine ⟨v::vs,?_,h4⟩
    show (Option.casesOn (ev tm x) none fun v=>Option.casesOn (evs tm xs) none fun vs=>some (v::vs):Option (List AV))=_
    rw [h1,h3]
theorem asy {x:Option Opd} {k:Option AV→CRes} (h:evOX tm x k = .ret r H'):∃ o,aoJ tm x o∧k o = .ret r H':=by
  cases x with
  | none=>exact ⟨none,.inl ⟨rfl,rfl⟩,h⟩
  | some y=>obtain ⟨v,h1,h2⟩:=fI (x:=y) h; exact ⟨some v,.inr ⟨y,v,rfl,rfl,h1⟩,h2⟩
theorem asg:∀ {xs:List (Nat × Nat × Opd)} {k:List (Nat × Nat × AV)→CRes},evPX tm xs k = .ret r H'→∃ ps,Sm tm xs=anz ps∧k ps = .ret r H'
  | [],k,h=>⟨[],rfl,h⟩
  | (a,b,x)::xs,k,h=>by
    obtain ⟨v,h1,h2⟩:=fI (x:=x) h
    obtain ⟨ps,h3,h4⟩:=asg (xs:=xs) h2
    refine ⟨(a,b,v)::ps,?_,h4⟩
    funext z
    simp only [Sm,anz] at h3 ⊢
    rw [h1]
    dsimp only
    rw [h3]
    rfl
theorem aAF {op:BinOp} {q q':IntKind} {a b:Int} {k:AV→CRes} (h:binIX op q q' a b k = .ret r H'):∃ v,binF op (.int q a) (.int q' b)=some v∧k v = .ret r H':=by
  have same:∀ {c:CRes},ifB (Da q q') c .err = .ret r H'→q=q'∧c = .ret r H':=fun h=>⟨aro (qa h).1,(qa h).2⟩
  cases op with
  | add=>
    obtain ⟨rfl,h1⟩:=same h
    replace h:=h1
    clear h1
    rw [arq] at h
    refine ⟨_,?_,h⟩
    show (if q=q then Qs q (addF a b) (fun n=>some (AV.int q n)) else none)=_
    rw [if_pos rfl,oP,amC]
  | sub=>
    obtain ⟨rfl,h1⟩:=same h
    replace h:=h1
    clear h1
    rw [arB] at h
    refine ⟨_,?_,h⟩
    show (if q=q then Qs q (subF a b) (fun n=>some (AV.int q n)) else none)=_
    rw [if_pos rfl,oP,amx]
  | mul=>
    obtain ⟨rfl,h1⟩:=same h
    replace h:=h1
    clear h1
    rw [aru] at h
    refine ⟨_,?_,h⟩
    show (if q=q then Qs q (mulF a b) (fun n=>some (AV.int q n)) else none)=_
    rw [if_pos rfl,oP,ams]
  | quo=>
    obtain ⟨rfl,h1⟩:=same h
    replace h:=h1
    clear h1
    have h0:ifB (isZ b) .err (Dn q (divF a b) fun n=>k (.int q n)) = .ret r H':=h
    obtain ⟨h1,h2⟩:=UA h0
    rw [DY] at h2
    refine ⟨_,?_,h2⟩
    show (if q=q then (Bool.casesOn (isZ b) (Qs q (divF a b) (fun n=>some (AV.int q n))) none:Option AV) else none)=_
    rw [if_pos rfl,h1]
    exact oP _ _ _
  | rem=>
    obtain ⟨rfl,h1⟩:=same h
    replace h:=h1
    clear h1
    have h0:ifB (isZ b) .err (rD (modF a b) fun n=>k (.int q n)) = .ret r H':=h
    obtain ⟨h1,h2⟩:=UA h0
    rw [lW] at h2
    refine ⟨_,?_,h2⟩
    show (if q=q then (Bool.casesOn (isZ b) (some (AV.int q (modF a b))) none:Option AV) else none)=_
    rw [if_pos rfl,h1]
  | and=>
    obtain ⟨rfl,h1⟩:=same h
    replace h:=h1
    clear h1
    have h0:(Option.casesOn (wB .and q a b) .err fun n=>rD n fun n=>k (.int q n):CRes) = .ret r H':=h
    cases hb:wB .and q a b with
    | none=>rw [hb] at h0; cases h0
    | some n=>
      rw [hb] at h0
      have h2:rD n (fun n=>k (.int q n)) = .ret r H':=h0
      rw [lW] at h2
      refine ⟨_,?_,h2⟩
      show (if q=q then (Option.casesOn (wB .and q a b) none (fun n=>some (AV.int q n)):Option AV) else none)=_
      rw [if_pos rfl,hb]
  | or=>
    obtain ⟨rfl,h1⟩:=same h
    replace h:=h1
    clear h1
    have h0:(Option.casesOn (wB .or q a b) .err fun n=>rD n fun n=>k (.int q n):CRes) = .ret r H':=h
    cases hb:wB .or q a b with
    | none=>rw [hb] at h0; cases h0
    | some n=>
      rw [hb] at h0
      have h2:rD n (fun n=>k (.int q n)) = .ret r H':=h0
      rw [lW] at h2
      refine ⟨_,?_,h2⟩
      show (if q=q then (Option.casesOn (wB .or q a b) none (fun n=>some (AV.int q n)):Option AV) else none)=_
      rw [if_pos rfl,hb]
  | xor=>
    obtain ⟨rfl,h1⟩:=same h
    replace h:=h1
    clear h1
    have h0:(Option.casesOn (wB .xor q a b) .err fun n=>rD n fun n=>k (.int q n):CRes) = .ret r H':=h
    cases hb:wB .xor q a b with
    | none=>rw [hb] at h0; cases h0
    | some n=>
      rw [hb] at h0
      have h2:rD n (fun n=>k (.int q n)) = .ret r H':=h0
      rw [lW] at h2
      refine ⟨_,?_,h2⟩
      show (if q=q then (Option.casesOn (wB .xor q a b) none (fun n=>some (AV.int q n)):Option AV) else none)=_
      rw [if_pos rfl,hb]
  | andNot=>
    obtain ⟨rfl,h1⟩:=same h
    replace h:=h1
    clear h1
    have h0:(Option.casesOn (wB .andNot q a b) .err fun n=>rD n fun n=>k (.int q n):CRes) = .ret r H':=h
    cases hb:wB .andNot q a b with
    | none=>rw [hb] at h0; cases h0
    | some n=>
      rw [hb] at h0
      have h2:rD n (fun n=>k (.int q n)) = .ret r H':=h0
      rw [lW] at h2
      refine ⟨_,?_,h2⟩
      show (if q=q then (Option.casesOn (wB .andNot q a b) none (fun n=>some (AV.int q n)):Option AV) else none)=_
      rw [if_pos rfl,hb]
  | shl=>
    obtain ⟨n,rfl,hz⟩:=ajs (a:=b) h
    replace h:=hz
    clear hz
    rw [DY] at h
    refine ⟨_,?_,h⟩
    show Qs q (aly q a n) (fun r=>some (AV.int q r))=_
    exact oP _ _ _
  | shr=>
    obtain ⟨n,rfl,hz⟩:=ajs (a:=b) h
    replace h:=hz
    clear hz
    rw [lW] at h
    exact ⟨_,rfl,h⟩
  | eql=>
    obtain ⟨rfl,h1⟩:=same h
    replace h:=Hj h1
    clear h1
    refine ⟨_,?_,h⟩
    show (if q=q then some (AV.bool (eqF a b)) else none)=_
    rw [if_pos rfl]
  | neq=>
    obtain ⟨rfl,h1⟩:=same h
    replace h:=Hj h1
    clear h1
    refine ⟨_,?_,h⟩
    show (if q=q then (Bool.casesOn (eqF a b) (some (AV.bool true)) (some (AV.bool false)):Option AV) else none)=_
    rw [if_pos rfl]; cases eqF a b<;>rfl
  | lss=>
    obtain ⟨rfl,h1⟩:=same h
    replace h:=Hj h1
    clear h1
    refine ⟨_,?_,h⟩
    show (if q=q then some (AV.bool (ltF a b)) else none)=_
    rw [if_pos rfl]
  | leq=>
    obtain ⟨rfl,h1⟩:=same h
    replace h:=Hj h1
    clear h1
    refine ⟨_,?_,h⟩
    show (if q=q then (Bool.casesOn (ltF b a) (some (AV.bool true)) (some (AV.bool false)):Option AV) else none)=_
    rw [if_pos rfl]; cases ltF b a<;>rfl
  | gtr=>
    obtain ⟨rfl,h1⟩:=same h
    replace h:=Hj h1
    clear h1
    refine ⟨_,?_,h⟩
    show (if q=q then some (AV.bool (ltF b a)) else none)=_
    rw [if_pos rfl]
  | geq=>
    obtain ⟨rfl,h1⟩:=same h
    replace h:=Hj h1
    clear h1
    refine ⟨_,?_,h⟩
    show (if q=q then (Bool.casesOn (ltF a b) (some (AV.bool true)) (some (AV.bool false)):Option AV) else none)=_
    rw [if_pos rfl]; cases ltF a b<;>rfl
theorem binX_inv {op:BinOp} {u v:AV} {k:AV→CRes} (h:binX op u v k = .ret r H'):∃ w,binF op u v=some w∧k w = .ret r H':=by
  cases u with
  | int q a=>
    obtain ⟨q',b,rfl,hz⟩:=IC (v:=v) h
    replace h:=hz
    clear hz
    exact aAF h
  | str a=>
    obtain ⟨b,rfl,hz⟩:=ami (v:=v) h
    replace h:=hz
    clear hz
    cases op with
    | add=>
      have h0:ifB (Nat.ble (Nat.add (mv a) (mv b)) 1099511627776) (UB a b fun n=>k (.str n)) .err = .ret r H':=h
      obtain ⟨h1,h2⟩:=qa h0
      rw [jz] at h2
      refine ⟨_,?_,h2⟩
      show (Bool.casesOn (Nat.ble (Nat.add (mv a) (mv b)) 1099511627776) none (some (AV.str (UB a b id))):Option AV)=_
      rw [h1,jz]; rfl
    | eql=>
      have h1:=Hj (b:=CU a b) h
      exact ⟨_,rfl,h1⟩
    | neq=>
      have h1:=Hj (b:=fS (CU a b)) h
      exact ⟨_,by show some (AV.bool (!CU a b))=some _; rw [← abY],h1⟩
    | _=>cases h
  | _=>cases h
theorem aAD {o:AOp} {H:Heap} {k:AV→Heap→CRes} (h:opX o tm H k = .ret r H'):∃ v H₁,opF o tm H=some (v,H₁)∧k v H₁ = .ret r H':=by
  cases o with
  | mov x=>
    obtain ⟨v,hv,h⟩:=fI h
    exact ⟨v,H,by simp only [opF]; rw [hv],h⟩
  | pick c a b=>
    obtain ⟨v,hv,h⟩:=fI h
    obtain ⟨t,rfl,hz⟩:=Np h
    replace h:=hz
    clear hz
    cases t with
    | true=>
      obtain ⟨u,hu,h⟩:=fI (x:=a) h
      exact ⟨u,H,by simp only [opF]; rw [hv]; dsimp only; rw [hu],h⟩
    | false=>
      obtain ⟨u,hu,h⟩:=fI (x:=b) h
      exact ⟨u,H,by simp only [opF]; rw [hv]; dsimp only; rw [hu],h⟩
  | not x=>
    obtain ⟨v,hv,h⟩:=fI h
    obtain ⟨t,rfl,hz⟩:=Np h
    replace h:=hz
    clear hz
    refine ⟨_,H,?_,Hj h⟩
    simp only [opF]; rw [hv]; cases t<;>rfl
  | bin op x y=>
    obtain ⟨u,hu,h⟩:=fI h
    obtain ⟨v,hv,h⟩:=fI h
    obtain ⟨w,hw,h⟩:=binX_inv h
    exact ⟨w,H,by simp only [opF]; rw [hu]; dsimp only; rw [hv]; dsimp only; rw [hw],h⟩
  | eq e neg x y=>
    obtain ⟨u,hu,h⟩:=fI h
    obtain ⟨v,hv,h⟩:=fI h
    have fin:∀ b,eqK e u v=some b→k (.bool (aeZ neg b)) H = .ret r H'→∃ v H₁,opF (.eq e neg x y) tm H=some (v,H₁)∧k v H₁ = .ret r H':=by
      intro b hb hk
      refine ⟨_,H,?_,hk⟩
      simp only [opF]; rw [hu]; dsimp only; rw [hv]; dsimp only; rw [hb]; dsimp only; rw [amR]
    cases e with
    | nil n=>
      have h0:ajj (.nil n) u v (fun r=>fbX (aeZ neg r) fun r=>k r H) = .ret r H':=h
      obtain ⟨b,hb,h⟩:=ane h0
      exact fin b hb (Hj h)
    | bool=>
      obtain ⟨a,rfl,hz⟩:=Np (v:=u) h
      replace h:=hz
      clear hz
      obtain ⟨b,rfl,hz⟩:=Np (v:=v) h
      replace h:=hz
      clear hz
      exact fin (eqBB a b) (by rw [aiL]; rfl) (Hj h)
    | plain ks=>
      have h0:ajj (.plain ks) u v (fun r=>fbX (aeZ neg r) fun r=>k r H) = .ret r H':=h
      obtain ⟨b,hb,h⟩:=ane h0
      exact fin b hb (Hj h)
  | conv q x=>
    obtain ⟨u,hu,h⟩:=fI h
    obtain ⟨_,n,rfl,hz⟩:=IC h
    replace h:=hz
    clear hz
    rw [DY] at h
    refine ⟨_,H,?_,h⟩
    simp only [opF]; rw [hu]; exact oP _ _ _
  | alloc z=>
    have h':Bv H (.cells z true 0) (fun b H'=>k (.ptr b 0) H') = .ret r H':=h
    rw [uE] at h'
    exact ⟨_,_,by simp only [opF]; rw [Heap.newK_eq],h'⟩
  | box x=>
    obtain ⟨u,hu,h⟩:=fI h
    rcases Z2 h with ⟨l,rfl,h5⟩ | ⟨h1,h2,h3,h⟩
    · replace h:=h5
      rw [uE] at h
      exact ⟨_,_,by simp only [opF]; rw [hu]; dsimp only [Km]; rw [Heap.newK_eq]; rfl,h⟩
    · rw [uE] at h
      exact ⟨_,_,by simp only [opF]; rw [hu]; dsimp only; rw [h3,h2]; dsimp only; rw [Heap.newK_eq],h⟩
  | build z parts=>
    obtain ⟨ps,hp,h⟩:=asg h
    obtain ⟨l,hl,h⟩:=T2 h
    exact ⟨_,H,by simp only [opF]; rw [hp,hl],h⟩
  | buildSlice len z parts=>
    obtain ⟨ps,hp,h⟩:=asg h
    obtain ⟨l,hl,h⟩:=T2 h
    rw [uE] at h
    exact ⟨_,_,by simp only [opF]; rw [hp,hl]; dsimp only; rw [Heap.newK_eq],h⟩
  | load n agg x=>
    obtain ⟨u,hu,h⟩:=fI h
    obtain ⟨b,off,l,cs,v,rfl,hl,hc,hp,h⟩:=aip h
    exact ⟨v,H,by simp only [opF]; rw [hu]; dsimp only; rw [hl]; dsimp only; rw [hc]; dsimp only; rw [hp],h⟩
  | store n a x=>
    obtain ⟨a',ha,h⟩:=fI h
    obtain ⟨u,hu,h⟩:=fI h
    obtain ⟨b,off,rfl,h⟩:=N9 h
    obtain ⟨l,g,h,ho⟩:=axv h
    have fin:Km u=true→mv u.cells=n→off+n≤l.length→k .undef (H.set b (.cells (zP u.cells l off) true g)) = .ret r H'→∃ v H₁,opF (.store n a x) tm H=some (v,H₁)∧k v H₁ = .ret r H':=by
      intro e1 e2 e3 e4
      refine ⟨_,_,?_,e4⟩
      simp only [opF]; rw [ha]; dsimp only; rw [hu]; dsimp only; rw [ho]
      have h2:(Km u&&mv u.cells==n&&Nat.ble (off+n) (mv l))=true:=by
        rw [e1,e2,jC l]; simp [e3]
      rw [h2]; dsimp only; rw [qQ,Heap.setK_eq]
    rcases Z2 h with ⟨cs,rfl,h5⟩ | ⟨h1,h2,h3,h⟩
    · obtain ⟨hn,h⟩:=qa h5
      have hn:=Nat.eq_of_beq_eq_true hn
      rw [afV] at h
      obtain ⟨hl,h⟩:=aiu h
      rw [O6] at h
      exact fin rfl hn (by rw [← hn,jC]; exact hl) h
    · obtain ⟨hn,h⟩:=qa h
      have hn:=Nat.eq_of_beq_eq_true hn
      rw [afZ] at h
      obtain ⟨hl,h⟩:=aiu h
      rw [O6] at h
      refine fin h3 (by rw [h2]; exact hn) (by omega) ?_
      rw [h2]; exact h
  | nilchk x=>
    obtain ⟨u,hu,h⟩:=fI h
    obtain ⟨h1,h⟩:=apV h
    refine ⟨u,H,?_,h⟩
    simp only [opF]; rw [hu]
    rcases h1 with ⟨b,o,rfl⟩ | ⟨f,a,c,rfl⟩<;>rfl
  | fa d x=>
    obtain ⟨u,hu,h⟩:=fI h
    obtain ⟨b,off,rfl,hz⟩:=N9 h
    replace h:=hz
    clear hz
    rw [gw] at h
    exact ⟨_,H,by simp only [opF]; rw [hu]; rfl,h⟩
  | iaS sz x i=>
    obtain ⟨u,hu,h⟩:=fI h
    obtain ⟨v,hv,h⟩:=fI h
    obtain ⟨_,i,rfl,hz⟩:=IC h
    replace h:=hz
    clear hz
    obtain ⟨b,off,l,e,p,rfl,hz⟩:=avh h
    replace h:=hz
    clear hz
    obtain ⟨j,rfl,hz⟩:=ajs h
    replace h:=hz
    clear hz
    obtain ⟨h1,h⟩:=qa h
    rw [gw] at h
    exact ⟨_,H,by simp only [opF]; rw [hu]; dsimp only; rw [hv]; dsimp only; rw [wh,h1]; rfl,h⟩
  | iaA sz len x i=>
    obtain ⟨u,hu,h⟩:=fI h
    obtain ⟨v,hv,h⟩:=fI h
    obtain ⟨_,i,rfl,hz⟩:=IC h
    replace h:=hz
    clear hz
    obtain ⟨b,off,rfl,hz⟩:=N9 h
    replace h:=hz
    clear hz
    obtain ⟨j,rfl,hz⟩:=ajs h
    replace h:=hz
    clear hz
    obtain ⟨h1,h⟩:=qa h
    rw [gw] at h
    exact ⟨_,H,by simp only [opF]; rw [hu]; dsimp only; rw [hv]; dsimp only; rw [wh,h1]; rfl,h⟩
  | idxA sz len agg x i=>
    obtain ⟨u,hu,h⟩:=fI h
    obtain ⟨v,hv,h⟩:=fI h
    obtain ⟨_,i,rfl,hz⟩:=IC h
    replace h:=hz
    clear hz
    obtain ⟨cs,rfl,hz⟩:=au8 h
    replace h:=hz
    clear hz
    obtain ⟨j,rfl,hz⟩:=ajs h
    replace h:=hz
    clear hz
    obtain ⟨h1,h⟩:=qa h
    rw [gw] at h
    obtain ⟨l,hl,h⟩:=lc h
    obtain ⟨w,hw,h⟩:=lc h
    have hl':sub cs (j*sz) sz=some l:=hl
    exact ⟨w,H,by simp only [opF]; rw [hu]; dsimp only; rw [hv]; dsimp only; rw [wh,h1]; dsimp only; rw [hl']; dsimp only; rw [hw],h⟩
  | idxS x i=>
    obtain ⟨u,hu,h⟩:=fI h
    obtain ⟨v,hv,h⟩:=fI h
    obtain ⟨s,rfl,hz⟩:=ami h
    replace h:=hz
    clear hz
    obtain ⟨_,i,rfl,hz⟩:=IC h
    replace h:=hz
    clear hz
    obtain ⟨j,rfl,hz⟩:=ajs h
    replace h:=hz
    clear hz
    obtain ⟨c,hc,h⟩:=lc h
    rw [gw] at h
    exact ⟨_,H,by simp only [opF]; rw [hu]; dsimp only; rw [hv]; dsimp only; rw [wh,hc]; rfl,h⟩
  | sl sk x lo hi mx=>
    obtain ⟨u,hu,h⟩:=fI h
    obtain ⟨lo',h1,h⟩:=asy h
    obtain ⟨hi',h2,h⟩:=asy h
    obtain ⟨mx',h3,h⟩:=asy h
    obtain ⟨v,hv,h⟩:=lc h
    rw [pQ] at h
    exact ⟨v,H,by simp only [opF]; rw [hu]; dsimp only; rw [azW h1 h2 h3,hv],h⟩
  | ext ix x=>
    obtain ⟨u,hu,h⟩:=fI h
    obtain ⟨vs,v,rfl,hv,hz⟩:=extK_inv h
    replace h:=hz
    clear hz
    exact ⟨v,H,by simp only [opF]; rw [hu]; dsimp only; rw [hv],h⟩
  | mkfunc f a c=>
    obtain ⟨va,ha,h⟩:=af5 h
    obtain ⟨cs,hc,h⟩:=af5 h
    exact ⟨_,H,by simp only [opF]; rw [ha]; dsimp only; rw [hc],h⟩
  | mkmap=>
    have h':Bv H (.mp []) (fun b H'=>k (.map b) H') = .ret r H':=h
    rw [uE] at h'
    exact ⟨_,_,by simp only [opF]; rw [Heap.newK_eq],h'⟩
  | mk z len cap=>
    obtain ⟨u,hu,h⟩:=fI h
    obtain ⟨v,hv,h⟩:=fI h
    obtain ⟨_,l,rfl,hz⟩:=IC h
    replace h:=hz
    clear hz
    obtain ⟨_,c,rfl,hz⟩:=IC h
    replace h:=hz
    clear hz
    obtain ⟨l,rfl,hz⟩:=ajs h
    replace h:=hz
    clear hz
    obtain ⟨c,rfl,hz⟩:=ajs h
    replace h:=hz
    clear hz
    obtain ⟨h1,h⟩:=qa h
    rw [uE,gw] at h
    rw [aiv] at h1
    exact ⟨_,_,by simp only [opF]; rw [hu]; dsimp only; rw [hv]; dsimp only; rw [wh,wh,h1]; dsimp only; rw [Heap.newK_eq]; rfl,h⟩
  | lookup kk z ok m key=>
    obtain ⟨u,hu,h⟩:=fI h
    obtain ⟨v,hv,h⟩:=fI h
    obtain ⟨es,hes,h⟩:=lc h
    obtain ⟨e1,he,h⟩:=lc h
    obtain ⟨w,hw,h⟩:=lc h
    have pre:∀ {β:AV × Heap},(Option.casesOn w (some (if ok then .tuple [z,.bool false] else z,H)) fun x=>some (if ok then .tuple [x,.bool true] else x,H):Option (AV × Heap))=some β→opF (.lookup kk z ok m key) tm H=some β:=by
      intro β hβ
      simp only [opF]; rw [hu]; dsimp only; rw [hv]
      cases u with
      | map b=>
        have hes':vc H b=some es:=hes
        dsimp only; rw [hes']; dsimp only; rw [he]; dsimp only; rw [hw]; exact hβ
      | nilmap=>
        have hes':some []=some es:=hes
        cases hes'
        dsimp only; rw [he]; dsimp only; rw [hw]; exact hβ
      | _=>cases hes
    cases w with
    | none=>cases ok<;>exact ⟨_,H,pre rfl,h⟩
    | some x=>cases ok<;>exact ⟨_,H,pre rfl,h⟩
  | mapset kk m key x=>
    obtain ⟨u,hu,h⟩:=fI h
    obtain ⟨v,hv,h⟩:=fI h
    obtain ⟨y,hy,h⟩:=fI h
    obtain ⟨b,rfl,hz⟩:=avu h
    replace h:=hz
    clear hz
    obtain ⟨h1,h⟩:=UA h
    obtain ⟨es,hes,h⟩:=lc h
    obtain ⟨e1,he,h⟩:=lc h
    obtain ⟨es',hp,h⟩:=lc h
    rw [O6] at h
    exact ⟨_,_,by simp only [opF]; rw [hu]; dsimp only; rw [hv]; dsimp only; rw [hy]; dsimp only; rw [h1]; dsimp only; rw [hes]; dsimp only; rw [he]; dsimp only; rw [hp]; dsimp only; rw [Heap.setK_eq],h⟩
  | mapdel kk m key=>
    obtain ⟨u,hu,h⟩:=fI h
    obtain ⟨v,hv,h⟩:=fI h
    obtain ⟨H₁,h1,h⟩:=lc h
    refine ⟨_,H₁,?_,h⟩
    obtain ⟨e1,he,h2⟩:=cB h1
    clear h1
    simp only [opF]; rw [hu]; dsimp only; rw [hv]; dsimp only; rw [he]; dsimp only
    cases u with
    | map b=>
      have h1:(Bool.casesOn (Nat.blt b H.ro) (Option.casesOn (vc H b) none fun es=>Option.casesOn (delF kk v es) none fun es'=>H.setK b (.mp es') some) none:Option Heap)=some H₁:=h2
      cases hb:Nat.blt b H.ro with
      | true=>rw [hb] at h1; cases h1
      | false=>
        rw [hb] at h1
        obtain ⟨es,hes,h2⟩:=cB h1
        obtain ⟨es',hp,h3⟩:=cB h2
        rw [Heap.setK_eq] at h3
        cases h3
        dsimp only; rw [hes]; dsimp only; rw [hp]; dsimp only; rw [Heap.setK_eq,hb]
    | nilmap=>
      have h1:some H=some H₁:=h2
      cases h1; rfl
    | _=>cases h2
  | len lk x=>
    obtain ⟨u,hu,h⟩:=fI h
    cases lk with
    | str=>
      obtain ⟨s,rfl,hz⟩:=ami h
      replace h:=hz
      clear hz
      have h':nf (mv s) (fun n=>k (.int .i64 (.ofNat n)) H) = .ret r H':=h
      rw [gw] at h'
      exact ⟨_,H,by simp only [opF]; rw [hu],h'⟩
    | arr n=>exact ⟨_,H,by simp only [opF]; rw [hu]; try rfl,h⟩
    | sl=>
      have h':fH u (fun n=>k (.int .i64 n) H) = .ret r H':=h
      cases u<;>first | exact ⟨_,H,by simp only [opF]; rw [hu]; try rfl,h'⟩ | cases h'
    | mp=>
      have h':oC (atB H u) (fun es=>nf (mv es) fun n=>k (.int .i64 (.ofNat n)) H) = .ret r H':=h
      obtain ⟨es,hes,h2⟩:=lc h'
      rw [gw] at h2
      cases u with
      | map b=>
        have hes':vc H b=some es:=hes
        exact ⟨_,H,by simp only [opF]; rw [hu]; dsimp only; rw [hes'],h2⟩
      | nilmap=>
        have hes':some []=some es:=hes
        cases hes'
        exact ⟨_,H,by simp only [opF]; rw [hu]; try rfl,h2⟩
      | _=>cases hes
  | minmax mx xs=>
    obtain ⟨vs,hv,h⟩:=af5 h
    cases vs with
    | nil=>cases h
    | cons v vs=>
      obtain ⟨w,hw,h⟩:=lc h
      exact ⟨w,H,by simp only [opF]; rw [hv]; dsimp only; rw [hw],h⟩
  | append sz s x=>
    obtain ⟨u,hu,h⟩:=fI h
    obtain ⟨v,hv,h⟩:=fI h
    obtain ⟨w,H₁,hw,h⟩:=YL h
    rw [pQ,yq] at h
    exact ⟨w,H₁,by simp only [opF]; rw [hu]; dsimp only; rw [hv]; exact hw,h⟩
  | copy sz d x=>
    obtain ⟨u,hu,h⟩:=fI h
    obtain ⟨v,hv,h⟩:=fI h
    obtain ⟨w,H₁,hw,h⟩:=YL h
    exact ⟨w,H₁,by simp only [opF]; rw [hu]; dsimp only; rw [hv]; exact hw,h⟩
  | clear z x=>
    obtain ⟨u,hu,h⟩:=fI h
    obtain ⟨w,H₁,hw,h⟩:=YL h
    have hw':w = .undef:=by
      have h1:=hw
      unfold acd at h1
      split at h1
      · cases h1; rfl
      · cases h1; rfl
      · cases h1; rfl
      · split at h1
        · cases h1; rfl
        · obtain ⟨_,l,g,_,h2⟩:=TX h1
          obtain ⟨_,h3⟩:=ni h2
          rw [qQ,Heap.setK_eq] at h3
          cases h3; rfl
      · cases h1
    subst hw'
    exact ⟨_,H₁,by simp only [opF]; rw [hu]; exact hw,h⟩
end
end Go.Ai
/- A table of functions, put together of its entries. -/
namespace Go.Ai
def Entry (P:Program) (f:Nat) (x:AFn):Prop:=∃ fn,P.funcs[f]?=some fn∧(fn.name == "runtime.NumGoroutine")=false∧fn.body.isNone=false∧∃ m,amq P fn m=some x
def Entries (P:Program):List (Nat × AFn)→Prop
  | []=>True
  | e::l=>Entry P e.1 e.2∧Entries P l
theorem Entries.mem {P:Program}:∀ {l:List (Nat × AFn)},Entries P l→∀ {f x},(f,x)∈l→Entry P f x
  | e::l,h,f,x,hm=>by
    rcases List.mem_cons.1 hm with rfl | hm
    · exact h.1
    · exact Entries.mem h.2 hm
theorem arF {P:Program} {fn:Func} {m:Bool} {x:AFn} (h:amq P fn m=some x):∃ ps body res,x = .code ps body res:=by
  unfold amq at h
  simp only [Option.bind_eq_some_iff] at h
  obtain ⟨c,_,ac,_,rs,_,h⟩:=h
  split at h
  · cases h; exact ⟨_,_,_,rfl⟩
  · cases h
theorem TblOk.prim_set {P:Program} {tbl:Tr AFn} (T:TblOk P tbl) {f:Nat} {g:List AV→Heap→CRes} (hp:asp P f g) (hm:∀ vs H v H',H.ro≤H.nx→g vs H = .ret v H'→Mono H H') (he:Enters P f):TblOk P (tbl.set (key f) (.prim g)):={
  mixed:=T.mixed
  mono f' g' hg:=by
    by_cases e:f=f'
    · subst e; rw [Tr.get_set_same] at hg; cases hg; exact hm
    · rw [Tr.get_set_other (fun k=>e (G5 k))] at hg; exact T.mono f' g' hg
  enters f' x hx:=by
    by_cases e:f=f'
    · subst e; exact he
    · rw [Tr.get_set_other (fun k=>e (G5 k))] at hx; exact T.enters f' x hx
  code f' ps body res hx:=by
    by_cases e:f=f'
    · subst e; rw [Tr.get_set_same] at hx; cases hx
    · rw [Tr.get_set_other (fun k=>e (G5 k))] at hx; exact T.code f' ps body res hx
  prim f' g' hg:=by
    by_cases e:f=f'
    · subst e; rw [Tr.get_set_same] at hg; cases hg; exact hp
    · rw [Tr.get_set_other (fun k=>e (G5 k))] at hg; exact T.prim f' g' hg }
end Go.Ai
