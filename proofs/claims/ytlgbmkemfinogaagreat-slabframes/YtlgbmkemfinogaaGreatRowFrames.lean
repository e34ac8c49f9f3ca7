/- The statement SlabFrames: whatever the input, it returns true and leaves its arguments as they were. The code, as printed functions; the input, as the interpreter's heap; the row. -/
import Derived.Test.YtlgbmkemfinogaaGreatLS13Flat
import Derived.Test.YtlgbmkemfinogaaGreatAiMirrorLKInsP
import Derived.Test.YtlgbmkemfinogaaGreatLKSorted2PaLWk
import Derived.Test.YtlgbmkemfinogaaGreatRows
set_option linter.all false
namespace Go.Proofs.YtlgbmkemfinogaaGreat.slabFrames
open Go.ChangeShapes Go.WideShapes Go.ChangeAt Go.RowKit Go.Ai Go.Proofs Go.Proofs.YtlgbmkemfinogaaGreat.Sh
theorem own:ownKnob Tryz.prog.godebug=none:=by kernel_rfl
def kdsDo:Kds:=.int .i64 (.int .i64 (.int .u64 .nil))
def kdsP:Kds:=kdsCfg.app (.int .i64 (.int .u8 .nil))
theorem flat30:aif Tryz.prog 6 30=some kdsP:=by kernel_rfl
theorem flat31:aif Tryz.prog 6 31=some (.slice kdsDo .nil):=by kernel_rfl
theorem acd {h:Heap} {K:Nat} {b:Kds}:∀ {a:Kds} {l:List AV},fu h K (a.app b) l→∃ l1 l2,l=l1++l2∧fu h K a l1∧fu h K b l2
  | .nil,l,x=>⟨[],l,rfl,trivial,x⟩
  | .bool r,[],x=>x.elim
  | .bool r,y::t,x=>have ⟨l1,l2,e,h1,h2⟩:=acd (a:=r) x.2; ⟨y::l1,l2,by rw [e]; rfl,⟨x.1,h1⟩,h2⟩
  | .int k r,[],x=>x.elim
  | .int k r,y::t,x=>have ⟨l1,l2,e,h1,h2⟩:=acd (a:=r) x.2; ⟨y::l1,l2,by rw [e]; rfl,⟨x.1,h1⟩,h2⟩
  | .slice q r,[],x=>x.elim
  | .slice q r,y::t,x=>have ⟨l1,l2,e,h1,h2⟩:=acd (a:=r) x.2; ⟨y::l1,l2,by rw [e]; rfl,⟨x.1,h1⟩,h2⟩
theorem in_do {h:Heap} {K:Nat} {v:AV} (a:∃ n f,n≤K∧dF h v kdsDo.len n f∧∀ i,i<n→fu h K kdsDo (f i)):∃ m A B C,DoS h v m A B C:=by
  obtain ⟨n,f,h1,h2,h3⟩:=a
  have hA:∀ i,∃ A B C:Int,i<n→f i = [.int .i64 A,.int .i64 B,.int .u64 C]∧0≤C:=by
    intro i
    by_cases hi:i<n
    · have a:=h3 i hi
      obtain ⟨a1,_,e,_,a⟩:=nh a
      rw [e]; clear e
      obtain ⟨a2,_,rfl,_,a⟩:=nh a
      obtain ⟨a3,_,rfl,h4,a⟩:=nh a
      obtain rfl:=Xe a
      have e1:IntKind.u64.min=0:=by decide
      rw [e1] at h4
      exact ⟨a1,a2,a3,fun _=>⟨rfl,h4.1⟩⟩
    · exact ⟨0,0,0,fun h=>(hi h).elim⟩
  refine ⟨n,fun i=>(hA i).choose,fun i=>(hA i).choose_spec.choose,fun i=>(hA i).choose_spec.choose_spec.choose,h2.congr fun i hi=>((hA i).choose_spec.choose_spec.choose_spec hi).1,fun i hi=>((hA i).choose_spec.choose_spec.choose_spec hi).2⟩
set_option maxRecDepth 100000 in
theorem contract (H:Type) (enc:TypeId × Value→H) (W:World) (base:Nat) (args:Array Value) (ds gs:List (DataW H)) (before:List MemPlace)
    (hval:∀ (j:Nat) t v,Tryz.f4.params[j]?=some t→args[j]?=some v→Value.okWide Tryz.prog W .any base t v)
    (hW:DataW.Whole enc Tryz.prog Tryz.f4.params.toList Rows.slabFramesSpec.vars false W args.toList ds gs before) :
    Calls Tryz.prog 4 args W fun e W'=>∃ v,e = .returned v∧Rows.slabFramesSpec.post enc Tryz.prog Tryz.f4 false true false false W args v W':=by
  have hW':=hW
  obtain ⟨p,q,hA,hV,rfl,hfz,hnd⟩:=hW
  have hA':=hA
  rw [Tryz.params4] at hA hval
  obtain ⟨v1,v2,d1,d2,p1,p2,rfl,rfl,rfl,ha1,ha2⟩:=trodAll_two hA
  obtain ⟨rfl,rfl⟩:=trodVars_none hV
  obtain ⟨D1,hD1⟩:=apU Tryz.underlying30 flat30 (hval 0 _ _ rfl rfl) ha1
  obtain ⟨D2,hD2⟩:=in_slice Tryz.underlying31 flat31 (hval 1 _ _ rfl rfl) ha2
  obtain ⟨us,u1,u2,u3⟩:=hD1 _ (Wd.le_l D1 D2)
  obtain ⟨x,x1,x2,x3⟩:=hD2 _ (Wd.le_r D1 D2)
  obtain ⟨l1,l2,rfl,w1,w2⟩:=acd u1
  obtain ⟨zc,⟨t,pp,rfl,ht,hpp⟩,z1,z2,z3⟩:=in_cfg w1
  obtain ⟨pi,_,rfl,_,w2⟩:=nh w2
  obtain ⟨fi,_,rfl,hfi,w2⟩:=nh w2
  obtain rfl:=Xe w2
  obtain ⟨_,_,e,⟨_,hx⟩,_⟩:=Tw x1
  cases e
  obtain ⟨_,_,_,_,hd⟩:=in_do hx
  have e1:IntKind.u8.min=0:=by decide
  have e2:IntKind.u8.max=255:=by decide
  rw [e1,e2] at hfi
  obtain ⟨⟨r,h'⟩,⟨hr,_⟩,hrun⟩:=alv (n:=(D1.join D2).K+70001) (zc:=zc) (by omega) ⟨by omega,by omega,by omega,fun i hi=>by have:=z3 i hi; omega⟩ (ajr _ W) ht hpp pi (fi:=fi) ⟨hfi.1,by omega⟩ hd
  dsimp only at hr
  subst hr
  have key:=al3 tb_ok (Z_frames ((D1.join D2).K+70001)) (D:=D1.join D2) (W:=W) (args:=[.agg (ahN zc t pp pi fi),x]) (v:=.bool true) (h':=h') ⟨u3,x3,trivial⟩ (fun k=>hrun fun v h=>k (.bool v) h)
  have u2':(AV.agg (ahN zc t pp pi fi)) = .agg (Bt zc t pp++[.int .i64 pi,.int .u8 fi]):=rfl
  simp only [List.map_cons,List.map_nil,u2',u2,x2] at key
  refine Calls.mono key fun e W' he=>?_
  obtain ⟨⟨M',rfl⟩,hb⟩:=he
  refine ⟨_,rfl,post_old (pa:=p1++p2) (pv:=[]) hW' (fun _ _ _=>(trodAll_cons_mk (shut_bool Tryz.underlying4 _) trodAll_mk0)) (fun sp hs=>?_) (fun _ _=>rfl) rfl hb (ok_one (by kernel_rfl) rfl (okWide_bool_mk Tryz.underlying4 _))⟩
  exact aj4 (by kernel_rfl) hb (by rw [Tryz.params4]; kernel_rfl) hA' fun p hp=>hs p (by simpa using hp)
set_option maxRecDepth 100000 in
theorem lifted (os:Os) (started:os.Started) (H:Type) (enc:TypeId × Value→H) :
    ReturnsInHanded {} Tryz.checked os 4 .any (Rows.slabFramesSpec.pre6 enc Tryz.prog Tryz.f4 Rows.slabFramesRow.domain false) (Rows.slabFramesSpec.post enc Tryz.prog Tryz.f4 false true false false):=by
  refine returnsInHanded_of_change (C:=Tryz.checked) own started (by kernel_rfl) Tryz.func4
    (ChangeSpec.witness6 (enc:=enc) (C:=Tryz.checked) false ⟨#[], #[.agg #[.int .i64 0,.int .i64 0,.int .i64 0,.int .i64 0,.int .i64 0,.int .i64 0,.int .u64 0,.int .u64 0,.int .u64 0,.int .u64 0,.int .u64 0,.int .u64 0,.int .u64 0,.int .u64 0,.int .u64 0,.slice none 0 0,.slice none 0 0,.int .i64 0,.int .u8 0],.slice none 0 0],[]⟩ 8 (by kernel_rfl) (by kernel_rfl) (by kernel_rfl) (by kernel_rfl)) ?_
  intro W base args ds gs before hval hW _ _
  exact contract H enc W base args ds gs before hval hW
theorem Aq:Rows.slabFramesRow.holds Tryz.pinned (OpenSpec.ofChange Rows.slabFramesSpec):=
  OpenClaim.holds_of_wide 4 Tryz.f4 rfl rfl rfl rfl rfl rfl rfl ⟨rfl,rfl,rfl,rfl,rfl⟩ rfl rfl rfl rfl rfl (by kernel_rfl) Tryz.func4 (by kernel_rfl)
    (of_decide_eq_true (by kernel_rfl)) (by unfold Func.isWrapper; first | (rw [if_pos (by decide +kernel)]; kernel_rfl) | (rw [if_neg (by decide +kernel)]; exact ⟨rfl,rfl⟩))
    (fun os started H enc _=>lifted os started H enc)
theorem proved:Rows.SlabFramesSaid:=
  Aq
end Go.Proofs.YtlgbmkemfinogaaGreat.slabFrames
#print axioms Go.Proofs.YtlgbmkemfinogaaGreat.slabFrames.proved
