/- The statement PoolPlays: whatever the input, it returns true and leaves its arguments as they were. The code, as printed functions; the input, as the interpreter's heap; the row. -/
import Derived.Test.YtnlbfbiogfilfaaGreatPR29PR32
import Derived.Test.YtnlbfbiogfilfaaGreatAiFlatQInsP
import Derived.Test.YtnlbfbiogfilfaaGreatPaPSndPaPWk
import Derived.Test.YtnlbfbiogfilfaaGreatRows
set_option linter.all false
namespace Go.Proofs.YtnlbfbiogfilfaaGreat.poolPlays
open Go.ChangeShapes Go.WideShapes Go.ChangeAt Go.RowKit Go.Ai Go.Proofs Go.Proofs.YtnlbfbiogfilfaaGreat.Sh
theorem own:ownKnob Tryz.prog.godebug=none:=by kernel_rfl
def kdsDo:Kds:=.int .i64 (.int .i64 (.int .u8 .nil))
theorem flat28:avn Tryz.prog 6 28=some kdsCfg:=by kernel_rfl
theorem flat3:avn Tryz.prog 6 3=some (.int .i64 .nil):=by kernel_rfl
theorem flat43:avn Tryz.prog 6 43=some (.slice kdsDo .nil):=by kernel_rfl
theorem in_do {h:ad} {K:Nat} {v:AV} (a:∃ n f,n≤K∧eD h v kdsDo.len n f∧∀ i,i<n→gz h K kdsDo (f i)):∃ m A B C,DoK h v m A B C:=by
  obtain ⟨n,f,h1,h2,h3⟩:=a
  have hA:∀ i,∃ A B C:Int,i<n→f i = [.int .i64 A,.int .i64 B,.int .u8 C]∧0≤C∧C<256:=by
    intro i
    by_cases hi:i<n
    · have a:=h3 i hi
      obtain ⟨a1,_,e,_,a⟩:=tG a
      rw [e]; clear e
      obtain ⟨a2,_,rfl,_,a⟩:=tG a
      obtain ⟨a3,_,rfl,h4,a⟩:=tG a
      obtain rfl:=aui a
      have e1:IntKind.u8.min=0:=by decide
      have e2:IntKind.u8.max=255:=by decide
      rw [e1,e2] at h4
      exact ⟨a1,a2,a3,fun _=>⟨rfl,h4.1,by omega⟩⟩
    · exact ⟨0,0,0,fun h=>(hi h).elim⟩
  refine ⟨n,fun i=>(hA i).choose,fun i=>(hA i).choose_spec.choose,fun i=>(hA i).choose_spec.choose_spec.choose,h2.congr fun i hi=>((hA i).choose_spec.choose_spec.choose_spec hi).1,fun i hi=>((hA i).choose_spec.choose_spec.choose_spec hi).2⟩
set_option maxRecDepth 100000 in
theorem contract (H:Type) (enc:TypeId × Value→H) (W:World) (base:Nat) (args:Array Value) (ds gs:List (DataW H)) (before:List MemPlace)
    (hval:∀ (j:Nat) t v,Tryz.f4.params[j]?=some t→args[j]?=some v→Value.okWide Tryz.prog W .any base t v)
    (hW:DataW.Whole enc Tryz.prog Tryz.f4.params.toList Rows.poolPlaysSpec.vars false W args.toList ds gs before) :
    Calls Tryz.prog 4 args W fun e W'=>∃ v,e = .returned v∧Rows.poolPlaysSpec.post enc Tryz.prog Tryz.f4 false true false false W args v W':=by
  have hW':=hW
  obtain ⟨p,q,hA,hV,rfl,hfz,hnd⟩:=hW
  have hA':=hA
  rw [Tryz.params4] at hA hval
  obtain ⟨v1,v0,v2,d1,d0,d2,p1,p0,p2,rfl,rfl,rfl,ha1,ha0,ha2⟩:=trodAll_three hA
  obtain ⟨rfl,rfl⟩:=trodVars_none hV
  obtain ⟨D1,hD1⟩:=aGc Tryz.underlying28 flat28 (hval 0 _ _ rfl rfl) ha1
  obtain ⟨D0,hD0⟩:=in_int Tryz.underlying3 flat3 (hval 1 _ _ rfl rfl) ha0
  obtain ⟨D2,hD2⟩:=in_slice Tryz.underlying43 flat43 (hval 2 _ _ rfl rfl) ha2
  obtain ⟨us,u1,u2,u3⟩:=hD1 _ ((Wd.le_l D1 D0).trans (Wd.le_l (D1.join D0) D2))
  obtain ⟨y,y1,y2,y3⟩:=hD0 _ ((Wd.le_r D1 D0).trans (Wd.le_l (D1.join D0) D2))
  obtain ⟨m,_,e,_,_⟩:=tG y1
  cases e
  obtain ⟨x,x1,x2,x3⟩:=hD2 _ (Wd.le_r (D1.join D0) D2)
  obtain ⟨zc,hc,z1,z2,z3⟩:=in_cfg u1
  obtain ⟨_,_,e,⟨_,hx⟩,_⟩:=amj x1
  cases e
  obtain ⟨_,_,_,_,hd⟩:=in_do hx
  obtain ⟨⟨r,h'⟩,⟨hr,_⟩,hrun⟩:=v_Plays (n:=((D1.join D0).join D2).K+70001) (zc:=zc) (by omega) ⟨by omega,by omega,by omega,fun i hi=>by have:=z3 i hi; omega⟩ (aAD _ W) hc m hd
  dsimp only at hr
  subst hr
  have key:=aD4 tb_ok (Z_plays (((D1.join D0).join D2).K+70001)) (D:=(D1.join D0).join D2) (W:=W) (args:=[.agg us,.int .i64 m,x]) (v:=.bool true) (h':=h') ⟨u3,y3,x3,trivial⟩ (fun k=>hrun fun v h=>k (.bool v) h)
  simp only [List.map_cons,List.map_nil,u2,y2,x2] at key
  refine Calls.mono key fun e W' he=>?_
  obtain ⟨⟨M',rfl⟩,hb⟩:=he
  refine ⟨_,rfl,post_old (pa:=p1++p0++p2) (pv:=[]) hW' (fun _ _ _=>(trodAll_cons_mk (shut_bool Tryz.underlying4 _) trodAll_mk0)) (fun sp hs=>?_) (fun _ _=>rfl) rfl hb (ok_one (by kernel_rfl) rfl (okWide_bool_mk Tryz.underlying4 _))⟩
  exact aAS (by kernel_rfl) hb (by rw [Tryz.params4]; kernel_rfl) hA' fun p hp=>hs p (by simpa using hp)
set_option maxRecDepth 100000 in
theorem lifted (os:Os) (started:os.Started) (H:Type) (enc:TypeId × Value→H) :
    ReturnsInHanded {} Tryz.checked os 4 .any (Rows.poolPlaysSpec.pre6 enc Tryz.prog Tryz.f4 Rows.poolPlaysRow.domain false) (Rows.poolPlaysSpec.post enc Tryz.prog Tryz.f4 false true false false):=by
  refine returnsInHanded_of_change (C:=Tryz.checked) own started (by kernel_rfl) Tryz.func4
    (ChangeSpec.witness6 (enc:=enc) (C:=Tryz.checked) false ⟨#[], #[.agg #[.int .i64 0,.int .i64 0,.int .i64 0,.int .i64 0,.int .i64 0,.int .i64 0,.int .u64 0,.int .u64 0,.int .u64 0,.int .u64 0,.int .u64 0,.int .u64 0,.int .u64 0,.int .u64 0,.int .u64 0,.slice none 0 0,.slice none 0 0],.int .i64 0,.slice none 0 0],[]⟩ 8 (by kernel_rfl) (by kernel_rfl) (by kernel_rfl) (by kernel_rfl)) ?_
  intro W base args ds gs before hval hW _ _
  exact contract H enc W base args ds gs before hval hW
theorem L1:Rows.poolPlaysRow.holds Tryz.pinned (OpenSpec.ofChange Rows.poolPlaysSpec):=
  OpenClaim.holds_of_wide 4 Tryz.f4 rfl rfl rfl rfl rfl rfl rfl ⟨rfl,rfl,rfl,rfl,rfl⟩ rfl rfl rfl rfl rfl (by kernel_rfl) Tryz.func4 (by kernel_rfl)
    (of_decide_eq_true (by kernel_rfl)) (by unfold Func.isWrapper; first | (rw [if_pos (by decide +kernel)]; kernel_rfl) | (rw [if_neg (by decide +kernel)]; exact ⟨rfl,rfl⟩))
    (fun os started H enc _=>lifted os started H enc)
theorem proved:Rows.PoolPlaysSaid:=
  L1
end Go.Proofs.YtnlbfbiogfilfaaGreat.poolPlays
#print axioms Go.Proofs.YtnlbfbiogfilfaaGreat.poolPlays.proved
