/- The statement AuditStrange: whatever the input of bulk at most 1048576, it returns true and leaves its arguments as they were. The code, as printed functions; the input, as the interpreter's heap; the row. -/
import Derived.Test.YtpoobhhdgjgdgaaGreatVA23Least
import Derived.Test.YtpoobhhdgjgdgaaGreatPaUSndPaUWk
import Derived.Test.YtpoobhhdgjgdgaaGreatRows
set_option linter.all false
namespace Go.Proofs.YtpoobhhdgjgdgaaGreat.auditStrange
open Go.ChangeShapes Go.WideShapes Go.ChangeAt Go.RowKit Go.Ai Go.Proofs Go.Proofs.YtpoobhhdgjgdgaaGreat.Sh
def kdsOdd:Kds:=.int .i64 (.int .i64 (.int .i64 (.int .u8 (.int .i64 .nil))))
theorem in_odd {h:Heap} {K:Nat} {l:List AV} (a:eO h K kdsOdd l):∃ P f Z U L,l=afZ P f Z U L:=by
  obtain ⟨a1,_,rfl,_,a⟩:=jX a
  obtain ⟨a2,_,rfl,_,a⟩:=jX a
  obtain ⟨a3,_,rfl,_,a⟩:=jX a
  obtain ⟨a4,_,rfl,_,a⟩:=jX a
  obtain ⟨a5,_,rfl,_,a⟩:=jX a
  obtain rfl:=vE a
  exact ⟨a1,a2,a3,a4,a5,rfl⟩
theorem own:ownKnob Tryz.prog.godebug=none:=by kernel_rfl
theorem flat28:flat Tryz.prog 12 28=some kdsCfg:=by kernel_rfl
theorem flat33:flat Tryz.prog 12 33=some ap5:=by kernel_rfl
theorem flat35:flat Tryz.prog 12 35=some kdsOdd:=by kernel_rfl
section
variable {H:Type}
theorem am2 (d:DataW H):1≤Rows.uptoBulk d:=by
  cases d with
  | lit l=>cases l<;>simp [Rows.uptoBulk]
  | _=>simp [Rows.uptoBulk]
theorem IJ:∀ (l:List (DataW H)),l.length≤Rows.uptoBulkAll l∧∀ d∈l,Rows.uptoBulk d≤Rows.uptoBulkAll l
  | []=>⟨Nat.zero_le _,fun d h=>by simp at h⟩
  | d::l=>by
    obtain ⟨h1,h2⟩:=IJ l
    have:=am2 d
    have e:Rows.uptoBulkAll (d::l)=Rows.uptoBulk d+Rows.uptoBulkAll l:=by simp [Rows.uptoBulkAll]
    rw [e]
    refine ⟨by rw [List.length_cons]; omega,fun x hx=>?_⟩
    rcases gk.1 hx with rfl | hx
    · omega
    · have:=h2 x hx; omega
theorem alX:BulkOk (H:=H) Rows.uptoBulk where
  len es sp:=by
    have:=(IJ es).1
    simp only [Rows.uptoBulk]; omega
  el es sp d h:=by
    simp only [Rows.uptoBulk]
    rcases h with h | h
    · have:=(IJ es).2 d h; omega
    · have:=(IJ sp).2 d h; omega
  part ps d h:=by
    have:=(IJ ps).2 d h
    simp only [Rows.uptoBulk]; omega
end
set_option maxRecDepth 100000 in
theorem contract (H:Type) (enc:TypeId × Value→H) (W:World) (base:Nat) (args:Array Value) (ds gs:List (DataW H)) (before:List MemPlace)
    (hval:∀ (j:Nat) t v,Tryz.f3.params[j]?=some t→args[j]?=some v→Value.okWide Tryz.prog W .any base t v)
    (hW:DataW.Whole enc Tryz.prog Tryz.f3.params.toList Rows.auditStrangeSpec.vars false W args.toList ds gs before) (hB:Rows.uptoSmall H (ds++gs)=true) :
    Calls Tryz.prog 3 args W fun e W'=>∃ v,e = .returned v∧Rows.auditStrangeSpec.post enc Tryz.prog Tryz.f3 false true false false W args v W':=by
  have hW':=hW
  obtain ⟨p,q,hA,hV,rfl,hfz,hnd⟩:=hW
  have hA':=hA
  rw [Tryz.params3] at hA hval
  obtain ⟨v1,v2,v3,d1,d2,d3,p1,p2,p3,rfl,rfl,rfl,ha1,ha2,ha3⟩:=trodAll_three hA
  obtain ⟨rfl,rfl⟩:=trodVars_none hV
  have hB':Rows.uptoBulkAll ([d1,d2,d3]++[])≤1048576:=of_decide_eq_true hB
  have b1:=ga ((IJ ([d1,d2,d3]++[])).2 d1 (by simp)) hB'
  have b3:=ga ((IJ ([d1,d2,d3]++[])).2 d3 (by simp)) hB'
  have b2:Rows.uptoBulk d2≤1048575:=by
    have:=am2 d1
    simp [Rows.uptoBulkAll] at hB'
    omega
  obtain ⟨D1,hD1⟩:=adx alX b1 Tryz.underlying28 flat28 (hval 0 _ _ rfl rfl) ha1
  obtain ⟨D2,hD2⟩:=adx alX b2 Tryz.underlying33 flat33 (hval 1 _ _ rfl rfl) ha2
  obtain ⟨D3,hD3⟩:=adx alX b3 Tryz.underlying35 flat35 (hval 2 _ _ rfl rfl) ha3
  obtain ⟨us,u1,u2,u3⟩:=hD1 _ ((Wd.le_l D1 D2).trans (Wd.le_l (D1.join D2) D3))
  obtain ⟨xs,x1,x2,x3⟩:=hD2 _ ((Wd.le_r D1 D2).trans (Wd.le_l (D1.join D2) D3))
  obtain ⟨ys,y1,y2,y3⟩:=hD3 _ (Wd.le_r (D1.join D2) D3)
  obtain ⟨zc,hc,z1,z2,z3⟩:=in_cfg u1
  obtain ⟨n,hn⟩:∃ n,1100000<n:=⟨_,Nat.lt_succ_self _⟩
  obtain ⟨vp,vl,vt,ps,A,B,C,D,M,S,T,rfl,hs,hl,hv,hm,hM⟩:=in_snap (n:=n) (by omega) (by omega) x1
  obtain ⟨P,f,Z,U,L,rfl⟩:=in_odd y1
  obtain ⟨⟨r,h'⟩,⟨hr,_⟩,hrun⟩:=aho (n:=n) (zc:=zc) ⟨by omega,by omega,by omega,fun i hi=>by have:=z3 i hi; omega⟩ (by omega) (by omega) (ala _ W) hc hs hl hv (by omega) (by omega) (fun i hi=>by have:=hm i hi; omega) P f Z U L
  dsimp only at hr
  subst hr
  have key:=aoB tb_ok (aqP n) (D:=(D1.join D2).join D3) (W:=W) (args:=[.agg us,.agg (sq vp vl vt),.agg (afZ P f Z U L)]) (v:=.bool true) (h':=h') ⟨u3,x3,y3,trivial⟩ (fun k=>hrun fun v h=>k (.bool v) h)
  simp only [List.map_cons,List.map_nil,u2,x2,y2] at key
  refine Calls.mono key fun e W' he=>?_
  obtain ⟨⟨M',rfl⟩,hb⟩:=he
  refine ⟨_,rfl,post_old (pa:=p1++p2++p3) (pv:=[]) hW' (fun _ _ _=>(trodAll_cons_mk (shut_bool Tryz.underlying4 _) trodAll_mk0)) (fun sp hs=>?_) (fun _ _=>rfl) rfl hb (ok_one (by kernel_rfl) rfl (okWide_bool_mk Tryz.underlying4 _))⟩
  exact akW (by kernel_rfl) hb (by rw [Tryz.params3]; kernel_rfl) hA' fun p hp=>hs p (by simpa using hp)
set_option maxRecDepth 100000 in
theorem lifted (os:Os) (started:os.Started) (H:Type) (enc:TypeId × Value→H) (F:Stop.Interp) :
    ReturnsInHanded {} Tryz.checked os 3 .any ((Rows.OpenSpec.upto Rows.auditStrangeSpec).pre6 enc Tryz.prog Tryz.f3 Rows.auditStrangeUptoRow.domain false) (((Rows.OpenSpec.upto Rows.auditStrangeSpec).at F).post enc Tryz.prog Tryz.f3 false true false false):=by
  refine returnsInHanded_of_cond (C:=Tryz.checked) (s:=Rows.OpenSpec.upto Rows.auditStrangeSpec) (k:=Rows.uptoSmall) rfl own started (by kernel_rfl) Tryz.func3
    (OpenSpec.witness (enc:=enc) (C:=Tryz.checked) (s:=Rows.OpenSpec.upto Rows.auditStrangeSpec) (k:=Rows.uptoSmall) rfl false ⟨#[], #[.agg #[.int .i64 0,.int .i64 0,.int .i64 0,.int .i64 0,.int .i64 0,.int .i64 0,.int .u64 0,.int .u64 0,.int .u64 0,.int .u64 0,.int .u64 0,.int .u64 0,.int .u64 0,.int .u64 0,.int .u64 0,.slice none 0 0,.slice none 0 0],.agg #[.slice none 0 0,.slice none 0 0,.slice none 0 0],.agg #[.int .i64 0,.int .i64 0,.int .i64 0,.int .u8 0,.int .i64 0]],[]⟩ 8 (by kernel_rfl) (by kernel_rfl) (by kernel_rfl)
      (x:=([.agg [.lit (.int .i64 0),.lit (.int .i64 0),.lit (.int .i64 0),.lit (.int .i64 0),.lit (.int .i64 0),.lit (.int .i64 0),.agg [.lit (.int .u64 0),.lit (.int .u64 0),.lit (.int .u64 0),.lit (.int .u64 0),.lit (.int .u64 0),.lit (.int .u64 0)],.lit (.int .u64 0),.lit (.int .u64 0),.lit (.int .u64 0),.nil,.nil],.agg [.nil,.nil,.nil],.agg [.lit (.int .i64 0),.lit (.int .i64 0),.lit (.int .i64 0),.lit (.int .u8 0),.lit (.int .i64 0)]],[],[])) (by kernel_rfl) rfl (by kernel_rfl)) ?_
  intro W base args ds gs before hval hW _ hB _
  exact contract H enc W base args ds gs before hval hW hB
theorem Bb:Rows.auditStrangeUptoRow.holds Tryz.pinned (Rows.OpenSpec.upto Rows.auditStrangeSpec):=
  OpenClaim.holds_of_cond 3 Tryz.f3 rfl rfl rfl rfl rfl rfl rfl ⟨rfl,rfl,rfl,rfl,rfl⟩ rfl rfl rfl rfl rfl (by kernel_rfl) Tryz.func3 (by kernel_rfl)
    (of_decide_eq_true (by kernel_rfl)) (by unfold Func.isWrapper; first | (rw [if_pos (by decide +kernel)]; kernel_rfl) | (rw [if_neg (by decide +kernel)]; exact ⟨rfl,rfl⟩))
    (fun os started H enc _ F=>lifted os started H enc F)
theorem proved:Rows.AuditStrangeUptoSaid:=
  Bb
end Go.Proofs.YtpoobhhdgjgdgaaGreat.auditStrange
#print axioms Go.Proofs.YtpoobhhdgjgdgaaGreat.auditStrange.proved
