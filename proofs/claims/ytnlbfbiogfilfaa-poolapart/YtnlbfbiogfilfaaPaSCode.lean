/- The interpreter's code of this program's functions, with notes, printed by a program. -/
import Derived.Test.YtnlbfbiogfilfaaAiCpsRun
set_option linter.all false
namespace Go.Proofs.Ytnlbfbiogfilfaa.Sh
open Go.Ai
set_option maxRecDepth 100000
def tI : Tr Ty := .node .leaf (some (.int .i64)) .leaf
def tB : Tr Ty := .node .leaf (some .bool) .leaf
def tN (l r : Tr Ty) : Tr Ty := .node l none r
def tJ (l r : Tr Ty) : Tr Ty := .node l (some (.int .i64)) r
def tC (l r : Tr Ty) : Tr Ty := .node l (some .bool) r
def I0 (p : P) (o : AOp) : Ins := .op .always (some p) o
abbrev Q0 : Type := AV → Heap → CRes
abbrev Q1 : Type := St → CRes
theorem fx1 {u0 r : Type} {f g : u0 → r} (h : ∀ x0, f x0 = g x0) : g = f := by funext x0; exact (h x0).symm
theorem fx2 {u0 u1 r : Type} {f g : u0 → u1 → r} (h : ∀ x0 x1, f x0 x1 = g x0 x1) : g = f := by funext x0 x1; exact (h x0 x1).symm
theorem fx3 {u0 u1 u2 r : Type} {f g : u0 → u1 → u2 → r} (h : ∀ x0 x1 x2, f x0 x1 x2 = g x0 x1 x2) : g = f := by funext x0 x1 x2; exact (h x0 x1 x2).symm
theorem fx4 {u0 u1 u2 u3 r : Type} {f g : u0 → u1 → u2 → u3 → r} (h : ∀ x0 x1 x2 x3, f x0 x1 x2 x3 = g x0 x1 x2 x3) : g = f := by funext x0 x1 x2 x3; exact (h x0 x1 x2 x3).symm
theorem fx5 {u0 u1 u2 u3 u4 r : Type} {f g : u0 → u1 → u2 → u3 → u4 → r} (h : ∀ x0 x1 x2 x3 x4, f x0 x1 x2 x3 x4 = g x0 x1 x2 x3 x4) : g = f := by funext x0 x1 x2 x3 x4; exact (h x0 x1 x2 x3 x4).symm
theorem fx6 {u0 u1 u2 u3 u4 u5 r : Type} {f g : u0 → u1 → u2 → u3 → u4 → u5 → r} (h : ∀ x0 x1 x2 x3 x4 x5, f x0 x1 x2 x3 x4 x5 = g x0 x1 x2 x3 x4 x5) : g = f := by funext x0 x1 x2 x3 x4 x5; exact (h x0 x1 x2 x3 x4 x5).symm
theorem fx7 {u0 u1 u2 u3 u4 u5 u6 r : Type} {f g : u0 → u1 → u2 → u3 → u4 → u5 → u6 → r} (h : ∀ x0 x1 x2 x3 x4 x5 x6, f x0 x1 x2 x3 x4 x5 x6 = g x0 x1 x2 x3 x4 x5 x6) : g = f := by funext x0 x1 x2 x3 x4 x5 x6; exact (h x0 x1 x2 x3 x4 x5 x6).symm
theorem fx8 {u0 u1 u2 u3 u4 u5 u6 u7 r : Type} {f g : u0 → u1 → u2 → u3 → u4 → u5 → u6 → u7 → r} (h : ∀ x0 x1 x2 x3 x4 x5 x6 x7, f x0 x1 x2 x3 x4 x5 x6 x7 = g x0 x1 x2 x3 x4 x5 x6 x7) : g = f := by funext x0 x1 x2 x3 x4 x5 x6 x7; exact (h x0 x1 x2 x3 x4 x5 x6 x7).symm
theorem fx9 {u0 u1 u2 u3 u4 u5 u6 u7 u8 r : Type} {f g : u0 → u1 → u2 → u3 → u4 → u5 → u6 → u7 → u8 → r} (h : ∀ x0 x1 x2 x3 x4 x5 x6 x7 x8, f x0 x1 x2 x3 x4 x5 x6 x7 x8 = g x0 x1 x2 x3 x4 x5 x6 x7 x8) : g = f := by funext x0 x1 x2 x3 x4 x5 x6 x7 x8; exact (h x0 x1 x2 x3 x4 x5 x6 x7 x8).symm
theorem fx10 {u0 u1 u2 u3 u4 u5 u6 u7 u8 u9 r : Type} {f g : u0 → u1 → u2 → u3 → u4 → u5 → u6 → u7 → u8 → u9 → r} (h : ∀ x0 x1 x2 x3 x4 x5 x6 x7 x8 x9, f x0 x1 x2 x3 x4 x5 x6 x7 x8 x9 = g x0 x1 x2 x3 x4 x5 x6 x7 x8 x9) : g = f := by funext x0 x1 x2 x3 x4 x5 x6 x7 x8 x9; exact (h x0 x1 x2 x3 x4 x5 x6 x7 x8 x9).symm
theorem fx11 {u0 u1 u2 u3 u4 u5 u6 u7 u8 u9 u10 r : Type} {f g : u0 → u1 → u2 → u3 → u4 → u5 → u6 → u7 → u8 → u9 → u10 → r} (h : ∀ x0 x1 x2 x3 x4 x5 x6 x7 x8 x9 x10, f x0 x1 x2 x3 x4 x5 x6 x7 x8 x9 x10 = g x0 x1 x2 x3 x4 x5 x6 x7 x8 x9 x10) : g = f := by funext x0 x1 x2 x3 x4 x5 x6 x7 x8 x9 x10; exact (h x0 x1 x2 x3 x4 x5 x6 x7 x8 x9 x10).symm
def p0 : P := .h
def p1 : P := .o (.h)
def p2 : P := .i (.h)
def p3 : P := .o (.o (.h))
def p4 : P := .i (.o (.h))
def p5 : P := .o (.i (.h))
def p6 : P := .i (.i (.h))
def p7 : P := .o (.o (.o (.h)))
def p8 : P := .i (.o (.o (.h)))
def p9 : P := .o (.i (.o (.h)))
def p10 : P := .i (.i (.o (.h)))
def p11 : P := .o (.o (.i (.h)))
def p12 : P := .i (.o (.i (.h)))
def p13 : P := .o (.i (.i (.h)))
def p14 : P := .i (.i (.i (.h)))
def p15 : P := .o (.o (.o (.o (.h))))
def p16 : P := .i (.o (.o (.o (.h))))
def p17 : P := .o (.i (.o (.o (.h))))
def p18 : P := .i (.i (.o (.o (.h))))
def p19 : P := .o (.o (.i (.o (.h))))
def p20 : P := .i (.o (.i (.o (.h))))
def p21 : P := .o (.i (.i (.o (.h))))
def p22 : P := .i (.i (.i (.o (.h))))
def p23 : P := .o (.o (.o (.i (.h))))
def p24 : P := .i (.o (.o (.i (.h))))
def p25 : P := .o (.i (.o (.i (.h))))
def p26 : P := .i (.i (.o (.i (.h))))
def p27 : P := .o (.o (.i (.i (.h))))
def p28 : P := .i (.o (.i (.i (.h))))
def p29 : P := .o (.i (.i (.i (.h))))
def p30 : P := .i (.i (.i (.i (.h))))
def p31 : P := .o (.o (.o (.o (.o (.h)))))
def p32 : P := .i (.o (.o (.o (.o (.h)))))
def p33 : P := .o (.i (.o (.o (.o (.h)))))
def p34 : P := .i (.i (.o (.o (.o (.h)))))
def p35 : P := .o (.o (.i (.o (.o (.h)))))
def p36 : P := .i (.o (.i (.o (.o (.h)))))
def p37 : P := .o (.i (.i (.o (.o (.h)))))
def p38 : P := .i (.i (.i (.o (.o (.h)))))
def p39 : P := .o (.o (.o (.i (.o (.h)))))
def p40 : P := .i (.o (.o (.i (.o (.h)))))
def p41 : P := .o (.i (.o (.i (.o (.h)))))
def p42 : P := .i (.i (.o (.i (.o (.h)))))
def p43 : P := .o (.o (.i (.i (.o (.h)))))
def p44 : P := .i (.o (.i (.i (.o (.h)))))
def p45 : P := .o (.i (.i (.i (.o (.h)))))
def p46 : P := .i (.i (.i (.i (.o (.h)))))
def p47 : P := .o (.o (.o (.o (.i (.h)))))
def p48 : P := .i (.o (.o (.o (.i (.h)))))
def p49 : P := .o (.i (.o (.o (.i (.h)))))
def p50 : P := .i (.i (.o (.o (.i (.h)))))
def p51 : P := .o (.o (.i (.o (.i (.h)))))
def p52 : P := .i (.o (.i (.o (.i (.h)))))
def p53 : P := .o (.i (.i (.o (.i (.h)))))
def p54 : P := .i (.i (.i (.o (.i (.h)))))
def p55 : P := .o (.o (.o (.i (.i (.h)))))
def p56 : P := .i (.o (.o (.i (.i (.h)))))
def p57 : P := .o (.i (.o (.i (.i (.h)))))
def p58 : P := .i (.i (.o (.i (.i (.h)))))
def p59 : P := .o (.o (.i (.i (.i (.h)))))
def p60 : P := .i (.o (.i (.i (.i (.h)))))
def p61 : P := .o (.i (.i (.i (.i (.h)))))
def p62 : P := .i (.i (.i (.i (.i (.h)))))
def p63 : P := .o (.o (.o (.o (.o (.o (.h))))))
def p64 : P := .i (.o (.o (.o (.o (.o (.h))))))
def p65 : P := .o (.i (.o (.o (.o (.o (.h))))))
def p66 : P := .i (.i (.o (.o (.o (.o (.h))))))
def p67 : P := .o (.o (.i (.o (.o (.o (.h))))))
def p68 : P := .i (.o (.i (.o (.o (.o (.h))))))
def p69 : P := .o (.i (.i (.o (.o (.o (.h))))))
def p70 : P := .i (.i (.i (.o (.o (.o (.h))))))
def p71 : P := .o (.o (.o (.i (.o (.o (.h))))))
def p72 : P := .i (.o (.o (.i (.o (.o (.h))))))
def p73 : P := .o (.i (.o (.i (.o (.o (.h))))))
def p74 : P := .i (.i (.o (.i (.o (.o (.h))))))
def p75 : P := .o (.o (.i (.i (.o (.o (.h))))))
def p76 : P := .i (.o (.i (.i (.o (.o (.h))))))
def p77 : P := .o (.i (.i (.i (.o (.o (.h))))))
def p78 : P := .i (.i (.i (.i (.o (.o (.h))))))
def p79 : P := .o (.o (.o (.o (.i (.o (.h))))))
def p80 : P := .i (.o (.o (.o (.i (.o (.h))))))
def p81 : P := .o (.i (.o (.o (.i (.o (.h))))))
def p82 : P := .i (.i (.o (.o (.i (.o (.h))))))
def p83 : P := .o (.o (.i (.o (.i (.o (.h))))))
def p84 : P := .i (.o (.i (.o (.i (.o (.h))))))
def p85 : P := .o (.i (.i (.o (.i (.o (.h))))))
def p86 : P := .i (.i (.i (.o (.i (.o (.h))))))
def p87 : P := .o (.o (.o (.i (.i (.o (.h))))))
def p88 : P := .i (.o (.o (.i (.i (.o (.h))))))
def p89 : P := .o (.i (.o (.i (.i (.o (.h))))))
def p90 : P := .i (.i (.o (.i (.i (.o (.h))))))
def p91 : P := .o (.o (.i (.i (.i (.o (.h))))))
def p92 : P := .i (.o (.i (.i (.i (.o (.h))))))
def p93 : P := .o (.i (.i (.i (.i (.o (.h))))))
def p94 : P := .i (.i (.i (.i (.i (.o (.h))))))
def p95 : P := .o (.o (.o (.o (.o (.i (.h))))))
def p96 : P := .i (.o (.o (.o (.o (.i (.h))))))
def p97 : P := .o (.i (.o (.o (.o (.i (.h))))))
def p98 : P := .i (.i (.o (.o (.o (.i (.h))))))
def p99 : P := .o (.o (.i (.o (.o (.i (.h))))))
def p100 : P := .i (.o (.i (.o (.o (.i (.h))))))
def p101 : P := .o (.i (.i (.o (.o (.i (.h))))))
def p102 : P := .i (.i (.i (.o (.o (.i (.h))))))
def p103 : P := .o (.o (.o (.i (.o (.i (.h))))))
def p104 : P := .i (.o (.o (.i (.o (.i (.h))))))
abbrev kd : Nat := 37
def ux : Tr Ty := (tC (tJ (tN tB tI) .leaf) (tJ (tN tB .leaf) (tN tI .leaf)))
def a_plan_Check_f1 : Kp := [(p0, .bool), (p1, (.int .i64)), (p2, (.int .i64)), (p3, .any)]
def z_plan_Check_f1 : List (Rv × Ty) := []
def K9 : List Ins := [I0 p9 (.load 1 false (.t p3)),
  I0 p10 (.mov (.t p1)),
  I0 p11 (.mov (.t p2)),
  I0 p12 (.build [(.int .i64 0), (.int .i64 0)] [(0, 1, (.t p10)), (1, 1, (.t p11))]),
  I0 p13 (.buildSlice 1 [(.int .i64 0), (.int .i64 0)] [(0, 2, (.t p12))]),
  I0 p14 (.append 2 (.t p9) (.t p13)),
  .op .always none (.store 1 (.t p3) (.t p14))]
def LB : List Ins := [I0 p7 (.mov (.t p0)),
  I0 p8 (.not (.t p7))]
def zL : SC := .seq none (.reg [(none, LB)]) (.cond (.t p8) (.reg [(none, K9)]) (.skip))
def PM : AFn := .code (a_plan_Check_f1.map (·.1)) (gY zL) (z_plan_Check_f1.map (·.1))
abbrev dg : Nat := 54
def vv : Tr Ty := (tJ (tJ (tN tI tI) (tN tB tB)) (tJ (tN tI tI) (tC tB tB)))
def a_plan_within : Kp := [(p0, (.int .i64)), (p1, (.int .i64)), (p2, (.int .i64))]
def z_plan_within : List (Rv × Ty) := [(.t p6, .bool)]
def Ra : Kp := [(p14, .bool)]
def Rj : List Ins := [I0 p7 (.mov (.t p0)),
  I0 p8 (.mov (.t p1)),
  I0 p9 (.bin .geq (.t p7) (.t p8)),
  I0 p10 (.mov (.t p9)),
  .op (.on p10 true) (some p11) (.mov (.t p0)),
  .op (.on p10 true) (some p12) (.mov (.t p2)),
  .op (.on p10 true) (some p13) (.bin .leq (.t p11) (.t p12)),
  I0 p14 (.pick (.t p10) (.t p13) (.c (.bool false)))]
def Q5 : List Ins := [I0 p6 (.mov (.t p14))]
def QK : List Ins := [I0 p6 (.mov (.c (.bool false)))]
def EB : SC := .seq none (.reg [(none, QK)]) (.seq none (.reg [(some Ra, Rj), (none, Q5)]) (.ret))
def VQ : AFn := .code (a_plan_within.map (·.1)) (gY EB) (z_plan_within.map (·.1))
abbrev pV : Nat := 53
def xL : Tr Ty := (tJ (tJ (tN tB tI) (tJ tI tB)) (tN (tC tB tI) (tJ tI tB)))
def a_plan_power : Kp := [(p0, (.int .i64)), (p1, (.int .i64))]
def z_plan_power : List (Rv × Ty) := [(.t p4, .bool)]
def Tu : Kp := [(p14, .bool)]
def Tz : List Ins := [I0 p5 (.mov (.t p0)),
  I0 p6 (.mov (.t p1)),
  .call .always (some p7) false (.c (.func 54 [] [])) [(.t p5), (.c (.int .i64 1)), (.t p6)],
  I0 p8 (.mov (.t p7)),
  .op (.on p8 true) (some p9) (.mov (.t p0)),
  .op (.on p8 true) (some p10) (.mov (.t p0)),
  .op (.on p8 true) (some p11) (.bin .sub (.t p10) (.c (.int .i64 1))),
  .op (.on p8 true) (some p12) (.bin .and (.t p9) (.t p11)),
  .op (.on p8 true) (some p13) (.bin .eql (.t p12) (.c (.int .i64 0))),
  I0 p14 (.pick (.t p8) (.t p13) (.c (.bool false)))]
def T3 : List Ins := [I0 p4 (.mov (.t p14))]
def R9 : List Ins := [I0 p4 (.mov (.c (.bool false)))]
def H2 : SC := .seq none (.reg [(none, R9)]) (.seq none (.reg [(some Tu, Tz), (none, T3)]) (.ret))
def XL : AFn := .code (a_plan_power.map (·.1)) (gY H2) (z_plan_power.map (·.1))
abbrev fb : Nat := 38
def jY : Tr Ty := (tN (tN (tN (tN (tJ tI .leaf) (tC tB .leaf)) (tC tB (tC tB .leaf))) (tC (tC (tC tB .leaf) .leaf) (tJ (tJ tB .leaf) tB))) (tC (tJ (tJ (tJ tB .leaf) tB) (tN (tN tI .leaf) (tC tB .leaf))) (tC (tC (tC tB .leaf) (tJ tI .leaf)) (tN (tC tB .leaf) .leaf))))
def a_plan_machine : Kp := [(p0, .any)]
def z_plan_machine : List (Rv × Ty) := [(.t p2, .bool)]
def NM : Kp := [(p1, .any), (p10, .bool)]
def MO : Kp := [(p1, .any), (p18, .bool)]
def Ni : Kp := [(p1, .any), (p23, .bool)]
def MZ : Kp := [(p1, .any), (p28, .bool)]
def Or : Kp := [(p1, .any), (p33, .bool)]
def Mu : Kp := [(p1, .any), (p38, .bool)]
def NQ : Kp := [(p44, .bool)]
def Nk : List Ins := [I0 p3 (.fa 1 (.t p1)),
  I0 p4 (.load 1 false (.t p3)),
  .call .always (some p5) false (.c (.func 53 [] [])) [(.t p4), (.c (.int .i64 16))],
  I0 p6 (.mov (.t p5)),
  .op (.on p6 true) (some p7) (.fa 0 (.t p1)),
  .op (.on p6 true) (some p8) (.load 1 false (.t p7)),
  .call (.on p6 true) (some p9) false (.c (.func 54 [] [])) [(.t p8), (.c (.int .i64 1)), (.c (.int .i64 4096))],
  I0 p10 (.pick (.t p6) (.t p9) (.c (.bool false)))]
def M7 : List Ins := [I0 p11 (.mov (.t p10)),
  .op (.on p11 true) (some p12) (.fa 0 (.t p1)),
  .op (.on p11 true) (some p13) (.load 1 false (.t p12)),
  .op (.on p11 true) (some p14) (.fa 1 (.t p1)),
  .op (.on p11 true) (some p15) (.load 1 false (.t p14)),
  .op (.on p11 true) (some p16) (.bin .rem (.t p13) (.t p15)),
  .op (.on p11 true) (some p17) (.bin .eql (.t p16) (.c (.int .i64 0))),
  I0 p18 (.pick (.t p11) (.t p17) (.c (.bool false)))]
def NT : List Ins := [I0 p19 (.mov (.t p18)),
  .op (.on p19 true) (some p20) (.fa 3 (.t p1)),
  .op (.on p19 true) (some p21) (.load 1 false (.t p20)),
  .call (.on p19 true) (some p22) false (.c (.func 53 [] [])) [(.t p21), (.c (.int .i64 4096))],
  I0 p23 (.pick (.t p19) (.t p22) (.c (.bool false)))]
def Nz : List Ins := [I0 p24 (.mov (.t p23)),
  .op (.on p24 true) (some p25) (.fa 2 (.t p1)),
  .op (.on p24 true) (some p26) (.load 1 false (.t p25)),
  .call (.on p24 true) (some p27) false (.c (.func 54 [] [])) [(.t p26), (.c (.int .i64 1)), (.c (.int .i64 16))],
  I0 p28 (.pick (.t p24) (.t p27) (.c (.bool false)))]
def MH : List Ins := [I0 p29 (.mov (.t p28)),
  .op (.on p29 true) (some p30) (.fa 4 (.t p1)),
  .op (.on p29 true) (some p31) (.load 1 false (.t p30)),
  .call (.on p29 true) (some p32) false (.c (.func 54 [] [])) [(.t p31), (.c (.int .i64 1)), (.c (.int .i64 16))],
  I0 p33 (.pick (.t p29) (.t p32) (.c (.bool false)))]
def M3 : List Ins := [I0 p34 (.mov (.t p33)),
  .op (.on p34 true) (some p35) (.fa 5 (.t p1)),
  .op (.on p34 true) (some p36) (.load 1 false (.t p35)),
  .call (.on p34 true) (some p37) false (.c (.func 54 [] [])) [(.t p36), (.c (.int .i64 1)), (.c (.int .i64 64))],
  I0 p38 (.pick (.t p34) (.t p37) (.c (.bool false)))]
def Ny : List Ins := [I0 p39 (.mov (.t p38)),
  .op (.on p39 true) (some p40) (.fa 16 (.t p1)),
  .op (.on p39 true) (some p41) (.load 1 false (.t p40)),
  .op (.on p39 true) (some p42) (.len .sl (.t p41)),
  .call (.on p39 true) (some p43) false (.c (.func 54 [] [])) [(.t p42), (.c (.int .i64 1)), (.c (.int .i64 8))],
  I0 p44 (.pick (.t p39) (.t p43) (.c (.bool false)))]
def Nq : List Ins := [I0 p2 (.mov (.t p44))]
def Ne : List Ins := [I0 p1 (.box (.t p0)),
  I0 p2 (.mov (.c (.bool false)))]
def Bk : SC := .seq none (.reg [(none, Ne)]) (.seq none (.reg [(some NM, Nk), (some MO, M7), (some Ni, NT), (some MZ, Nz), (some Or, MH), (some Mu, M3), (some NQ, Ny), (none, Nq)]) (.ret))
def TO : AFn := .code (a_plan_machine.map (·.1)) (gY Bk) (z_plan_machine.map (·.1))
abbrev eP : Nat := 39
def g0 : Tr Ty := (tN (tN (.node (.node (tJ .leaf tI) (some (.int .u64)) tB) (some (.int .u64)) (.node (.node .leaf (some (.int .u64)) .leaf) (some (.int .u64)) (.node tB (some (.int .u64)) .leaf))) (.node (.node .leaf (some (.int .u64)) (tC (.node .leaf (some (.int .u64)) .leaf) .leaf)) (some (.int .u64)) (.node (.node tI (some (.int .u64)) .leaf) (some (.int .u64)) (tN tB .leaf)))) (tJ (tN (tN (tJ (.node .leaf (some (.int .u64)) .leaf) .leaf) (.node (.node .leaf (some (.int .u64)) .leaf) (some (.int .u64)) .leaf)) (tN (.node tI (some (.int .u64)) .leaf) (tJ (.node .leaf (some (.int .u64)) .leaf) .leaf))) (tN (tN (tN (.node .leaf (some (.int .u64)) .leaf) .leaf) (tC tB .leaf)) (tN tB (.node tB (some (.int .u64)) .leaf)))))
def a_cost_Check : Kp := [(p0, .any)]
def z_cost_Check : List (Rv × Ty) := [(.t p2, (.int .i64))]
def R5 : Kp := []
def Ir : Kp := [(p35, .any), (p36, (.int .i64)), (p37, (.int .i64))]
def SX : Kp := [(p35, .any), (p36, (.int .i64)), (p37, (.int .i64)), (p46, .bool)]
def Sr : Kp := [(p1, .any)]
def Iv : Kp := [(p1, .any), (p3, (.int .u64)), (p14, .any), (p15, (.int .i64)), (p16, (.int .i64))]
def SO : Kp := [(p1, .any), (p5, (.int .u64)), (p14, .any), (p15, (.int .i64)), (p16, (.int .i64)), (p26, .bool)]
def R3 : List Ins := [I0 p2 (.mov (.c (.int .i64 0)))]
def Sz : List Ins := [I0 p47 (.bin .add (.t p37) (.c (.int .i64 1))),
  I0 p37 (.mov (.t p47))]
def S2 : List Ins := [I0 p2 (.mov (.c (.int .i64 100)))]
def T5 : List Ins := [I0 p41 (.mov (.t p7)),
  I0 p42 (.bin .lss (.t p41) (.c (.int .u64 1))),
  I0 p43 (.mov (.t p42)),
  .op (.on p43 false) (some p44) (.mov (.t p7)),
  .op (.on p43 false) (some p45) (.bin .gtr (.t p44) (.c (.int .u64 65536))),
  I0 p46 (.pick (.t p43) (.c (.bool true)) (.t p45))]
def TN : List Ins := [I0 p39 (.iaS 1 (.t p35) (.t p37)),
  I0 p40 (.load 1 false (.t p39)),
  I0 p7 (.mov (.t p40))]
def S3 : List Ins := [I0 p38 (.bin .lss (.t p37) (.t p36))]
def SZ : List Ins := [I0 p29 (.fa 3 (.t p1)),
  I0 p30 (.load 1 false (.t p29)),
  I0 p31 (.fa 4 (.t p1)),
  I0 p32 (.load 1 false (.t p31)),
  I0 p33 (.fa 5 (.t p1)),
  I0 p34 (.load 1 false (.t p33)),
  I0 p35 (.buildSlice 3 [(.int .u64 0), (.int .u64 0), (.int .u64 0)] [(0, 1, (.t p30)), (1, 1, (.t p32)), (2, 1, (.t p34))]),
  I0 p36 (.len .sl (.t p35)),
  I0 p37 (.mov (.c (.int .i64 0)))]
def TQ : List Ins := [I0 p28 (.bin .add (.t p16) (.c (.int .i64 1))),
  I0 p16 (.mov (.t p28))]
def Sa : List Ins := [I0 p27 (.mov (.t p5)),
  I0 p3 (.mov (.t p27))]
def T0 : List Ins := [I0 p2 (.mov (.c (.int .i64 100)))]
def Rh : List Ins := [I0 p20 (.mov (.t p5)),
  I0 p21 (.mov (.t p3)),
  I0 p22 (.bin .lss (.t p20) (.t p21)),
  I0 p23 (.mov (.t p22)),
  .op (.on p23 false) (some p24) (.mov (.t p5)),
  .op (.on p23 false) (some p25) (.bin .gtr (.t p24) (.c (.int .u64 65536))),
  I0 p26 (.pick (.t p23) (.c (.bool true)) (.t p25))]
def Qi : List Ins := [I0 p18 (.iaS 1 (.t p14) (.t p16)),
  I0 p19 (.load 1 false (.t p18)),
  I0 p5 (.mov (.t p19))]
def Qa : List Ins := [I0 p17 (.bin .lss (.t p16) (.t p15))]
def PZ : List Ins := [I0 p8 (.fa 0 (.t p1)),
  I0 p9 (.load 1 false (.t p8)),
  I0 p10 (.fa 1 (.t p1)),
  I0 p11 (.load 1 false (.t p10)),
  I0 p12 (.fa 2 (.t p1)),
  I0 p13 (.load 1 false (.t p12)),
  I0 p14 (.buildSlice 3 [(.int .u64 0), (.int .u64 0), (.int .u64 0)] [(0, 1, (.t p9)), (1, 1, (.t p11)), (2, 1, (.t p13))]),
  I0 p15 (.len .sl (.t p14)),
  I0 p16 (.mov (.c (.int .i64 0)))]
def Qb : List Ins := [I0 p3 (.mov (.c (.int .u64 1)))]
def Rc : List Ins := [I0 p1 (.box (.t p0)),
  I0 p2 (.mov (.c (.int .i64 0)))]
def HQ : SC := .seq none (.reg [(none, Rc)]) (.seq none (.reg [(none, Qb)]) (.seq none (.seq none (.reg [(none, PZ)]) (.block 0 (some Sr) (.loop Iv (.seq none (.reg [(none, Qa)]) (.seq none (.cond (.t p17) (.skip) (.exit 0)) (.seq none (.block 1 none (.seq none (.reg [(none, Qi)]) (.seq none (.seq none (.reg [(some SO, Rh)]) (.cond (.t p26) (.seq none (.reg [(none, T0)]) (.ret)) (.skip))) (.reg [(none, Sa)])))) (.reg [(none, TQ)]))))))) (.seq none (.seq none (.reg [(none, SZ)]) (.block 2 (some R5) (.loop Ir (.seq none (.reg [(none, S3)]) (.seq none (.cond (.t p38) (.skip) (.exit 2)) (.seq none (.block 3 none (.seq none (.reg [(none, TN)]) (.seq none (.reg [(some SX, T5)]) (.cond (.t p46) (.seq none (.reg [(none, S2)]) (.ret)) (.skip))))) (.reg [(none, Sz)]))))))) (.seq none (.reg [(none, R3)]) (.ret)))))
def YB : AFn := .code (a_cost_Check.map (·.1)) (gY HQ) (z_cost_Check.map (·.1))
abbrev gd : Nat := 31
def d6 : Tr Ty := (tN (tJ (tN (tJ tI .leaf) tI) (tJ (tN tI .leaf) tI)) (tN (tJ (tJ tB .leaf) .leaf) (tN (tJ tI .leaf) .leaf)))
def a_slices_Index___int_int_ : Kp := [(p0, .any), (p1, (.int .i64))]
def z_slices_Index___int_int_ : List (Rv × Ty) := [(.t p4, (.int .i64))]
def wi : Kp := []
def pT : Kp := [(p0, .any), (p1, (.int .i64)), (p7, (.int .i64)), (p8, (.int .i64))]
def wy : List Ins := [I0 p4 (.mov (.c (.int .i64 (-1))))]
def wo : List Ins := [I0 p18 (.bin .add (.t p8) (.c (.int .i64 1))),
  I0 p8 (.mov (.t p18))]
def wn : List Ins := [I0 p17 (.mov (.t p5)),
  I0 p4 (.mov (.t p17))]
def wu : List Ins := [I0 p11 (.mov (.t p1)),
  I0 p12 (.mov (.t p0)),
  I0 p13 (.mov (.t p5)),
  I0 p14 (.iaS 1 (.t p12) (.t p13)),
  I0 p15 (.load 1 false (.t p14)),
  I0 p16 (.bin .eql (.t p11) (.t p15))]
def ww : List Ins := [I0 p10 (.mov (.t p8)),
  I0 p5 (.mov (.t p10))]
def wx : List Ins := [I0 p9 (.bin .lss (.t p8) (.t p7))]
def wk : List Ins := [I0 p6 (.mov (.t p0)),
  I0 p7 (.len .sl (.t p6)),
  I0 p8 (.mov (.c (.int .i64 0)))]
def wt : List Ins := [I0 p4 (.mov (.c (.int .i64 0)))]
def nL : SC := .seq none (.reg [(none, wt)]) (.seq none (.seq none (.reg [(none, wk)]) (.block 0 (some wi) (.loop pT (.seq none (.reg [(none, wx)]) (.seq none (.cond (.t p9) (.skip) (.exit 0)) (.seq none (.block 1 none (.seq none (.reg [(none, ww)]) (.seq none (.reg [(none, wu)]) (.cond (.t p16) (.seq none (.reg [(none, wn)]) (.ret)) (.skip))))) (.reg [(none, wo)]))))))) (.seq none (.reg [(none, wy)]) (.ret)))
def yo : AFn := .code (a_slices_Index___int_int_.map (·.1)) (gY nL) (z_slices_Index___int_int_.map (·.1))
abbrev eu : Nat := 72
def kc : Tr Ty := (tN (tJ (tN tI .leaf) .leaf) (tN (tC tB .leaf) tI))
def a_slices_Contains___int_int_ : Kp := [(p0, .any), (p1, (.int .i64))]
def z_slices_Contains___int_int_ : List (Rv × Ty) := [(.t p4, .bool)]
def sY : List Ins := [I0 p5 (.mov (.t p0)),
  I0 p6 (.mov (.t p1)),
  .call .always (some p7) false (.c (.func 31 [] [])) [(.t p5), (.t p6)],
  I0 p8 (.bin .geq (.t p7) (.c (.int .i64 0))),
  I0 p4 (.mov (.t p8))]
def tc : List Ins := [I0 p4 (.mov (.c (.bool false)))]
def l8 : SC := .seq none (.reg [(none, tc)]) (.seq none (.reg [(none, sY)]) (.ret))
def uP : AFn := .code (a_slices_Contains___int_int_.map (·.1)) (gY l8) (z_slices_Contains___int_int_.map (·.1))
abbrev mV : Nat := 60
def eV : Tr Ty := (tN (tJ (tN (tJ (tN tB .leaf) (tJ tI tI)) (tN .leaf (tN tB .leaf))) (tN (tN (tJ tB tI) (tC tB tI)) (tN (tN tI .leaf) (tC .leaf tB)))) (tN (tC (tN (tN tI tI) (tC tI tB)) (tJ (tJ tI .leaf) (tJ .leaf tI))) (tJ (tN (tJ tB .leaf) (tJ tB tI)) (tN tI (tC tI .leaf)))))
def a_plan_colours : Kp := [(p0, .any), (p1, (.int .i64))]
def z_plan_colours : List (Rv × Ty) := [(.t p4, .bool)]
def N2 : Kp := [(p5, .any)]
def CP : Kp := [(p1, (.int .i64)), (p2, .any), (p5, .any), (p16, .any), (p17, (.int .i64)), (p18, (.int .i64))]
def Ok : Kp := [(p1, (.int .i64)), (p2, .any), (p5, .any), (p16, .any), (p17, (.int .i64)), (p18, (.int .i64))]
def Dj : Kp := [(p1, (.int .i64)), (p2, .any), (p5, .any), (p7, (.int .i64)), (p16, .any), (p17, (.int .i64)), (p18, (.int .i64)), (p47, .any), (p48, (.int .i64)), (p49, (.int .i64))]
def MJ : Kp := [(p1, (.int .i64)), (p2, .any), (p5, .any), (p6, (.int .i64)), (p7, (.int .i64)), (p16, .any), (p17, (.int .i64)), (p18, (.int .i64)), (p30, .bool)]
def My : Kp := [(p1, (.int .i64)), (p2, .any), (p5, .any), (p7, (.int .i64)), (p16, .any), (p17, (.int .i64)), (p18, (.int .i64)), (p43, .bool)]
def NJ : List Ins := [I0 p59 (.mov (.t p5)),
  I0 p60 (.len .sl (.t p59)),
  I0 p61 (.bin .gtr (.t p60) (.c (.int .i64 0))),
  I0 p4 (.mov (.t p61))]
def NU : List Ins := [I0 p58 (.bin .add (.t p18) (.c (.int .i64 1))),
  I0 p18 (.mov (.t p58))]
def Mz : List Ins := [I0 p57 (.bin .add (.t p49) (.c (.int .i64 1))),
  I0 p49 (.mov (.t p57))]
def Of : List Ins := [I0 p4 (.mov (.c (.bool false)))]
def MB : List Ins := [I0 p53 (.fa 0 (.t p9)),
  I0 p54 (.load 1 false (.t p53)),
  I0 p55 (.mov (.t p7)),
  .call .always (some p56) false (.c (.func 72 [] [])) [(.t p54), (.t p55)]]
def Nl : List Ins := [I0 p51 (.iaS 8 (.t p47) (.t p49)),
  I0 p52 (.load 8 true (.t p51)),
  I0 p9 (.alloc [.nilslice, (.int .i64 0), (.int .i64 0), (.int .i64 0), (.int .i64 0), (.int .i64 0), (.int .i64 0), (.int .i64 0)]),
  .op .always none (.store 8 (.t p9) (.t p52))]
def ND : List Ins := [I0 p50 (.bin .lss (.t p49) (.t p48))]
def Nb : List Ins := [I0 p44 (.fa 16 (.t p2)),
  I0 p45 (.load 1 false (.t p44)),
  I0 p46 (.mov (.t p1)),
  I0 p47 (.sl (.sl 8) (.t p45) none (some (.t p46)) none),
  I0 p48 (.len .sl (.t p47)),
  I0 p49 (.mov (.c (.int .i64 0)))]
def Ol : List Ins := [I0 p4 (.mov (.c (.bool false)))]
def M5 : List Ins := [I0 p23 (.mov (.t p7)),
  I0 p24 (.bin .lss (.t p23) (.c (.int .i64 0))),
  I0 p25 (.mov (.t p24)),
  .op (.on p25 false) (some p26) (.mov (.t p7)),
  .op (.on p25 false) (some p27) (.fa 1 (.t p2)),
  .op (.on p25 false) (some p28) (.load 1 false (.t p27)),
  .op (.on p25 false) (some p29) (.bin .geq (.t p26) (.t p28)),
  I0 p30 (.pick (.t p25) (.c (.bool true)) (.t p29))]
def LF : List Ins := [I0 p31 (.mov (.t p30)),
  .op (.on p31 false) (some p32) (.mov (.t p6)),
  .op (.on p31 false) (some p33) (.bin .gtr (.t p32) (.c (.int .i64 0))),
  .op (.on p31 false) (some p34) (.mov (.t p33)),
  .op (.on p34 true) (some p35) (.mov (.t p5)),
  .op (.on p34 true) (some p36) (.mov (.t p6)),
  .op (.on p34 true) (some p37) (.bin .sub (.t p36) (.c (.int .i64 1))),
  .op (.on p34 true) (some p38) (.iaS 1 (.t p35) (.t p37)),
  .op (.on p34 true) (some p39) (.load 1 false (.t p38)),
  .op (.on p34 true) (some p40) (.mov (.t p7)),
  .op (.on p34 true) (some p41) (.bin .geq (.t p39) (.t p40)),
  .op (.on p31 false) (some p42) (.pick (.t p34) (.t p41) (.c (.bool false))),
  I0 p43 (.pick (.t p31) (.c (.bool true)) (.t p42))]
def K2 : List Ins := [I0 p20 (.mov (.t p18)),
  I0 p21 (.iaS 1 (.t p16) (.t p18)),
  I0 p22 (.load 1 false (.t p21)),
  I0 p6 (.mov (.t p20)),
  I0 p7 (.mov (.t p22))]
def KM : List Ins := [I0 p19 (.bin .lss (.t p18) (.t p17))]
def KE : List Ins := [I0 p16 (.mov (.t p5)),
  I0 p17 (.len .sl (.t p16)),
  I0 p18 (.mov (.c (.int .i64 0)))]
def LH : List Ins := [I0 p10 (.fa 16 (.t p2)),
  I0 p11 (.load 1 false (.t p10)),
  I0 p12 (.mov (.t p1)),
  I0 p13 (.iaS 8 (.t p11) (.t p12)),
  I0 p14 (.fa 0 (.t p13)),
  I0 p15 (.load 1 false (.t p14)),
  I0 p5 (.mov (.t p15))]
def Lr : List Ins := [I0 p2 (.box (.t p0)),
  I0 p4 (.mov (.c (.bool false)))]
def BM : SC := .seq none (.reg [(none, Lr)]) (.seq none (.reg [(none, LH)]) (.seq none (.seq none (.reg [(none, KE)]) (.block 0 (some N2) (.loop CP (.seq none (.reg [(none, KM)]) (.seq none (.cond (.t p19) (.skip) (.exit 0)) (.seq none (.block 1 none (.seq none (.reg [(none, K2)]) (.seq none (.seq none (.reg [(some MJ, M5), (some My, LF)]) (.cond (.t p43) (.seq none (.reg [(none, Ol)]) (.ret)) (.skip))) (.seq none (.reg [(none, Nb)]) (.block 2 (some Ok) (.loop Dj (.seq none (.reg [(none, ND)]) (.seq none (.cond (.t p50) (.skip) (.exit 2)) (.seq none (.block 3 none (.seq none (.reg [(none, Nl)]) (.seq none (.reg [(none, MB)]) (.cond (.t p56) (.seq none (.reg [(none, Of)]) (.ret)) (.skip))))) (.reg [(none, Mz)])))))))))) (.reg [(none, NU)]))))))) (.seq none (.reg [(none, NJ)]) (.ret))))
def Sc : AFn := .code (a_plan_colours.map (·.1)) (gY BM) (z_plan_colours.map (·.1))
abbrev lD : Nat := 52
def E9 : Tr Ty := (tN (tN (tN tI .leaf) .leaf) (tJ tI tI))
def a_plan_each : Kp := [(p0, .any)]
def z_plan_each : List (Rv × Ty) := [(.t p2, (.int .i64))]
def VF : List Ins := [I0 p3 (.fa 0 (.t p1)),
  I0 p4 (.load 1 false (.t p3)),
  I0 p5 (.fa 1 (.t p1)),
  I0 p6 (.load 1 false (.t p5)),
  I0 p7 (.bin .quo (.t p4) (.t p6)),
  I0 p2 (.mov (.t p7))]
def V9 : List Ins := [I0 p1 (.box (.t p0)),
  I0 p2 (.mov (.c (.int .i64 0)))]
def Ld : SC := .seq none (.reg [(none, V9)]) (.seq none (.reg [(none, VF)]) (.ret))
def abD : AFn := .code (a_plan_each.map (·.1)) (gY Ld) (z_plan_each.map (·.1))
abbrev kL : Nat := 34
def Bn : Tr Ty := (tN (tJ (tN tI tI) (tN .leaf tI)) (tN tI (tN .leaf tI)))
def a_plan_total : Kp := [(p0, .any), (p1, (.int .i64))]
def z_plan_total : List (Rv × Ty) := [(.t p4, (.int .i64))]
def Sj : List Ins := [I0 p5 (.fa 16 (.t p2)),
  I0 p6 (.load 1 false (.t p5)),
  I0 p7 (.mov (.t p1)),
  I0 p8 (.iaS 8 (.t p6) (.t p7)),
  I0 p9 (.fa 0 (.t p8)),
  I0 p10 (.load 1 false (.t p9)),
  I0 p11 (.len .sl (.t p10)),
  I0 p12 (.load 17 true (.t p2)),
  .call .always (some p13) true (.c (.func 52 [] [])) [(.t p12)],
  I0 p14 (.bin .mul (.t p11) (.t p13)),
  I0 p4 (.mov (.t p14))]
def RT : List Ins := [I0 p2 (.box (.t p0)),
  I0 p4 (.mov (.c (.int .i64 0)))]
def H7 : SC := .seq none (.reg [(none, RT)]) (.seq none (.reg [(none, Sj)]) (.ret))
def YM : AFn := .code (a_plan_total.map (·.1)) (gY H7) (z_plan_total.map (·.1))
abbrev oj : Nat := 61
def dy : Tr Ty := (tN (tJ (tN (tJ (tN (tC tI tI) (tN tI .leaf)) (tJ (tN tB tB) (tN tI .leaf))) (tJ (tC (tN tB tI) (tN tB .leaf)) (tC (tJ tB .leaf) tB))) (tN (tN (tN .leaf (tJ tI .leaf)) (tC .leaf (tN tI .leaf))) (tN (tC (tN tB tI) tI) (tJ (tC tI .leaf) (tN tI .leaf))))) (tN (tC (tJ (tN (tC tI tI) .leaf) (tC (tJ tB tB) .leaf)) (tN (tC (tJ tB .leaf) (tJ tI .leaf)) (tN tB (tJ tI .leaf)))) (tN (tN (tJ (tJ tI tI) (tJ tB .leaf)) (tC (tJ tB .leaf) (tJ tI .leaf))) (tJ (tN (tJ tI tI) (tN tI .leaf)) (tC (tJ tI .leaf) tI)))))
def a_plan_quotas : Kp := [(p0, .any), (p1, (.int .i64))]
def z_plan_quotas : List (Rv × Ty) := [(.t p4, .bool)]
def Rg : Kp := [(p104, .bool)]
def Qt : Kp := [(p1, (.int .i64)), (p2, .any), (p5, .any), (p72, .bool)]
def QI : Kp := [(p1, (.int .i64)), (p2, .any), (p5, .any), (p8, (.int .i64))]
def Ge : Kp := [(p1, (.int .i64)), (p2, .any), (p5, .any), (p8, (.int .i64)), (p51, .any), (p52, (.int .i64)), (p53, (.int .i64))]
def GG : Kp := [(p1, (.int .i64)), (p2, .any), (p5, .any), (p8, (.int .i64)), (p51, .any), (p52, (.int .i64)), (p53, (.int .i64))]
def Re : Kp := [(p1, (.int .i64)), (p2, .any), (p5, .any)]
def GB : Kp := [(p1, (.int .i64)), (p2, .any), (p5, .any), (p39, .any), (p40, (.int .i64))]
def PN : Kp := [(p1, (.int .i64)), (p2, .any), (p5, .any), (p26, .bool)]
def PV : Kp := [(p1, (.int .i64)), (p2, .any), (p5, .any), (p32, .bool)]
def QN : List Ins := [I0 p79 (.mov (.t p11)),
  I0 p80 (.load 17 true (.t p2)),
  .call .always (some p81) false (.c (.func 52 [] [])) [(.t p80)],
  I0 p82 (.bin .leq (.t p79) (.t p81)),
  I0 p83 (.mov (.t p82)),
  .op (.on p83 true) (some p84) (.mov (.t p11)),
  .op (.on p83 true) (some p85) (.fa 2 (.t p5)),
  .op (.on p83 true) (some p86) (.load 1 false (.t p85)),
  .op (.on p83 true) (some p87) (.bin .add (.t p84) (.t p86)),
  .op (.on p83 true) (some p88) (.fa 3 (.t p5)),
  .op (.on p83 true) (some p89) (.load 1 false (.t p88)),
  .op (.on p83 true) (some p90) (.bin .add (.t p87) (.t p89)),
  .op (.on p83 true) (some p91) (.fa 4 (.t p5)),
  .op (.on p83 true) (some p92) (.load 1 false (.t p91)),
  .op (.on p83 true) (some p93) (.bin .add (.t p90) (.t p92)),
  .op (.on p83 true) (some p94) (.fa 5 (.t p5)),
  .op (.on p83 true) (some p95) (.load 1 false (.t p94)),
  .op (.on p83 true) (some p96) (.bin .add (.t p93) (.t p95)),
  .op (.on p83 true) (some p97) (.fa 6 (.t p5)),
  .op (.on p83 true) (some p98) (.load 1 false (.t p97)),
  .op (.on p83 true) (some p99) (.bin .add (.t p96) (.t p98)),
  .op (.on p83 true) (some p100) (.load 17 true (.t p2)),
  .op (.on p83 true) (some p101) (.mov (.t p1)),
  .call (.on p83 true) (some p102) true (.c (.func 34 [] [])) [(.t p100), (.t p101)],
  .op (.on p83 true) (some p103) (.bin .leq (.t p99) (.t p102)),
  I0 p104 (.pick (.t p83) (.t p103) (.c (.bool false)))]
def Q9 : List Ins := [I0 p4 (.mov (.t p104))]
def QA : List Ins := [I0 p76 (.fa 1 (.t p5)),
  I0 p77 (.load 1 false (.t p76)),
  I0 p78 (.bin .shl (.c (.int .i64 1)) (.t p77)),
  I0 p11 (.mov (.t p78))]
def P0 : List Ins := [I0 p4 (.mov (.c (.bool true)))]
def P9 : List Ins := [I0 p73 (.load 17 true (.t p2)),
  .call .always (some p74) false (.c (.func 38 [] [])) [(.t p73)],
  I0 p75 (.not (.t p74))]
def QF : List Ins := [I0 p4 (.mov (.c (.bool false)))]
def Qc : List Ins := [I0 p65 (.fa 7 (.t p5)),
  I0 p66 (.load 1 false (.t p65)),
  .call .always (some p67) false (.c (.func 54 [] [])) [(.t p66), (.c (.int .i64 1)), (.c (.int .i64 1024))],
  I0 p68 (.not (.t p67)),
  I0 p69 (.mov (.t p68)),
  .op (.on p69 false) (some p70) (.mov (.t p8)),
  .op (.on p69 false) (some p71) (.bin .gtr (.t p70) (.c (.int .i64 1024))),
  I0 p72 (.pick (.t p69) (.c (.bool true)) (.t p71))]
def Q4 : List Ins := [I0 p64 (.bin .add (.t p53) (.c (.int .i64 1))),
  I0 p53 (.mov (.t p64))]
def PJ : List Ins := [I0 p60 (.mov (.t p8)),
  I0 p61 (.fa 7 (.t p10)),
  I0 p62 (.load 1 false (.t p61)),
  I0 p63 (.bin .add (.t p60) (.t p62)),
  I0 p8 (.mov (.t p63))]
def Qp : List Ins := [I0 p57 (.fa 7 (.t p10)),
  I0 p58 (.load 1 false (.t p57)),
  .call .always (some p59) false (.c (.func 54 [] [])) [(.t p58), (.c (.int .i64 1)), (.c (.int .i64 1024))]]
def MG : List Ins := [I0 p55 (.iaS 8 (.t p51) (.t p53)),
  I0 p56 (.load 8 true (.t p55)),
  I0 p10 (.alloc [.nilslice, (.int .i64 0), (.int .i64 0), (.int .i64 0), (.int .i64 0), (.int .i64 0), (.int .i64 0), (.int .i64 0)]),
  .op .always none (.store 8 (.t p10) (.t p56))]
def OK : List Ins := [I0 p54 (.bin .lss (.t p53) (.t p52))]
def MD : List Ins := [I0 p47 (.fa 16 (.t p2)),
  I0 p48 (.load 1 false (.t p47)),
  I0 p49 (.mov (.t p1)),
  I0 p50 (.bin .add (.t p49) (.c (.int .i64 1))),
  I0 p51 (.sl (.sl 8) (.t p48) none (some (.t p50)) none),
  I0 p52 (.len .sl (.t p51)),
  I0 p53 (.mov (.c (.int .i64 0)))]
def NH : List Ins := [I0 p8 (.mov (.c (.int .i64 0)))]
def Nw : List Ins := [I0 p46 (.bin .add (.t p40) (.c (.int .i64 1))),
  I0 p40 (.mov (.t p46))]
def Oj : List Ins := [I0 p4 (.mov (.c (.bool false)))]
def NC : List Ins := [I0 p43 (.mov (.t p7)),
  .call .always (some p44) false (.c (.func 54 [] [])) [(.t p43), (.c (.int .i64 1)), (.c (.int .i64 4096))],
  I0 p45 (.not (.t p44))]
def ML : List Ins := [I0 p42 (.idxA 1 3 false (.t p39) (.t p40)),
  I0 p7 (.mov (.t p42))]
def OD : List Ins := [I0 p41 (.bin .lss (.t p40) (.c (.int .i64 3)))]
def Oc : List Ins := [I0 p33 (.fa 4 (.t p5)),
  I0 p34 (.load 1 false (.t p33)),
  I0 p35 (.fa 5 (.t p5)),
  I0 p36 (.load 1 false (.t p35)),
  I0 p37 (.fa 6 (.t p5)),
  I0 p38 (.load 1 false (.t p37)),
  I0 p39 (.build [(.int .i64 0), (.int .i64 0), (.int .i64 0)] [(0, 1, (.t p34)), (1, 1, (.t p36)), (2, 1, (.t p38))]),
  I0 p40 (.mov (.c (.int .i64 0)))]
def M9 : List Ins := [I0 p4 (.mov (.c (.bool false)))]
def OH : List Ins := [I0 p17 (.fa 1 (.t p5)),
  I0 p18 (.load 1 false (.t p17)),
  .call .always (some p19) false (.c (.func 54 [] [])) [(.t p18), (.c (.int .i64 0)), (.c (.int .i64 3))],
  I0 p20 (.not (.t p19)),
  I0 p21 (.mov (.t p20)),
  .op (.on p21 false) (some p22) (.fa 2 (.t p5)),
  .op (.on p21 false) (some p23) (.load 1 false (.t p22)),
  .call (.on p21 false) (some p24) false (.c (.func 54 [] [])) [(.t p23), (.c (.int .i64 2)), (.c (.int .i64 4096))],
  .op (.on p21 false) (some p25) (.not (.t p24)),
  I0 p26 (.pick (.t p21) (.c (.bool true)) (.t p25))]
def MK : List Ins := [I0 p27 (.mov (.t p26)),
  .op (.on p27 false) (some p28) (.fa 3 (.t p5)),
  .op (.on p27 false) (some p29) (.load 1 false (.t p28)),
  .call (.on p27 false) (some p30) false (.c (.func 54 [] [])) [(.t p29), (.c (.int .i64 4)), (.c (.int .i64 4096))],
  .op (.on p27 false) (some p31) (.not (.t p30)),
  I0 p32 (.pick (.t p27) (.c (.bool true)) (.t p31))]
def MS : List Ins := [I0 p12 (.fa 16 (.t p2)),
  I0 p13 (.load 1 false (.t p12)),
  I0 p14 (.mov (.t p1)),
  I0 p15 (.iaS 8 (.t p13) (.t p14)),
  I0 p16 (.load 8 true (.t p15)),
  I0 p5 (.alloc [.nilslice, (.int .i64 0), (.int .i64 0), (.int .i64 0), (.int .i64 0), (.int .i64 0), (.int .i64 0), (.int .i64 0)]),
  .op .always none (.store 8 (.t p5) (.t p16))]
def Nj : List Ins := [I0 p2 (.box (.t p0)),
  I0 p4 (.mov (.c (.bool false)))]
def EE : SC := .seq none (.reg [(none, Nj)]) (.seq none (.reg [(none, MS)]) (.seq none (.seq none (.reg [(some PN, OH), (some PV, MK)]) (.cond (.t p32) (.seq none (.reg [(none, M9)]) (.ret)) (.skip))) (.seq none (.seq none (.reg [(none, Oc)]) (.block 0 (some Re) (.loop GB (.seq none (.reg [(none, OD)]) (.seq none (.cond (.t p41) (.skip) (.exit 0)) (.seq none (.block 1 none (.seq none (.reg [(none, ML)]) (.seq none (.reg [(none, NC)]) (.cond (.t p45) (.seq none (.reg [(none, Oj)]) (.ret)) (.skip))))) (.reg [(none, Nw)]))))))) (.seq none (.reg [(none, NH)]) (.seq none (.seq none (.reg [(none, MD)]) (.block 2 (some QI) (.loop Ge (.seq none (.reg [(none, OK)]) (.seq none (.cond (.t p54) (.skip) (.exit 2)) (.seq none (.block 3 (some GG) (.seq none (.reg [(none, MG)]) (.seq none (.reg [(none, Qp)]) (.cond (.t p59) (.reg [(none, PJ)]) (.skip))))) (.reg [(none, Q4)]))))))) (.seq none (.seq none (.reg [(some Qt, Qc)]) (.cond (.t p72) (.seq none (.reg [(none, QF)]) (.ret)) (.skip))) (.seq none (.seq none (.reg [(none, P9)]) (.cond (.t p75) (.seq none (.reg [(none, P0)]) (.ret)) (.skip))) (.seq none (.reg [(none, QA)]) (.seq none (.reg [(some Rg, QN), (none, Q9)]) (.ret))))))))))
def Vj : AFn := .code (a_plan_quotas.map (·.1)) (gY EE) (z_plan_quotas.map (·.1))
abbrev lE : Nat := 42
def sm : Tr Ty := (tN (tJ (tN tI .leaf) (tC tB tB)) (tN (tJ tB tI) (tN tB tB)))
def a_plan_part : Kp := [(p0, .any), (p1, (.int .i64))]
def z_plan_part : List (Rv × Ty) := [(.t p4, (.int .i64))]
def Vy : List Ins := [I0 p4 (.mov (.c (.int .i64 0)))]
def VX : List Ins := [I0 p4 (.mov (.c (.int .i64 110)))]
def Wm : List Ins := [I0 p4 (.mov (.c (.int .i64 111)))]
def VC : List Ins := [I0 p11 (.load 17 true (.t p2)),
  I0 p12 (.mov (.t p1)),
  .call .always (some p13) false (.c (.func 61 [] [])) [(.t p11), (.t p12)],
  I0 p14 (.not (.t p13)),
  I0 p10 (.mov (.t p14))]
def V1 : List Ins := [I0 p6 (.load 17 true (.t p2)),
  I0 p7 (.mov (.t p1)),
  .call .always (some p8) false (.c (.func 60 [] [])) [(.t p6), (.t p7)],
  I0 p9 (.not (.t p8)),
  I0 p5 (.mov (.t p9))]
def VL : List Ins := [I0 p2 (.box (.t p0)),
  I0 p4 (.mov (.c (.int .i64 0)))]
def KS : SC := .seq none (.reg [(none, VL)]) (.seq none (.block 0 none (.seq none (.reg [(none, V1)]) (.cond (.t p5) (.seq none (.reg [(none, VX)]) (.ret)) (.seq none (.reg [(none, VC)]) (.cond (.t p10) (.seq none (.reg [(none, Wm)]) (.ret)) (.skip)))))) (.seq none (.reg [(none, Vy)]) (.ret)))
def abC : AFn := .code (a_plan_part.map (·.1)) (gY KS) (z_plan_part.map (·.1))
abbrev jE : Nat := 68
def vx : Tr Ty := (tJ (tJ (tN tI tI) (tN tB tB)) (tJ (tN tI tI) (tC tB tB)))
def a_cost_within : Kp := [(p0, (.int .i64)), (p1, (.int .i64)), (p2, (.int .i64))]
def z_cost_within : List (Rv × Ty) := [(.t p6, .bool)]
def Q7 : Kp := [(p14, .bool)]
def QO : List Ins := [I0 p7 (.mov (.t p0)),
  I0 p8 (.mov (.t p1)),
  I0 p9 (.bin .geq (.t p7) (.t p8)),
  I0 p10 (.mov (.t p9)),
  .op (.on p10 true) (some p11) (.mov (.t p0)),
  .op (.on p10 true) (some p12) (.mov (.t p2)),
  .op (.on p10 true) (some p13) (.bin .leq (.t p11) (.t p12)),
  I0 p14 (.pick (.t p10) (.t p13) (.c (.bool false)))]
def P8 : List Ins := [I0 p6 (.mov (.t p14))]
def QG : List Ins := [I0 p6 (.mov (.c (.bool false)))]
def Eo : SC := .seq none (.reg [(none, QG)]) (.seq none (.reg [(some Q7, QO), (none, P8)]) (.ret))
def Vk : AFn := .code (a_cost_within.map (·.1)) (gY Eo) (z_cost_within.map (·.1))
abbrev oq : Nat := 55
def mI : Tr Ty := (tN (tJ (tN (tJ tB tI) (tJ tB (.node .leaf (some (.int .u64)) .leaf))) (tN (tN tB (.node .leaf (some (.int .u64)) .leaf)) (tJ tB .leaf))) (tJ (tN (tJ tB tI) (tC tB (.node .leaf (some (.int .u64)) .leaf))) (.node (tJ tI .leaf) (some (.int .u64)) (tJ tI .leaf))))
def a_cost_Switch : Kp := [(p0, .any), (p1, (.int .i64)), (p2, (.int .i64))]
def z_cost_Switch : List (Rv × Ty) := [(.t p6, (.int .u64)), (.t p7, (.int .i64))]
def P7 : Kp := [(p1, (.int .i64)), (p2, (.int .i64)), (p3, .any), (p21, .bool)]
def Q8 : List Ins := [I0 p22 (.mov (.t p1)),
  I0 p23 (.mov (.t p2)),
  I0 p24 (.bin .add (.t p22) (.t p23)),
  I0 p25 (.conv .u64 (.t p24)),
  I0 p26 (.fa 4 (.t p3)),
  I0 p27 (.load 1 false (.t p26)),
  I0 p28 (.bin .mul (.t p25) (.t p27)),
  I0 p6 (.mov (.t p28)),
  I0 p7 (.mov (.c (.int .i64 0)))]
def QU : List Ins := [I0 p6 (.mov (.c (.int .u64 0))),
  I0 p7 (.mov (.c (.int .i64 2)))]
def QV : List Ins := [I0 p14 (.mov (.t p1)),
  .call .always (some p15) false (.c (.func 68 [] [])) [(.t p14), (.c (.int .i64 0)), (.c (.int .i64 65536))],
  I0 p16 (.not (.t p15)),
  I0 p17 (.mov (.t p16)),
  .op (.on p17 false) (some p18) (.mov (.t p2)),
  .call (.on p17 false) (some p19) false (.c (.func 68 [] [])) [(.t p18), (.c (.int .i64 0)), (.c (.int .i64 64))],
  .op (.on p17 false) (some p20) (.not (.t p19)),
  I0 p21 (.pick (.t p17) (.c (.bool true)) (.t p20))]
def QR : List Ins := [I0 p13 (.mov (.t p8)),
  I0 p6 (.mov (.c (.int .u64 0))),
  I0 p7 (.mov (.t p13))]
def Qq : List Ins := [I0 p11 (.mov (.t p8)),
  I0 p12 (.bin .neq (.t p11) (.c (.int .i64 0)))]
def Q6 : List Ins := [I0 p9 (.load 6 true (.t p3)),
  .call .always (some p10) false (.c (.func 39 [] [])) [(.t p9)],
  I0 p8 (.mov (.t p10))]
def QX : List Ins := [I0 p3 (.box (.t p0)),
  I0 p6 (.mov (.c (.int .u64 0))),
  I0 p7 (.mov (.c (.int .i64 0)))]
def Ef : SC := .seq none (.reg [(none, QX)]) (.seq none (.seq none (.reg [(none, Q6)]) (.seq none (.reg [(none, Qq)]) (.cond (.t p12) (.seq none (.reg [(none, QR)]) (.ret)) (.skip)))) (.seq none (.seq none (.reg [(some P7, QV)]) (.cond (.t p21) (.seq none (.reg [(none, QU)]) (.ret)) (.skip))) (.seq none (.reg [(none, Q8)]) (.ret))))
def VT : AFn := .code (a_cost_Switch.map (·.1)) (gY Ef) (z_cost_Switch.map (·.1))
abbrev pX : Nat := 69
def ib : Tr Ty := (tN (tN (tN (tJ (tJ tB .leaf) (tC tB .leaf)) (tC (tJ tI .leaf) (tC tB .leaf))) (tJ (tJ (tC tB .leaf) (tC tI .leaf)) (tJ (tJ tB .leaf) tI))) (tN (tJ (tN (tC tB .leaf) tI) (tJ (tJ tB .leaf) (tN tB .leaf))) (tC (tJ .leaf (tC tB .leaf)) (tC (tC tB .leaf) tB))))
def a_cost_asked : Kp := [(p0, .any), (p1, .any)]
def z_cost_asked : List (Rv × Ty) := [(.t p4, (.int .i64))]
def TG : Kp := [(p3, .any), (p32, .bool)]
def Sw : Kp := [(p3, .any), (p38, .bool)]
def T4 : Kp := [(p44, .bool)]
def Tf : Kp := [(p3, .any), (p6, .bool)]
def Kk : Kp := [(p3, .any), (p6, .bool), (p13, (.int .i64))]
def So : Kp := [(p3, .any), (p13, (.int .i64)), (p23, .bool)]
def T9 : List Ins := [I0 p4 (.mov (.c (.int .i64 0)))]
def TF : List Ins := [I0 p4 (.mov (.c (.int .i64 2)))]
def Se : List Ins := [I0 p25 (.mov (.t p6)),
  I0 p26 (.not (.t p25)),
  I0 p27 (.mov (.t p26)),
  .op (.on p27 false) (some p28) (.fa 1 (.t p3)),
  .op (.on p27 false) (some p29) (.load 1 false (.t p28)),
  .call (.on p27 false) (some p30) false (.c (.func 68 [] [])) [(.t p29), (.c (.int .i64 2)), (.c (.int .i64 4096))],
  .op (.on p27 false) (some p31) (.not (.t p30)),
  I0 p32 (.pick (.t p27) (.c (.bool true)) (.t p31))]
def T6 : List Ins := [I0 p33 (.mov (.t p32)),
  .op (.on p33 false) (some p34) (.fa 2 (.t p3)),
  .op (.on p33 false) (some p35) (.load 1 false (.t p34)),
  .call (.on p33 false) (some p36) false (.c (.func 68 [] [])) [(.t p35), (.c (.int .i64 1)), (.c (.int .i64 5120))],
  .op (.on p33 false) (some p37) (.not (.t p36)),
  I0 p38 (.pick (.t p33) (.c (.bool true)) (.t p37))]
def Th : List Ins := [I0 p39 (.mov (.t p38)),
  .op (.on p39 false) (some p40) (.fa 3 (.t p3)),
  .op (.on p39 false) (some p41) (.load 1 false (.t p40)),
  .call (.on p39 false) (some p42) false (.c (.func 68 [] [])) [(.t p41), (.c (.int .i64 1)), (.c (.int .i64 4096))],
  .op (.on p39 false) (some p43) (.not (.t p42)),
  I0 p44 (.pick (.t p39) (.c (.bool true)) (.t p43))]
def S1 : List Ins := [I0 p24 (.bin .add (.t p13) (.c (.int .i64 1))),
  I0 p13 (.mov (.t p24))]
def SN : List Ins := [I0 p16 (.mov (.t p6)),
  I0 p17 (.mov (.t p16)),
  .op (.on p17 false) (some p18) (.fa 0 (.t p3)),
  .op (.on p17 false) (some p19) (.load 1 false (.t p18)),
  .op (.on p17 false) (some p20) (.mov (.t p7)),
  .op (.on p17 false) (some p21) (.bin .shl (.c (.int .i64 1)) (.t p20)),
  .op (.on p17 false) (some p22) (.bin .eql (.t p19) (.t p21)),
  I0 p23 (.pick (.t p17) (.c (.bool true)) (.t p22))]
def Tj : List Ins := [I0 p6 (.mov (.t p23))]
def S0 : List Ins := [I0 p15 (.mov (.t p13)),
  I0 p7 (.mov (.t p15))]
def TP : List Ins := [I0 p14 (.bin .lss (.t p13) (.c (.int .i64 4)))]
def Qm : List Ins := [I0 p13 (.mov (.c (.int .i64 0)))]
def QJ : List Ins := [I0 p6 (.mov (.c (.bool false)))]
def Rf : List Ins := [I0 p12 (.mov (.t p5)),
  I0 p4 (.mov (.t p12))]
def PG : List Ins := [I0 p10 (.mov (.t p5)),
  I0 p11 (.bin .neq (.t p10) (.c (.int .i64 0)))]
def Qj : List Ins := [I0 p8 (.load 6 true (.t p2)),
  .call .always (some p9) false (.c (.func 39 [] [])) [(.t p8)],
  I0 p5 (.mov (.t p9))]
def P3 : List Ins := [I0 p2 (.box (.t p0)),
  I0 p3 (.box (.t p1)),
  I0 p4 (.mov (.c (.int .i64 0)))]
def HU : SC := .seq none (.reg [(none, P3)]) (.seq none (.seq none (.reg [(none, Qj)]) (.seq none (.reg [(none, PG)]) (.cond (.t p11) (.seq none (.reg [(none, Rf)]) (.ret)) (.skip)))) (.seq none (.reg [(none, QJ)]) (.seq none (.seq none (.reg [(none, Qm)]) (.block 0 (some Tf) (.loop Kk (.seq none (.reg [(none, TP)]) (.seq none (.cond (.t p14) (.skip) (.exit 0)) (.seq none (.block 1 none (.seq none (.reg [(none, S0)]) (.reg [(some So, SN), (none, Tj)]))) (.reg [(none, S1)]))))))) (.seq none (.seq none (.reg [(some TG, Se), (some Sw, T6), (some T4, Th)]) (.cond (.t p44) (.seq none (.reg [(none, TF)]) (.ret)) (.skip))) (.seq none (.reg [(none, T9)]) (.ret))))))
def Xp : AFn := .code (a_cost_asked.map (·.1)) (gY HU) (z_cost_asked.map (·.1))
abbrev oo : Nat := 70
def lc : Tr Ty := (tN (tN (tN (tN (.node (.node .leaf (some (.int .u64)) .leaf) (some (.int .u64)) .leaf) (.node .leaf (some (.int .u64)) .leaf)) (tN .leaf (.node .leaf (some (.int .u64)) .leaf))) (tN (tN (.node (.node .leaf (some (.int .u64)) .leaf) (some (.int .u64)) .leaf) tI) (.node (.node .leaf (some (.int .u64)) .leaf) (some (.int .u64)) .leaf))) (tN (tN (tN (.node .leaf (some (.int .u64)) .leaf) .leaf) (tN tI (.node .leaf (some (.int .u64)) .leaf))) (tN (tN (.node (.node .leaf (some (.int .u64)) .leaf) (some (.int .u64)) .leaf) (.node .leaf (some (.int .u64)) .leaf)) (tN (.node .leaf (some (.int .u64)) .leaf) (.node .leaf (some (.int .u64)) .leaf)))))
def a_cost_bounds : Kp := [(p0, .any), (p1, .any)]
def z_cost_bounds : List (Rv × Ty) := [(.cell p4 11 true, .any)]
def QW : List Ins := [I0 p37 (.mov (.t p11)),
  I0 p38 (.mkfunc 89 [] [(.t p5)]),
  I0 p39 (.mkfunc 90 [] [(.t p7), (.t p5)]),
  I0 p40 (.mkfunc 91 [] [(.t p5), (.t p3), (.t p7)]),
  I0 p41 (.load 1 false (.t p9)),
  I0 p42 (.load 1 false (.t p10)),
  I0 p43 (.mkfunc 92 [] [(.t p2), (.t p5)]),
  I0 p44 (.mkfunc 93 [] [(.t p9), (.t p10)]),
  I0 p45 (.mkfunc 94 [] [(.t p5), (.t p2), (.t p8)]),
  I0 p46 (.mkfunc 95 [] [(.t p5), (.t p2), (.t p8)]),
  I0 p47 (.mov (.t p11)),
  I0 p48 (.build [.nilfunc, .nilfunc, .nilfunc, .nilfunc, .nilfunc, .nilfunc, .nilfunc, .nilfunc, .nilfunc, .nilfunc, .nilfunc] [(0, 1, (.t p37)), (1, 1, (.t p38)), (2, 1, (.t p39)), (3, 1, (.t p40)), (4, 1, (.t p41)), (5, 1, (.t p42)), (6, 1, (.t p43)), (7, 1, (.t p44)), (8, 1, (.t p45)), (9, 1, (.t p46)), (10, 1, (.t p47))]),
  .op .always none (.store 11 (.t p4) (.t p48))]
def PP : List Ins := [I0 p11 (.mov (.c (.func 88 [] [])))]
def P4 : List Ins := [I0 p36 (.mkfunc 87 [] [(.t p6)]),
  I0 p10 (.alloc [.nilfunc]),
  .op .always none (.store 1 (.t p10) (.t p36))]
def QZ : List Ins := [I0 p35 (.mkfunc 86 [] [(.t p5)]),
  I0 p9 (.alloc [.nilfunc]),
  .op .always none (.store 1 (.t p9) (.t p35))]
def PX : List Ins := [I0 p24 (.fa 1 (.t p3)),
  I0 p25 (.load 1 false (.t p24)),
  I0 p26 (.conv .u64 (.t p25)),
  I0 p27 (.bin .mul (.c (.int .u64 2)) (.t p26)),
  I0 p28 (.bin .add (.t p27) (.c (.int .u64 1))),
  I0 p29 (.fa 4 (.t p2)),
  I0 p30 (.load 1 false (.t p29)),
  I0 p31 (.bin .mul (.t p28) (.t p30)),
  I0 p32 (.fa 5 (.t p2)),
  I0 p33 (.load 1 false (.t p32)),
  I0 p34 (.bin .add (.t p31) (.t p33)),
  I0 p8 (.alloc [(.int .u64 0)]),
  .op .always none (.store 1 (.t p8) (.t p34))]
def Ri : List Ins := [I0 p19 (.fa 2 (.t p3)),
  I0 p20 (.load 1 false (.t p19)),
  I0 p21 (.conv .u64 (.t p20)),
  I0 p22 (.load 1 false (.t p6)),
  I0 p23 (.bin .mul (.t p21) (.t p22)),
  I0 p7 (.alloc [(.int .u64 0)]),
  .op .always none (.store 1 (.t p7) (.t p23))]
def QY : List Ins := [I0 p14 (.fa 4 (.t p2)),
  I0 p15 (.load 1 false (.t p14)),
  I0 p16 (.load 1 false (.t p5)),
  I0 p17 (.bin .mul (.c (.int .u64 2)) (.t p16)),
  I0 p18 (.bin .add (.t p15) (.t p17)),
  I0 p6 (.alloc [(.int .u64 0)]),
  .op .always none (.store 1 (.t p6) (.t p18))]
def P6 : List Ins := [I0 p12 (.fa 2 (.t p2)),
  I0 p13 (.load 1 false (.t p12)),
  I0 p5 (.alloc [(.int .u64 0)]),
  .op .always none (.store 1 (.t p5) (.t p13))]
def Qz : List Ins := [I0 p2 (.box (.t p0)),
  I0 p3 (.box (.t p1)),
  I0 p4 (.alloc [.nilfunc, .nilfunc, .nilfunc, .nilfunc, .nilfunc, .nilfunc, .nilfunc, .nilfunc, .nilfunc, .nilfunc, .nilfunc])]
def Ep : SC := .seq none (.reg [(none, Qz)]) (.seq none (.reg [(none, P6)]) (.seq none (.reg [(none, QY)]) (.seq none (.reg [(none, Ri)]) (.seq none (.reg [(none, PX)]) (.seq none (.reg [(none, QZ)]) (.seq none (.reg [(none, P4)]) (.seq none (.reg [(none, PP)]) (.seq none (.reg [(none, QW)]) (.ret)))))))))
def Vn : AFn := .code (a_cost_bounds.map (·.1)) (gY Ep) (z_cost_bounds.map (·.1))
abbrev dR : Nat := 86
def tl : Tr Ty := (tN (.node (.node .leaf (some (.int .u64)) .leaf) (some (.int .u64)) .leaf) (.node .leaf (some (.int .u64)) .leaf))
def a_cost_bounds_f1 : Kp := [(p0, .any)]
def z_cost_bounds_f1 : List (Rv × Ty) := [(.t p1, (.int .u64))]
def Iy : List Ins := [I0 p2 (.load 1 false (.t p0)),
  I0 p3 (.bin .mul (.c (.int .u64 113)) (.t p2)),
  I0 p1 (.mov (.t p3))]
def It : List Ins := [I0 p1 (.mov (.c (.int .u64 0)))]
def xZ : SC := .seq none (.reg [(none, It)]) (.seq none (.reg [(none, Iy)]) (.ret))
def MM : AFn := .code (a_cost_bounds_f1.map (·.1)) (gY xZ) (z_cost_bounds_f1.map (·.1))
abbrev dS : Nat := 87
def tp : Tr Ty := (tN (.node (.node .leaf (some (.int .u64)) .leaf) (some (.int .u64)) .leaf) (.node .leaf (some (.int .u64)) .leaf))
def a_cost_bounds_f2 : Kp := [(p0, .any)]
def z_cost_bounds_f2 : List (Rv × Ty) := [(.t p1, (.int .u64))]
def Il : List Ins := [I0 p2 (.load 1 false (.t p0)),
  I0 p3 (.bin .mul (.c (.int .u64 64)) (.t p2)),
  I0 p1 (.mov (.t p3))]
def IR : List Ins := [I0 p1 (.mov (.c (.int .u64 0)))]
def xY : SC := .seq none (.reg [(none, IR)]) (.seq none (.reg [(none, Il)]) (.ret))
def Nf : AFn := .code (a_cost_bounds_f2.map (·.1)) (gY xY) (z_cost_bounds_f2.map (·.1))
abbrev fC : Nat := 88
def s7 : Tr Ty := (.node .leaf (some (.int .u64)) .leaf)
def a_cost_bounds_f3 : Kp := []
def z_cost_bounds_f3 : List (Rv × Ty) := [(.t p0, (.int .u64))]
def IL : List Ins := [I0 p0 (.mov (.c (.int .u64 0)))]
def Jn : List Ins := [I0 p0 (.mov (.c (.int .u64 0)))]
def yf : SC := .seq none (.reg [(none, Jn)]) (.seq none (.reg [(none, IL)]) (.ret))
def Nc : AFn := .code (a_cost_bounds_f3.map (·.1)) (gY yf) (z_cost_bounds_f3.map (·.1))
abbrev gn : Nat := 89
def tr : Tr Ty := (tN (.node (.node .leaf (some (.int .u64)) .leaf) (some (.int .u64)) .leaf) (.node .leaf (some (.int .u64)) .leaf))
def a_cost_bounds_f4 : Kp := [(p0, .any)]
def z_cost_bounds_f4 : List (Rv × Ty) := [(.t p1, (.int .u64))]
def Ip : List Ins := [I0 p2 (.load 1 false (.t p0)),
  I0 p3 (.bin .mul (.c (.int .u64 17)) (.t p2)),
  I0 p1 (.mov (.t p3))]
def Is : List Ins := [I0 p1 (.mov (.c (.int .u64 0)))]
def xN : SC := .seq none (.reg [(none, Is)]) (.seq none (.reg [(none, Ip)]) (.ret))
def ME : AFn := .code (a_cost_bounds_f4.map (·.1)) (gY xN) (z_cost_bounds_f4.map (·.1))
abbrev gt : Nat := 90
def tf : Tr Ty := (tN (tN (.node .leaf (some (.int .u64)) .leaf) (.node .leaf (some (.int .u64)) .leaf)) (.node (.node .leaf (some (.int .u64)) .leaf) (some (.int .u64)) .leaf))
def a_cost_bounds_f5 : Kp := [(p0, .any), (p1, .any)]
def z_cost_bounds_f5 : List (Rv × Ty) := [(.t p2, (.int .u64))]
def JW : List Ins := [I0 p3 (.load 1 false (.t p0)),
  I0 p4 (.load 1 false (.t p1)),
  I0 p5 (.bin .add (.t p3) (.t p4)),
  I0 p2 (.mov (.t p5))]
def Jo : List Ins := [I0 p2 (.mov (.c (.int .u64 0)))]
def xw : SC := .seq none (.reg [(none, Jo)]) (.seq none (.reg [(none, JW)]) (.ret))
def N6 : AFn := .code (a_cost_bounds_f5.map (·.1)) (gY xw) (z_cost_bounds_f5.map (·.1))
abbrev gp : Nat := 91
def tk : Tr Ty := (tN (tN (.node (.node .leaf (some (.int .u64)) .leaf) (some (.int .u64)) (.node .leaf (some (.int .u64)) .leaf)) (tN (.node .leaf (some (.int .u64)) .leaf) (.node .leaf (some (.int .u64)) .leaf))) (tN (.node (.node .leaf (some (.int .u64)) .leaf) (some (.int .u64)) (.node .leaf (some (.int .u64)) .leaf)) (tJ (.node .leaf (some (.int .u64)) .leaf) .leaf)))
def a_cost_bounds_f6 : Kp := [(p0, .any), (p1, .any), (p2, .any)]
def z_cost_bounds_f6 : List (Rv × Ty) := [(.t p3, (.int .u64))]
def IO : List Ins := [I0 p4 (.load 1 false (.t p0)),
  I0 p5 (.fa 3 (.t p1)),
  I0 p6 (.load 1 false (.t p5)),
  I0 p7 (.conv .u64 (.t p6)),
  I0 p8 (.bin .mul (.c (.int .u64 16)) (.t p7)),
  I0 p9 (.load 1 false (.t p0)),
  I0 p10 (.bin .mul (.t p8) (.t p9)),
  I0 p11 (.bin .add (.t p4) (.t p10)),
  I0 p12 (.load 1 false (.t p2)),
  I0 p13 (.bin .add (.t p11) (.t p12)),
  I0 p3 (.mov (.t p13))]
def IC : List Ins := [I0 p3 (.mov (.c (.int .u64 0)))]
def xo : SC := .seq none (.reg [(none, IC)]) (.seq none (.reg [(none, IO)]) (.ret))
def MP : AFn := .code (a_cost_bounds_f6.map (·.1)) (gY xo) (z_cost_bounds_f6.map (·.1))
abbrev gr : Nat := 92
def tt : Tr Ty := (tN (tN (tN (.node .leaf (some (.int .u64)) .leaf) .leaf) (.node (.node .leaf (some (.int .u64)) .leaf) (some (.int .u64)) .leaf)) (.node (.node (.node .leaf (some (.int .u64)) .leaf) (some (.int .u64)) .leaf) (some (.int .u64)) (.node .leaf (some (.int .u64)) .leaf)))
def a_cost_bounds_f7 : Kp := [(p0, .any), (p1, .any)]
def z_cost_bounds_f7 : List (Rv × Ty) := [(.t p2, (.int .u64))]
def II : List Ins := [I0 p3 (.fa 4 (.t p0)),
  I0 p4 (.load 1 false (.t p3)),
  I0 p5 (.load 1 false (.t p1)),
  I0 p6 (.bin .add (.t p4) (.t p5)),
  I0 p7 (.bin .mul (.c (.int .u64 64)) (.t p6)),
  I0 p8 (.load 1 false (.t p1)),
  I0 p9 (.bin .add (.t p7) (.t p8)),
  I0 p2 (.mov (.t p9))]
def Kl : List Ins := [I0 p2 (.mov (.c (.int .u64 0)))]
def xV : SC := .seq none (.reg [(none, Kl)]) (.seq none (.reg [(none, II)]) (.ret))
def MQ : AFn := .code (a_cost_bounds_f7.map (·.1)) (gY xV) (z_cost_bounds_f7.map (·.1))
abbrev gi : Nat := 94
def s8 : Tr Ty := (tN (tN (.node (.node .leaf (some (.int .u64)) .leaf) (some (.int .u64)) .leaf) (.node (.node .leaf (some (.int .u64)) .leaf) (some (.int .u64)) (.node .leaf (some (.int .u64)) .leaf))) (tN (.node (.node .leaf (some (.int .u64)) .leaf) (some (.int .u64)) (.node .leaf (some (.int .u64)) .leaf)) (tN (.node .leaf (some (.int .u64)) .leaf) .leaf)))
def a_cost_bounds_f9 : Kp := [(p0, .any), (p1, .any), (p2, .any)]
def z_cost_bounds_f9 : List (Rv × Ty) := [(.t p3, (.int .u64))]
def IV : List Ins := [I0 p4 (.load 1 false (.t p0)),
  I0 p5 (.bin .mul (.c (.int .u64 26)) (.t p4)),
  I0 p6 (.fa 3 (.t p1)),
  I0 p7 (.load 1 false (.t p6)),
  I0 p8 (.bin .add (.t p5) (.t p7)),
  I0 p9 (.load 1 false (.t p2)),
  I0 p10 (.bin .add (.t p8) (.t p9)),
  I0 p11 (.fa 5 (.t p1)),
  I0 p12 (.load 1 false (.t p11)),
  I0 p13 (.bin .add (.t p10) (.t p12)),
  I0 p3 (.mov (.t p13))]
def JV : List Ins := [I0 p3 (.mov (.c (.int .u64 0)))]
def xE : SC := .seq none (.reg [(none, JV)]) (.seq none (.reg [(none, IV)]) (.ret))
def NV : AFn := .code (a_cost_bounds_f9.map (·.1)) (gY xE) (z_cost_bounds_f9.map (·.1))
abbrev eW : Nat := 95
def rS : Tr Ty := (tN (tN (.node (.node (.node .leaf (some (.int .u64)) .leaf) (some (.int .u64)) .leaf) (some (.int .u64)) (.node .leaf (some (.int .u64)) .leaf)) (.node (.node .leaf (some (.int .u64)) .leaf) (some (.int .u64)) .leaf)) (tN (.node (.node .leaf (some (.int .u64)) .leaf) (some (.int .u64)) (.node .leaf (some (.int .u64)) .leaf)) (tN (.node .leaf (some (.int .u64)) .leaf) (.node .leaf (some (.int .u64)) .leaf))))
def a_cost_bounds_f10 : Kp := [(p0, .any), (p1, .any), (p2, .any)]
def z_cost_bounds_f10 : List (Rv × Ty) := [(.t p3, (.int .u64))]
def Hp : List Ins := [I0 p4 (.load 1 false (.t p0)),
  I0 p5 (.bin .mul (.c (.int .u64 64)) (.t p4)),
  I0 p6 (.fa 3 (.t p1)),
  I0 p7 (.load 1 false (.t p6)),
  I0 p8 (.bin .mul (.c (.int .u64 2)) (.t p7)),
  I0 p9 (.bin .add (.t p5) (.t p8)),
  I0 p10 (.load 1 false (.t p2)),
  I0 p11 (.bin .mul (.c (.int .u64 2)) (.t p10)),
  I0 p12 (.bin .add (.t p9) (.t p11)),
  I0 p13 (.fa 5 (.t p1)),
  I0 p14 (.load 1 false (.t p13)),
  I0 p15 (.bin .add (.t p12) (.t p14)),
  I0 p3 (.mov (.t p15))]
def HA : List Ins := [I0 p3 (.mov (.c (.int .u64 0)))]
def wv : SC := .seq none (.reg [(none, HA)]) (.seq none (.reg [(none, Hp)]) (.ret))
def Ll : AFn := .code (a_cost_bounds_f10.map (·.1)) (gY wv) (z_cost_bounds_f10.map (·.1))
abbrev kl : Nat := 93
def s0 : Tr Ty := (tN (tN (tN (.node .leaf (some (.int .u64)) .leaf) .leaf) .leaf) (.node (.node .leaf (some (.int .u64)) .leaf) (some (.int .u64)) (.node .leaf (some (.int .u64)) .leaf)))
def a_cost_bounds_f8 : Kp := [(p0, .any), (p1, .any)]
def z_cost_bounds_f8 : List (Rv × Ty) := [(.t p2, (.int .u64))]
def IW : List Ins := [I0 p3 (.load 1 false (.t p0)),
  .call .always (some p4) true (.t p3) [],
  I0 p5 (.load 1 false (.t p1)),
  .call .always (some p6) false (.t p5) [],
  I0 p7 (.minmax true [(.t p4), (.t p6)]),
  I0 p2 (.mov (.t p7))]
def Km : List Ins := [I0 p2 (.mov (.c (.int .u64 0)))]
def yg : SC := .seq none (.reg [(none, Km)]) (.seq none (.reg [(none, IW)]) (.ret))
def MW : AFn := .code (a_cost_bounds_f8.map (·.1)) (gY yg) (z_cost_bounds_f8.map (·.1))
abbrev rX : Nat := 56
def lF : Tr Ty := (tN (tN (tN (.node (tJ (.node .leaf (some (.int .u64)) .leaf) .leaf) (some (.int .u64)) .leaf) (tN tI .leaf)) (tJ (tN (tN (.node .leaf (some (.int .u64)) .leaf) .leaf) (.node .leaf (some (.int .u64)) .leaf)) (tJ .leaf (.node .leaf (some (.int .u64)) .leaf)))) (tN (.node (tN (tN (.node .leaf (some (.int .u64)) .leaf) .leaf) (.node .leaf (some (.int .u64)) .leaf)) (some (.int .u64)) (tJ .leaf tI)) (tJ (tN (tN (.node .leaf (some (.int .u64)) .leaf) .leaf) tI) (tC (.node .leaf (some (.int .u64)) .leaf) .leaf))))
def a_cost_Most : Kp := [(p0, .any), (p1, .any)]
def z_cost_Most : List (Rv × Ty) := [(.t p4, (.int .u64)), (.t p5, (.int .i64))]
def Vt : Kp := [(p2, .any), (p3, .any), (p7, (.int .u64))]
def Me : Kp := [(p2, .any), (p3, .any), (p7, (.int .u64)), (p18, .any), (p19, (.int .i64))]
def VJ : List Ins := [I0 p27 (.fa 0 (.t p3)),
  I0 p28 (.load 1 false (.t p27)),
  I0 p29 (.conv .u64 (.t p28)),
  I0 p30 (.fa 2 (.t p2)),
  I0 p31 (.load 1 false (.t p30)),
  I0 p32 (.bin .mul (.t p29) (.t p31)),
  I0 p33 (.mov (.t p7)),
  I0 p34 (.bin .add (.t p32) (.t p33)),
  I0 p4 (.mov (.t p34)),
  I0 p5 (.mov (.c (.int .i64 0)))]
def Wf : List Ins := [I0 p26 (.bin .add (.t p19) (.c (.int .i64 1))),
  I0 p19 (.mov (.t p26))]
def Vz : List Ins := [I0 p22 (.mov (.t p7)),
  I0 p23 (.mov (.t p9)),
  .call .always (some p24) false (.t p23) [],
  I0 p25 (.minmax true [(.t p22), (.t p24)]),
  I0 p7 (.mov (.t p25))]
def Vu : List Ins := [I0 p21 (.idxA 1 11 false (.t p18) (.t p19)),
  I0 p9 (.mov (.t p21))]
def Wc : List Ins := [I0 p20 (.bin .lss (.t p19) (.c (.int .i64 11)))]
def Vi : List Ins := [I0 p16 (.load 6 true (.t p2)),
  I0 p17 (.load 4 true (.t p3)),
  .call .always (some p18) false (.c (.func 70 [] [])) [(.t p16), (.t p17)],
  I0 p19 (.mov (.c (.int .i64 0)))]
def V2 : List Ins := [I0 p7 (.mov (.c (.int .u64 0)))]
def VA : List Ins := [I0 p15 (.mov (.t p6)),
  I0 p4 (.mov (.c (.int .u64 0))),
  I0 p5 (.mov (.t p15))]
def Wk : List Ins := [I0 p13 (.mov (.t p6)),
  I0 p14 (.bin .neq (.t p13) (.c (.int .i64 0)))]
def Ve : List Ins := [I0 p10 (.load 6 true (.t p2)),
  I0 p11 (.load 4 true (.t p3)),
  .call .always (some p12) false (.c (.func 69 [] [])) [(.t p10), (.t p11)],
  I0 p6 (.mov (.t p12))]
def Sk : List Ins := [I0 p2 (.box (.t p0)),
  I0 p3 (.box (.t p1)),
  I0 p4 (.mov (.c (.int .u64 0))),
  I0 p5 (.mov (.c (.int .i64 0)))]
def LJ : SC := .seq none (.reg [(none, Sk)]) (.seq none (.seq none (.reg [(none, Ve)]) (.seq none (.reg [(none, Wk)]) (.cond (.t p14) (.seq none (.reg [(none, VA)]) (.ret)) (.skip)))) (.seq none (.reg [(none, V2)]) (.seq none (.seq none (.reg [(none, Vi)]) (.block 0 (some Vt) (.loop Me (.seq none (.reg [(none, Wc)]) (.seq none (.cond (.t p20) (.skip) (.exit 0)) (.seq none (.block 1 none (.seq none (.reg [(none, Vu)]) (.reg [(none, Vz)]))) (.reg [(none, Wf)]))))))) (.seq none (.reg [(none, VJ)]) (.ret)))))
def abm : AFn := .code (a_cost_Most.map (·.1)) (gY LJ) (z_cost_Most.map (·.1))
abbrev pP : Nat := 57
def uh : Tr Ty := (tN (tJ (tN (tN .leaf tI) (tN .leaf tI)) (tN (tJ .leaf tI) (tJ tI tI))) (tN (tN (tN tI .leaf) (tN tI .leaf)) (tJ (tN tI tI) (tJ tI .leaf))))
def a_plan_shape : Kp := [(p0, .any), (p1, (.int .i64))]
def z_plan_shape : List (Rv × Ty) := [(.cell p4 4 true, .any)]
def TJ : List Ins := [I0 p12 (.fa 1 (.t p5)),
  I0 p13 (.load 1 false (.t p12)),
  I0 p14 (.bin .shl (.c (.int .i64 1)) (.t p13)),
  I0 p15 (.fa 2 (.t p5)),
  I0 p16 (.load 1 false (.t p15)),
  I0 p17 (.fa 2 (.t p5)),
  I0 p18 (.load 1 false (.t p17)),
  I0 p19 (.fa 7 (.t p5)),
  I0 p20 (.load 1 false (.t p19)),
  I0 p21 (.bin .add (.t p18) (.t p20)),
  I0 p22 (.bin .sub (.t p21) (.c (.int .i64 1))),
  I0 p23 (.mov (.t p6)),
  I0 p24 (.fa 6 (.t p5)),
  I0 p25 (.load 1 false (.t p24)),
  I0 p26 (.bin .mul (.t p23) (.t p25)),
  I0 p27 (.minmax false [(.t p22), (.t p26)]),
  I0 p28 (.fa 3 (.t p5)),
  I0 p29 (.load 1 false (.t p28)),
  I0 p30 (.build [(.int .i64 0), (.int .i64 0), (.int .i64 0), (.int .i64 0)] [(0, 1, (.t p14)), (1, 1, (.t p16)), (2, 1, (.t p27)), (3, 1, (.t p29))]),
  .op .always none (.store 4 (.t p4) (.t p30))]
def Tw : List Ins := [I0 p6 (.mov (.c (.int .i64 16)))]
def Sn : List Ins := [I0 p7 (.fa 16 (.t p2)),
  I0 p8 (.load 1 false (.t p7)),
  I0 p9 (.mov (.t p1)),
  I0 p10 (.iaS 8 (.t p8) (.t p9)),
  I0 p11 (.load 8 true (.t p10)),
  I0 p5 (.alloc [.nilslice, (.int .i64 0), (.int .i64 0), (.int .i64 0), (.int .i64 0), (.int .i64 0), (.int .i64 0), (.int .i64 0)]),
  .op .always none (.store 8 (.t p5) (.t p11))]
def S4 : List Ins := [I0 p2 (.box (.t p0)),
  I0 p4 (.alloc [(.int .i64 0), (.int .i64 0), (.int .i64 0), (.int .i64 0)])]
def H5 : SC := .seq none (.reg [(none, S4)]) (.seq none (.reg [(none, Sn)]) (.seq none (.reg [(none, Tw)]) (.seq none (.reg [(none, TJ)]) (.ret))))
def Y6 : AFn := .code (a_plan_shape.map (·.1)) (gY H5) (z_plan_shape.map (·.1))
abbrev oi : Nat := 40
def eJ : Tr Ty := (tN (tN (.node (tJ (tC (tN tI .leaf) (tJ (.node .leaf (some (.int .u64)) .leaf) .leaf)) (.node tI (some (.int .u64)) tB)) (some (.int .u64)) (tC (tC .leaf (tN tI .leaf)) (tC (tN tI .leaf) tI))) (tJ (.node (tN (tC tB .leaf) (tC tB .leaf)) (some (.int .u64)) (tC (tJ (.node .leaf (some (.int .u64)) .leaf) .leaf) .leaf)) (.node (tC .leaf (.node .leaf (some (.int .u64)) .leaf)) (some (.int .u64)) (tC (tN tB .leaf) tI)))) (tC (tJ (tN (tC (tJ tI .leaf) (tJ (.node .leaf (some (.int .u64)) .leaf) .leaf)) tB) (tN (tC .leaf (.node .leaf (some (.int .u64)) .leaf)) (tC (tJ tB .leaf) .leaf))) (.node (tC (.node tB (some (.int .u64)) (tC tB .leaf)) (tN (tJ tI .leaf) tI)) (some (.int .u64)) (tC (tN (tN tI .leaf) tB) (tN (.node .leaf (some (.int .u64)) .leaf) .leaf)))))
def a_plan_sliced : Kp := [(p0, .any)]
def z_plan_sliced : List (Rv × Ty) := [(.t p2, .bool)]
def Qo : Kp := []
def F2 : Kp := [(p1, .any), (p58, (.int .i64)), (p59, (.int .i64))]
def Gp : Kp := [(p1, .any), (p58, (.int .i64)), (p59, (.int .i64))]
def Qy : Kp := [(p1, .any), (p58, (.int .i64)), (p59, (.int .i64)), (p82, .bool)]
def Qd : Kp := [(p1, .any), (p55, .bool)]
def Rl : Kp := [(p1, .any), (p34, .bool)]
def Qu : Kp := [(p1, .any), (p15, .bool)]
def PO : Kp := [(p1, .any), (p20, .bool)]
def QE : Kp := [(p1, .any), (p25, .bool)]
def PH : List Ins := [I0 p2 (.mov (.c (.bool true)))]
def QT : List Ins := [I0 p83 (.bin .add (.t p59) (.c (.int .i64 1))),
  I0 p59 (.mov (.t p83))]
def PL : List Ins := [I0 p2 (.mov (.c (.bool false)))]
def Qr : List Ins := [I0 p75 (.mov (.t p7)),
  I0 p76 (.bin .neq (.t p75) (.c (.int .i64 0))),
  I0 p77 (.mov (.t p76)),
  .op (.on p77 false) (some p78) (.fa 12 (.t p1)),
  .op (.on p77 false) (some p79) (.load 1 false (.t p78)),
  .op (.on p77 false) (some p80) (.mov (.t p6)),
  .op (.on p77 false) (some p81) (.bin .lss (.t p79) (.t p80)),
  I0 p82 (.pick (.t p77) (.c (.bool true)) (.t p81))]
def Qk : List Ins := [I0 p67 (.fa 6 (.t p1)),
  I0 p68 (.load 6 true (.t p67)),
  I0 p69 (.load 17 true (.t p1)),
  I0 p70 (.mov (.t p5)),
  .call .always (some p71) true (.c (.func 57 [] [])) [(.t p69), (.t p70)],
  .call .always (some p72) false (.c (.func 56 [] [])) [(.t p68), (.t p71)],
  I0 p66 (.mov (.t p72)),
  I0 p73 (.ext 0 (.t p66)),
  I0 p74 (.ext 1 (.t p66)),
  I0 p6 (.mov (.t p73)),
  I0 p7 (.mov (.t p74))]
def Qw : List Ins := [I0 p62 (.load 17 true (.t p1)),
  I0 p63 (.mov (.t p5)),
  .call .always (some p64) false (.c (.func 42 [] [])) [(.t p62), (.t p63)],
  I0 p65 (.bin .neq (.t p64) (.c (.int .i64 0)))]
def QB : List Ins := [I0 p61 (.mov (.t p59)),
  I0 p5 (.mov (.t p61))]
def Qn : List Ins := [I0 p60 (.bin .lss (.t p59) (.t p58))]
def Qf : List Ins := [I0 p56 (.fa 16 (.t p1)),
  I0 p57 (.load 1 false (.t p56)),
  I0 p58 (.len .sl (.t p57)),
  I0 p59 (.mov (.c (.int .i64 0)))]
def Qh : List Ins := [I0 p2 (.mov (.c (.bool false)))]
def Nn : List Ins := [I0 p48 (.mov (.t p4)),
  I0 p49 (.bin .neq (.t p48) (.c (.int .i64 0))),
  I0 p50 (.mov (.t p49)),
  .op (.on p50 false) (some p51) (.fa 13 (.t p1)),
  .op (.on p50 false) (some p52) (.load 1 false (.t p51)),
  .op (.on p50 false) (some p53) (.mov (.t p3)),
  .op (.on p50 false) (some p54) (.bin .lss (.t p52) (.t p53)),
  I0 p55 (.pick (.t p50) (.c (.bool true)) (.t p54))]
def OF : List Ins := [I0 p36 (.fa 6 (.t p1)),
  I0 p37 (.load 6 true (.t p36)),
  I0 p38 (.fa 3 (.t p1)),
  I0 p39 (.load 1 false (.t p38)),
  I0 p40 (.fa 4 (.t p1)),
  I0 p41 (.load 1 false (.t p40)),
  I0 p42 (.bin .mul (.t p39) (.t p41)),
  I0 p43 (.fa 5 (.t p1)),
  I0 p44 (.load 1 false (.t p43)),
  .call .always (some p45) false (.c (.func 55 [] [])) [(.t p37), (.t p42), (.t p44)],
  I0 p35 (.mov (.t p45)),
  I0 p46 (.ext 0 (.t p35)),
  I0 p47 (.ext 1 (.t p35)),
  I0 p3 (.mov (.t p46)),
  I0 p4 (.mov (.t p47))]
def Oz : List Ins := [I0 p2 (.mov (.c (.bool true)))]
def OL : List Ins := [I0 p26 (.load 17 true (.t p1)),
  .call .always (some p27) false (.c (.func 38 [] [])) [(.t p26)],
  I0 p28 (.not (.t p27)),
  I0 p29 (.mov (.t p28)),
  .op (.on p29 false) (some p30) (.fa 6 (.t p1)),
  .op (.on p29 false) (some p31) (.load 6 true (.t p30)),
  .call (.on p29 false) (some p32) false (.c (.func 39 [] [])) [(.t p31)],
  .op (.on p29 false) (some p33) (.bin .neq (.t p32) (.c (.int .i64 0))),
  I0 p34 (.pick (.t p29) (.c (.bool true)) (.t p33))]
def NS : List Ins := [I0 p2 (.mov (.c (.bool false)))]
def NY : List Ins := [I0 p8 (.fa 12 (.t p1)),
  I0 p9 (.load 1 false (.t p8)),
  I0 p10 (.bin .lss (.t p9) (.c (.int .u64 1))),
  I0 p11 (.mov (.t p10)),
  .op (.on p11 false) (some p12) (.fa 12 (.t p1)),
  .op (.on p11 false) (some p13) (.load 1 false (.t p12)),
  .op (.on p11 false) (some p14) (.bin .gtr (.t p13) (.c (.int .u64 4194304))),
  I0 p15 (.pick (.t p11) (.c (.bool true)) (.t p14))]
def Oe : List Ins := [I0 p16 (.mov (.t p15)),
  .op (.on p16 false) (some p17) (.fa 13 (.t p1)),
  .op (.on p16 false) (some p18) (.load 1 false (.t p17)),
  .op (.on p16 false) (some p19) (.bin .gtr (.t p18) (.c (.int .u64 4194304))),
  I0 p20 (.pick (.t p16) (.c (.bool true)) (.t p19))]
def Nv : List Ins := [I0 p21 (.mov (.t p20)),
  .op (.on p21 false) (some p22) (.fa 14 (.t p1)),
  .op (.on p21 false) (some p23) (.load 1 false (.t p22)),
  .op (.on p21 false) (some p24) (.bin .geq (.t p23) (.c (.int .u64 1099511627776))),
  I0 p25 (.pick (.t p21) (.c (.bool true)) (.t p24))]
def N0 : List Ins := [I0 p1 (.box (.t p0)),
  I0 p2 (.mov (.c (.bool false)))]
def Et : SC := .seq none (.reg [(none, N0)]) (.seq none (.seq none (.reg [(some Qu, NY), (some PO, Oe), (some QE, Nv)]) (.cond (.t p25) (.seq none (.reg [(none, NS)]) (.ret)) (.skip))) (.seq none (.seq none (.reg [(some Rl, OL)]) (.cond (.t p34) (.seq none (.reg [(none, Oz)]) (.ret)) (.skip))) (.seq none (.seq none (.reg [(none, OF)]) (.seq none (.reg [(some Qd, Nn)]) (.cond (.t p55) (.seq none (.reg [(none, Qh)]) (.ret)) (.skip)))) (.seq none (.seq none (.reg [(none, Qf)]) (.block 0 (some Qo) (.loop F2 (.seq none (.reg [(none, Qn)]) (.seq none (.cond (.t p60) (.skip) (.exit 0)) (.seq none (.block 1 (some Gp) (.seq none (.reg [(none, QB)]) (.seq none (.seq none (.reg [(none, Qw)]) (.cond (.t p65) (.exit 1) (.skip))) (.seq none (.reg [(none, Qk)]) (.seq none (.reg [(some Qy, Qr)]) (.cond (.t p82) (.seq none (.reg [(none, PL)]) (.ret)) (.skip))))))) (.reg [(none, QT)]))))))) (.seq none (.reg [(none, PH)]) (.ret))))))
def Vb : AFn := .code (a_plan_sliced.map (·.1)) (gY Et) (z_plan_sliced.map (·.1))
abbrev jx : Nat := 59
def tq : Tr Ty := (tJ (tN (tC tI .leaf) (tN tB .leaf)) (tN (tJ tI .leaf) (tN tB .leaf)))
def a_plan_turned_f1 : Kp := [(p0, (.int .i64)), (p1, .any)]
def z_plan_turned_f1 : List (Rv × Ty) := [(.t p3, .bool)]
def JJ : List Ins := [I0 p4 (.mov (.t p0)),
  I0 p5 (.fa 16 (.t p1)),
  I0 p6 (.load 1 false (.t p5)),
  I0 p7 (.len .sl (.t p6)),
  I0 p8 (.bin .sub (.t p7) (.c (.int .i64 1))),
  .call .always (some p9) false (.c (.func 54 [] [])) [(.t p4), (.c (.int .i64 0)), (.t p8)],
  I0 p10 (.not (.t p9)),
  I0 p3 (.mov (.t p10))]
def IP : List Ins := [I0 p3 (.mov (.c (.bool false)))]
def yh : SC := .seq none (.reg [(none, IP)]) (.seq none (.reg [(none, JJ)]) (.ret))
def NZ : AFn := .code (a_plan_turned_f1.map (·.1)) (gY yh) (z_plan_turned_f1.map (·.1))
abbrev ec : Nat := 71
def di : Tr Ty := (tN (tN (tN (tJ tI .leaf) .leaf) (tJ (tN tI .leaf) tI)) (tN (tJ (tJ tB .leaf) .leaf) (tN (tJ tI .leaf) .leaf)))
def a_slices_IndexFunc___int_int_ : Kp := [(p0, .any), (p1, .any)]
def z_slices_IndexFunc___int_int_ : List (Rv × Ty) := [(.t p4, (.int .i64))]
def sJ : Kp := []
def nH : Kp := [(p0, .any), (p1, .any), (p7, (.int .i64)), (p8, (.int .i64))]
def sM : List Ins := [I0 p4 (.mov (.c (.int .i64 (-1))))]
def sC : List Ins := [I0 p18 (.bin .add (.t p8) (.c (.int .i64 1))),
  I0 p8 (.mov (.t p18))]
def sD : List Ins := [I0 p17 (.mov (.t p5)),
  I0 p4 (.mov (.t p17))]
def sK : List Ins := [I0 p11 (.mov (.t p1)),
  I0 p12 (.mov (.t p0)),
  I0 p13 (.mov (.t p5)),
  I0 p14 (.iaS 1 (.t p12) (.t p13)),
  I0 p15 (.load 1 false (.t p14)),
  .call .always (some p16) false (.t p11) [(.t p15)]]
def sL : List Ins := [I0 p10 (.mov (.t p8)),
  I0 p5 (.mov (.t p10))]
def sG : List Ins := [I0 p9 (.bin .lss (.t p8) (.t p7))]
def sN : List Ins := [I0 p6 (.mov (.t p0)),
  I0 p7 (.len .sl (.t p6)),
  I0 p8 (.mov (.c (.int .i64 0)))]
def sE : List Ins := [I0 p4 (.mov (.c (.int .i64 0)))]
def lG : SC := .seq none (.reg [(none, sE)]) (.seq none (.seq none (.reg [(none, sN)]) (.block 0 (some sJ) (.loop nH (.seq none (.reg [(none, sG)]) (.seq none (.cond (.t p9) (.skip) (.exit 0)) (.seq none (.block 1 none (.seq none (.reg [(none, sL)]) (.seq none (.reg [(none, sK)]) (.cond (.t p16) (.seq none (.reg [(none, sD)]) (.ret)) (.skip))))) (.reg [(none, sC)]))))))) (.seq none (.reg [(none, sM)]) (.ret)))
def tH : AFn := .code (a_slices_IndexFunc___int_int_.map (·.1)) (gY lG) (z_slices_IndexFunc___int_int_.map (·.1))
abbrev dF : Nat := 58
def iU : Tr Ty := (tN (tN (tN tI .leaf) .leaf) (tN (tC tB .leaf) .leaf))
def a_slices_ContainsFunc___int_int_ : Kp := [(p0, .any), (p1, .any)]
def z_slices_ContainsFunc___int_int_ : List (Rv × Ty) := [(.t p4, .bool)]
def qN : List Ins := [I0 p5 (.mov (.t p0)),
  I0 p6 (.mov (.t p1)),
  .call .always (some p7) false (.c (.func 71 [] [])) [(.t p5), (.t p6)],
  I0 p8 (.bin .geq (.t p7) (.c (.int .i64 0))),
  I0 p4 (.mov (.t p8))]
def qM : List Ins := [I0 p4 (.mov (.c (.bool false)))]
def kK : SC := .seq none (.reg [(none, qM)]) (.seq none (.reg [(none, qN)]) (.ret))
def r9 : AFn := .code (a_slices_ContainsFunc___int_int_.map (·.1)) (gY kK) (z_slices_ContainsFunc___int_int_.map (·.1))
abbrev oh : Nat := 41
def vB : Tr Ty := (tN (tN (tN tB tB) (tJ .leaf tB)) (tC (tN .leaf tB) tB))
def a_plan_turned : Kp := [(p0, .any)]
def z_plan_turned : List (Rv × Ty) := [(.t p2, .bool)]
def QS : Kp := [(p13, .bool)]
def Qx : List Ins := [I0 p3 (.fa 15 (.t p1)),
  I0 p4 (.load 1 false (.t p3)),
  I0 p5 (.len .sl (.t p4)),
  .call .always (some p6) false (.c (.func 54 [] [])) [(.t p5), (.c (.int .i64 1)), (.c (.int .i64 64))],
  I0 p7 (.mov (.t p6)),
  .op (.on p7 true) (some p8) (.fa 15 (.t p1)),
  .op (.on p7 true) (some p9) (.load 1 false (.t p8)),
  .op (.on p7 true) (some p10) (.mkfunc 59 [] [(.t p1)]),
  .call (.on p7 true) (some p11) false (.c (.func 58 [] [])) [(.t p9), (.t p10)],
  .op (.on p7 true) (some p12) (.not (.t p11)),
  I0 p13 (.pick (.t p7) (.t p12) (.c (.bool false)))]
def Qe : List Ins := [I0 p2 (.mov (.t p13))]
def Rb : List Ins := [I0 p1 (.box (.t p0)),
  I0 p2 (.mov (.c (.bool false)))]
def Es : SC := .seq none (.reg [(none, Rb)]) (.seq none (.reg [(some QS, Qx), (none, Qe)]) (.ret))
def Vl : AFn := .code (a_plan_turned.map (·.1)) (gY Es) (z_plan_turned.map (·.1))
abbrev qb : Nat := 23
def iT : Tr Ty := (tN (tN (tN (tN (tJ tB .leaf) (tN tI .leaf)) (tN (tN tI .leaf) (tN tI .leaf))) (tJ (tN .leaf (tN tI .leaf)) (tN (tN tI .leaf) tI))) (tN (tN (tN (tC tI .leaf) (tC tI .leaf)) (tN tB tI)) (tJ (tC (tN tI .leaf) .leaf) (tN (tN tB .leaf) tI))))
def a_plan_Check : Kp := [(p0, .any)]
def z_plan_Check : List (Rv × Ty) := [(.t p2, .any)]
def RZ : Kp := [(p3, .any)]
def JD : Kp := [(p1, .any), (p3, .any), (p4, .any), (p29, (.int .i64)), (p30, (.int .i64))]
def RW : List Ins := [I0 p44 (.load 1 false (.t p3)),
  I0 p2 (.mov (.t p44))]
def SH : List Ins := [I0 p43 (.bin .add (.t p30) (.c (.int .i64 1))),
  I0 p30 (.mov (.t p43))]
def Tk : List Ins := [I0 p36 (.mov (.t p4)),
  I0 p37 (.mov (.t p6)),
  I0 p38 (.bin .eql (.t p37) (.c (.int .i64 0))),
  I0 p39 (.mov (.t p6)),
  I0 p40 (.mov (.t p5)),
  I0 p41 (.bin .add (.c (.int .i64 4)) (.t p40)),
  .call .always (some p42) false (.t p36) [(.t p38), (.t p39), (.t p41)]]
def SS : List Ins := [I0 p33 (.load 17 true (.t p1)),
  I0 p34 (.mov (.t p5)),
  .call .always (some p35) false (.c (.func 42 [] [])) [(.t p33), (.t p34)],
  I0 p6 (.mov (.t p35))]
def R4 : List Ins := [I0 p32 (.mov (.t p30)),
  I0 p5 (.mov (.t p32))]
def SM : List Ins := [I0 p31 (.bin .lss (.t p30) (.t p29))]
def SJ : List Ins := [I0 p26 (.fa 16 (.t p1)),
  I0 p27 (.load 1 false (.t p26)),
  I0 p28 (.len .sl (.t p27)),
  I0 p29 (.minmax false [(.t p28), (.c (.int .i64 8))]),
  I0 p30 (.mov (.c (.int .i64 0)))]
def Sb : List Ins := [I0 p22 (.mov (.t p4)),
  I0 p23 (.load 17 true (.t p1)),
  .call .always (some p24) false (.c (.func 41 [] [])) [(.t p23)],
  .call .always (some p25) false (.t p22) [(.t p24), (.c (.int .i64 112)), (.c (.int .i64 3))]]
def Tb : List Ins := [I0 p18 (.mov (.t p4)),
  I0 p19 (.load 17 true (.t p1)),
  .call .always (some p20) false (.c (.func 40 [] [])) [(.t p19)],
  .call .always (some p21) false (.t p18) [(.t p20), (.c (.int .i64 113)), (.c (.int .i64 2))]]
def S5 : List Ins := [I0 p12 (.mov (.t p4)),
  I0 p13 (.fa 6 (.t p1)),
  I0 p14 (.load 6 true (.t p13)),
  .call .always (some p15) false (.c (.func 39 [] [])) [(.t p14)],
  I0 p16 (.bin .eql (.t p15) (.c (.int .i64 0))),
  .call .always (some p17) false (.t p12) [(.t p16), (.c (.int .i64 100)), (.c (.int .i64 1))]]
def PK : List Ins := [I0 p8 (.mov (.t p4)),
  I0 p9 (.load 17 true (.t p1)),
  .call .always (some p10) false (.c (.func 38 [] [])) [(.t p9)],
  .call .always (some p11) false (.t p8) [(.t p10), (.c (.int .i64 114)), (.c (.int .i64 0))]]
def PT : List Ins := [I0 p7 (.mkfunc 37 [] [(.t p3)]),
  I0 p4 (.mov (.t p7))]
def PU : List Ins := [I0 p3 (.alloc [.nilslice])]
def QM : List Ins := [I0 p1 (.box (.t p0)),
  I0 p2 (.mov (.c .nilslice))]
def HL : SC := .seq none (.reg [(none, QM)]) (.seq none (.reg [(none, PU)]) (.seq none (.reg [(none, PT)]) (.seq none (.reg [(none, PK)]) (.seq none (.reg [(none, S5)]) (.seq none (.reg [(none, Tb)]) (.seq none (.reg [(none, Sb)]) (.seq none (.seq none (.reg [(none, SJ)]) (.block 0 (some RZ) (.loop JD (.seq none (.reg [(none, SM)]) (.seq none (.cond (.t p31) (.skip) (.exit 0)) (.seq none (.block 1 none (.seq none (.reg [(none, R4)]) (.seq none (.reg [(none, SS)]) (.reg [(none, Tk)])))) (.reg [(none, SH)]))))))) (.seq none (.reg [(none, RW)]) (.ret)))))))))
def YK : AFn := .code (a_plan_Check.map (·.1)) (gY HL) (z_plan_Check.map (·.1))
abbrev mS : Nat := 8
def Jc : Tr Ty := (tN (tN .leaf tI) (tC .leaf tB))
def a_plan_May : Kp := [(p0, .any)]
def z_plan_May : List (Rv × Ty) := [(.t p2, .bool)]
def XO : List Ins := [I0 p3 (.load 17 true (.t p1)),
  .call .always (some p4) false (.c (.func 23 [] [])) [(.t p3)],
  I0 p5 (.len .sl (.t p4)),
  I0 p6 (.bin .eql (.t p5) (.c (.int .i64 0))),
  I0 p2 (.mov (.t p6))]
def Yq : List Ins := [I0 p1 (.box (.t p0)),
  I0 p2 (.mov (.c (.bool false)))]
def O6 : SC := .seq none (.reg [(none, Yq)]) (.seq none (.reg [(none, XO)]) (.ret))
def ae0 : AFn := .code (a_plan_May.map (·.1)) (gY O6) (z_plan_May.map (·.1))
abbrev pW : Nat := 33
def ot : Tr Ty := (tN (tJ (tN tB tB) (tC (tC tB .leaf) tI)) (tN (tJ (tC tI .leaf) tB) (tN (tJ tB .leaf) .leaf)))
def a_plan_there : Kp := [(p0, .any), (p1, (.int .i64))]
def z_plan_there : List (Rv × Ty) := [(.t p4, (.int .i64))]
def Ta : Kp := [(p18, .bool)]
def Sl : List Ins := [I0 p4 (.mov (.c (.int .i64 0)))]
def R0 : List Ins := [I0 p4 (.mov (.c (.int .i64 5)))]
def Sq : List Ins := [I0 p4 (.mov (.c (.int .i64 270)))]
def TT : List Ins := [I0 p10 (.mov (.t p1)),
  I0 p11 (.bin .lss (.t p10) (.c (.int .i64 0))),
  I0 p12 (.mov (.t p11)),
  .op (.on p12 false) (some p13) (.mov (.t p1)),
  .op (.on p12 false) (some p14) (.fa 16 (.t p2)),
  .op (.on p12 false) (some p15) (.load 1 false (.t p14)),
  .op (.on p12 false) (some p16) (.len .sl (.t p15)),
  .op (.on p12 false) (some p17) (.bin .geq (.t p13) (.t p16)),
  I0 p18 (.pick (.t p12) (.c (.bool true)) (.t p17))]
def Tc : List Ins := [I0 p9 (.mov (.t p18))]
def S6 : List Ins := [I0 p6 (.load 17 true (.t p2)),
  .call .always (some p7) false (.c (.func 8 [] [])) [(.t p6)],
  I0 p8 (.not (.t p7)),
  I0 p5 (.mov (.t p8))]
def Ti : List Ins := [I0 p2 (.box (.t p0)),
  I0 p4 (.mov (.c (.int .i64 0)))]
def H3 : SC := .seq none (.reg [(none, Ti)]) (.seq none (.block 0 none (.seq none (.reg [(none, S6)]) (.cond (.t p5) (.seq none (.reg [(none, R0)]) (.ret)) (.seq none (.reg [(some Ta, TT), (none, Tc)]) (.cond (.t p9) (.seq none (.reg [(none, Sq)]) (.ret)) (.skip)))))) (.seq none (.reg [(none, Sl)]) (.ret)))
def XW : AFn := .code (a_plan_there.map (·.1)) (gY H3) (z_plan_there.map (·.1))
abbrev pO : Nat := 19
def rP : Tr Ty := (tN (tJ (tN (tN tI .leaf) tB) (tJ tI .leaf)) (tN (tJ tI tI) (tJ tI tI)))
def a_plan_Total : Kp := [(p0, .any), (p1, (.int .i64))]
def z_plan_Total : List (Rv × Ty) := [(.t p4, (.int .i64)), (.t p5, (.int .i64))]
def RS : List Ins := [I0 p13 (.load 17 true (.t p2)),
  I0 p14 (.mov (.t p1)),
  .call .always (some p15) false (.c (.func 34 [] [])) [(.t p13), (.t p14)],
  I0 p4 (.mov (.t p15)),
  I0 p5 (.mov (.c (.int .i64 0)))]
def SK : List Ins := [I0 p12 (.mov (.t p6)),
  I0 p4 (.mov (.c (.int .i64 0))),
  I0 p5 (.mov (.t p12))]
def TD : List Ins := [I0 p10 (.mov (.t p6)),
  I0 p11 (.bin .neq (.t p10) (.c (.int .i64 0)))]
def TW : List Ins := [I0 p7 (.load 17 true (.t p2)),
  I0 p8 (.mov (.t p1)),
  .call .always (some p9) false (.c (.func 33 [] [])) [(.t p7), (.t p8)],
  I0 p6 (.mov (.t p9))]
def Ua : List Ins := [I0 p2 (.box (.t p0)),
  I0 p4 (.mov (.c (.int .i64 0))),
  I0 p5 (.mov (.c (.int .i64 0)))]
def HZ : SC := .seq none (.reg [(none, Ua)]) (.seq none (.seq none (.reg [(none, TW)]) (.seq none (.reg [(none, TD)]) (.cond (.t p11) (.seq none (.reg [(none, SK)]) (.ret)) (.skip)))) (.seq none (.reg [(none, RS)]) (.ret)))
def XQ : AFn := .code (a_plan_Total.map (·.1)) (gY HZ) (z_plan_Total.map (·.1))
abbrev gc : Nat := 20
def iJ : Tr Ty := (tN .leaf (tN tB .leaf))
def a_slices_Clone___int_int_ : Kp := [(p0, .any)]
def z_slices_Clone___int_int_ : List (Rv × Ty) := [(.t p2, .any)]
def wd : List Ins := [I0 p5 (.buildSlice 0 [] []),
  I0 p6 (.mov (.t p0)),
  I0 p7 (.append 1 (.t p5) (.t p6)),
  I0 p2 (.mov (.t p7))]
def wz : List Ins := [I0 p2 (.mov (.c .nilslice))]
def wa : List Ins := [I0 p3 (.mov (.t p0)),
  I0 p4 (.eq (.nil .sl) false (.t p3) (.c .nilslice))]
def wc : List Ins := [I0 p2 (.mov (.c .nilslice))]
def nM : SC := .seq none (.reg [(none, wc)]) (.seq none (.seq none (.reg [(none, wa)]) (.cond (.t p4) (.seq none (.reg [(none, wz)]) (.ret)) (.skip))) (.seq none (.reg [(none, wd)]) (.ret)))
def yn : AFn := .code (a_slices_Clone___int_int_.map (·.1)) (gY nM) (z_slices_Clone___int_int_.map (·.1))
abbrev ew : Nat := 35
def rB : Tr Ty := (tJ (tJ (tN tI tI) (tN tB tB)) (tJ (tN tI tI) (tC tB tB)))
def a_colour_within : Kp := [(p0, (.int .i64)), (p1, (.int .i64)), (p2, (.int .i64))]
def z_colour_within : List (Rv × Ty) := [(.t p6, .bool)]
def KK : Kp := [(p14, .bool)]
def Lw : List Ins := [I0 p7 (.mov (.t p0)),
  I0 p8 (.mov (.t p1)),
  I0 p9 (.bin .geq (.t p7) (.t p8)),
  I0 p10 (.mov (.t p9)),
  .op (.on p10 true) (some p11) (.mov (.t p0)),
  .op (.on p10 true) (some p12) (.mov (.t p2)),
  .op (.on p10 true) (some p13) (.bin .leq (.t p11) (.t p12)),
  I0 p14 (.pick (.t p10) (.t p13) (.c (.bool false)))]
def KP : List Ins := [I0 p6 (.mov (.t p14))]
def Lp : List Ins := [I0 p6 (.mov (.c (.bool false)))]
def y3 : SC := .seq none (.reg [(none, Lp)]) (.seq none (.reg [(some KK, Lw), (none, KP)]) (.ret))
def QH : AFn := .code (a_colour_within.map (·.1)) (gY y3) (z_colour_within.map (·.1))
abbrev kJ : Nat := 36
def A1 : Tr Ty := (tJ (tN tI .leaf) (tC tB .leaf))
def a_colour_may : Kp := [(p0, (.int .i64))]
def z_colour_may : List (Rv × Ty) := [(.t p2, .bool)]
def RO : List Ins := [I0 p3 (.mov (.t p0)),
  .call .always (some p4) false (.c (.func 35 [] [])) [(.t p3), (.c (.int .i64 1)), (.c (.int .i64 16))],
  I0 p2 (.mov (.t p4))]
def T8 : List Ins := [I0 p2 (.mov (.c (.bool false)))]
def HX : SC := .seq none (.reg [(none, T8)]) (.seq none (.reg [(none, RO)]) (.ret))
def X9 : AFn := .code (a_colour_may.map (·.1)) (gY HX) (z_colour_may.map (·.1))
abbrev nh : Nat := 21
def oH : Tr Ty := (tJ (tJ (tN (tJ tB tI) (tC tI tI)) (tN (tC tI tI) (tC tB tI))) (tJ (tN (tJ tB tI) (tJ tB tI)) (tJ (tC tI tI) (tC tB tI))))
def a_colour_Count : Kp := [(p0, (.int .i64)), (p1, (.int .i64)), (p2, (.int .i64))]
def z_colour_Count : List (Rv × Ty) := [(.t p6, (.int .i64)), (.t p7, (.int .i64))]
def MA : Kp := [(p0, (.int .i64)), (p1, (.int .i64)), (p2, (.int .i64)), (p15, .bool)]
def N7 : Kp := [(p0, (.int .i64)), (p1, (.int .i64)), (p2, (.int .i64)), (p22, .bool)]
def MF : List Ins := [I0 p23 (.mov (.t p0)),
  I0 p24 (.mov (.t p2)),
  I0 p25 (.bin .sub (.t p23) (.t p24)),
  I0 p26 (.mov (.t p1)),
  I0 p27 (.bin .add (.t p25) (.t p26)),
  I0 p28 (.bin .sub (.t p27) (.c (.int .i64 1))),
  I0 p29 (.mov (.t p1)),
  I0 p30 (.bin .quo (.t p28) (.t p29)),
  I0 p6 (.mov (.t p30)),
  I0 p7 (.mov (.c (.int .i64 0)))]
def Ob : List Ins := [I0 p6 (.mov (.c (.int .i64 0))),
  I0 p7 (.mov (.c (.int .i64 2)))]
def Ou : List Ins := [I0 p8 (.mov (.t p0)),
  .call .always (some p9) false (.c (.func 35 [] [])) [(.t p8), (.c (.int .i64 1)), (.c (.int .i64 4096))],
  I0 p10 (.not (.t p9)),
  I0 p11 (.mov (.t p10)),
  .op (.on p11 false) (some p12) (.mov (.t p1)),
  .call (.on p11 false) (some p13) false (.c (.func 36 [] [])) [(.t p12)],
  .op (.on p11 false) (some p14) (.not (.t p13)),
  I0 p15 (.pick (.t p11) (.c (.bool true)) (.t p14))]
def M2 : List Ins := [I0 p16 (.mov (.t p15)),
  .op (.on p16 false) (some p17) (.mov (.t p2)),
  .op (.on p16 false) (some p18) (.mov (.t p1)),
  .op (.on p16 false) (some p19) (.bin .sub (.t p18) (.c (.int .i64 1))),
  .call (.on p16 false) (some p20) false (.c (.func 35 [] [])) [(.t p17), (.c (.int .i64 0)), (.t p19)],
  .op (.on p16 false) (some p21) (.not (.t p20)),
  I0 p22 (.pick (.t p16) (.c (.bool true)) (.t p21))]
def Mv : List Ins := [I0 p6 (.mov (.c (.int .i64 0))),
  I0 p7 (.mov (.c (.int .i64 0)))]
def Br : SC := .seq none (.reg [(none, Mv)]) (.seq none (.seq none (.reg [(some MA, Ou), (some N7, M2)]) (.cond (.t p22) (.seq none (.reg [(none, Ob)]) (.ret)) (.skip))) (.seq none (.reg [(none, MF)]) (.ret)))
def SR : AFn := .code (a_colour_Count.map (·.1)) (gY Br) (z_colour_Count.map (·.1))
abbrev sa : Nat := 22
def ly : Tr Ty := (tJ (tN (tJ (tJ (tN tI .leaf) tI) (tC (tC tI .leaf) tI)) (tJ (tC (tJ tI .leaf) tI) (tJ tI tB))) (tN (tN (tC .leaf (tJ tI .leaf)) (tC tI tI)) (tJ (tJ tI tI) (tN tI tI))))
def a_buddy_New : Kp := [(p0, (.int .i64))]
def z_buddy_New : List (Rv × Ty) := [(.t p2, .any), (.t p3, (.int .i64))]
def VM : Kp := [(p4, .any)]
def Mb : Kp := [(p0, (.int .i64)), (p4, .any), (p5, (.int .i64)), (p6, (.int .i64))]
def VU : Kp := [(p0, (.int .i64)), (p4, .any), (p5, (.int .i64)), (p6, (.int .i64))]
def LU : Kp := [(p0, (.int .i64)), (p4, .any), (p5, (.int .i64)), (p6, (.int .i64))]
def Wl : Kp := [(p0, (.int .i64)), (p12, .bool)]
def V0 : List Ins := [I0 p46 (.mov (.t p4)),
  I0 p2 (.mov (.t p46)),
  I0 p3 (.mov (.c (.int .i64 0)))]
def Vg : List Ins := [I0 p20 (.mov (.t p5)),
  I0 p21 (.mov (.t p6)),
  I0 p22 (.bin .shl (.c (.int .i64 1)) (.t p21)),
  I0 p23 (.bin .add (.t p20) (.t p22)),
  I0 p5 (.mov (.t p23))]
def Vw : List Ins := [I0 p32 (.mov (.t p4)),
  I0 p33 (.mov (.t p6)),
  I0 p34 (.mov (.t p4)),
  I0 p35 (.mov (.t p6)),
  I0 p36 (.nilchk (.t p34)),
  I0 p37 (.fa 2 (.t p36)),
  I0 p38 (.iaA 1 7 (.t p37) (.t p35)),
  I0 p39 (.load 1 false (.t p38)),
  I0 p40 (.mov (.t p5)),
  I0 p41 (.buildSlice 1 [(.int .i64 0)] [(0, 1, (.t p40))]),
  I0 p42 (.append 1 (.t p39) (.t p41)),
  I0 p43 (.nilchk (.t p32)),
  I0 p44 (.fa 2 (.t p43)),
  I0 p45 (.iaA 1 7 (.t p44) (.t p33)),
  .op .always none (.store 1 (.t p45) (.t p42))]
def VI : List Ins := [I0 p30 (.mov (.t p6)),
  I0 p31 (.bin .sub (.t p30) (.c (.int .i64 1))),
  I0 p6 (.mov (.t p31))]
def VY : List Ins := [I0 p24 (.mov (.t p5)),
  I0 p25 (.mov (.t p6)),
  I0 p26 (.bin .shl (.c (.int .i64 1)) (.t p25)),
  I0 p27 (.bin .add (.t p24) (.t p26)),
  I0 p28 (.mov (.t p0)),
  I0 p29 (.bin .gtr (.t p27) (.t p28))]
def Vv : List Ins := [I0 p17 (.mov (.t p5)),
  I0 p18 (.mov (.t p0)),
  I0 p19 (.bin .lss (.t p17) (.t p18))]
def Vs : List Ins := [I0 p5 (.mov (.c (.int .i64 0))),
  I0 p6 (.mov (.c (.int .i64 6)))]
def Vx : List Ins := [I0 p13 (.mov (.t p0)),
  I0 p14 (.mkmap),
  I0 p15 (.build [(.bool false), (.int .i64 0), .nilslice, .nilslice, .nilslice, .nilslice, .nilslice, .nilslice, .nilslice, .nilmap] [(0, 1, (.c (.bool true))), (1, 1, (.t p13)), (9, 1, (.t p14))]),
  I0 p16 (.box (.t p15)),
  I0 p4 (.mov (.t p16))]
def Wh : List Ins := [I0 p2 (.mov (.c .nilptr)),
  I0 p3 (.mov (.c (.int .i64 2)))]
def U9 : List Ins := [I0 p7 (.mov (.t p0)),
  I0 p8 (.bin .lss (.t p7) (.c (.int .i64 0))),
  I0 p9 (.mov (.t p8)),
  .op (.on p9 false) (some p10) (.mov (.t p0)),
  .op (.on p9 false) (some p11) (.bin .gtr (.t p10) (.c (.int .i64 4096))),
  I0 p12 (.pick (.t p9) (.c (.bool true)) (.t p11))]
def T7 : List Ins := [I0 p2 (.mov (.c .nilptr)),
  I0 p3 (.mov (.c (.int .i64 0)))]
def KD : SC := .seq none (.reg [(none, T7)]) (.seq none (.seq none (.reg [(some Wl, U9)]) (.cond (.t p12) (.seq none (.reg [(none, Wh)]) (.ret)) (.skip))) (.seq none (.reg [(none, Vx)]) (.seq none (.seq none (.reg [(none, Vs)]) (.block 0 (some VM) (.loop Mb (.seq none (.seq none (.reg [(none, Vv)]) (.cond (.t p19) (.skip) (.exit 0))) (.seq none (.block 1 none (.seq none (.block 2 (some VU) (.loop LU (.seq none (.seq none (.reg [(none, VY)]) (.cond (.t p29) (.skip) (.exit 2))) (.block 3 none (.reg [(none, VI)]))))) (.reg [(none, Vw)]))) (.reg [(none, Vg)])))))) (.seq none (.reg [(none, V0)]) (.ret)))))
def aby : AFn := .code (a_buddy_New.map (·.1)) (gY KD) (z_buddy_New.map (·.1))
abbrev ud : Nat := 7
def iK : Tr Ty := (tN (tJ (tN (tJ (tN .leaf (tN tI .leaf)) (tJ (tN tI .leaf) .leaf)) (tJ (tJ (tJ tI .leaf) .leaf) (tN .leaf tI))) (tJ (tN (tJ (tN tI .leaf) (tN tB .leaf)) (tN (tN tB .leaf) .leaf)) (tJ tI (tN .leaf (tN tI .leaf))))) (tN (tN (tN (tN .leaf (tJ tI .leaf)) (tN (tN tI .leaf) .leaf)) (tJ (tJ (tJ tI .leaf) .leaf) (tN (tJ tI .leaf) .leaf))) (tJ (tN (tN .leaf (tJ tI .leaf)) (tJ (tJ tI .leaf) tI)) (tN (tC (tN tI .leaf) .leaf) (tJ tI tI)))))
def a_pool_New : Kp := [(p0, .any), (p1, (.int .i64))]
def z_pool_New : List (Rv × Ty) := [(.t p4, .any), (.t p5, (.int .i64))]
def YE : Kp := [(p9, .any)]
def OV : Kp := [(p2, .any), (p9, .any), (p57, .any), (p58, (.int .i64)), (p59, (.int .i64))]
def XD : List Ins := [I0 p94 (.mov (.t p9)),
  I0 p4 (.mov (.t p94)),
  I0 p5 (.mov (.c (.int .i64 0)))]
def YT : List Ins := [I0 p93 (.bin .add (.t p59) (.c (.int .i64 1))),
  I0 p59 (.mov (.t p93))]
def XS : List Ins := [I0 p83 (.mov (.t p9)),
  I0 p84 (.mov (.t p9)),
  I0 p85 (.nilchk (.t p84)),
  I0 p86 (.fa 11 (.t p85)),
  I0 p87 (.load 1 false (.t p86)),
  I0 p88 (.mov (.t p14)),
  I0 p89 (.buildSlice 1 [.nilptr] [(0, 1, (.t p88))]),
  I0 p90 (.append 1 (.t p87) (.t p89)),
  I0 p91 (.nilchk (.t p83)),
  I0 p92 (.fa 11 (.t p91)),
  .op .always none (.store 1 (.t p92) (.t p90))]
def YZ : List Ins := [I0 p82 (.mov (.t p13)),
  I0 p4 (.mov (.c .nilptr)),
  I0 p5 (.mov (.t p82))]
def YA : List Ins := [I0 p80 (.mov (.t p13)),
  I0 p81 (.bin .neq (.t p80) (.c (.int .i64 0)))]
def XP : List Ins := [I0 p76 (.mov (.t p12)),
  .call .always (some p77) false (.c (.func 22 [] [])) [(.t p76)],
  I0 p75 (.mov (.t p77)),
  I0 p78 (.ext 0 (.t p75)),
  I0 p79 (.ext 1 (.t p75)),
  I0 p14 (.mov (.t p78)),
  I0 p13 (.mov (.t p79))]
def Y5 : List Ins := [I0 p74 (.mov (.t p13)),
  I0 p4 (.mov (.c .nilptr)),
  I0 p5 (.mov (.t p74))]
def Yu : List Ins := [I0 p72 (.mov (.t p13)),
  I0 p73 (.bin .neq (.t p72) (.c (.int .i64 0)))]
def Yw : List Ins := [I0 p64 (.fa 0 (.t p2)),
  I0 p65 (.load 1 false (.t p64)),
  I0 p66 (.fa 1 (.t p2)),
  I0 p67 (.load 1 false (.t p66)),
  I0 p68 (.mov (.t p11)),
  .call .always (some p69) false (.c (.func 21 [] [])) [(.t p65), (.t p67), (.t p68)],
  I0 p63 (.mov (.t p69)),
  I0 p70 (.ext 0 (.t p63)),
  I0 p71 (.ext 1 (.t p63)),
  I0 p12 (.mov (.t p70)),
  I0 p13 (.mov (.t p71))]
def YO : List Ins := [I0 p61 (.iaS 1 (.t p57) (.t p59)),
  I0 p62 (.load 1 false (.t p61)),
  I0 p11 (.mov (.t p62))]
def We : List Ins := [I0 p60 (.bin .lss (.t p59) (.t p58))]
def Wg : List Ins := [I0 p54 (.mov (.t p9)),
  I0 p55 (.nilchk (.t p54)),
  I0 p56 (.fa 1 (.t p55)),
  I0 p57 (.load 1 false (.t p56)),
  I0 p58 (.len .sl (.t p57)),
  I0 p59 (.mov (.c (.int .i64 0)))]
def VS : List Ins := [I0 p40 (.mov (.t p9)),
  I0 p41 (.fa 2 (.t p8)),
  I0 p42 (.load 1 false (.t p41)),
  I0 p43 (.fa 3 (.t p8)),
  I0 p44 (.load 1 false (.t p43)),
  I0 p45 (.fa 4 (.t p8)),
  I0 p46 (.load 1 false (.t p45)),
  I0 p47 (.fa 5 (.t p8)),
  I0 p48 (.load 1 false (.t p47)),
  I0 p49 (.fa 6 (.t p8)),
  I0 p50 (.load 1 false (.t p49)),
  I0 p51 (.build [(.int .i64 0), (.int .i64 0), (.int .i64 0), (.int .i64 0), (.int .i64 0), (.int .i64 0), (.int .i64 0)] [(2, 1, (.t p42)), (3, 1, (.t p44)), (4, 1, (.t p46)), (5, 1, (.t p48)), (6, 1, (.t p50))]),
  I0 p52 (.nilchk (.t p40)),
  I0 p53 (.fa 3 (.t p52)),
  .op .always none (.store 7 (.t p53) (.t p51))]
def VH : List Ins := [I0 p29 (.fa 1 (.t p2)),
  I0 p30 (.load 1 false (.t p29)),
  I0 p31 (.fa 0 (.t p8)),
  I0 p32 (.load 1 false (.t p31)),
  .call .always (some p33) true (.c (.func 20 [] [])) [(.t p32)],
  I0 p34 (.fa 1 (.t p8)),
  I0 p35 (.load 1 false (.t p34)),
  I0 p36 (.mov (.t p6)),
  I0 p37 (.mkmap),
  I0 p38 (.build [(.int .i64 0), .nilslice, (.int .i64 0), (.int .i64 0), (.int .i64 0), (.int .i64 0), (.int .i64 0), (.int .i64 0), (.int .i64 0), (.int .i64 0), (.int .i64 0), .nilslice, .nilmap, (.int .i64 0), (.int .i64 0), (.int .i64 0), (.int .i64 0), (.int .i64 0), (.int .i64 0), (.int .i64 0)] [(0, 1, (.t p30)), (1, 1, (.t p33)), (2, 1, (.t p35)), (10, 1, (.t p36)), (12, 1, (.t p37))]),
  I0 p39 (.box (.t p38)),
  I0 p9 (.mov (.t p39))]
def VN : List Ins := [I0 p24 (.fa 16 (.t p2)),
  I0 p25 (.load 1 false (.t p24)),
  I0 p26 (.mov (.t p1)),
  I0 p27 (.iaS 8 (.t p25) (.t p26)),
  I0 p28 (.load 8 true (.t p27)),
  I0 p8 (.alloc [.nilslice, (.int .i64 0), (.int .i64 0), (.int .i64 0), (.int .i64 0), (.int .i64 0), (.int .i64 0), (.int .i64 0)]),
  .op .always none (.store 8 (.t p8) (.t p28))]
def V7 : List Ins := [I0 p23 (.mov (.t p7)),
  I0 p4 (.mov (.c .nilptr)),
  I0 p5 (.mov (.t p23))]
def VW : List Ins := [I0 p21 (.mov (.t p7)),
  I0 p22 (.bin .neq (.t p21) (.c (.int .i64 0)))]
def Vf : List Ins := [I0 p16 (.load 17 true (.t p2)),
  I0 p17 (.mov (.t p1)),
  .call .always (some p18) false (.c (.func 19 [] [])) [(.t p16), (.t p17)],
  I0 p15 (.mov (.t p18)),
  I0 p19 (.ext 0 (.t p15)),
  I0 p20 (.ext 1 (.t p15)),
  I0 p6 (.mov (.t p19)),
  I0 p7 (.mov (.t p20))]
def Vh : List Ins := [I0 p2 (.box (.t p0)),
  I0 p4 (.mov (.c .nilptr)),
  I0 p5 (.mov (.c (.int .i64 0)))]
def Pq : SC := .seq none (.reg [(none, Vh)]) (.seq none (.reg [(none, Vf)]) (.seq none (.seq none (.reg [(none, VW)]) (.cond (.t p22) (.seq none (.reg [(none, V7)]) (.ret)) (.skip))) (.seq none (.reg [(none, VN)]) (.seq none (.reg [(none, VH)]) (.seq none (.reg [(none, VS)]) (.seq none (.seq none (.reg [(none, Wg)]) (.block 0 (some YE) (.loop OV (.seq none (.reg [(none, We)]) (.seq none (.cond (.t p60) (.skip) (.exit 0)) (.seq none (.block 1 none (.seq none (.reg [(none, YO)]) (.seq none (.reg [(none, Yw)]) (.seq none (.seq none (.reg [(none, Yu)]) (.cond (.t p73) (.seq none (.reg [(none, Y5)]) (.ret)) (.skip))) (.seq none (.reg [(none, XP)]) (.seq none (.seq none (.reg [(none, YA)]) (.cond (.t p81) (.seq none (.reg [(none, YZ)]) (.ret)) (.skip))) (.reg [(none, XS)]))))))) (.reg [(none, YT)]))))))) (.seq none (.reg [(none, XD)]) (.ret))))))))
def afk : AFn := .code (a_pool_New.map (·.1)) (gY Pq) (z_pool_New.map (·.1))
abbrev eX : Nat := 24
def nV : Tr Ty := (tN (tN (tN .leaf tB) tB) (tC tB (tN tB .leaf)))
def a_pool_Pool__there : Kp := [(p0, .any)]
def z_pool_Pool__there : List (Rv × Ty) := [(.t p2, .bool)]
def E4 : Kp := [(p11, .bool)]
def E7 : List Ins := [I0 p3 (.mov (.t p0)),
  I0 p4 (.eq (.nil .ptr) true (.t p3) (.c .nilptr)),
  I0 p5 (.mov (.t p4)),
  .op (.on p5 true) (some p6) (.mov (.t p0)),
  .op (.on p5 true) (some p7) (.nilchk (.t p6)),
  .op (.on p5 true) (some p8) (.fa 12 (.t p7)),
  .op (.on p5 true) (some p9) (.load 1 false (.t p8)),
  .op (.on p5 true) (some p10) (.eq (.nil .mp) true (.t p9) (.c .nilmap)),
  I0 p11 (.pick (.t p5) (.t p10) (.c (.bool false)))]
def Fc : List Ins := [I0 p2 (.mov (.t p11))]
def EU : List Ins := [I0 p2 (.mov (.c (.bool false)))]
def un : SC := .seq none (.reg [(none, EU)]) (.seq none (.reg [(some E4, E7), (none, Fc)]) (.ret))
def Jt : AFn := .code (a_pool_Pool__there.map (·.1)) (gY un) (z_pool_Pool__there.map (·.1))
abbrev eG : Nat := 45
def nv : Tr Ty := (tN (tN (tN .leaf tB) (tC tB .leaf)) (tC tB (tN tB .leaf)))
def a_buddy_Buddy__none : Kp := [(p0, .any)]
def z_buddy_Buddy__none : List (Rv × Ty) := [(.t p2, .bool)]
def B3 : Kp := [(p11, .bool)]
def Cg : List Ins := [I0 p3 (.mov (.t p0)),
  I0 p4 (.eq (.nil .ptr) false (.t p3) (.c .nilptr)),
  I0 p5 (.mov (.t p4)),
  .op (.on p5 false) (some p6) (.mov (.t p0)),
  .op (.on p5 false) (some p7) (.nilchk (.t p6)),
  .op (.on p5 false) (some p8) (.fa 0 (.t p7)),
  .op (.on p5 false) (some p9) (.load 1 false (.t p8)),
  .op (.on p5 false) (some p10) (.not (.t p9)),
  I0 p11 (.pick (.t p5) (.c (.bool true)) (.t p10))]
def Cy : List Ins := [I0 p2 (.mov (.t p11))]
def B5 : List Ins := [I0 p2 (.mov (.c (.bool false)))]
def sR : SC := .seq none (.reg [(none, B5)]) (.seq none (.reg [(some B3, Cg), (none, Cy)]) (.ret))
def Hm : AFn := .code (a_buddy_Buddy__none.map (·.1)) (gY sR) (z_buddy_Buddy__none.map (·.1))
abbrev fk : Nat := 50
def dW : Tr Ty := (tN (tJ (tN (tJ tI .leaf) (tN tI .leaf)) (tN tI (tN tI tI))) (tJ (tN (tN tB tI) tI) (tN tI (tJ .leaf tI))))
def a_slices_Delete___int_int_ : Kp := [(p0, .any), (p1, (.int .i64)), (p2, (.int .i64))]
def z_slices_Delete___int_int_ : List (Rv × Ty) := [(.t p6, .any)]
def vi : List Ins := [I0 p32 (.mov (.t p0)),
  I0 p6 (.mov (.t p32))]
def vq : List Ins := [I0 p27 (.mov (.t p0)),
  I0 p28 (.mov (.t p0)),
  I0 p29 (.len .sl (.t p28)),
  I0 p30 (.mov (.t p7)),
  I0 p31 (.sl (.sl 1) (.t p27) (some (.t p29)) (some (.t p30)) none),
  .op .always none (.clear [(.int .i64 0)] (.t p31))]
def uB : List Ins := [I0 p20 (.mov (.t p0)),
  I0 p21 (.mov (.t p1)),
  I0 p22 (.sl (.sl 1) (.t p20) none (some (.t p21)) none),
  I0 p23 (.mov (.t p0)),
  I0 p24 (.mov (.t p2)),
  I0 p25 (.sl (.sl 1) (.t p23) (some (.t p24)) none none),
  I0 p26 (.append 1 (.t p22) (.t p25)),
  I0 p0 (.mov (.t p26))]
def uL : List Ins := [I0 p18 (.mov (.t p0)),
  I0 p19 (.len .sl (.t p18)),
  I0 p7 (.mov (.t p19))]
def uS : List Ins := [I0 p17 (.mov (.t p0)),
  I0 p6 (.mov (.t p17))]
def uC : List Ins := [I0 p14 (.mov (.t p1)),
  I0 p15 (.mov (.t p2)),
  I0 p16 (.bin .eql (.t p14) (.t p15))]
def uy : List Ins := [I0 p8 (.mov (.t p0)),
  I0 p9 (.mov (.t p1)),
  I0 p10 (.mov (.t p2)),
  I0 p11 (.mov (.t p0)),
  I0 p12 (.len .sl (.t p11)),
  I0 p13 (.sl (.sl 1) (.t p8) (some (.t p9)) (some (.t p10)) (some (.t p12)))]
def vf : List Ins := [I0 p6 (.mov (.c .nilslice))]
def mQ : SC := .seq none (.reg [(none, vf)]) (.seq none (.reg [(none, uy)]) (.seq none (.seq none (.reg [(none, uC)]) (.cond (.t p16) (.seq none (.reg [(none, uS)]) (.ret)) (.skip))) (.seq none (.reg [(none, uL)]) (.seq none (.reg [(none, uB)]) (.seq none (.reg [(none, vq)]) (.seq none (.reg [(none, vi)]) (.ret)))))))
def wZ : AFn := .code (a_slices_Delete___int_int_.map (·.1)) (gY mQ) (z_slices_Delete___int_int_.map (·.1))
abbrev li : Nat := 83
def tu : Tr Ty := (tJ (tN tI tB) (tC tI .leaf))
def a_cmp_isNaN_int_ : Kp := [(p0, (.int .i64))]
def z_cmp_isNaN_int_ : List (Rv × Ty) := [(.t p2, .bool)]
def IE : List Ins := [I0 p3 (.mov (.t p0)),
  I0 p4 (.mov (.t p0)),
  I0 p5 (.bin .neq (.t p3) (.t p4)),
  I0 p2 (.mov (.t p5))]
def Jj : List Ins := [I0 p2 (.mov (.c (.bool false)))]
def xG : SC := .seq none (.reg [(none, Jj)]) (.seq none (.reg [(none, IE)]) (.ret))
def NN : AFn := .code (a_cmp_isNaN_int_.map (·.1)) (gY xG) (z_cmp_isNaN_int_.map (·.1))
abbrev lI : Nat := 65
def pe : Tr Ty := (tJ (tJ (tN (tC tB .leaf) tB) (tJ tB tI)) (tN (tC (tJ tB .leaf) tB) (tC tB tI)))
def a_cmp_Less_int_ : Kp := [(p0, (.int .i64)), (p1, (.int .i64))]
def z_cmp_Less_int_ : List (Rv × Ty) := [(.t p4, .bool)]
def K4 : Kp := [(p0, (.int .i64)), (p1, (.int .i64)), (p11, .bool)]
def Lo : Kp := [(p16, .bool)]
def KY : List Ins := [I0 p5 (.mov (.t p0)),
  .call .always (some p6) false (.c (.func 83 [] [])) [(.t p5)],
  I0 p7 (.mov (.t p6)),
  .op (.on p7 true) (some p8) (.mov (.t p1)),
  .call (.on p7 true) (some p9) false (.c (.func 83 [] [])) [(.t p8)],
  .op (.on p7 true) (some p10) (.not (.t p9)),
  I0 p11 (.pick (.t p7) (.t p10) (.c (.bool false)))]
def KG : List Ins := [I0 p12 (.mov (.t p11)),
  .op (.on p12 false) (some p13) (.mov (.t p0)),
  .op (.on p12 false) (some p14) (.mov (.t p1)),
  .op (.on p12 false) (some p15) (.bin .lss (.t p13) (.t p14)),
  I0 p16 (.pick (.t p12) (.c (.bool true)) (.t p15))]
def Ls : List Ins := [I0 p4 (.mov (.t p16))]
def Lj : List Ins := [I0 p4 (.mov (.c (.bool false)))]
def zE : SC := .seq none (.reg [(none, Lj)]) (.seq none (.reg [(some K4, KY), (some Lo, KG), (none, Ls)]) (.ret))
def Px : AFn := .code (a_cmp_Less_int_.map (·.1)) (gY zE) (z_cmp_Less_int_.map (·.1))
abbrev jo : Nat := 66
def pJ : Tr Ty := (tJ (tN tI tB) (tC tI .leaf))
def a_slices_isNaN_int_ : Kp := [(p0, (.int .i64))]
def z_slices_isNaN_int_ : List (Rv × Ty) := [(.t p2, .bool)]
def Cq : List Ins := [I0 p3 (.mov (.t p0)),
  I0 p4 (.mov (.t p0)),
  I0 p5 (.bin .neq (.t p3) (.t p4)),
  I0 p2 (.mov (.t p5))]
def Cs : List Ins := [I0 p2 (.mov (.c (.bool false)))]
def sV : SC := .seq none (.reg [(none, Cs)]) (.seq none (.reg [(none, Cq)]) (.ret))
def Hr : AFn := .code (a_slices_isNaN_int_.map (·.1)) (gY sV) (z_slices_isNaN_int_.map (·.1))
abbrev dE : Nat := 49
def cN : Tr Ty := (tN (tJ (tN (tJ (tC tI tB) (tJ tI .leaf)) (tJ (.node tB (some (.int .u64)) tB) tB)) (tC (tJ (tJ tI tI) (tJ tB .leaf)) (tJ (tJ tI tB) tI))) (tN (tJ (tJ (tJ tI tB) (tN tI .leaf)) (tJ (.node .leaf (some (.int .u64)) tB) (tJ tI .leaf))) (tJ (tN (tJ tB tB) (tJ tB .leaf)) (tJ .leaf (tJ tI .leaf)))))
def a_slices_BinarySearch___int_int_ : Kp := [(p0, .any), (p1, (.int .i64))]
def z_slices_BinarySearch___int_int_ : List (Rv × Ty) := [(.t p4, (.int .i64)), (.t p5, .bool)]
def qZ : Kp := [(p31, (.int .i64)), (p53, .bool)]
def q0 : Kp := [(p0, .any), (p1, (.int .i64)), (p6, (.int .i64)), (p7, (.int .i64))]
def jQ : Kp := [(p0, .any), (p1, (.int .i64)), (p6, (.int .i64)), (p7, (.int .i64)), (p8, (.int .i64))]
def qG : List Ins := [I0 p31 (.mov (.t p7)),
  I0 p32 (.mov (.t p7)),
  I0 p33 (.mov (.t p6)),
  I0 p34 (.bin .lss (.t p32) (.t p33)),
  I0 p35 (.mov (.t p34)),
  .op (.on p35 true) (some p36) (.mov (.t p0)),
  .op (.on p35 true) (some p37) (.mov (.t p7)),
  .op (.on p35 true) (some p38) (.iaS 1 (.t p36) (.t p37)),
  .op (.on p35 true) (some p39) (.load 1 false (.t p38)),
  .op (.on p35 true) (some p40) (.mov (.t p1)),
  .op (.on p35 true) (some p41) (.bin .eql (.t p39) (.t p40)),
  .op (.on p35 true) (some p42) (.mov (.t p41)),
  .op (.on p42 false) (some p43) (.mov (.t p0)),
  .op (.on p42 false) (some p44) (.mov (.t p7)),
  .op (.on p42 false) (some p45) (.iaS 1 (.t p43) (.t p44)),
  .op (.on p42 false) (some p46) (.load 1 false (.t p45)),
  .call (.on p42 false) (some p47) false (.c (.func 66 [] [])) [(.t p46)],
  .op (.on p42 false) (some p48) (.mov (.t p47)),
  .op (.on p48 true) (some p49) (.mov (.t p1)),
  .call (.on p48 true) (some p50) false (.c (.func 66 [] [])) [(.t p49)],
  .op (.on p42 false) (some p51) (.pick (.t p48) (.t p50) (.c (.bool false))),
  .op (.on p35 true) (some p52) (.pick (.t p42) (.c (.bool true)) (.t p51)),
  I0 p53 (.pick (.t p35) (.t p52) (.c (.bool false)))]
def q6 : List Ins := [I0 p4 (.mov (.t p31)),
  I0 p5 (.mov (.t p53))]
def qE : List Ins := [I0 p28 (.mov (.t p9)),
  I0 p29 (.bin .add (.t p28) (.c (.int .i64 1))),
  I0 p7 (.mov (.t p29))]
def qW : List Ins := [I0 p30 (.mov (.t p9)),
  I0 p8 (.mov (.t p30))]
def qF : List Ins := [I0 p22 (.mov (.t p0)),
  I0 p23 (.mov (.t p9)),
  I0 p24 (.iaS 1 (.t p22) (.t p23)),
  I0 p25 (.load 1 false (.t p24)),
  I0 p26 (.mov (.t p1)),
  .call .always (some p27) false (.c (.func 65 [] [])) [(.t p25), (.t p26)]]
def qI : List Ins := [I0 p16 (.mov (.t p7)),
  I0 p17 (.mov (.t p8)),
  I0 p18 (.bin .add (.t p16) (.t p17)),
  I0 p19 (.conv .u64 (.t p18)),
  I0 p20 (.bin .shr (.t p19) (.c (.int .u64 1))),
  I0 p21 (.conv .i64 (.t p20)),
  I0 p9 (.mov (.t p21))]
def qC : List Ins := [I0 p13 (.mov (.t p7)),
  I0 p14 (.mov (.t p8)),
  I0 p15 (.bin .lss (.t p13) (.t p14))]
def qJ : List Ins := [I0 p12 (.mov (.t p6)),
  I0 p7 (.mov (.c (.int .i64 0))),
  I0 p8 (.mov (.t p12))]
def qX : List Ins := [I0 p10 (.mov (.t p0)),
  I0 p11 (.len .sl (.t p10)),
  I0 p6 (.mov (.t p11))]
def qY : List Ins := [I0 p4 (.mov (.c (.int .i64 0))),
  I0 p5 (.mov (.c (.bool false)))]
def kN : SC := .seq none (.reg [(none, qY)]) (.seq none (.reg [(none, qX)]) (.seq none (.reg [(none, qJ)]) (.seq none (.block 0 (some q0) (.loop jQ (.seq none (.seq none (.reg [(none, qC)]) (.cond (.t p15) (.skip) (.exit 0))) (.block 1 none (.seq none (.reg [(none, qI)]) (.seq none (.reg [(none, qF)]) (.cond (.t p27) (.reg [(none, qE)]) (.reg [(none, qW)])))))))) (.seq none (.reg [(some qZ, qG), (none, q6)]) (.ret)))))
def sj : AFn := .code (a_slices_BinarySearch___int_int_.map (·.1)) (gY kN) (z_slices_BinarySearch___int_int_.map (·.1))
abbrev jM : Nat := 51
def qS : Tr Ty := (tN (tJ (tN (tC tI .leaf) (tN .leaf tI)) (tN (tN tI .leaf) .leaf)) (tJ (tN .leaf (tN tI tI)) (tJ (tJ tB .leaf) (tN tI .leaf))))
def a_buddy_Buddy__put : Kp := [(p0, .any), (p1, (.int .i64)), (p2, (.int .i64))]
def z_buddy_Buddy__put : List (Rv × Ty) := []
def Fe : List Ins := [I0 p19 (.mov (.t p0)),
  I0 p20 (.mov (.t p2)),
  I0 p21 (.mov (.t p0)),
  I0 p22 (.mov (.t p2)),
  I0 p23 (.nilchk (.t p21)),
  I0 p24 (.fa 2 (.t p23)),
  I0 p25 (.iaA 1 7 (.t p24) (.t p22)),
  I0 p26 (.load 1 false (.t p25)),
  I0 p27 (.mov (.t p6)),
  I0 p28 (.mov (.t p1)),
  I0 p29 (.buildSlice 1 [(.int .i64 0)] [(0, 1, (.t p28))]),
  .call .always (some p30) false (.c (.func 67 [] [])) [(.t p26), (.t p27), (.t p29)],
  I0 p31 (.nilchk (.t p19)),
  I0 p32 (.fa 2 (.t p31)),
  I0 p33 (.iaA 1 7 (.t p32) (.t p20)),
  .op .always none (.store 1 (.t p33) (.t p30))]
def EZ : List Ins := [I0 p9 (.mov (.t p0)),
  I0 p10 (.mov (.t p2)),
  I0 p11 (.nilchk (.t p9)),
  I0 p12 (.fa 2 (.t p11)),
  I0 p13 (.iaA 1 7 (.t p12) (.t p10)),
  I0 p14 (.load 1 false (.t p13)),
  I0 p15 (.mov (.t p1)),
  .call .always (some p16) false (.c (.func 49 [] [])) [(.t p14), (.t p15)],
  I0 p8 (.mov (.t p16)),
  I0 p17 (.ext 0 (.t p8)),
  I0 p18 (.ext 1 (.t p8)),
  I0 p6 (.mov (.t p17)),
  I0 p7 (.mov (.t p18))]
def uc : SC := .seq none (.reg [(none, EZ)]) (.reg [(none, Fe)])
def JQ : AFn := .code (a_buddy_Buddy__put.map (·.1)) (gY uc) (z_buddy_Buddy__put.map (·.1))
abbrev ji : Nat := 43
def cS : Tr Ty := (tN (tJ (tN (tJ (tJ (tJ tI .leaf) .leaf) (tJ (tN tI .leaf) tI)) (tC tI (tN .leaf tI))) (tJ (tN (tC (tJ tI .leaf) .leaf) (tN (tN tI .leaf) tB)) (tC tB (tC .leaf tI)))) (tN (tJ (tC (tC (tJ tI .leaf) .leaf) (tN (tN tI .leaf) tI)) (tJ (tC tI .leaf) (tJ tI .leaf))) (tJ (tC (tJ tB .leaf) (tN tI tI)) (tC .leaf (tC tI tI)))))
def a_buddy_Buddy__Take : Kp := [(p0, .any), (p1, (.int .i64))]
def z_buddy_Buddy__Take : List (Rv × Ty) := [(.t p4, (.int .i64)), (.t p5, (.int .i64))]
def CH : Kp := [(p0, .any), (p1, (.int .i64)), (p7, (.int .i64))]
def vW : Kp := [(p0, .any), (p1, (.int .i64)), (p6, (.int .i64)), (p7, (.int .i64))]
def Ch : Kp := [(p0, .any), (p1, (.int .i64)), (p6, (.int .i64))]
def vX : Kp := [(p0, .any), (p1, (.int .i64)), (p6, (.int .i64))]
def Ck : Kp := [(p0, .any), (p1, (.int .i64)), (p6, (.int .i64)), (p30, .bool)]
def CL : Kp := [(p0, .any), (p1, (.int .i64)), (p17, .bool)]
def CG : List Ins := [I0 p73 (.mov (.t p7)),
  I0 p4 (.mov (.t p73)),
  I0 p5 (.mov (.c (.int .i64 0)))]
def Cc : List Ins := [I0 p67 (.mov (.t p0)),
  I0 p68 (.nilchk (.t p67)),
  I0 p69 (.fa 9 (.t p68)),
  I0 p70 (.load 1 false (.t p69)),
  I0 p71 (.mov (.t p7)),
  I0 p72 (.mov (.t p1)),
  .op .always none (.mapset (.cell .int) (.t p70) (.t p71) (.t p72))]
def Cf : List Ins := [I0 p60 (.mov (.t p0)),
  I0 p61 (.mov (.t p7)),
  I0 p62 (.mov (.t p6)),
  I0 p63 (.bin .shl (.c (.int .i64 1)) (.t p62)),
  I0 p64 (.bin .add (.t p61) (.t p63)),
  I0 p65 (.mov (.t p6)),
  .call .always (some p66) false (.c (.func 51 [] [])) [(.t p60), (.t p64), (.t p65)]]
def Cp : List Ins := [I0 p58 (.mov (.t p6)),
  I0 p59 (.bin .sub (.t p58) (.c (.int .i64 1))),
  I0 p6 (.mov (.t p59))]
def B8 : List Ins := [I0 p55 (.mov (.t p6)),
  I0 p56 (.mov (.t p1)),
  I0 p57 (.bin .gtr (.t p55) (.t p56))]
def CO : List Ins := [I0 p43 (.mov (.t p0)),
  I0 p44 (.mov (.t p6)),
  I0 p45 (.mov (.t p0)),
  I0 p46 (.mov (.t p6)),
  I0 p47 (.nilchk (.t p45)),
  I0 p48 (.fa 2 (.t p47)),
  I0 p49 (.iaA 1 7 (.t p48) (.t p46)),
  I0 p50 (.load 1 false (.t p49)),
  .call .always (some p51) false (.c (.func 50 [] [])) [(.t p50), (.c (.int .i64 0)), (.c (.int .i64 1))],
  I0 p52 (.nilchk (.t p43)),
  I0 p53 (.fa 2 (.t p52)),
  I0 p54 (.iaA 1 7 (.t p53) (.t p44)),
  .op .always none (.store 1 (.t p54) (.t p51))]
def B7 : List Ins := [I0 p35 (.mov (.t p0)),
  I0 p36 (.mov (.t p6)),
  I0 p37 (.nilchk (.t p35)),
  I0 p38 (.fa 2 (.t p37)),
  I0 p39 (.iaA 1 7 (.t p38) (.t p36)),
  I0 p40 (.load 1 false (.t p39)),
  I0 p41 (.iaS 1 (.t p40) (.c (.int .i64 0))),
  I0 p42 (.load 1 false (.t p41)),
  I0 p7 (.mov (.t p42))]
def Cx : List Ins := [I0 p4 (.mov (.c (.int .i64 0))),
  I0 p5 (.mov (.c (.int .i64 90)))]
def CA : List Ins := [I0 p33 (.mov (.t p6)),
  I0 p34 (.bin .gtr (.t p33) (.c (.int .i64 6)))]
def Cm : List Ins := [I0 p31 (.mov (.t p6)),
  I0 p32 (.bin .add (.t p31) (.c (.int .i64 1))),
  I0 p6 (.mov (.t p32))]
def Ax : List Ins := [I0 p19 (.mov (.t p6)),
  I0 p20 (.bin .leq (.t p19) (.c (.int .i64 6))),
  I0 p21 (.mov (.t p20)),
  .op (.on p21 true) (some p22) (.mov (.t p0)),
  .op (.on p21 true) (some p23) (.mov (.t p6)),
  .op (.on p21 true) (some p24) (.nilchk (.t p22)),
  .op (.on p21 true) (some p25) (.fa 2 (.t p24)),
  .op (.on p21 true) (some p26) (.iaA 1 7 (.t p25) (.t p23)),
  .op (.on p21 true) (some p27) (.load 1 false (.t p26)),
  .op (.on p21 true) (some p28) (.len .sl (.t p27)),
  .op (.on p21 true) (some p29) (.bin .eql (.t p28) (.c (.int .i64 0))),
  I0 p30 (.pick (.t p21) (.t p29) (.c (.bool false)))]
def BH : List Ins := [I0 p18 (.mov (.t p1)),
  I0 p6 (.mov (.t p18))]
def A0 : List Ins := [I0 p4 (.mov (.c (.int .i64 0))),
  I0 p5 (.mov (.c (.int .i64 1)))]
def Bm : List Ins := [I0 p4 (.mov (.c (.int .i64 0))),
  I0 p5 (.mov (.c (.int .i64 2)))]
def BB : List Ins := [I0 p12 (.mov (.t p1)),
  I0 p13 (.bin .lss (.t p12) (.c (.int .i64 0))),
  I0 p14 (.mov (.t p13)),
  .op (.on p14 false) (some p15) (.mov (.t p1)),
  .op (.on p14 false) (some p16) (.bin .gtr (.t p15) (.c (.int .i64 6))),
  I0 p17 (.pick (.t p14) (.c (.bool true)) (.t p16))]
def AA : List Ins := [I0 p11 (.mov (.t p17))]
def AJ : List Ins := [I0 p9 (.mov (.t p0)),
  .call .always (some p10) false (.c (.func 45 [] [])) [(.t p9)],
  I0 p8 (.mov (.t p10))]
def A6 : List Ins := [I0 p4 (.mov (.c (.int .i64 0))),
  I0 p5 (.mov (.c (.int .i64 0)))]
def sU : SC := .seq none (.reg [(none, A6)]) (.seq none (.block 0 none (.seq none (.reg [(none, AJ)]) (.cond (.t p8) (.seq none (.reg [(none, A0)]) (.ret)) (.seq none (.reg [(some CL, BB), (none, AA)]) (.cond (.t p11) (.seq none (.reg [(none, Bm)]) (.ret)) (.skip)))))) (.seq none (.reg [(none, BH)]) (.seq none (.block 1 (some Ch) (.loop vX (.seq none (.seq none (.reg [(some Ck, Ax)]) (.cond (.t p30) (.skip) (.exit 1))) (.block 2 none (.reg [(none, Cm)]))))) (.seq none (.seq none (.reg [(none, CA)]) (.cond (.t p34) (.seq none (.reg [(none, Cx)]) (.ret)) (.skip))) (.seq none (.reg [(none, B7)]) (.seq none (.reg [(none, CO)]) (.seq none (.block 3 (some CH) (.loop vW (.seq none (.seq none (.reg [(none, B8)]) (.cond (.t p57) (.skip) (.exit 3))) (.block 4 none (.seq none (.reg [(none, Cp)]) (.reg [(none, Cf)])))))) (.seq none (.reg [(none, Cc)]) (.seq none (.reg [(none, CG)]) (.ret))))))))))
def HK : AFn := .code (a_buddy_Buddy__Take.map (·.1)) (gY sU) (z_buddy_Buddy__Take.map (·.1))
abbrev na : Nat := 44
def oM : Tr Ty := (tJ (tJ (tN (tJ (tC tI .leaf) tI) (tC tI tI)) (tN (tC tB tB) (tJ tI tI))) (tJ (tN (tJ tB tB) (tJ tI tI)) (tJ (tC tB tB) (tJ tI tI))))
def a_colour_Frame : Kp := [(p0, (.int .i64)), (p1, (.int .i64)), (p2, (.int .i64))]
def z_colour_Frame : List (Rv × Ty) := [(.t p6, (.int .i64)), (.t p7, (.int .i64))]
def NK : Kp := [(p0, (.int .i64)), (p1, (.int .i64)), (p2, (.int .i64)), (p17, .bool)]
def Oa : Kp := [(p0, (.int .i64)), (p1, (.int .i64)), (p2, (.int .i64)), (p26, .bool)]
def Ms : List Ins := [I0 p27 (.mov (.t p1)),
  I0 p28 (.mov (.t p2)),
  I0 p29 (.bin .mul (.t p27) (.t p28)),
  I0 p30 (.mov (.t p0)),
  I0 p31 (.bin .add (.t p29) (.t p30)),
  I0 p6 (.mov (.t p31)),
  I0 p7 (.mov (.c (.int .i64 0)))]
def MV : List Ins := [I0 p6 (.mov (.c (.int .i64 0))),
  I0 p7 (.mov (.c (.int .i64 2)))]
def MU : List Ins := [I0 p8 (.mov (.t p2)),
  .call .always (some p9) false (.c (.func 36 [] [])) [(.t p8)],
  I0 p10 (.not (.t p9)),
  I0 p11 (.mov (.t p10)),
  .op (.on p11 false) (some p12) (.mov (.t p0)),
  .op (.on p11 false) (some p13) (.mov (.t p2)),
  .op (.on p11 false) (some p14) (.bin .sub (.t p13) (.c (.int .i64 1))),
  .call (.on p11 false) (some p15) false (.c (.func 35 [] [])) [(.t p12), (.c (.int .i64 0)), (.t p14)],
  .op (.on p11 false) (some p16) (.not (.t p15)),
  I0 p17 (.pick (.t p11) (.c (.bool true)) (.t p16))]
def N4 : List Ins := [I0 p18 (.mov (.t p17)),
  .op (.on p18 false) (some p19) (.mov (.t p1)),
  .op (.on p18 false) (some p20) (.mov (.t p0)),
  .op (.on p18 false) (some p21) (.bin .sub (.c (.int .i64 4095)) (.t p20)),
  .op (.on p18 false) (some p22) (.mov (.t p2)),
  .op (.on p18 false) (some p23) (.bin .quo (.t p21) (.t p22)),
  .call (.on p18 false) (some p24) false (.c (.func 35 [] [])) [(.t p19), (.c (.int .i64 0)), (.t p23)],
  .op (.on p18 false) (some p25) (.not (.t p24)),
  I0 p26 (.pick (.t p18) (.c (.bool true)) (.t p25))]
def Oq : List Ins := [I0 p6 (.mov (.c (.int .i64 0))),
  I0 p7 (.mov (.c (.int .i64 0)))]
def Bs : SC := .seq none (.reg [(none, Oq)]) (.seq none (.seq none (.reg [(some NK, MU), (some Oa, N4)]) (.cond (.t p26) (.seq none (.reg [(none, MV)]) (.ret)) (.skip))) (.seq none (.reg [(none, Ms)]) (.ret)))
def Te : AFn := .code (a_colour_Frame.map (·.1)) (gY Bs) (z_colour_Frame.map (·.1))
abbrev fh : Nat := 25
def du : Tr Ty := (tN (tJ (.node (tN (tJ (tJ (.node .leaf (some (.int .u8)) .leaf) .leaf) .leaf) (tN .leaf tI)) (some (.int .u8)) (tJ (tN (tN tI .leaf) tI) (tJ tI .leaf))) (tN (tJ (tN tB tI) (tN (tN tI .leaf) .leaf)) (tJ (tJ .leaf tI) (tC tI (.node .leaf (some (.int .u8)) .leaf))))) (tJ (tN (tN (tN tI .leaf) (tJ tI .leaf)) (tN (tN (tN tI .leaf) tI) (tJ (tJ tI .leaf) tI))) (tN (tJ (tN tI .leaf) (tJ tI .leaf)) (tJ (tN .leaf tB) tI))))
def a_pool_Pool__taken : Kp := [(p0, .any), (p1, (.int .i64)), (p2, (.int .i64)), (p3, (.int .u8))]
def z_pool_Pool__taken : List (Rv × Ty) := [(.t p8, .any), (.t p9, (.int .i64))]
def EH : Kp := [(p12, .any)]
def xe : Kp := [(p0, .any), (p1, (.int .i64)), (p3, (.int .u8)), (p10, (.int .i64)), (p12, .any), (p31, (.int .i64)), (p32, (.int .i64))]
def EX : List Ins := [I0 p77 (.mov (.t p12)),
  I0 p8 (.mov (.t p77)),
  I0 p9 (.mov (.c (.int .i64 0)))]
def EP : List Ins := [I0 p76 (.bin .add (.t p32) (.c (.int .i64 1))),
  I0 p32 (.mov (.t p76))]
def E6 : List Ins := [I0 p72 (.mov (.t p12)),
  I0 p73 (.mov (.t p14)),
  I0 p74 (.buildSlice 1 [(.int .i64 0)] [(0, 1, (.t p73))]),
  I0 p75 (.append 1 (.t p72) (.t p74)),
  I0 p12 (.mov (.t p75))]
def E3 : List Ins := [I0 p62 (.mov (.t p0)),
  I0 p63 (.mov (.t p3)),
  I0 p64 (.nilchk (.t p62)),
  I0 p65 (.fa 13 (.t p64)),
  I0 p66 (.iaA 1 7 (.t p65) (.t p63)),
  I0 p67 (.load 1 false (.t p66)),
  I0 p68 (.bin .add (.t p67) (.c (.int .i64 1))),
  I0 p69 (.nilchk (.t p62)),
  I0 p70 (.fa 13 (.t p69)),
  I0 p71 (.iaA 1 7 (.t p70) (.t p63)),
  .op .always none (.store 1 (.t p71) (.t p68))]
def EY : List Ins := [I0 p56 (.mov (.t p0)),
  I0 p57 (.nilchk (.t p56)),
  I0 p58 (.fa 12 (.t p57)),
  I0 p59 (.load 1 false (.t p58)),
  I0 p60 (.mov (.t p14)),
  I0 p61 (.mov (.t p3)),
  .op .always none (.mapset (.cell .int) (.t p59) (.t p60) (.t p61))]
def Fn : List Ins := [I0 p55 (.mov (.t p15)),
  I0 p8 (.mov (.c .nilslice)),
  I0 p9 (.mov (.t p55))]
def Fk : List Ins := [I0 p53 (.mov (.t p15)),
  I0 p54 (.bin .neq (.t p53) (.c (.int .i64 0)))]
def EJ : List Ins := [I0 p36 (.mov (.t p0)),
  I0 p37 (.nilchk (.t p36)),
  I0 p38 (.fa 1 (.t p37)),
  I0 p39 (.load 1 false (.t p38)),
  I0 p40 (.mov (.t p1)),
  I0 p41 (.iaS 1 (.t p39) (.t p40)),
  I0 p42 (.load 1 false (.t p41)),
  I0 p43 (.mov (.t p10)),
  I0 p44 (.mov (.t p13)),
  I0 p45 (.bin .add (.t p43) (.t p44)),
  I0 p46 (.mov (.t p0)),
  I0 p47 (.nilchk (.t p46)),
  I0 p48 (.fa 0 (.t p47)),
  I0 p49 (.load 1 false (.t p48)),
  .call .always (some p50) false (.c (.func 44 [] [])) [(.t p42), (.t p45), (.t p49)],
  I0 p35 (.mov (.t p50)),
  I0 p51 (.ext 0 (.t p35)),
  I0 p52 (.ext 1 (.t p35)),
  I0 p14 (.mov (.t p51)),
  I0 p15 (.mov (.t p52))]
def Fu : List Ins := [I0 p34 (.mov (.t p32)),
  I0 p13 (.mov (.t p34))]
def EG : List Ins := [I0 p33 (.bin .lss (.t p32) (.t p31))]
def Cv : List Ins := [I0 p30 (.mov (.t p2)),
  I0 p31 (.bin .shl (.c (.int .i64 1)) (.t p30)),
  I0 p32 (.mov (.c (.int .i64 0)))]
def Cr : List Ins := [I0 p12 (.mov (.c .nilslice))]
def Cj : List Ins := [I0 p8 (.mov (.c .nilslice)),
  I0 p9 (.mov (.c (.int .i64 4)))]
def B6 : List Ins := [I0 p28 (.mov (.t p11)),
  I0 p29 (.bin .neq (.t p28) (.c (.int .i64 0)))]
def Cz : List Ins := [I0 p17 (.mov (.t p0)),
  I0 p18 (.nilchk (.t p17)),
  I0 p19 (.fa 11 (.t p18)),
  I0 p20 (.load 1 false (.t p19)),
  I0 p21 (.mov (.t p1)),
  I0 p22 (.iaS 1 (.t p20) (.t p21)),
  I0 p23 (.load 1 false (.t p22)),
  I0 p24 (.mov (.t p2)),
  .call .always (some p25) false (.c (.func 43 [] [])) [(.t p23), (.t p24)],
  I0 p16 (.mov (.t p25)),
  I0 p26 (.ext 0 (.t p16)),
  I0 p27 (.ext 1 (.t p16)),
  I0 p10 (.mov (.t p26)),
  I0 p11 (.mov (.t p27))]
def Cn : List Ins := [I0 p8 (.mov (.c .nilslice)),
  I0 p9 (.mov (.c (.int .i64 0)))]
def uj : SC := .seq none (.reg [(none, Cn)]) (.seq none (.reg [(none, Cz)]) (.seq none (.seq none (.reg [(none, B6)]) (.cond (.t p29) (.seq none (.reg [(none, Cj)]) (.ret)) (.skip))) (.seq none (.reg [(none, Cr)]) (.seq none (.seq none (.reg [(none, Cv)]) (.block 0 (some EH) (.loop xe (.seq none (.reg [(none, EG)]) (.seq none (.cond (.t p33) (.skip) (.exit 0)) (.seq none (.block 1 none (.seq none (.reg [(none, Fu)]) (.seq none (.reg [(none, EJ)]) (.seq none (.seq none (.reg [(none, Fk)]) (.cond (.t p54) (.seq none (.reg [(none, Fn)]) (.ret)) (.skip))) (.seq none (.reg [(none, EY)]) (.seq none (.reg [(none, E3)]) (.reg [(none, E6)]))))))) (.reg [(none, EP)]))))))) (.seq none (.reg [(none, EX)]) (.ret))))))
def Je : AFn := .code (a_pool_Pool__taken.map (·.1)) (gY uj) (z_pool_Pool__taken.map (·.1))
abbrev jU : Nat := 9
def jL : Tr Ty := (tN (tN (tJ .leaf tI) (tC (tN tI .leaf) .leaf)) (tN (tN .leaf (tC tI .leaf)) tB))
def a_pool_Pool__Image : Kp := [(p0, .any)]
def z_pool_Pool__Image : List (Rv × Ty) := [(.t p2, .any), (.t p3, (.int .i64))]
def Fr : List Ins := [I0 p13 (.mov (.t p0)),
  I0 p14 (.mov (.t p0)),
  I0 p15 (.nilchk (.t p14)),
  I0 p16 (.fa 2 (.t p15)),
  I0 p17 (.load 1 false (.t p16)),
  .call .always (some p18) false (.c (.func 25 [] [])) [(.t p13), (.c (.int .i64 0)), (.t p17), (.c (.int .u8 1))],
  I0 p19 (.ext 0 (.t p18)),
  I0 p20 (.ext 1 (.t p18)),
  I0 p2 (.mov (.t p19)),
  I0 p3 (.mov (.t p20))]
def EW : List Ins := [I0 p2 (.mov (.c .nilslice)),
  I0 p3 (.mov (.c (.int .i64 91)))]
def Fo : List Ins := [I0 p7 (.mov (.t p0)),
  I0 p8 (.nilchk (.t p7)),
  I0 p9 (.fa 13 (.t p8)),
  I0 p10 (.iaA 1 7 (.t p9) (.c (.int .u8 1))),
  I0 p11 (.load 1 false (.t p10)),
  I0 p12 (.bin .gtr (.t p11) (.c (.int .i64 0)))]
def EM : List Ins := [I0 p2 (.mov (.c .nilslice)),
  I0 p3 (.mov (.c (.int .i64 1)))]
def E0 : List Ins := [I0 p4 (.mov (.t p0)),
  .call .always (some p5) false (.c (.func 24 [] [])) [(.t p4)],
  I0 p6 (.not (.t p5))]
def Fb : List Ins := [I0 p2 (.mov (.c .nilslice)),
  I0 p3 (.mov (.c (.int .i64 0)))]
def uk : SC := .seq none (.reg [(none, Fb)]) (.seq none (.seq none (.reg [(none, E0)]) (.cond (.t p6) (.seq none (.reg [(none, EM)]) (.ret)) (.skip))) (.seq none (.seq none (.reg [(none, Fo)]) (.cond (.t p12) (.seq none (.reg [(none, EW)]) (.ret)) (.skip))) (.seq none (.reg [(none, Fr)]) (.ret))))
def JB : AFn := .code (a_pool_Pool__Image.map (·.1)) (gY uk) (z_pool_Pool__Image.map (·.1))
abbrev jm : Nat := 26
def fu : Tr Ty := (tN (tN (tJ (tC .leaf tI) (tN tI .leaf)) (tN .leaf (tN tI .leaf))) (tJ (tJ (tN tI .leaf) (tJ tI .leaf)) (tN (tN tI .leaf) (tJ tI .leaf))))
def a_buddy_Buddy__Free : Kp := [(p0, .any)]
def z_buddy_Buddy__Free : List (Rv × Ty) := [(.t p2, (.int .i64))]
def Cw : Kp := [(p3, (.int .i64))]
def vI : Kp := [(p3, (.int .i64)), (p11, .any), (p12, (.int .i64))]
def Ce : List Ins := [I0 p23 (.mov (.t p3)),
  I0 p2 (.mov (.t p23))]
def B4 : List Ins := [I0 p22 (.bin .add (.t p12) (.c (.int .i64 1))),
  I0 p12 (.mov (.t p22))]
def Cb : List Ins := [I0 p16 (.mov (.t p3)),
  I0 p17 (.mov (.t p5)),
  I0 p18 (.len .sl (.t p17)),
  I0 p19 (.mov (.t p4)),
  I0 p20 (.bin .shl (.t p18) (.t p19)),
  I0 p21 (.bin .add (.t p16) (.t p20)),
  I0 p3 (.mov (.t p21))]
def CF : List Ins := [I0 p14 (.mov (.t p12)),
  I0 p15 (.idxA 1 7 false (.t p11) (.t p12)),
  I0 p4 (.mov (.t p14)),
  I0 p5 (.mov (.t p15))]
def CM : List Ins := [I0 p13 (.bin .lss (.t p12) (.c (.int .i64 7)))]
def Ci : List Ins := [I0 p8 (.mov (.t p0)),
  I0 p9 (.nilchk (.t p8)),
  I0 p10 (.fa 2 (.t p9)),
  I0 p11 (.load 7 true (.t p10)),
  I0 p12 (.mov (.c (.int .i64 0)))]
def Co : List Ins := [I0 p3 (.mov (.c (.int .i64 0)))]
def B2 : List Ins := [I0 p2 (.mov (.c (.int .i64 0)))]
def B9 : List Ins := [I0 p6 (.mov (.t p0)),
  .call .always (some p7) false (.c (.func 45 [] [])) [(.t p6)]]
def CI : List Ins := [I0 p2 (.mov (.c (.int .i64 0)))]
def sS : SC := .seq none (.reg [(none, CI)]) (.seq none (.seq none (.reg [(none, B9)]) (.cond (.t p7) (.seq none (.reg [(none, B2)]) (.ret)) (.skip))) (.seq none (.reg [(none, Co)]) (.seq none (.seq none (.reg [(none, Ci)]) (.block 0 (some Cw) (.loop vI (.seq none (.reg [(none, CM)]) (.seq none (.cond (.t p13) (.skip) (.exit 0)) (.seq none (.block 1 none (.seq none (.reg [(none, CF)]) (.reg [(none, Cb)]))) (.reg [(none, B4)]))))))) (.seq none (.reg [(none, Ce)]) (.ret)))))
def Hv : AFn := .code (a_buddy_Buddy__Free.map (·.1)) (gY sS) (z_buddy_Buddy__Free.map (·.1))
abbrev kI : Nat := 10
def c0 : Tr Ty := (tN (.node (tN (tJ (tC .leaf tI) (tN (tN tI .leaf) tI)) (tC (.node (tC tB .leaf) (some (.int .u8)) .leaf) (tN tI .leaf))) (some (.int .u8)) (tJ (tN (tC (tN tI .leaf) .leaf) (tN tI tI)) (tC tB (tN .leaf tI)))) (tN (tJ (tN (.node .leaf (some (.int .u8)) .leaf) (.node tI (some (.int .u8)) tB)) (tN (tC (tN tI .leaf) tI) tI)) (tJ (tJ (tC (tJ tI .leaf) .leaf) (tN .leaf tI)) (tC tB (.node .leaf (some (.int .u8)) (.node .leaf (some (.int .u8)) .leaf))))))
def a_pool_Pool__Take : Kp := [(p0, .any), (p1, (.int .u8))]
def z_pool_Pool__Take : List (Rv × Ty) := [(.t p4, (.int .i64)), (.t p5, (.int .i64))]
def Hk : Kp := [(p0, .any), (p1, (.int .u8)), (p6, (.int .i64))]
def yF : Kp := [(p0, .any), (p1, (.int .u8)), (p6, (.int .i64)), (p39, .any), (p40, (.int .i64)), (p41, (.int .i64))]
def yM : Kp := [(p0, .any), (p1, (.int .u8)), (p6, (.int .i64)), (p39, .any), (p40, (.int .i64)), (p41, (.int .i64))]
def HC : Kp := [(p0, .any), (p1, (.int .u8)), (p21, .bool)]
def Hj : List Ins := [I0 p69 (.mov (.t p9)),
  I0 p70 (.iaS 1 (.t p69) (.c (.int .i64 0))),
  I0 p71 (.load 1 false (.t p70)),
  I0 p4 (.mov (.t p71)),
  I0 p5 (.mov (.c (.int .i64 0)))]
def Hc : List Ins := [I0 p68 (.mov (.t p10)),
  I0 p4 (.mov (.c (.int .i64 0))),
  I0 p5 (.mov (.t p68))]
def HG : List Ins := [I0 p66 (.mov (.t p10)),
  I0 p67 (.bin .neq (.t p66) (.c (.int .i64 0)))]
def HH : List Ins := [I0 p60 (.mov (.t p0)),
  I0 p61 (.mov (.t p6)),
  I0 p62 (.mov (.t p1)),
  .call .always (some p63) false (.c (.func 25 [] [])) [(.t p60), (.t p61), (.c (.int .i64 0)), (.t p62)],
  I0 p59 (.mov (.t p63)),
  I0 p64 (.ext 0 (.t p59)),
  I0 p65 (.ext 1 (.t p59)),
  I0 p9 (.mov (.t p64)),
  I0 p10 (.mov (.t p65))]
def G9 : List Ins := [I0 p58 (.bin .add (.t p41) (.c (.int .i64 1))),
  I0 p41 (.mov (.t p58))]
def HB : List Ins := [I0 p57 (.mov (.t p7)),
  I0 p6 (.mov (.t p57))]
def Hu : List Ins := [I0 p46 (.mov (.t p8)),
  .call .always (some p47) true (.c (.func 26 [] [])) [(.t p46)],
  I0 p48 (.mov (.t p0)),
  I0 p49 (.nilchk (.t p48)),
  I0 p50 (.fa 11 (.t p49)),
  I0 p51 (.load 1 false (.t p50)),
  I0 p52 (.mov (.t p6)),
  I0 p53 (.iaS 1 (.t p51) (.t p52)),
  I0 p54 (.load 1 false (.t p53)),
  .call .always (some p55) false (.c (.func 26 [] [])) [(.t p54)],
  I0 p56 (.bin .gtr (.t p47) (.t p55))]
def Hy : List Ins := [I0 p43 (.mov (.t p41)),
  I0 p44 (.iaS 1 (.t p39) (.t p41)),
  I0 p45 (.load 1 false (.t p44)),
  I0 p7 (.mov (.t p43)),
  I0 p8 (.mov (.t p45))]
def Hi : List Ins := [I0 p42 (.bin .lss (.t p41) (.t p40))]
def HD : List Ins := [I0 p36 (.mov (.t p0)),
  I0 p37 (.nilchk (.t p36)),
  I0 p38 (.fa 11 (.t p37)),
  I0 p39 (.load 1 false (.t p38)),
  I0 p40 (.len .sl (.t p39)),
  I0 p41 (.mov (.c (.int .i64 0)))]
def EO : List Ins := [I0 p6 (.mov (.c (.int .i64 0)))]
def EF : List Ins := [I0 p4 (.mov (.c (.int .i64 0))),
  I0 p5 (.mov (.c (.int .i64 1)))]
def EQ : List Ins := [I0 p4 (.mov (.c (.int .i64 0))),
  I0 p5 (.mov (.c (.int .i64 2)))]
def EK : List Ins := [I0 p4 (.mov (.c (.int .i64 0))),
  I0 p5 (.mov (.c (.int .i64 4)))]
def Fi : List Ins := [I0 p23 (.mov (.t p0)),
  I0 p24 (.mov (.t p1)),
  I0 p25 (.nilchk (.t p23)),
  I0 p26 (.fa 13 (.t p25)),
  I0 p27 (.iaA 1 7 (.t p26) (.t p24)),
  I0 p28 (.load 1 false (.t p27)),
  I0 p29 (.mov (.t p0)),
  I0 p30 (.mov (.t p1)),
  I0 p31 (.nilchk (.t p29)),
  I0 p32 (.fa 3 (.t p31)),
  I0 p33 (.iaA 1 7 (.t p32) (.t p30)),
  I0 p34 (.load 1 false (.t p33)),
  I0 p35 (.bin .geq (.t p28) (.t p34)),
  I0 p22 (.mov (.t p35))]
def Fg : List Ins := [I0 p16 (.mov (.t p1)),
  I0 p17 (.bin .lss (.t p16) (.c (.int .u8 2))),
  I0 p18 (.mov (.t p17)),
  .op (.on p18 false) (some p19) (.mov (.t p1)),
  .op (.on p18 false) (some p20) (.bin .gtr (.t p19) (.c (.int .u8 6))),
  I0 p21 (.pick (.t p18) (.c (.bool true)) (.t p20))]
def E5 : List Ins := [I0 p15 (.mov (.t p21))]
def Fp : List Ins := [I0 p12 (.mov (.t p0)),
  .call .always (some p13) false (.c (.func 24 [] [])) [(.t p12)],
  I0 p14 (.not (.t p13)),
  I0 p11 (.mov (.t p14))]
def E2 : List Ins := [I0 p4 (.mov (.c (.int .i64 0))),
  I0 p5 (.mov (.c (.int .i64 0)))]
def wj : SC := .seq none (.reg [(none, E2)]) (.seq none (.block 0 none (.seq none (.reg [(none, Fp)]) (.cond (.t p11) (.seq none (.reg [(none, EF)]) (.ret)) (.seq none (.reg [(some HC, Fg), (none, E5)]) (.cond (.t p15) (.seq none (.reg [(none, EQ)]) (.ret)) (.seq none (.reg [(none, Fi)]) (.cond (.t p22) (.seq none (.reg [(none, EK)]) (.ret)) (.skip)))))))) (.seq none (.reg [(none, EO)]) (.seq none (.seq none (.reg [(none, HD)]) (.block 1 (some Hk) (.loop yF (.seq none (.reg [(none, Hi)]) (.seq none (.cond (.t p42) (.skip) (.exit 1)) (.seq none (.block 2 (some yM) (.seq none (.reg [(none, Hy)]) (.seq none (.reg [(none, Hu)]) (.cond (.t p56) (.reg [(none, HB)]) (.skip))))) (.reg [(none, G9)]))))))) (.seq none (.reg [(none, HH)]) (.seq none (.seq none (.reg [(none, HG)]) (.cond (.t p67) (.seq none (.reg [(none, Hc)]) (.ret)) (.skip))) (.seq none (.reg [(none, Hj)]) (.ret)))))))
def KN : AFn := .code (a_pool_Pool__Take.map (·.1)) (gY wj) (z_pool_Pool__Take.map (·.1))
abbrev mO : Nat := 3
def b7 : Tr Ty := (tN (tN (tN (tN (tC (tJ .leaf tI) (tN tI .leaf)) (tC (tC tI .leaf) (tC tI .leaf))) (tJ (tN (tJ (.node .leaf (some (.int .u8)) .leaf) .leaf) tI) (tJ tB .leaf))) (tN (tN (tN (tN (.node .leaf (some (.int .u8)) .leaf) tI) (tJ tI .leaf)) (tC tB (tJ tI .leaf))) (tJ (tJ (tJ tI .leaf) (tC tI .leaf)) (tN (tN tI .leaf) (tN tI .leaf))))) (tN (tC (tJ (tC (tN .leaf tI) (tJ tB .leaf)) (tJ (tN tB .leaf) tB)) (tJ (tN tB tB) tI)) (tJ (tJ (tJ (tJ (.node .leaf (some (.int .u8)) .leaf) .leaf) (tN tI .leaf)) (tC (tC tI .leaf) (tJ tB .leaf))) (tJ (tC (tC tI .leaf) tI) (tN .leaf tI)))))
def a_cofferdamlaw12_PoolApart : Kp := [(p0, .any), (p1, .any)]
def z_cofferdamlaw12_PoolApart : List (Rv × Ty) := [(.t p4, .bool)]
def uK : Kp := []
def pt : Kp := [(p1, .any), (p2, .any), (p5, .any), (p6, (.int .i64))]
def vr : Kp := [(p1, .any), (p2, .any), (p5, .any), (p6, (.int .i64))]
def oX : Kp := [(p1, .any), (p2, .any), (p5, .any), (p6, (.int .i64)), (p9, .any), (p14, (.int .i64))]
def uq : Kp := [(p1, .any), (p2, .any), (p5, .any), (p6, (.int .i64)), (p9, .any)]
def pu : Kp := [(p1, .any), (p2, .any), (p5, .any), (p6, (.int .i64)), (p7, .any), (p9, .any), (p11, (.int .i64))]
def pj : Kp := [(p1, .any), (p2, .any), (p5, .any), (p6, (.int .i64)), (p7, .any), (p9, .any), (p11, (.int .i64))]
def uw : Kp := [(p1, .any), (p2, .any), (p5, .any), (p6, (.int .i64)), (p7, .any), (p9, .any), (p11, (.int .i64)), (p56, .bool)]
def uQ : Kp := [(p43, .bool)]
def uU : Kp := [(p1, .any), (p2, .any), (p5, .any), (p6, (.int .i64)), (p26, .bool)]
def uv : List Ins := [I0 p4 (.mov (.c (.bool true)))]
def uJ : List Ins := [I0 p27 (.mov (.t p6)),
  I0 p28 (.bin .add (.t p27) (.c (.int .i64 1))),
  I0 p6 (.mov (.t p28))]
def ut : List Ins := [I0 p81 (.mov (.t p14)),
  I0 p82 (.bin .add (.t p81) (.c (.int .i64 1))),
  I0 p14 (.mov (.t p82))]
def uI : List Ins := [I0 p91 (.mov (.t p5)),
  I0 p92 (.mov (.t p9)),
  I0 p93 (.mov (.t p14)),
  I0 p94 (.iaS 1 (.t p92) (.t p93)),
  I0 p95 (.load 1 false (.t p94)),
  I0 p96 (.mov (.t p6)),
  I0 p97 (.bin .add (.c (.int .i64 1)) (.t p96)),
  I0 p98 (.iaS 1 (.t p91) (.t p95)),
  .op .always none (.store 1 (.t p98) (.t p97))]
def vc : List Ins := [I0 p4 (.mov (.c (.bool false)))]
def vd : List Ins := [I0 p83 (.mov (.t p5)),
  I0 p84 (.mov (.t p9)),
  I0 p85 (.mov (.t p14)),
  I0 p86 (.iaS 1 (.t p84) (.t p85)),
  I0 p87 (.load 1 false (.t p86)),
  I0 p88 (.iaS 1 (.t p83) (.t p87)),
  I0 p89 (.load 1 false (.t p88)),
  I0 p90 (.bin .neq (.t p89) (.c (.int .i64 0)))]
def uW : List Ins := [I0 p77 (.mov (.t p14)),
  I0 p78 (.mov (.t p9)),
  I0 p79 (.len .sl (.t p78)),
  I0 p80 (.bin .lss (.t p77) (.t p79))]
def uG : List Ins := [I0 p14 (.mov (.c (.int .i64 0)))]
def vh : List Ins := [I0 p57 (.mov (.t p11)),
  I0 p58 (.bin .add (.t p57) (.c (.int .i64 1))),
  I0 p11 (.mov (.t p58))]
def uZ : List Ins := [I0 p73 (.mov (.t p9)),
  I0 p74 (.mov (.t p12)),
  I0 p75 (.buildSlice 1 [(.int .i64 0)] [(0, 1, (.t p74))]),
  I0 p76 (.append 1 (.t p73) (.t p75)),
  I0 p9 (.mov (.t p76))]
def tP : List Ins := [I0 p71 (.mov (.t p13)),
  I0 p72 (.bin .eql (.t p71) (.c (.int .i64 0)))]
def tF : List Ins := [I0 p60 (.mov (.t p7)),
  I0 p61 (.mov (.t p1)),
  I0 p62 (.mov (.t p11)),
  I0 p63 (.iaS 3 (.t p61) (.t p62)),
  I0 p64 (.fa 2 (.t p63)),
  I0 p65 (.load 1 false (.t p64)),
  I0 p66 (.bin .rem (.t p65) (.c (.int .u8 5))),
  I0 p67 (.bin .add (.c (.int .u8 2)) (.t p66)),
  .call .always (some p68) false (.c (.func 10 [] [])) [(.t p60), (.t p67)],
  I0 p59 (.mov (.t p68)),
  I0 p69 (.ext 0 (.t p59)),
  I0 p70 (.ext 1 (.t p59)),
  I0 p12 (.mov (.t p69)),
  I0 p13 (.mov (.t p70))]
def tx : List Ins := [I0 p49 (.mov (.t p11)),
  I0 p50 (.mov (.t p1)),
  I0 p51 (.len .sl (.t p50)),
  I0 p52 (.bin .lss (.t p49) (.t p51)),
  I0 p53 (.mov (.t p52)),
  .op (.on p53 true) (some p54) (.mov (.t p11)),
  .op (.on p53 true) (some p55) (.bin .lss (.t p54) (.c (.int .i64 40))),
  I0 p56 (.pick (.t p53) (.t p55) (.c (.bool false)))]
def tM : List Ins := [I0 p11 (.mov (.c (.int .i64 0)))]
def ub : List Ins := [I0 p45 (.mov (.t p7)),
  .call .always (some p46) false (.c (.func 9 [] [])) [(.t p45)],
  I0 p44 (.mov (.t p46)),
  I0 p47 (.ext 0 (.t p44)),
  I0 p48 (.ext 1 (.t p44)),
  I0 p9 (.mov (.t p47)),
  I0 p10 (.mov (.t p48))]
def tL : List Ins := [I0 p37 (.mov (.t p8)),
  I0 p38 (.bin .eql (.t p37) (.c (.int .i64 5))),
  I0 p39 (.mov (.t p38)),
  .op (.on p39 true) (some p40) (.load 17 true (.t p2)),
  .call (.on p39 true) (some p41) false (.c (.func 8 [] [])) [(.t p40)],
  .op (.on p39 true) (some p42) (.not (.t p41)),
  I0 p43 (.pick (.t p39) (.t p42) (.c (.bool false)))]
def tO : List Ins := [I0 p4 (.mov (.t p43))]
def ua : List Ins := [I0 p35 (.mov (.t p8)),
  I0 p36 (.bin .neq (.t p35) (.c (.int .i64 0)))]
def tU : List Ins := [I0 p30 (.load 17 true (.t p2)),
  I0 p31 (.mov (.t p6)),
  .call .always (some p32) false (.c (.func 7 [] [])) [(.t p30), (.t p31)],
  I0 p29 (.mov (.t p32)),
  I0 p33 (.ext 0 (.t p29)),
  I0 p34 (.ext 1 (.t p29)),
  I0 p7 (.mov (.t p33)),
  I0 p8 (.mov (.t p34))]
def tX : List Ins := [I0 p18 (.mov (.t p6)),
  I0 p19 (.fa 16 (.t p2)),
  I0 p20 (.load 1 false (.t p19)),
  I0 p21 (.len .sl (.t p20)),
  I0 p22 (.bin .lss (.t p18) (.t p21)),
  I0 p23 (.mov (.t p22)),
  .op (.on p23 true) (some p24) (.mov (.t p6)),
  .op (.on p23 true) (some p25) (.bin .lss (.t p24) (.c (.int .i64 8))),
  I0 p26 (.pick (.t p23) (.t p25) (.c (.bool false)))]
def tK : List Ins := [I0 p6 (.mov (.c (.int .i64 0)))]
def tz : List Ins := [I0 p17 (.mk [(.int .i64 0)] (.c (.int .i64 4096)) (.c (.int .i64 4096))),
  I0 p5 (.mov (.t p17))]
def tV : List Ins := [I0 p4 (.mov (.c (.bool false)))]
def tQ : List Ins := [.call .always (some p15) false (.c (.func 6 [] [])) [],
  I0 p16 (.not (.t p15))]
def tW : List Ins := [I0 p2 (.box (.t p0)),
  I0 p4 (.mov (.c (.bool false)))]
def nk : SC := .seq none (.reg [(none, tW)]) (.seq none (.seq none (.reg [(none, tQ)]) (.cond (.t p16) (.seq none (.reg [(none, tV)]) (.ret)) (.skip))) (.seq none (.reg [(none, tz)]) (.seq none (.seq none (.reg [(none, tK)]) (.block 0 (some uK) (.loop pt (.seq none (.seq none (.reg [(some uU, tX)]) (.cond (.t p26) (.skip) (.exit 0))) (.seq none (.block 1 none (.seq none (.reg [(none, tU)]) (.seq none (.seq none (.reg [(none, ua)]) (.cond (.t p36) (.seq none (.reg [(some uQ, tL), (none, tO)]) (.ret)) (.skip))) (.seq none (.reg [(none, ub)]) (.seq none (.seq none (.reg [(none, tM)]) (.block 2 (some uq) (.loop pu (.seq none (.seq none (.reg [(some uw, tx)]) (.cond (.t p56) (.skip) (.exit 2))) (.seq none (.block 3 (some pj) (.seq none (.reg [(none, tF)]) (.seq none (.reg [(none, tP)]) (.cond (.t p72) (.reg [(none, uZ)]) (.skip))))) (.reg [(none, vh)])))))) (.seq none (.reg [(none, uG)]) (.block 4 (some vr) (.loop oX (.seq none (.seq none (.reg [(none, uW)]) (.cond (.t p80) (.skip) (.exit 4))) (.seq none (.block 5 none (.seq none (.seq none (.reg [(none, vd)]) (.cond (.t p90) (.seq none (.reg [(none, vc)]) (.ret)) (.skip))) (.reg [(none, uI)]))) (.reg [(none, ut)]))))))))))) (.reg [(none, uJ)])))))) (.seq none (.reg [(none, uv)]) (.ret)))))
def wK : AFn := .code (a_cofferdamlaw12_PoolApart.map (·.1)) (gY nk) (z_cofferdamlaw12_PoolApart.map (·.1))
end Go.Proofs.Ytnlbfbiogfilfaa.Sh
