/- The interpreter's code of this program's functions, with notes, printed by a program. -/
import Derived.Test.YtnlbfbiogfilfaaAiCpsRun
set_option linter.all false
namespace Go.Proofs.Ytnlbfbiogfilfaa.Sh
open Go.Ai
set_option maxRecDepth 100000
def tI : Tr Ty := .node .leaf (some (.int .i64)) .leaf
def tB : Tr Ty := .node .leaf (some .bool) .leaf
def tN (l r : Tr Ty) : Tr Ty := .node l none r
def tJ (l r : Tr Ty) : Tr Ty := .node l (some (.int .i64)) r
def tC (l r : Tr Ty) : Tr Ty := .node l (some .bool) r
def I0 (p : P) (o : AOp) : Ins := .op .always (some p) o
abbrev Q0 : Type := AV → Heap → CRes
abbrev Q1 : Type := St → CRes
theorem fx1 {u0 r : Type} {f g : u0 → r} (h : ∀ x0, f x0 = g x0) : g = f := by funext x0; exact (h x0).symm
theorem fx2 {u0 u1 r : Type} {f g : u0 → u1 → r} (h : ∀ x0 x1, f x0 x1 = g x0 x1) : g = f := by funext x0 x1; exact (h x0 x1).symm
theorem fx3 {u0 u1 u2 r : Type} {f g : u0 → u1 → u2 → r} (h : ∀ x0 x1 x2, f x0 x1 x2 = g x0 x1 x2) : g = f := by funext x0 x1 x2; exact (h x0 x1 x2).symm
theorem fx4 {u0 u1 u2 u3 r : Type} {f g : u0 → u1 → u2 → u3 → r} (h : ∀ x0 x1 x2 x3, f x0 x1 x2 x3 = g x0 x1 x2 x3) : g = f := by funext x0 x1 x2 x3; exact (h x0 x1 x2 x3).symm
theorem fx5 {u0 u1 u2 u3 u4 r : Type} {f g : u0 → u1 → u2 → u3 → u4 → r} (h : ∀ x0 x1 x2 x3 x4, f x0 x1 x2 x3 x4 = g x0 x1 x2 x3 x4) : g = f := by funext x0 x1 x2 x3 x4; exact (h x0 x1 x2 x3 x4).symm
theorem fx6 {u0 u1 u2 u3 u4 u5 r : Type} {f g : u0 → u1 → u2 → u3 → u4 → u5 → r} (h : ∀ x0 x1 x2 x3 x4 x5, f x0 x1 x2 x3 x4 x5 = g x0 x1 x2 x3 x4 x5) : g = f := by funext x0 x1 x2 x3 x4 x5; exact (h x0 x1 x2 x3 x4 x5).symm
theorem fx7 {u0 u1 u2 u3 u4 u5 u6 r : Type} {f g : u0 → u1 → u2 → u3 → u4 → u5 → u6 → r} (h : ∀ x0 x1 x2 x3 x4 x5 x6, f x0 x1 x2 x3 x4 x5 x6 = g x0 x1 x2 x3 x4 x5 x6) : g = f := by funext x0 x1 x2 x3 x4 x5 x6; exact (h x0 x1 x2 x3 x4 x5 x6).symm
theorem fx8 {u0 u1 u2 u3 u4 u5 u6 u7 r : Type} {f g : u0 → u1 → u2 → u3 → u4 → u5 → u6 → u7 → r} (h : ∀ x0 x1 x2 x3 x4 x5 x6 x7, f x0 x1 x2 x3 x4 x5 x6 x7 = g x0 x1 x2 x3 x4 x5 x6 x7) : g = f := by funext x0 x1 x2 x3 x4 x5 x6 x7; exact (h x0 x1 x2 x3 x4 x5 x6 x7).symm
theorem fx9 {u0 u1 u2 u3 u4 u5 u6 u7 u8 r : Type} {f g : u0 → u1 → u2 → u3 → u4 → u5 → u6 → u7 → u8 → r} (h : ∀ x0 x1 x2 x3 x4 x5 x6 x7 x8, f x0 x1 x2 x3 x4 x5 x6 x7 x8 = g x0 x1 x2 x3 x4 x5 x6 x7 x8) : g = f := by funext x0 x1 x2 x3 x4 x5 x6 x7 x8; exact (h x0 x1 x2 x3 x4 x5 x6 x7 x8).symm
theorem fx10 {u0 u1 u2 u3 u4 u5 u6 u7 u8 u9 r : Type} {f g : u0 → u1 → u2 → u3 → u4 → u5 → u6 → u7 → u8 → u9 → r} (h : ∀ x0 x1 x2 x3 x4 x5 x6 x7 x8 x9, f x0 x1 x2 x3 x4 x5 x6 x7 x8 x9 = g x0 x1 x2 x3 x4 x5 x6 x7 x8 x9) : g = f := by funext x0 x1 x2 x3 x4 x5 x6 x7 x8 x9; exact (h x0 x1 x2 x3 x4 x5 x6 x7 x8 x9).symm
theorem fx11 {u0 u1 u2 u3 u4 u5 u6 u7 u8 u9 u10 r : Type} {f g : u0 → u1 → u2 → u3 → u4 → u5 → u6 → u7 → u8 → u9 → u10 → r} (h : ∀ x0 x1 x2 x3 x4 x5 x6 x7 x8 x9 x10, f x0 x1 x2 x3 x4 x5 x6 x7 x8 x9 x10 = g x0 x1 x2 x3 x4 x5 x6 x7 x8 x9 x10) : g = f := by funext x0 x1 x2 x3 x4 x5 x6 x7 x8 x9 x10; exact (h x0 x1 x2 x3 x4 x5 x6 x7 x8 x9 x10).symm
def p0 : P := .h
def p1 : P := .o (.h)
def p2 : P := .i (.h)
def p3 : P := .o (.o (.h))
def p4 : P := .i (.o (.h))
def p5 : P := .o (.i (.h))
def p6 : P := .i (.i (.h))
def p7 : P := .o (.o (.o (.h)))
def p8 : P := .i (.o (.o (.h)))
def p9 : P := .o (.i (.o (.h)))
def p10 : P := .i (.i (.o (.h)))
def p11 : P := .o (.o (.i (.h)))
def p12 : P := .i (.o (.i (.h)))
def p13 : P := .o (.i (.i (.h)))
def p14 : P := .i (.i (.i (.h)))
def p15 : P := .o (.o (.o (.o (.h))))
def p16 : P := .i (.o (.o (.o (.h))))
def p17 : P := .o (.i (.o (.o (.h))))
def p18 : P := .i (.i (.o (.o (.h))))
def p19 : P := .o (.o (.i (.o (.h))))
def p20 : P := .i (.o (.i (.o (.h))))
def p21 : P := .o (.i (.i (.o (.h))))
def p22 : P := .i (.i (.i (.o (.h))))
def p23 : P := .o (.o (.o (.i (.h))))
def p24 : P := .i (.o (.o (.i (.h))))
def p25 : P := .o (.i (.o (.i (.h))))
def p26 : P := .i (.i (.o (.i (.h))))
def p27 : P := .o (.o (.i (.i (.h))))
def p28 : P := .i (.o (.i (.i (.h))))
def p29 : P := .o (.i (.i (.i (.h))))
def p30 : P := .i (.i (.i (.i (.h))))
def p31 : P := .o (.o (.o (.o (.o (.h)))))
def p32 : P := .i (.o (.o (.o (.o (.h)))))
def p33 : P := .o (.i (.o (.o (.o (.h)))))
def p34 : P := .i (.i (.o (.o (.o (.h)))))
def p35 : P := .o (.o (.i (.o (.o (.h)))))
def p36 : P := .i (.o (.i (.o (.o (.h)))))
def p37 : P := .o (.i (.i (.o (.o (.h)))))
def p38 : P := .i (.i (.i (.o (.o (.h)))))
def p39 : P := .o (.o (.o (.i (.o (.h)))))
def p40 : P := .i (.o (.o (.i (.o (.h)))))
def p41 : P := .o (.i (.o (.i (.o (.h)))))
def p42 : P := .i (.i (.o (.i (.o (.h)))))
def p43 : P := .o (.o (.i (.i (.o (.h)))))
def p44 : P := .i (.o (.i (.i (.o (.h)))))
def p45 : P := .o (.i (.i (.i (.o (.h)))))
def p46 : P := .i (.i (.i (.i (.o (.h)))))
def p47 : P := .o (.o (.o (.o (.i (.h)))))
def p48 : P := .i (.o (.o (.o (.i (.h)))))
def p49 : P := .o (.i (.o (.o (.i (.h)))))
def p50 : P := .i (.i (.o (.o (.i (.h)))))
def p51 : P := .o (.o (.i (.o (.i (.h)))))
def p52 : P := .i (.o (.i (.o (.i (.h)))))
def p53 : P := .o (.i (.i (.o (.i (.h)))))
def p54 : P := .i (.i (.i (.o (.i (.h)))))
def p55 : P := .o (.o (.o (.i (.i (.h)))))
def p56 : P := .i (.o (.o (.i (.i (.h)))))
def p57 : P := .o (.i (.o (.i (.i (.h)))))
def p58 : P := .i (.i (.o (.i (.i (.h)))))
def p59 : P := .o (.o (.i (.i (.i (.h)))))
def p60 : P := .i (.o (.i (.i (.i (.h)))))
def p61 : P := .o (.i (.i (.i (.i (.h)))))
def p62 : P := .i (.i (.i (.i (.i (.h)))))
def p63 : P := .o (.o (.o (.o (.o (.o (.h))))))
def p64 : P := .i (.o (.o (.o (.o (.o (.h))))))
def p65 : P := .o (.i (.o (.o (.o (.o (.h))))))
def p66 : P := .i (.i (.o (.o (.o (.o (.h))))))
def p67 : P := .o (.o (.i (.o (.o (.o (.h))))))
def p68 : P := .i (.o (.i (.o (.o (.o (.h))))))
def p69 : P := .o (.i (.i (.o (.o (.o (.h))))))
def p70 : P := .i (.i (.i (.o (.o (.o (.h))))))
def p71 : P := .o (.o (.o (.i (.o (.o (.h))))))
def p72 : P := .i (.o (.o (.i (.o (.o (.h))))))
def p73 : P := .o (.i (.o (.i (.o (.o (.h))))))
def p74 : P := .i (.i (.o (.i (.o (.o (.h))))))
def p75 : P := .o (.o (.i (.i (.o (.o (.h))))))
def p76 : P := .i (.o (.i (.i (.o (.o (.h))))))
def p77 : P := .o (.i (.i (.i (.o (.o (.h))))))
def p78 : P := .i (.i (.i (.i (.o (.o (.h))))))
def p79 : P := .o (.o (.o (.o (.i (.o (.h))))))
def p80 : P := .i (.o (.o (.o (.i (.o (.h))))))
def p81 : P := .o (.i (.o (.o (.i (.o (.h))))))
def p82 : P := .i (.i (.o (.o (.i (.o (.h))))))
def p83 : P := .o (.o (.i (.o (.i (.o (.h))))))
def p84 : P := .i (.o (.i (.o (.i (.o (.h))))))
def p85 : P := .o (.i (.i (.o (.i (.o (.h))))))
def p86 : P := .i (.i (.i (.o (.i (.o (.h))))))
def p87 : P := .o (.o (.o (.i (.i (.o (.h))))))
def p88 : P := .i (.o (.o (.i (.i (.o (.h))))))
def p89 : P := .o (.i (.o (.i (.i (.o (.h))))))
def p90 : P := .i (.i (.o (.i (.i (.o (.h))))))
def p91 : P := .o (.o (.i (.i (.i (.o (.h))))))
def p92 : P := .i (.o (.i (.i (.i (.o (.h))))))
def p93 : P := .o (.i (.i (.i (.i (.o (.h))))))
def p94 : P := .i (.i (.i (.i (.i (.o (.h))))))
def p95 : P := .o (.o (.o (.o (.o (.i (.h))))))
def p96 : P := .i (.o (.o (.o (.o (.i (.h))))))
def p97 : P := .o (.i (.o (.o (.o (.i (.h))))))
def p98 : P := .i (.i (.o (.o (.o (.i (.h))))))
def p99 : P := .o (.o (.i (.o (.o (.i (.h))))))
def p100 : P := .i (.o (.i (.o (.o (.i (.h))))))
def p101 : P := .o (.i (.i (.o (.o (.i (.h))))))
def p102 : P := .i (.i (.i (.o (.o (.i (.h))))))
def p103 : P := .o (.o (.o (.i (.o (.i (.h))))))
def p104 : P := .i (.o (.o (.i (.o (.i (.h))))))
def p105 : P := .o (.i (.o (.i (.o (.i (.h))))))
def p106 : P := .i (.i (.o (.i (.o (.i (.h))))))
def p107 : P := .o (.o (.i (.i (.o (.i (.h))))))
def p108 : P := .i (.o (.i (.i (.o (.i (.h))))))
def p109 : P := .o (.i (.i (.i (.o (.i (.h))))))
def p110 : P := .i (.i (.i (.i (.o (.i (.h))))))
def p111 : P := .o (.o (.o (.o (.i (.i (.h))))))
def p112 : P := .i (.o (.o (.o (.i (.i (.h))))))
def p113 : P := .o (.i (.o (.o (.i (.i (.h))))))
def p114 : P := .i (.i (.o (.o (.i (.i (.h))))))
def p115 : P := .o (.o (.i (.o (.i (.i (.h))))))
def p116 : P := .i (.o (.i (.o (.i (.i (.h))))))
def p117 : P := .o (.i (.i (.o (.i (.i (.h))))))
def p118 : P := .i (.i (.i (.o (.i (.i (.h))))))
def p119 : P := .o (.o (.o (.i (.i (.i (.h))))))
def p120 : P := .i (.o (.o (.i (.i (.i (.h))))))
def p121 : P := .o (.i (.o (.i (.i (.i (.h))))))
def p122 : P := .i (.i (.o (.i (.i (.i (.h))))))
def p123 : P := .o (.o (.i (.i (.i (.i (.h))))))
def p124 : P := .i (.o (.i (.i (.i (.i (.h))))))
def p125 : P := .o (.i (.i (.i (.i (.i (.h))))))
def p126 : P := .i (.i (.i (.i (.i (.i (.h))))))
def p127 : P := .o (.o (.o (.o (.o (.o (.o (.h)))))))
def p128 : P := .i (.o (.o (.o (.o (.o (.o (.h)))))))
def p129 : P := .o (.i (.o (.o (.o (.o (.o (.h)))))))
def p130 : P := .i (.i (.o (.o (.o (.o (.o (.h)))))))
def p131 : P := .o (.o (.i (.o (.o (.o (.o (.h)))))))
def p132 : P := .i (.o (.i (.o (.o (.o (.o (.h)))))))
def p133 : P := .o (.i (.i (.o (.o (.o (.o (.h)))))))
def p134 : P := .i (.i (.i (.o (.o (.o (.o (.h)))))))
def p135 : P := .o (.o (.o (.i (.o (.o (.o (.h)))))))
def p136 : P := .i (.o (.o (.i (.o (.o (.o (.h)))))))
def p137 : P := .o (.i (.o (.i (.o (.o (.o (.h)))))))
def p138 : P := .i (.i (.o (.i (.o (.o (.o (.h)))))))
def p139 : P := .o (.o (.i (.i (.o (.o (.o (.h)))))))
def p140 : P := .i (.o (.i (.i (.o (.o (.o (.h)))))))
def p141 : P := .o (.i (.i (.i (.o (.o (.o (.h)))))))
def p142 : P := .i (.i (.i (.i (.o (.o (.o (.h)))))))
def p143 : P := .o (.o (.o (.o (.i (.o (.o (.h)))))))
def p144 : P := .i (.o (.o (.o (.i (.o (.o (.h)))))))
def p145 : P := .o (.i (.o (.o (.i (.o (.o (.h)))))))
def p146 : P := .i (.i (.o (.o (.i (.o (.o (.h)))))))
def p147 : P := .o (.o (.i (.o (.i (.o (.o (.h)))))))
def p148 : P := .i (.o (.i (.o (.i (.o (.o (.h)))))))
def p149 : P := .o (.i (.i (.o (.i (.o (.o (.h)))))))
def agw : P := .i (.i (.i (.o (.i (.o (.o (.h)))))))
def p151 : P := .o (.o (.o (.i (.i (.o (.o (.h)))))))
def p152 : P := .i (.o (.o (.i (.i (.o (.o (.h)))))))
def p153 : P := .o (.i (.o (.i (.i (.o (.o (.h)))))))
def p154 : P := .i (.i (.o (.i (.i (.o (.o (.h)))))))
def p155 : P := .o (.o (.i (.i (.i (.o (.o (.h)))))))
def p156 : P := .i (.o (.i (.i (.i (.o (.o (.h)))))))
def p157 : P := .o (.i (.i (.i (.i (.o (.o (.h)))))))
def p158 : P := .i (.i (.i (.i (.i (.o (.o (.h)))))))
def p159 : P := .o (.o (.o (.o (.o (.i (.o (.h)))))))
def p160 : P := .i (.o (.o (.o (.o (.i (.o (.h)))))))
abbrev kI : Nat := 37
def wI : Tr Ty := (tC (tJ (tN tB tI) .leaf) (tJ (tN tB .leaf) (tN tI .leaf)))
def a_plan_Check_f1 : Kp := [(p0, .bool), (p1, (.int .i64)), (p2, (.int .i64)), (p3, .any)]
def z_plan_Check_f1 : List (Rv × Ty) := []
def NE : List Ins := [I0 p9 (.load 1 false (.t p3)),
  I0 p10 (.mov (.t p1)),
  I0 p11 (.mov (.t p2)),
  I0 p12 (.build [(.int .i64 0), (.int .i64 0)] [(0, 1, (.t p10)), (1, 1, (.t p11))]),
  I0 p13 (.buildSlice 1 [(.int .i64 0), (.int .i64 0)] [(0, 2, (.t p12))]),
  I0 p14 (.append 2 (.t p9) (.t p13)),
  .op .always none (.store 1 (.t p3) (.t p14))]
def NY : List Ins := [I0 p7 (.mov (.t p0)),
  I0 p8 (.not (.t p7))]
def Bv : SC := .seq none (.reg [(none, NY)]) (.cond (.t p8) (.reg [(none, NE)]) (.skip))
def To : AFn := .code (a_plan_Check_f1.map (·.1)) (ik Bv) (z_plan_Check_f1.map (·.1))
abbrev dm : Nat := 54
def wT : Tr Ty := (tJ (tJ (tN tI tI) (tN tB tB)) (tJ (tN tI tI) (tC tB tB)))
def a_plan_within : Kp := [(p0, (.int .i64)), (p1, (.int .i64)), (p2, (.int .i64))]
def z_plan_within : List (Rv × Ty) := [(.t p6, .bool)]
def Sf : Kp := [(p14, .bool)]
def SD : List Ins := [I0 p7 (.mov (.t p0)),
  I0 p8 (.mov (.t p1)),
  I0 p9 (.bin .geq (.t p7) (.t p8)),
  I0 p10 (.mov (.t p9)),
  .op (.on p10 true) (some p11) (.mov (.t p0)),
  .op (.on p10 true) (some p12) (.mov (.t p2)),
  .op (.on p10 true) (some p13) (.bin .leq (.t p11) (.t p12)),
  I0 p14 (.pick (.t p10) (.t p13) (.c (.bool false)))]
def TC : List Ins := [I0 p6 (.mov (.t p14))]
def TH : List Ins := [I0 p6 (.mov (.c (.bool false)))]
def Gg : SC := .seq none (.reg [(none, TH)]) (.seq none (.reg [(some Sf, SD), (none, TC)]) (.ret))
def XY : AFn := .code (a_plan_within.map (·.1)) (ik Gg) (z_plan_within.map (·.1))
abbrev qD : Nat := 53
def zM : Tr Ty := (tJ (tJ (tN tB tI) (tJ tI tB)) (tN (tC tB tI) (tJ tI tB)))
def a_plan_power : Kp := [(p0, (.int .i64)), (p1, (.int .i64))]
def z_plan_power : List (Rv × Ty) := [(.t p4, .bool)]
def Vd : Kp := [(p14, .bool)]
def UU : List Ins := [I0 p5 (.mov (.t p0)),
  I0 p6 (.mov (.t p1)),
  .call .always (some p7) false (.c (.func 54 [] [])) [(.t p5), (.c (.int .i64 1)), (.t p6)],
  I0 p8 (.mov (.t p7)),
  .op (.on p8 true) (some p9) (.mov (.t p0)),
  .op (.on p8 true) (some p10) (.mov (.t p0)),
  .op (.on p8 true) (some p11) (.bin .sub (.t p10) (.c (.int .i64 1))),
  .op (.on p8 true) (some p12) (.bin .and (.t p9) (.t p11)),
  .op (.on p8 true) (some p13) (.bin .eql (.t p12) (.c (.int .i64 0))),
  I0 p14 (.pick (.t p8) (.t p13) (.c (.bool false)))]
def WD : List Ins := [I0 p4 (.mov (.t p14))]
def Wi : List Ins := [I0 p4 (.mov (.c (.bool false)))]
def JR : SC := .seq none (.reg [(none, Wi)]) (.seq none (.reg [(some Vd, UU), (none, WD)]) (.ret))
def aa5 : AFn := .code (a_plan_power.map (·.1)) (ik JR) (z_plan_power.map (·.1))
abbrev f8 : Nat := 38
def kL : Tr Ty := (tN (tN (tN (tN (tJ tI .leaf) (tC tB .leaf)) (tC tB (tC tB .leaf))) (tC (tC (tC tB .leaf) .leaf) (tJ (tJ tB .leaf) tB))) (tC (tJ (tJ (tJ tB .leaf) tB) (tN (tN tI .leaf) (tC tB .leaf))) (tC (tC (tC tB .leaf) (tJ tI .leaf)) (tN (tC tB .leaf) .leaf))))
def a_plan_machine : Kp := [(p0, .any)]
def z_plan_machine : List (Rv × Ty) := [(.t p2, .bool)]
def Q5 : Kp := [(p1, .any), (p10, .bool)]
def Qq : Kp := [(p1, .any), (p18, .bool)]
def PU : Kp := [(p1, .any), (p23, .bool)]
def Qe : Kp := [(p1, .any), (p28, .bool)]
def OX : Kp := [(p1, .any), (p33, .bool)]
def QI : Kp := [(p1, .any), (p38, .bool)]
def Qp : Kp := [(p44, .bool)]
def O4 : List Ins := [I0 p3 (.fa 1 (.t p1)),
  I0 p4 (.load 1 false (.t p3)),
  .call .always (some p5) false (.c (.func 53 [] [])) [(.t p4), (.c (.int .i64 16))],
  I0 p6 (.mov (.t p5)),
  .op (.on p6 true) (some p7) (.fa 0 (.t p1)),
  .op (.on p6 true) (some p8) (.load 1 false (.t p7)),
  .call (.on p6 true) (some p9) false (.c (.func 54 [] [])) [(.t p8), (.c (.int .i64 1)), (.c (.int .i64 4096))],
  I0 p10 (.pick (.t p6) (.t p9) (.c (.bool false)))]
def Q3 : List Ins := [I0 p11 (.mov (.t p10)),
  .op (.on p11 true) (some p12) (.fa 0 (.t p1)),
  .op (.on p11 true) (some p13) (.load 1 false (.t p12)),
  .op (.on p11 true) (some p14) (.fa 1 (.t p1)),
  .op (.on p11 true) (some p15) (.load 1 false (.t p14)),
  .op (.on p11 true) (some p16) (.bin .rem (.t p13) (.t p15)),
  .op (.on p11 true) (some p17) (.bin .eql (.t p16) (.c (.int .i64 0))),
  I0 p18 (.pick (.t p11) (.t p17) (.c (.bool false)))]
def Pb : List Ins := [I0 p19 (.mov (.t p18)),
  .op (.on p19 true) (some p20) (.fa 3 (.t p1)),
  .op (.on p19 true) (some p21) (.load 1 false (.t p20)),
  .call (.on p19 true) (some p22) false (.c (.func 53 [] [])) [(.t p21), (.c (.int .i64 4096))],
  I0 p23 (.pick (.t p19) (.t p22) (.c (.bool false)))]
def PL : List Ins := [I0 p24 (.mov (.t p23)),
  .op (.on p24 true) (some p25) (.fa 2 (.t p1)),
  .op (.on p24 true) (some p26) (.load 1 false (.t p25)),
  .call (.on p24 true) (some p27) false (.c (.func 54 [] [])) [(.t p26), (.c (.int .i64 1)), (.c (.int .i64 16))],
  I0 p28 (.pick (.t p24) (.t p27) (.c (.bool false)))]
def Rf : List Ins := [I0 p29 (.mov (.t p28)),
  .op (.on p29 true) (some p30) (.fa 4 (.t p1)),
  .op (.on p29 true) (some p31) (.load 1 false (.t p30)),
  .call (.on p29 true) (some p32) false (.c (.func 54 [] [])) [(.t p31), (.c (.int .i64 1)), (.c (.int .i64 16))],
  I0 p33 (.pick (.t p29) (.t p32) (.c (.bool false)))]
def Q6 : List Ins := [I0 p34 (.mov (.t p33)),
  .op (.on p34 true) (some p35) (.fa 5 (.t p1)),
  .op (.on p34 true) (some p36) (.load 1 false (.t p35)),
  .call (.on p34 true) (some p37) false (.c (.func 54 [] [])) [(.t p36), (.c (.int .i64 1)), (.c (.int .i64 64))],
  I0 p38 (.pick (.t p34) (.t p37) (.c (.bool false)))]
def PM : List Ins := [I0 p39 (.mov (.t p38)),
  .op (.on p39 true) (some p40) (.fa 16 (.t p1)),
  .op (.on p39 true) (some p41) (.load 1 false (.t p40)),
  .op (.on p39 true) (some p42) (.len .sl (.t p41)),
  .call (.on p39 true) (some p43) false (.c (.func 54 [] [])) [(.t p42), (.c (.int .i64 1)), (.c (.int .i64 8))],
  I0 p44 (.pick (.t p39) (.t p43) (.c (.bool false)))]
def PJ : List Ins := [I0 p2 (.mov (.t p44))]
def QE : List Ins := [I0 p1 (.box (.t p0)),
  I0 p2 (.mov (.c (.bool false)))]
def C0 : SC := .seq none (.reg [(none, QE)]) (.seq none (.reg [(some Q5, O4), (some Qq, Q3), (some PU, Pb), (some Qe, PL), (some OX, Rf), (some QI, Q6), (some Qp, PM), (none, PJ)]) (.ret))
def Vb : AFn := .code (a_plan_machine.map (·.1)) (ik C0) (z_plan_machine.map (·.1))
abbrev fh : Nat := 39
def iy : Tr Ty := (tN (tN (.node (.node (tJ .leaf tI) (some (.int .u64)) tB) (some (.int .u64)) (.node (.node .leaf (some (.int .u64)) .leaf) (some (.int .u64)) (.node tB (some (.int .u64)) .leaf))) (.node (.node .leaf (some (.int .u64)) (tC (.node .leaf (some (.int .u64)) .leaf) .leaf)) (some (.int .u64)) (.node (.node tI (some (.int .u64)) .leaf) (some (.int .u64)) (tN tB .leaf)))) (tJ (tN (tN (tJ (.node .leaf (some (.int .u64)) .leaf) .leaf) (.node (.node .leaf (some (.int .u64)) .leaf) (some (.int .u64)) .leaf)) (tN (.node tI (some (.int .u64)) .leaf) (tJ (.node .leaf (some (.int .u64)) .leaf) .leaf))) (tN (tN (tN (.node .leaf (some (.int .u64)) .leaf) .leaf) (tC tB .leaf)) (tN tB (.node tB (some (.int .u64)) .leaf)))))
def a_cost_Check : Kp := [(p0, .any)]
def z_cost_Check : List (Rv × Ty) := [(.t p2, (.int .i64))]
def UO : Kp := []
def LE : Kp := [(p35, .any), (p36, (.int .i64)), (p37, (.int .i64))]
def VC : Kp := [(p35, .any), (p36, (.int .i64)), (p37, (.int .i64)), (p46, .bool)]
def Wn : Kp := [(p1, .any)]
def Mq : Kp := [(p1, .any), (p3, (.int .u64)), (p14, .any), (p15, (.int .i64)), (p16, (.int .i64))]
def Vq : Kp := [(p1, .any), (p5, (.int .u64)), (p14, .any), (p15, (.int .i64)), (p16, (.int .i64)), (p26, .bool)]
def V5 : List Ins := [I0 p2 (.mov (.c (.int .i64 0)))]
def VF : List Ins := [I0 p47 (.bin .add (.t p37) (.c (.int .i64 1))),
  I0 p37 (.mov (.t p47))]
def UF : List Ins := [I0 p2 (.mov (.c (.int .i64 100)))]
def VI : List Ins := [I0 p41 (.mov (.t p7)),
  I0 p42 (.bin .lss (.t p41) (.c (.int .u64 1))),
  I0 p43 (.mov (.t p42)),
  .op (.on p43 false) (some p44) (.mov (.t p7)),
  .op (.on p43 false) (some p45) (.bin .gtr (.t p44) (.c (.int .u64 65536))),
  I0 p46 (.pick (.t p43) (.c (.bool true)) (.t p45))]
def WJ : List Ins := [I0 p39 (.iaS 1 (.t p35) (.t p37)),
  I0 p40 (.load 1 false (.t p39)),
  I0 p7 (.mov (.t p40))]
def Vm : List Ins := [I0 p38 (.bin .lss (.t p37) (.t p36))]
def Wc : List Ins := [I0 p29 (.fa 3 (.t p1)),
  I0 p30 (.load 1 false (.t p29)),
  I0 p31 (.fa 4 (.t p1)),
  I0 p32 (.load 1 false (.t p31)),
  I0 p33 (.fa 5 (.t p1)),
  I0 p34 (.load 1 false (.t p33)),
  I0 p35 (.buildSlice 3 [(.int .u64 0), (.int .u64 0), (.int .u64 0)] [(0, 1, (.t p30)), (1, 1, (.t p32)), (2, 1, (.t p34))]),
  I0 p36 (.len .sl (.t p35)),
  I0 p37 (.mov (.c (.int .i64 0)))]
def UE : List Ins := [I0 p28 (.bin .add (.t p16) (.c (.int .i64 1))),
  I0 p16 (.mov (.t p28))]
def UQ : List Ins := [I0 p27 (.mov (.t p5)),
  I0 p3 (.mov (.t p27))]
def VZ : List Ins := [I0 p2 (.mov (.c (.int .i64 100)))]
def S9 : List Ins := [I0 p20 (.mov (.t p5)),
  I0 p21 (.mov (.t p3)),
  I0 p22 (.bin .lss (.t p20) (.t p21)),
  I0 p23 (.mov (.t p22)),
  .op (.on p23 false) (some p24) (.mov (.t p5)),
  .op (.on p23 false) (some p25) (.bin .gtr (.t p24) (.c (.int .u64 65536))),
  I0 p26 (.pick (.t p23) (.c (.bool true)) (.t p25))]
def TO : List Ins := [I0 p18 (.iaS 1 (.t p14) (.t p16)),
  I0 p19 (.load 1 false (.t p18)),
  I0 p5 (.mov (.t p19))]
def TK : List Ins := [I0 p17 (.bin .lss (.t p16) (.t p15))]
def Tf : List Ins := [I0 p8 (.fa 0 (.t p1)),
  I0 p9 (.load 1 false (.t p8)),
  I0 p10 (.fa 1 (.t p1)),
  I0 p11 (.load 1 false (.t p10)),
  I0 p12 (.fa 2 (.t p1)),
  I0 p13 (.load 1 false (.t p12)),
  I0 p14 (.buildSlice 3 [(.int .u64 0), (.int .u64 0), (.int .u64 0)] [(0, 1, (.t p9)), (1, 1, (.t p11)), (2, 1, (.t p13))]),
  I0 p15 (.len .sl (.t p14)),
  I0 p16 (.mov (.c (.int .i64 0)))]
def Tg : List Ins := [I0 p3 (.mov (.c (.int .u64 1)))]
def TA : List Ins := [I0 p1 (.box (.t p0)),
  I0 p2 (.mov (.c (.int .i64 0)))]
def Kv : SC := .seq none (.reg [(none, TA)]) (.seq none (.reg [(none, Tg)]) (.seq none (.seq none (.reg [(none, Tf)]) (.block 0 (some Wn) (.loop Mq (.seq none (.reg [(none, TK)]) (.seq none (.cond (.t p17) (.skip) (.exit 0)) (.seq none (.block 1 none (.seq none (.reg [(none, TO)]) (.seq none (.seq none (.reg [(some Vq, S9)]) (.cond (.t p26) (.seq none (.reg [(none, VZ)]) (.ret)) (.skip))) (.reg [(none, UQ)])))) (.reg [(none, UE)]))))))) (.seq none (.seq none (.reg [(none, Wc)]) (.block 2 (some UO) (.loop LE (.seq none (.reg [(none, Vm)]) (.seq none (.cond (.t p38) (.skip) (.exit 2)) (.seq none (.block 3 none (.seq none (.reg [(none, WJ)]) (.seq none (.reg [(some VC, VI)]) (.cond (.t p46) (.seq none (.reg [(none, UF)]) (.ret)) (.skip))))) (.reg [(none, VF)]))))))) (.seq none (.reg [(none, V5)]) (.ret)))))
def aa9 : AFn := .code (a_cost_Check.map (·.1)) (ik Kv) (z_cost_Check.map (·.1))
abbrev gw : Nat := 31
def ep : Tr Ty := (tN (tJ (tN (tJ tI .leaf) tI) (tJ (tN tI .leaf) tI)) (tN (tJ (tJ tB .leaf) .leaf) (tN (tJ tI .leaf) .leaf)))
def a_slices_Index___int_int_ : Kp := [(p0, .any), (p1, (.int .i64))]
def z_slices_Index___int_int_ : List (Rv × Ty) := [(.t p4, (.int .i64))]
def xN : Kp := []
def qW : Kp := [(p0, .any), (p1, (.int .i64)), (p7, (.int .i64)), (p8, (.int .i64))]
def xn : List Ins := [I0 p4 (.mov (.c (.int .i64 (-1))))]
def xz : List Ins := [I0 p18 (.bin .add (.t p8) (.c (.int .i64 1))),
  I0 p8 (.mov (.t p18))]
def xu : List Ins := [I0 p17 (.mov (.t p5)),
  I0 p4 (.mov (.t p17))]
def yi : List Ins := [I0 p11 (.mov (.t p1)),
  I0 p12 (.mov (.t p0)),
  I0 p13 (.mov (.t p5)),
  I0 p14 (.iaS 1 (.t p12) (.t p13)),
  I0 p15 (.load 1 false (.t p14)),
  I0 p16 (.bin .eql (.t p11) (.t p15))]
def xM : List Ins := [I0 p10 (.mov (.t p8)),
  I0 p5 (.mov (.t p10))]
def yd : List Ins := [I0 p9 (.bin .lss (.t p8) (.t p7))]
def xr : List Ins := [I0 p6 (.mov (.t p0)),
  I0 p7 (.len .sl (.t p6)),
  I0 p8 (.mov (.c (.int .i64 0)))]
def xy : List Ins := [I0 p4 (.mov (.c (.int .i64 0)))]
def oK : SC := .seq none (.reg [(none, xy)]) (.seq none (.seq none (.reg [(none, xr)]) (.block 0 (some xN) (.loop qW (.seq none (.reg [(none, yd)]) (.seq none (.cond (.t p9) (.skip) (.exit 0)) (.seq none (.block 1 none (.seq none (.reg [(none, xM)]) (.seq none (.reg [(none, yi)]) (.cond (.t p16) (.seq none (.reg [(none, xu)]) (.ret)) (.skip))))) (.reg [(none, xz)]))))))) (.seq none (.reg [(none, xn)]) (.ret)))
def Aa : AFn := .code (a_slices_Index___int_int_.map (·.1)) (ik oK) (z_slices_Index___int_int_.map (·.1))
abbrev eN : Nat := 72
def kM : Tr Ty := (tN (tJ (tN tI .leaf) .leaf) (tN (tC tB .leaf) tI))
def a_slices_Contains___int_int_ : Kp := [(p0, .any), (p1, (.int .i64))]
def z_slices_Contains___int_int_ : List (Rv × Ty) := [(.t p4, .bool)]
def uE : List Ins := [I0 p5 (.mov (.t p0)),
  I0 p6 (.mov (.t p1)),
  .call .always (some p7) false (.c (.func 31 [] [])) [(.t p5), (.t p6)],
  I0 p8 (.bin .geq (.t p7) (.c (.int .i64 0))),
  I0 p4 (.mov (.t p8))]
def uQ : List Ins := [I0 p4 (.mov (.c (.bool false)))]
def mI : SC := .seq none (.reg [(none, uQ)]) (.seq none (.reg [(none, uE)]) (.ret))
def vM : AFn := .code (a_slices_Contains___int_int_.map (·.1)) (ik mI) (z_slices_Contains___int_int_.map (·.1))
abbrev ob : Nat := 60
def fI : Tr Ty := (tN (tJ (tN (tJ (tN tB .leaf) (tJ tI tI)) (tN .leaf (tN tB .leaf))) (tN (tN (tJ tB tI) (tC tB tI)) (tN (tN tI .leaf) (tC .leaf tB)))) (tN (tC (tN (tN tI tI) (tC tI tB)) (tJ (tJ tI .leaf) (tJ .leaf tI))) (tJ (tN (tJ tB .leaf) (tJ tB tI)) (tN tI (tC tI .leaf)))))
def a_plan_colours : Kp := [(p0, .any), (p1, (.int .i64))]
def z_plan_colours : List (Rv × Ty) := [(.t p4, .bool)]
def Pl : Kp := [(p5, .any)]
def FC : Kp := [(p1, (.int .i64)), (p2, .any), (p5, .any), (p16, .any), (p17, (.int .i64)), (p18, (.int .i64))]
def Qv : Kp := [(p1, (.int .i64)), (p2, .any), (p5, .any), (p16, .any), (p17, (.int .i64)), (p18, (.int .i64))]
def FF : Kp := [(p1, (.int .i64)), (p2, .any), (p5, .any), (p7, (.int .i64)), (p16, .any), (p17, (.int .i64)), (p18, (.int .i64)), (p47, .any), (p48, (.int .i64)), (p49, (.int .i64))]
def Qi : Kp := [(p1, (.int .i64)), (p2, .any), (p5, .any), (p6, (.int .i64)), (p7, (.int .i64)), (p16, .any), (p17, (.int .i64)), (p18, (.int .i64)), (p30, .bool)]
def Q9 : Kp := [(p1, (.int .i64)), (p2, .any), (p5, .any), (p7, (.int .i64)), (p16, .any), (p17, (.int .i64)), (p18, (.int .i64)), (p43, .bool)]
def Py : List Ins := [I0 p59 (.mov (.t p5)),
  I0 p60 (.len .sl (.t p59)),
  I0 p61 (.bin .gtr (.t p60) (.c (.int .i64 0))),
  I0 p4 (.mov (.t p61))]
def O0 : List Ins := [I0 p58 (.bin .add (.t p18) (.c (.int .i64 1))),
  I0 p18 (.mov (.t p58))]
def PD : List Ins := [I0 p57 (.bin .add (.t p49) (.c (.int .i64 1))),
  I0 p49 (.mov (.t p57))]
def Qw : List Ins := [I0 p4 (.mov (.c (.bool false)))]
def QV : List Ins := [I0 p53 (.fa 0 (.t p9)),
  I0 p54 (.load 1 false (.t p53)),
  I0 p55 (.mov (.t p7)),
  .call .always (some p56) false (.c (.func 72 [] [])) [(.t p54), (.t p55)]]
def Qc : List Ins := [I0 p51 (.iaS 8 (.t p47) (.t p49)),
  I0 p52 (.load 8 true (.t p51)),
  I0 p9 (.alloc [.nilslice, (.int .i64 0), (.int .i64 0), (.int .i64 0), (.int .i64 0), (.int .i64 0), (.int .i64 0), (.int .i64 0)]),
  .op .always none (.store 8 (.t p9) (.t p52))]
def PT : List Ins := [I0 p50 (.bin .lss (.t p49) (.t p48))]
def Qg : List Ins := [I0 p44 (.fa 16 (.t p2)),
  I0 p45 (.load 1 false (.t p44)),
  I0 p46 (.mov (.t p1)),
  I0 p47 (.sl (.sl 8) (.t p45) none (some (.t p46)) none),
  I0 p48 (.len .sl (.t p47)),
  I0 p49 (.mov (.c (.int .i64 0)))]
def Rh : List Ins := [I0 p4 (.mov (.c (.bool false)))]
def Ql : List Ins := [I0 p23 (.mov (.t p7)),
  I0 p24 (.bin .lss (.t p23) (.c (.int .i64 0))),
  I0 p25 (.mov (.t p24)),
  .op (.on p25 false) (some p26) (.mov (.t p7)),
  .op (.on p25 false) (some p27) (.fa 1 (.t p2)),
  .op (.on p25 false) (some p28) (.load 1 false (.t p27)),
  .op (.on p25 false) (some p29) (.bin .geq (.t p26) (.t p28)),
  I0 p30 (.pick (.t p25) (.c (.bool true)) (.t p29))]
def NG : List Ins := [I0 p31 (.mov (.t p30)),
  .op (.on p31 false) (some p32) (.mov (.t p6)),
  .op (.on p31 false) (some p33) (.bin .gtr (.t p32) (.c (.int .i64 0))),
  .op (.on p31 false) (some p34) (.mov (.t p33)),
  .op (.on p34 true) (some p35) (.mov (.t p5)),
  .op (.on p34 true) (some p36) (.mov (.t p6)),
  .op (.on p34 true) (some p37) (.bin .sub (.t p36) (.c (.int .i64 1))),
  .op (.on p34 true) (some p38) (.iaS 1 (.t p35) (.t p37)),
  .op (.on p34 true) (some p39) (.load 1 false (.t p38)),
  .op (.on p34 true) (some p40) (.mov (.t p7)),
  .op (.on p34 true) (some p41) (.bin .geq (.t p39) (.t p40)),
  .op (.on p31 false) (some p42) (.pick (.t p34) (.t p41) (.c (.bool false))),
  I0 p43 (.pick (.t p31) (.c (.bool true)) (.t p42))]
def NI : List Ins := [I0 p20 (.mov (.t p18)),
  I0 p21 (.iaS 1 (.t p16) (.t p18)),
  I0 p22 (.load 1 false (.t p21)),
  I0 p6 (.mov (.t p20)),
  I0 p7 (.mov (.t p22))]
def Nm : List Ins := [I0 p19 (.bin .lss (.t p18) (.t p17))]
def N5 : List Ins := [I0 p16 (.mov (.t p5)),
  I0 p17 (.len .sl (.t p16)),
  I0 p18 (.mov (.c (.int .i64 0)))]
def Nv : List Ins := [I0 p10 (.fa 16 (.t p2)),
  I0 p11 (.load 1 false (.t p10)),
  I0 p12 (.mov (.t p1)),
  I0 p13 (.iaS 8 (.t p11) (.t p12)),
  I0 p14 (.fa 0 (.t p13)),
  I0 p15 (.load 1 false (.t p14)),
  I0 p5 (.mov (.t p15))]
def Ob : List Ins := [I0 p2 (.box (.t p0)),
  I0 p4 (.mov (.c (.bool false)))]
def CX : SC := .seq none (.reg [(none, Ob)]) (.seq none (.reg [(none, Nv)]) (.seq none (.seq none (.reg [(none, N5)]) (.block 0 (some Pl) (.loop FC (.seq none (.reg [(none, Nm)]) (.seq none (.cond (.t p19) (.skip) (.exit 0)) (.seq none (.block 1 none (.seq none (.reg [(none, NI)]) (.seq none (.seq none (.reg [(some Qi, Ql), (some Q9, NG)]) (.cond (.t p43) (.seq none (.reg [(none, Rh)]) (.ret)) (.skip))) (.seq none (.reg [(none, Qg)]) (.block 2 (some Qv) (.loop FF (.seq none (.reg [(none, PT)]) (.seq none (.cond (.t p50) (.skip) (.exit 2)) (.seq none (.block 3 none (.seq none (.reg [(none, Qc)]) (.seq none (.reg [(none, QV)]) (.cond (.t p56) (.seq none (.reg [(none, Qw)]) (.ret)) (.skip))))) (.reg [(none, PD)])))))))))) (.reg [(none, O0)]))))))) (.seq none (.reg [(none, Py)]) (.ret))))
def Wj : AFn := .code (a_plan_colours.map (·.1)) (ik CX) (z_plan_colours.map (·.1))
abbrev mq : Nat := 52
def GI : Tr Ty := (tN (tN (tN tI .leaf) .leaf) (tJ tI tI))
def a_plan_each : Kp := [(p0, .any)]
def z_plan_each : List (Rv × Ty) := [(.t p2, (.int .i64))]
def X1 : List Ins := [I0 p3 (.fa 0 (.t p1)),
  I0 p4 (.load 1 false (.t p3)),
  I0 p5 (.fa 1 (.t p1)),
  I0 p6 (.load 1 false (.t p5)),
  I0 p7 (.bin .quo (.t p4) (.t p6)),
  I0 p2 (.mov (.t p7))]
def Y0 : List Ins := [I0 p1 (.box (.t p0)),
  I0 p2 (.mov (.c (.int .i64 0)))]
def N3 : SC := .seq none (.reg [(none, Y0)]) (.seq none (.reg [(none, X1)]) (.ret))
def aeo : AFn := .code (a_plan_each.map (·.1)) (ik N3) (z_plan_each.map (·.1))
abbrev lA : Nat := 34
def C1 : Tr Ty := (tN (tJ (tN tI tI) (tN .leaf tI)) (tN tI (tN .leaf tI)))
def a_plan_total : Kp := [(p0, .any), (p1, (.int .i64))]
def z_plan_total : List (Rv × Ty) := [(.t p4, (.int .i64))]
def UN : List Ins := [I0 p5 (.fa 16 (.t p2)),
  I0 p6 (.load 1 false (.t p5)),
  I0 p7 (.mov (.t p1)),
  I0 p8 (.iaS 8 (.t p6) (.t p7)),
  I0 p9 (.fa 0 (.t p8)),
  I0 p10 (.load 1 false (.t p9)),
  I0 p11 (.len .sl (.t p10)),
  I0 p12 (.load 17 true (.t p2)),
  .call .always (some p13) true (.c (.func 52 [] [])) [(.t p12)],
  I0 p14 (.bin .mul (.t p11) (.t p13)),
  I0 p4 (.mov (.t p14))]
def UL : List Ins := [I0 p2 (.box (.t p0)),
  I0 p4 (.mov (.c (.int .i64 0)))]
def Kh : SC := .seq none (.reg [(none, UL)]) (.seq none (.reg [(none, UN)]) (.ret))
def aal : AFn := .code (a_plan_total.map (·.1)) (ik Kh) (z_plan_total.map (·.1))
abbrev pu : Nat := 61
def dD : Tr Ty := (tN (tJ (tN (tJ (tN (tC tI tI) (tN tI .leaf)) (tJ (tN tB tB) (tN tI .leaf))) (tJ (tC (tN tB tI) (tN tB .leaf)) (tC (tJ tB .leaf) tB))) (tN (tN (tN .leaf (tJ tI .leaf)) (tC .leaf (tN tI .leaf))) (tN (tC (tN tB tI) tI) (tJ (tC tI .leaf) (tN tI .leaf))))) (tN (tC (tJ (tN (tC tI tI) .leaf) (tC (tJ tB tB) .leaf)) (tN (tC (tJ tB .leaf) (tJ tI .leaf)) (tN tB (tJ tI .leaf)))) (tN (tN (tJ (tJ tI tI) (tJ tB .leaf)) (tC (tJ tB .leaf) (tJ tI .leaf))) (tJ (tN (tJ tI tI) (tN tI .leaf)) (tC (tJ tI .leaf) tI)))))
def a_plan_quotas : Kp := [(p0, .any), (p1, (.int .i64))]
def z_plan_quotas : List (Rv × Ty) := [(.t p4, .bool)]
def Tx : Kp := [(p104, .bool)]
def Sr : Kp := [(p1, (.int .i64)), (p2, .any), (p5, .any), (p72, .bool)]
def Sd : Kp := [(p1, (.int .i64)), (p2, .any), (p5, .any), (p8, (.int .i64))]
def HF : Kp := [(p1, (.int .i64)), (p2, .any), (p5, .any), (p8, (.int .i64)), (p51, .any), (p52, (.int .i64)), (p53, (.int .i64))]
def IP : Kp := [(p1, (.int .i64)), (p2, .any), (p5, .any), (p8, (.int .i64)), (p51, .any), (p52, (.int .i64)), (p53, (.int .i64))]
def Th : Kp := [(p1, (.int .i64)), (p2, .any), (p5, .any)]
def HA : Kp := [(p1, (.int .i64)), (p2, .any), (p5, .any), (p39, .any), (p40, (.int .i64))]
def Sp : Kp := [(p1, (.int .i64)), (p2, .any), (p5, .any), (p26, .bool)]
def Tn : Kp := [(p1, (.int .i64)), (p2, .any), (p5, .any), (p32, .bool)]
def TE : List Ins := [I0 p79 (.mov (.t p11)),
  I0 p80 (.load 17 true (.t p2)),
  .call .always (some p81) false (.c (.func 52 [] [])) [(.t p80)],
  I0 p82 (.bin .leq (.t p79) (.t p81)),
  I0 p83 (.mov (.t p82)),
  .op (.on p83 true) (some p84) (.mov (.t p11)),
  .op (.on p83 true) (some p85) (.fa 2 (.t p5)),
  .op (.on p83 true) (some p86) (.load 1 false (.t p85)),
  .op (.on p83 true) (some p87) (.bin .add (.t p84) (.t p86)),
  .op (.on p83 true) (some p88) (.fa 3 (.t p5)),
  .op (.on p83 true) (some p89) (.load 1 false (.t p88)),
  .op (.on p83 true) (some p90) (.bin .add (.t p87) (.t p89)),
  .op (.on p83 true) (some p91) (.fa 4 (.t p5)),
  .op (.on p83 true) (some p92) (.load 1 false (.t p91)),
  .op (.on p83 true) (some p93) (.bin .add (.t p90) (.t p92)),
  .op (.on p83 true) (some p94) (.fa 5 (.t p5)),
  .op (.on p83 true) (some p95) (.load 1 false (.t p94)),
  .op (.on p83 true) (some p96) (.bin .add (.t p93) (.t p95)),
  .op (.on p83 true) (some p97) (.fa 6 (.t p5)),
  .op (.on p83 true) (some p98) (.load 1 false (.t p97)),
  .op (.on p83 true) (some p99) (.bin .add (.t p96) (.t p98)),
  .op (.on p83 true) (some p100) (.load 17 true (.t p2)),
  .op (.on p83 true) (some p101) (.mov (.t p1)),
  .call (.on p83 true) (some p102) true (.c (.func 34 [] [])) [(.t p100), (.t p101)],
  .op (.on p83 true) (some p103) (.bin .leq (.t p99) (.t p102)),
  I0 p104 (.pick (.t p83) (.t p103) (.c (.bool false)))]
def Sy : List Ins := [I0 p4 (.mov (.t p104))]
def S4 : List Ins := [I0 p76 (.fa 1 (.t p5)),
  I0 p77 (.load 1 false (.t p76)),
  I0 p78 (.bin .shl (.c (.int .i64 1)) (.t p77)),
  I0 p11 (.mov (.t p78))]
def TN : List Ins := [I0 p4 (.mov (.c (.bool true)))]
def TB : List Ins := [I0 p73 (.load 17 true (.t p2)),
  .call .always (some p74) false (.c (.func 38 [] [])) [(.t p73)],
  I0 p75 (.not (.t p74))]
def Tb : List Ins := [I0 p4 (.mov (.c (.bool false)))]
def Tv : List Ins := [I0 p65 (.fa 7 (.t p5)),
  I0 p66 (.load 1 false (.t p65)),
  .call .always (some p67) false (.c (.func 54 [] [])) [(.t p66), (.c (.int .i64 1)), (.c (.int .i64 1024))],
  I0 p68 (.not (.t p67)),
  I0 p69 (.mov (.t p68)),
  .op (.on p69 false) (some p70) (.mov (.t p8)),
  .op (.on p69 false) (some p71) (.bin .gtr (.t p70) (.c (.int .i64 1024))),
  I0 p72 (.pick (.t p69) (.c (.bool true)) (.t p71))]
def T2 : List Ins := [I0 p64 (.bin .add (.t p53) (.c (.int .i64 1))),
  I0 p53 (.mov (.t p64))]
def SG : List Ins := [I0 p60 (.mov (.t p8)),
  I0 p61 (.fa 7 (.t p10)),
  I0 p62 (.load 1 false (.t p61)),
  I0 p63 (.bin .add (.t p60) (.t p62)),
  I0 p8 (.mov (.t p63))]
def SN : List Ins := [I0 p57 (.fa 7 (.t p10)),
  I0 p58 (.load 1 false (.t p57)),
  .call .always (some p59) false (.c (.func 54 [] [])) [(.t p58), (.c (.int .i64 1)), (.c (.int .i64 1024))]]
def QB : List Ins := [I0 p55 (.iaS 8 (.t p51) (.t p53)),
  I0 p56 (.load 8 true (.t p55)),
  I0 p10 (.alloc [.nilslice, (.int .i64 0), (.int .i64 0), (.int .i64 0), (.int .i64 0), (.int .i64 0), (.int .i64 0), (.int .i64 0)]),
  .op .always none (.store 8 (.t p10) (.t p56))]
def Qt : List Ins := [I0 p54 (.bin .lss (.t p53) (.t p52))]
def P6 : List Ins := [I0 p47 (.fa 16 (.t p2)),
  I0 p48 (.load 1 false (.t p47)),
  I0 p49 (.mov (.t p1)),
  I0 p50 (.bin .add (.t p49) (.c (.int .i64 1))),
  I0 p51 (.sl (.sl 8) (.t p48) none (some (.t p50)) none),
  I0 p52 (.len .sl (.t p51)),
  I0 p53 (.mov (.c (.int .i64 0)))]
def Pr : List Ins := [I0 p8 (.mov (.c (.int .i64 0)))]
def Qx : List Ins := [I0 p46 (.bin .add (.t p40) (.c (.int .i64 1))),
  I0 p40 (.mov (.t p46))]
def Rl : List Ins := [I0 p4 (.mov (.c (.bool false)))]
def Pp : List Ins := [I0 p43 (.mov (.t p7)),
  .call .always (some p44) false (.c (.func 54 [] [])) [(.t p43), (.c (.int .i64 1)), (.c (.int .i64 4096))],
  I0 p45 (.not (.t p44))]
def Ph : List Ins := [I0 p42 (.idxA 1 3 false (.t p39) (.t p40)),
  I0 p7 (.mov (.t p42))]
def P3 : List Ins := [I0 p41 (.bin .lss (.t p40) (.c (.int .i64 3)))]
def Qj : List Ins := [I0 p33 (.fa 4 (.t p5)),
  I0 p34 (.load 1 false (.t p33)),
  I0 p35 (.fa 5 (.t p5)),
  I0 p36 (.load 1 false (.t p35)),
  I0 p37 (.fa 6 (.t p5)),
  I0 p38 (.load 1 false (.t p37)),
  I0 p39 (.build [(.int .i64 0), (.int .i64 0), (.int .i64 0)] [(0, 1, (.t p34)), (1, 1, (.t p36)), (2, 1, (.t p38))]),
  I0 p40 (.mov (.c (.int .i64 0)))]
def Rj : List Ins := [I0 p4 (.mov (.c (.bool false)))]
def O5 : List Ins := [I0 p17 (.fa 1 (.t p5)),
  I0 p18 (.load 1 false (.t p17)),
  .call .always (some p19) false (.c (.func 54 [] [])) [(.t p18), (.c (.int .i64 0)), (.c (.int .i64 3))],
  I0 p20 (.not (.t p19)),
  I0 p21 (.mov (.t p20)),
  .op (.on p21 false) (some p22) (.fa 2 (.t p5)),
  .op (.on p21 false) (some p23) (.load 1 false (.t p22)),
  .call (.on p21 false) (some p24) false (.c (.func 54 [] [])) [(.t p23), (.c (.int .i64 2)), (.c (.int .i64 4096))],
  .op (.on p21 false) (some p25) (.not (.t p24)),
  I0 p26 (.pick (.t p21) (.c (.bool true)) (.t p25))]
def Qy : List Ins := [I0 p27 (.mov (.t p26)),
  .op (.on p27 false) (some p28) (.fa 3 (.t p5)),
  .op (.on p27 false) (some p29) (.load 1 false (.t p28)),
  .call (.on p27 false) (some p30) false (.c (.func 54 [] [])) [(.t p29), (.c (.int .i64 4)), (.c (.int .i64 4096))],
  .op (.on p27 false) (some p31) (.not (.t p30)),
  I0 p32 (.pick (.t p27) (.c (.bool true)) (.t p31))]
def OZ : List Ins := [I0 p12 (.fa 16 (.t p2)),
  I0 p13 (.load 1 false (.t p12)),
  I0 p14 (.mov (.t p1)),
  I0 p15 (.iaS 8 (.t p13) (.t p14)),
  I0 p16 (.load 8 true (.t p15)),
  I0 p5 (.alloc [.nilslice, (.int .i64 0), (.int .i64 0), (.int .i64 0), (.int .i64 0), (.int .i64 0), (.int .i64 0), (.int .i64 0)]),
  .op .always none (.store 8 (.t p5) (.t p16))]
def Pw : List Ins := [I0 p2 (.box (.t p0)),
  I0 p4 (.mov (.c (.bool false)))]
def GD : SC := .seq none (.reg [(none, Pw)]) (.seq none (.reg [(none, OZ)]) (.seq none (.seq none (.reg [(some Sp, O5), (some Tn, Qy)]) (.cond (.t p32) (.seq none (.reg [(none, Rj)]) (.ret)) (.skip))) (.seq none (.seq none (.reg [(none, Qj)]) (.block 0 (some Th) (.loop HA (.seq none (.reg [(none, P3)]) (.seq none (.cond (.t p41) (.skip) (.exit 0)) (.seq none (.block 1 none (.seq none (.reg [(none, Ph)]) (.seq none (.reg [(none, Pp)]) (.cond (.t p45) (.seq none (.reg [(none, Rl)]) (.ret)) (.skip))))) (.reg [(none, Qx)]))))))) (.seq none (.reg [(none, Pr)]) (.seq none (.seq none (.reg [(none, P6)]) (.block 2 (some Sd) (.loop HF (.seq none (.reg [(none, Qt)]) (.seq none (.cond (.t p54) (.skip) (.exit 2)) (.seq none (.block 3 (some IP) (.seq none (.reg [(none, QB)]) (.seq none (.reg [(none, SN)]) (.cond (.t p59) (.reg [(none, SG)]) (.skip))))) (.reg [(none, T2)]))))))) (.seq none (.seq none (.reg [(some Sr, Tv)]) (.cond (.t p72) (.seq none (.reg [(none, Tb)]) (.ret)) (.skip))) (.seq none (.seq none (.reg [(none, TB)]) (.cond (.t p75) (.seq none (.reg [(none, TN)]) (.ret)) (.skip))) (.seq none (.reg [(none, S4)]) (.seq none (.reg [(some Tx, TE), (none, Sy)]) (.ret))))))))))
def Yo : AFn := .code (a_plan_quotas.map (·.1)) (ik GD) (z_plan_quotas.map (·.1))
abbrev mj : Nat := 42
def tv : Tr Ty := (tN (tJ (tN tI .leaf) (tC tB tB)) (tN (tJ tB tI) (tN tB tB)))
def a_plan_part : Kp := [(p0, .any), (p1, (.int .i64))]
def z_plan_part : List (Rv × Ty) := [(.t p4, (.int .i64))]
def XZ : List Ins := [I0 p4 (.mov (.c (.int .i64 0)))]
def Ye : List Ins := [I0 p4 (.mov (.c (.int .i64 110)))]
def Yv : List Ins := [I0 p4 (.mov (.c (.int .i64 111)))]
def Yp : List Ins := [I0 p11 (.load 17 true (.t p2)),
  I0 p12 (.mov (.t p1)),
  .call .always (some p13) false (.c (.func 61 [] [])) [(.t p11), (.t p12)],
  I0 p14 (.not (.t p13)),
  I0 p10 (.mov (.t p14))]
def YL : List Ins := [I0 p6 (.load 17 true (.t p2)),
  I0 p7 (.mov (.t p1)),
  .call .always (some p8) false (.c (.func 60 [] [])) [(.t p6), (.t p7)],
  I0 p9 (.not (.t p8)),
  I0 p5 (.mov (.t p9))]
def YU : List Ins := [I0 p2 (.box (.t p0)),
  I0 p4 (.mov (.c (.int .i64 0)))]
def Nk : SC := .seq none (.reg [(none, YU)]) (.seq none (.block 0 none (.seq none (.reg [(none, YL)]) (.cond (.t p5) (.seq none (.reg [(none, Ye)]) (.ret)) (.seq none (.reg [(none, Yp)]) (.cond (.t p10) (.seq none (.reg [(none, Yv)]) (.ret)) (.skip)))))) (.seq none (.reg [(none, XZ)]) (.ret)))
def aeB : AFn := .code (a_plan_part.map (·.1)) (ik Nk) (z_plan_part.map (·.1))
abbrev kd : Nat := 68
def wU : Tr Ty := (tJ (tJ (tN tI tI) (tN tB tB)) (tJ (tN tI tI) (tC tB tB)))
def a_cost_within : Kp := [(p0, (.int .i64)), (p1, (.int .i64)), (p2, (.int .i64))]
def z_cost_within : List (Rv × Ty) := [(.t p6, .bool)]
def T0 : Kp := [(p14, .bool)]
def Sl : List Ins := [I0 p7 (.mov (.t p0)),
  I0 p8 (.mov (.t p1)),
  I0 p9 (.bin .geq (.t p7) (.t p8)),
  I0 p10 (.mov (.t p9)),
  .op (.on p10 true) (some p11) (.mov (.t p0)),
  .op (.on p10 true) (some p12) (.mov (.t p2)),
  .op (.on p10 true) (some p13) (.bin .leq (.t p11) (.t p12)),
  I0 p14 (.pick (.t p10) (.t p13) (.c (.bool false)))]
def SP : List Ins := [I0 p6 (.mov (.t p14))]
def TI : List Ins := [I0 p6 (.mov (.c (.bool false)))]
def Gv : SC := .seq none (.reg [(none, TI)]) (.seq none (.reg [(some T0, Sl), (none, SP)]) (.ret))
def Yc : AFn := .code (a_cost_within.map (·.1)) (ik Gv) (z_cost_within.map (·.1))
abbrev px : Nat := 55
def nE : Tr Ty := (tN (tJ (tN (tJ tB tI) (tJ tB (.node .leaf (some (.int .u64)) .leaf))) (tN (tN tB (.node .leaf (some (.int .u64)) .leaf)) (tJ tB .leaf))) (tJ (tN (tJ tB tI) (tC tB (.node .leaf (some (.int .u64)) .leaf))) (.node (tJ tI .leaf) (some (.int .u64)) (tJ tI .leaf))))
def a_cost_Switch : Kp := [(p0, .any), (p1, (.int .i64)), (p2, (.int .i64))]
def z_cost_Switch : List (Rv × Ty) := [(.t p6, (.int .u64)), (.t p7, (.int .i64))]
def SX : Kp := [(p1, (.int .i64)), (p2, (.int .i64)), (p3, .any), (p21, .bool)]
def TX : List Ins := [I0 p22 (.mov (.t p1)),
  I0 p23 (.mov (.t p2)),
  I0 p24 (.bin .add (.t p22) (.t p23)),
  I0 p25 (.conv .u64 (.t p24)),
  I0 p26 (.fa 4 (.t p3)),
  I0 p27 (.load 1 false (.t p26)),
  I0 p28 (.bin .mul (.t p25) (.t p27)),
  I0 p6 (.mov (.t p28)),
  I0 p7 (.mov (.c (.int .i64 0)))]
def SR : List Ins := [I0 p6 (.mov (.c (.int .u64 0))),
  I0 p7 (.mov (.c (.int .i64 2)))]
def Sx : List Ins := [I0 p14 (.mov (.t p1)),
  .call .always (some p15) false (.c (.func 68 [] [])) [(.t p14), (.c (.int .i64 0)), (.c (.int .i64 65536))],
  I0 p16 (.not (.t p15)),
  I0 p17 (.mov (.t p16)),
  .op (.on p17 false) (some p18) (.mov (.t p2)),
  .call (.on p17 false) (some p19) false (.c (.func 68 [] [])) [(.t p18), (.c (.int .i64 0)), (.c (.int .i64 64))],
  .op (.on p17 false) (some p20) (.not (.t p19)),
  I0 p21 (.pick (.t p17) (.c (.bool true)) (.t p20))]
def TL : List Ins := [I0 p13 (.mov (.t p8)),
  I0 p6 (.mov (.c (.int .u64 0))),
  I0 p7 (.mov (.t p13))]
def Sw : List Ins := [I0 p11 (.mov (.t p8)),
  I0 p12 (.bin .neq (.t p11) (.c (.int .i64 0)))]
def Te : List Ins := [I0 p9 (.load 6 true (.t p3)),
  .call .always (some p10) false (.c (.func 39 [] [])) [(.t p9)],
  I0 p8 (.mov (.t p10))]
def TZ : List Ins := [I0 p3 (.box (.t p0)),
  I0 p6 (.mov (.c (.int .u64 0))),
  I0 p7 (.mov (.c (.int .i64 0)))]
def Gz : SC := .seq none (.reg [(none, TZ)]) (.seq none (.seq none (.reg [(none, Te)]) (.seq none (.reg [(none, Sw)]) (.cond (.t p12) (.seq none (.reg [(none, TL)]) (.ret)) (.skip)))) (.seq none (.seq none (.reg [(some SX, Sx)]) (.cond (.t p21) (.seq none (.reg [(none, SR)]) (.ret)) (.skip))) (.seq none (.reg [(none, TX)]) (.ret))))
def Y2 : AFn := .code (a_cost_Switch.map (·.1)) (ik Gz) (z_cost_Switch.map (·.1))
abbrev rk : Nat := 69
def iz : Tr Ty := (tN (tN (tN (tJ (tJ tB .leaf) (tC tB .leaf)) (tC (tJ tI .leaf) (tC tB .leaf))) (tJ (tJ (tC tB .leaf) (tC tI .leaf)) (tJ (tJ tB .leaf) tI))) (tN (tJ (tN (tC tB .leaf) tI) (tJ (tJ tB .leaf) (tN tB .leaf))) (tC (tJ .leaf (tC tB .leaf)) (tC (tC tB .leaf) tB))))
def a_cost_asked : Kp := [(p0, .any), (p1, .any)]
def z_cost_asked : List (Rv × Ty) := [(.t p4, (.int .i64))]
def Uz : Kp := [(p3, .any), (p32, .bool)]
def WN : Kp := [(p3, .any), (p38, .bool)]
def UZ : Kp := [(p44, .bool)]
def Vx : Kp := [(p3, .any), (p6, .bool)]
def Lo : Kp := [(p3, .any), (p6, .bool), (p13, (.int .i64))]
def Wo : Kp := [(p3, .any), (p13, (.int .i64)), (p23, .bool)]
def Wb : List Ins := [I0 p4 (.mov (.c (.int .i64 0)))]
def Vf : List Ins := [I0 p4 (.mov (.c (.int .i64 2)))]
def Ut : List Ins := [I0 p25 (.mov (.t p6)),
  I0 p26 (.not (.t p25)),
  I0 p27 (.mov (.t p26)),
  .op (.on p27 false) (some p28) (.fa 1 (.t p3)),
  .op (.on p27 false) (some p29) (.load 1 false (.t p28)),
  .call (.on p27 false) (some p30) false (.c (.func 68 [] [])) [(.t p29), (.c (.int .i64 2)), (.c (.int .i64 4096))],
  .op (.on p27 false) (some p31) (.not (.t p30)),
  I0 p32 (.pick (.t p27) (.c (.bool true)) (.t p31))]
def Vn : List Ins := [I0 p33 (.mov (.t p32)),
  .op (.on p33 false) (some p34) (.fa 2 (.t p3)),
  .op (.on p33 false) (some p35) (.load 1 false (.t p34)),
  .call (.on p33 false) (some p36) false (.c (.func 68 [] [])) [(.t p35), (.c (.int .i64 1)), (.c (.int .i64 5120))],
  .op (.on p33 false) (some p37) (.not (.t p36)),
  I0 p38 (.pick (.t p33) (.c (.bool true)) (.t p37))]
def U5 : List Ins := [I0 p39 (.mov (.t p38)),
  .op (.on p39 false) (some p40) (.fa 3 (.t p3)),
  .op (.on p39 false) (some p41) (.load 1 false (.t p40)),
  .call (.on p39 false) (some p42) false (.c (.func 68 [] [])) [(.t p41), (.c (.int .i64 1)), (.c (.int .i64 4096))],
  .op (.on p39 false) (some p43) (.not (.t p42)),
  I0 p44 (.pick (.t p39) (.c (.bool true)) (.t p43))]
def V8 : List Ins := [I0 p24 (.bin .add (.t p13) (.c (.int .i64 1))),
  I0 p13 (.mov (.t p24))]
def V2 : List Ins := [I0 p16 (.mov (.t p6)),
  I0 p17 (.mov (.t p16)),
  .op (.on p17 false) (some p18) (.fa 0 (.t p3)),
  .op (.on p17 false) (some p19) (.load 1 false (.t p18)),
  .op (.on p17 false) (some p20) (.mov (.t p7)),
  .op (.on p17 false) (some p21) (.bin .shl (.c (.int .i64 1)) (.t p20)),
  .op (.on p17 false) (some p22) (.bin .eql (.t p19) (.t p21)),
  I0 p23 (.pick (.t p17) (.c (.bool true)) (.t p22))]
def WI : List Ins := [I0 p6 (.mov (.t p23))]
def VV : List Ins := [I0 p15 (.mov (.t p13)),
  I0 p7 (.mov (.t p15))]
def VY : List Ins := [I0 p14 (.bin .lss (.t p13) (.c (.int .i64 4)))]
def T1 : List Ins := [I0 p13 (.mov (.c (.int .i64 0)))]
def SM : List Ins := [I0 p6 (.mov (.c (.bool false)))]
def TJ : List Ins := [I0 p12 (.mov (.t p5)),
  I0 p4 (.mov (.t p12))]
def TD : List Ins := [I0 p10 (.mov (.t p5)),
  I0 p11 (.bin .neq (.t p10) (.c (.int .i64 0)))]
def Tc : List Ins := [I0 p8 (.load 6 true (.t p2)),
  .call .always (some p9) false (.c (.func 39 [] [])) [(.t p8)],
  I0 p5 (.mov (.t p9))]
def SW : List Ins := [I0 p2 (.box (.t p0)),
  I0 p3 (.box (.t p1)),
  I0 p4 (.mov (.c (.int .i64 0)))]
def KA : SC := .seq none (.reg [(none, SW)]) (.seq none (.seq none (.reg [(none, Tc)]) (.seq none (.reg [(none, TD)]) (.cond (.t p11) (.seq none (.reg [(none, TJ)]) (.ret)) (.skip)))) (.seq none (.reg [(none, SM)]) (.seq none (.seq none (.reg [(none, T1)]) (.block 0 (some Vx) (.loop Lo (.seq none (.reg [(none, VY)]) (.seq none (.cond (.t p14) (.skip) (.exit 0)) (.seq none (.block 1 none (.seq none (.reg [(none, VV)]) (.reg [(some Wo, V2), (none, WI)]))) (.reg [(none, V8)]))))))) (.seq none (.seq none (.reg [(some Uz, Ut), (some WN, Vn), (some UZ, U5)]) (.cond (.t p44) (.seq none (.reg [(none, Vf)]) (.ret)) (.skip))) (.seq none (.reg [(none, Wb)]) (.ret))))))
def aa6 : AFn := .code (a_cost_asked.map (·.1)) (ik KA) (z_cost_asked.map (·.1))
abbrev pA : Nat := 70
def lT : Tr Ty := (tN (tN (tN (tN (.node (.node .leaf (some (.int .u64)) .leaf) (some (.int .u64)) .leaf) (.node .leaf (some (.int .u64)) .leaf)) (tN .leaf (.node .leaf (some (.int .u64)) .leaf))) (tN (tN (.node (.node .leaf (some (.int .u64)) .leaf) (some (.int .u64)) .leaf) tI) (.node (.node .leaf (some (.int .u64)) .leaf) (some (.int .u64)) .leaf))) (tN (tN (tN (.node .leaf (some (.int .u64)) .leaf) .leaf) (tN tI (.node .leaf (some (.int .u64)) .leaf))) (tN (tN (.node (.node .leaf (some (.int .u64)) .leaf) (some (.int .u64)) .leaf) (.node .leaf (some (.int .u64)) .leaf)) (tN (.node .leaf (some (.int .u64)) .leaf) (.node .leaf (some (.int .u64)) .leaf)))))
def a_cost_bounds : Kp := [(p0, .any), (p1, .any)]
def z_cost_bounds : List (Rv × Ty) := [(.cell p4 11 true, .any)]
def S8 : List Ins := [I0 p37 (.mov (.t p11)),
  I0 p38 (.mkfunc 89 [] [(.t p5)]),
  I0 p39 (.mkfunc 90 [] [(.t p7), (.t p5)]),
  I0 p40 (.mkfunc 91 [] [(.t p5), (.t p3), (.t p7)]),
  I0 p41 (.load 1 false (.t p9)),
  I0 p42 (.load 1 false (.t p10)),
  I0 p43 (.mkfunc 92 [] [(.t p2), (.t p5)]),
  I0 p44 (.mkfunc 93 [] [(.t p9), (.t p10)]),
  I0 p45 (.mkfunc 94 [] [(.t p5), (.t p2), (.t p8)]),
  I0 p46 (.mkfunc 95 [] [(.t p5), (.t p2), (.t p8)]),
  I0 p47 (.mov (.t p11)),
  I0 p48 (.build [.nilfunc, .nilfunc, .nilfunc, .nilfunc, .nilfunc, .nilfunc, .nilfunc, .nilfunc, .nilfunc, .nilfunc, .nilfunc] [(0, 1, (.t p37)), (1, 1, (.t p38)), (2, 1, (.t p39)), (3, 1, (.t p40)), (4, 1, (.t p41)), (5, 1, (.t p42)), (6, 1, (.t p43)), (7, 1, (.t p44)), (8, 1, (.t p45)), (9, 1, (.t p46)), (10, 1, (.t p47))]),
  .op .always none (.store 11 (.t p4) (.t p48))]
def Ta : List Ins := [I0 p11 (.mov (.c (.func 88 [] [])))]
def SQ : List Ins := [I0 p36 (.mkfunc 87 [] [(.t p6)]),
  I0 p10 (.alloc [.nilfunc]),
  .op .always none (.store 1 (.t p10) (.t p36))]
def TY : List Ins := [I0 p35 (.mkfunc 86 [] [(.t p5)]),
  I0 p9 (.alloc [.nilfunc]),
  .op .always none (.store 1 (.t p9) (.t p35))]
def TP : List Ins := [I0 p24 (.fa 1 (.t p3)),
  I0 p25 (.load 1 false (.t p24)),
  I0 p26 (.conv .u64 (.t p25)),
  I0 p27 (.bin .mul (.c (.int .u64 2)) (.t p26)),
  I0 p28 (.bin .add (.t p27) (.c (.int .u64 1))),
  I0 p29 (.fa 4 (.t p2)),
  I0 p30 (.load 1 false (.t p29)),
  I0 p31 (.bin .mul (.t p28) (.t p30)),
  I0 p32 (.fa 5 (.t p2)),
  I0 p33 (.load 1 false (.t p32)),
  I0 p34 (.bin .add (.t p31) (.t p33)),
  I0 p8 (.alloc [(.int .u64 0)]),
  .op .always none (.store 1 (.t p8) (.t p34))]
def Si : List Ins := [I0 p19 (.fa 2 (.t p3)),
  I0 p20 (.load 1 false (.t p19)),
  I0 p21 (.conv .u64 (.t p20)),
  I0 p22 (.load 1 false (.t p6)),
  I0 p23 (.bin .mul (.t p21) (.t p22)),
  I0 p7 (.alloc [(.int .u64 0)]),
  .op .always none (.store 1 (.t p7) (.t p23))]
def TS : List Ins := [I0 p14 (.fa 4 (.t p2)),
  I0 p15 (.load 1 false (.t p14)),
  I0 p16 (.load 1 false (.t p5)),
  I0 p17 (.bin .mul (.c (.int .u64 2)) (.t p16)),
  I0 p18 (.bin .add (.t p15) (.t p17)),
  I0 p6 (.alloc [(.int .u64 0)]),
  .op .always none (.store 1 (.t p6) (.t p18))]
def Sa : List Ins := [I0 p12 (.fa 2 (.t p2)),
  I0 p13 (.load 1 false (.t p12)),
  I0 p5 (.alloc [(.int .u64 0)]),
  .op .always none (.store 1 (.t p5) (.t p13))]
def TM : List Ins := [I0 p2 (.box (.t p0)),
  I0 p3 (.box (.t p1)),
  I0 p4 (.alloc [.nilfunc, .nilfunc, .nilfunc, .nilfunc, .nilfunc, .nilfunc, .nilfunc, .nilfunc, .nilfunc, .nilfunc, .nilfunc])]
def Gw : SC := .seq none (.reg [(none, TM)]) (.seq none (.reg [(none, Sa)]) (.seq none (.reg [(none, TS)]) (.seq none (.reg [(none, Si)]) (.seq none (.reg [(none, TP)]) (.seq none (.reg [(none, TY)]) (.seq none (.reg [(none, SQ)]) (.seq none (.reg [(none, Ta)]) (.seq none (.reg [(none, S8)]) (.ret)))))))))
def XT : AFn := .code (a_cost_bounds.map (·.1)) (ik Gw) (z_cost_bounds.map (·.1))
abbrev d6 : Nat := 86
def uJ : Tr Ty := (tN (.node (.node .leaf (some (.int .u64)) .leaf) (some (.int .u64)) .leaf) (.node .leaf (some (.int .u64)) .leaf))
def a_cost_bounds_f1 : Kp := [(p0, .any)]
def z_cost_bounds_f1 : List (Rv × Ty) := [(.t p1, (.int .u64))]
def Mi : List Ins := [I0 p2 (.load 1 false (.t p0)),
  I0 p3 (.bin .mul (.c (.int .u64 113)) (.t p2)),
  I0 p1 (.mov (.t p3))]
def Ln : List Ins := [I0 p1 (.mov (.c (.int .u64 0)))]
def zT : SC := .seq none (.reg [(none, Ln)]) (.seq none (.reg [(none, Mi)]) (.ret))
def Rc : AFn := .code (a_cost_bounds_f1.map (·.1)) (ik zT) (z_cost_bounds_f1.map (·.1))
abbrev dZ : Nat := 87
def uV : Tr Ty := (tN (.node (.node .leaf (some (.int .u64)) .leaf) (some (.int .u64)) .leaf) (.node .leaf (some (.int .u64)) .leaf))
def a_cost_bounds_f2 : Kp := [(p0, .any)]
def z_cost_bounds_f2 : List (Rv × Ty) := [(.t p1, (.int .u64))]
def Mr : List Ins := [I0 p2 (.load 1 false (.t p0)),
  I0 p3 (.bin .mul (.c (.int .u64 64)) (.t p2)),
  I0 p1 (.mov (.t p3))]
def KY : List Ins := [I0 p1 (.mov (.c (.int .u64 0)))]
def zb : SC := .seq none (.reg [(none, KY)]) (.seq none (.reg [(none, Mr)]) (.ret))
def P4 : AFn := .code (a_cost_bounds_f2.map (·.1)) (ik zb) (z_cost_bounds_f2.map (·.1))
abbrev gf : Nat := 88
def uR : Tr Ty := (.node .leaf (some (.int .u64)) .leaf)
def a_cost_bounds_f3 : Kp := []
def z_cost_bounds_f3 : List (Rv × Ty) := [(.t p0, (.int .u64))]
def Ml : List Ins := [I0 p0 (.mov (.c (.int .u64 0)))]
def MD : List Ins := [I0 p0 (.mov (.c (.int .u64 0)))]
def zj : SC := .seq none (.reg [(none, MD)]) (.seq none (.reg [(none, Ml)]) (.ret))
def PZ : AFn := .code (a_cost_bounds_f3.map (·.1)) (ik zj) (z_cost_bounds_f3.map (·.1))
abbrev gG : Nat := 89
def uC : Tr Ty := (tN (.node (.node .leaf (some (.int .u64)) .leaf) (some (.int .u64)) .leaf) (.node .leaf (some (.int .u64)) .leaf))
def a_cost_bounds_f4 : Kp := [(p0, .any)]
def z_cost_bounds_f4 : List (Rv × Ty) := [(.t p1, (.int .u64))]
def K5 : List Ins := [I0 p2 (.load 1 false (.t p0)),
  I0 p3 (.bin .mul (.c (.int .u64 17)) (.t p2)),
  I0 p1 (.mov (.t p3))]
def Ly : List Ins := [I0 p1 (.mov (.c (.int .u64 0)))]
def zG : SC := .seq none (.reg [(none, Ly)]) (.seq none (.reg [(none, K5)]) (.ret))
def O9 : AFn := .code (a_cost_bounds_f4.map (·.1)) (ik zG) (z_cost_bounds_f4.map (·.1))
abbrev gK : Nat := 90
def uX : Tr Ty := (tN (tN (.node .leaf (some (.int .u64)) .leaf) (.node .leaf (some (.int .u64)) .leaf)) (.node (.node .leaf (some (.int .u64)) .leaf) (some (.int .u64)) .leaf))
def a_cost_bounds_f5 : Kp := [(p0, .any), (p1, .any)]
def z_cost_bounds_f5 : List (Rv × Ty) := [(.t p2, (.int .u64))]
def LA : List Ins := [I0 p3 (.load 1 false (.t p0)),
  I0 p4 (.load 1 false (.t p1)),
  I0 p5 (.bin .add (.t p3) (.t p4)),
  I0 p2 (.mov (.t p5))]
def LT : List Ins := [I0 p2 (.mov (.c (.int .u64 0)))]
def zy : SC := .seq none (.reg [(none, LT)]) (.seq none (.reg [(none, LA)]) (.ret))
def Pd : AFn := .code (a_cost_bounds_f5.map (·.1)) (ik zy) (z_cost_bounds_f5.map (·.1))
abbrev gI : Nat := 91
def uY : Tr Ty := (tN (tN (.node (.node .leaf (some (.int .u64)) .leaf) (some (.int .u64)) (.node .leaf (some (.int .u64)) .leaf)) (tN (.node .leaf (some (.int .u64)) .leaf) (.node .leaf (some (.int .u64)) .leaf))) (tN (.node (.node .leaf (some (.int .u64)) .leaf) (some (.int .u64)) (.node .leaf (some (.int .u64)) .leaf)) (tJ (.node .leaf (some (.int .u64)) .leaf) .leaf)))
def a_cost_bounds_f6 : Kp := [(p0, .any), (p1, .any), (p2, .any)]
def z_cost_bounds_f6 : List (Rv × Ty) := [(.t p3, (.int .u64))]
def Ma : List Ins := [I0 p4 (.load 1 false (.t p0)),
  I0 p5 (.fa 3 (.t p1)),
  I0 p6 (.load 1 false (.t p5)),
  I0 p7 (.conv .u64 (.t p6)),
  I0 p8 (.bin .mul (.c (.int .u64 16)) (.t p7)),
  I0 p9 (.load 1 false (.t p0)),
  I0 p10 (.bin .mul (.t p8) (.t p9)),
  I0 p11 (.bin .add (.t p4) (.t p10)),
  I0 p12 (.load 1 false (.t p2)),
  I0 p13 (.bin .add (.t p11) (.t p12)),
  I0 p3 (.mov (.t p13))]
def LY : List Ins := [I0 p3 (.mov (.c (.int .u64 0)))]
def yZ : SC := .seq none (.reg [(none, LY)]) (.seq none (.reg [(none, Ma)]) (.ret))
def Pf : AFn := .code (a_cost_bounds_f6.map (·.1)) (ik yZ) (z_cost_bounds_f6.map (·.1))
abbrev gE : Nat := 92
def uH : Tr Ty := (tN (tN (tN (.node .leaf (some (.int .u64)) .leaf) .leaf) (.node (.node .leaf (some (.int .u64)) .leaf) (some (.int .u64)) .leaf)) (.node (.node (.node .leaf (some (.int .u64)) .leaf) (some (.int .u64)) .leaf) (some (.int .u64)) (.node .leaf (some (.int .u64)) .leaf)))
def a_cost_bounds_f7 : Kp := [(p0, .any), (p1, .any)]
def z_cost_bounds_f7 : List (Rv × Ty) := [(.t p2, (.int .u64))]
def Md : List Ins := [I0 p3 (.fa 4 (.t p0)),
  I0 p4 (.load 1 false (.t p3)),
  I0 p5 (.load 1 false (.t p1)),
  I0 p6 (.bin .add (.t p4) (.t p5)),
  I0 p7 (.bin .mul (.c (.int .u64 64)) (.t p6)),
  I0 p8 (.load 1 false (.t p1)),
  I0 p9 (.bin .add (.t p7) (.t p8)),
  I0 p2 (.mov (.t p9))]
def K0 : List Ins := [I0 p2 (.mov (.c (.int .u64 0)))]
def zu : SC := .seq none (.reg [(none, K0)]) (.seq none (.reg [(none, Md)]) (.ret))
def QG : AFn := .code (a_cost_bounds_f7.map (·.1)) (ik zu) (z_cost_bounds_f7.map (·.1))
abbrev gJ : Nat := 94
def uZ : Tr Ty := (tN (tN (.node (.node .leaf (some (.int .u64)) .leaf) (some (.int .u64)) .leaf) (.node (.node .leaf (some (.int .u64)) .leaf) (some (.int .u64)) (.node .leaf (some (.int .u64)) .leaf))) (tN (.node (.node .leaf (some (.int .u64)) .leaf) (some (.int .u64)) (.node .leaf (some (.int .u64)) .leaf)) (tN (.node .leaf (some (.int .u64)) .leaf) .leaf)))
def a_cost_bounds_f9 : Kp := [(p0, .any), (p1, .any), (p2, .any)]
def z_cost_bounds_f9 : List (Rv × Ty) := [(.t p3, (.int .u64))]
def Mf : List Ins := [I0 p4 (.load 1 false (.t p0)),
  I0 p5 (.bin .mul (.c (.int .u64 26)) (.t p4)),
  I0 p6 (.fa 3 (.t p1)),
  I0 p7 (.load 1 false (.t p6)),
  I0 p8 (.bin .add (.t p5) (.t p7)),
  I0 p9 (.load 1 false (.t p2)),
  I0 p10 (.bin .add (.t p8) (.t p9)),
  I0 p11 (.fa 5 (.t p1)),
  I0 p12 (.load 1 false (.t p11)),
  I0 p13 (.bin .add (.t p10) (.t p12)),
  I0 p3 (.mov (.t p13))]
def Lc : List Ins := [I0 p3 (.mov (.c (.int .u64 0)))]
def zK : SC := .seq none (.reg [(none, Lc)]) (.seq none (.reg [(none, Mf)]) (.ret))
def Qm : AFn := .code (a_cost_bounds_f9.map (·.1)) (ik zK) (z_cost_bounds_f9.map (·.1))
abbrev fB : Nat := 95
def tx : Tr Ty := (tN (tN (.node (.node (.node .leaf (some (.int .u64)) .leaf) (some (.int .u64)) .leaf) (some (.int .u64)) (.node .leaf (some (.int .u64)) .leaf)) (.node (.node .leaf (some (.int .u64)) .leaf) (some (.int .u64)) .leaf)) (tN (.node (.node .leaf (some (.int .u64)) .leaf) (some (.int .u64)) (.node .leaf (some (.int .u64)) .leaf)) (tN (.node .leaf (some (.int .u64)) .leaf) (.node .leaf (some (.int .u64)) .leaf))))
def a_cost_bounds_f10 : Kp := [(p0, .any), (p1, .any), (p2, .any)]
def z_cost_bounds_f10 : List (Rv × Ty) := [(.t p3, (.int .u64))]
def Jx : List Ins := [I0 p4 (.load 1 false (.t p0)),
  I0 p5 (.bin .mul (.c (.int .u64 64)) (.t p4)),
  I0 p6 (.fa 3 (.t p1)),
  I0 p7 (.load 1 false (.t p6)),
  I0 p8 (.bin .mul (.c (.int .u64 2)) (.t p7)),
  I0 p9 (.bin .add (.t p5) (.t p8)),
  I0 p10 (.load 1 false (.t p2)),
  I0 p11 (.bin .mul (.c (.int .u64 2)) (.t p10)),
  I0 p12 (.bin .add (.t p9) (.t p11)),
  I0 p13 (.fa 5 (.t p1)),
  I0 p14 (.load 1 false (.t p13)),
  I0 p15 (.bin .add (.t p12) (.t p14)),
  I0 p3 (.mov (.t p15))]
def Jv : List Ins := [I0 p3 (.mov (.c (.int .u64 0)))]
def xH : SC := .seq none (.reg [(none, Jv)]) (.seq none (.reg [(none, Jx)]) (.ret))
def Nj : AFn := .code (a_cost_bounds_f10.map (·.1)) (ik xH) (z_cost_bounds_f10.map (·.1))
abbrev kP : Nat := 93
def uO : Tr Ty := (tN (tN (tN (.node .leaf (some (.int .u64)) .leaf) .leaf) .leaf) (.node (.node .leaf (some (.int .u64)) .leaf) (some (.int .u64)) (.node .leaf (some (.int .u64)) .leaf)))
def a_cost_bounds_f8 : Kp := [(p0, .any), (p1, .any)]
def z_cost_bounds_f8 : List (Rv × Ty) := [(.t p2, (.int .u64))]
def Lm : List Ins := [I0 p3 (.load 1 false (.t p0)),
  .call .always (some p4) true (.t p3) [],
  I0 p5 (.load 1 false (.t p1)),
  .call .always (some p6) false (.t p5) [],
  I0 p7 (.minmax true [(.t p4), (.t p6)]),
  I0 p2 (.mov (.t p7))]
def Lr : List Ins := [I0 p2 (.mov (.c (.int .u64 0)))]
def zO : SC := .seq none (.reg [(none, Lr)]) (.seq none (.reg [(none, Lm)]) (.ret))
def Pc : AFn := .code (a_cost_bounds_f8.map (·.1)) (ik zO) (z_cost_bounds_f8.map (·.1))
abbrev tl : Nat := 56
def mg : Tr Ty := (tN (tN (tN (.node (tJ (.node .leaf (some (.int .u64)) .leaf) .leaf) (some (.int .u64)) .leaf) (tN tI .leaf)) (tJ (tN (tN (.node .leaf (some (.int .u64)) .leaf) .leaf) (.node .leaf (some (.int .u64)) .leaf)) (tJ .leaf (.node .leaf (some (.int .u64)) .leaf)))) (tN (.node (tN (tN (.node .leaf (some (.int .u64)) .leaf) .leaf) (.node .leaf (some (.int .u64)) .leaf)) (some (.int .u64)) (tJ .leaf tI)) (tJ (tN (tN (.node .leaf (some (.int .u64)) .leaf) .leaf) tI) (tC (.node .leaf (some (.int .u64)) .leaf) .leaf))))
def a_cost_Most : Kp := [(p0, .any), (p1, .any)]
def z_cost_Most : List (Rv × Ty) := [(.t p4, (.int .u64)), (.t p5, (.int .i64))]
def X4 : Kp := [(p2, .any), (p3, .any), (p7, (.int .u64))]
def OM : Kp := [(p2, .any), (p3, .any), (p7, (.int .u64)), (p18, .any), (p19, (.int .i64))]
def X7 : List Ins := [I0 p27 (.fa 0 (.t p3)),
  I0 p28 (.load 1 false (.t p27)),
  I0 p29 (.conv .u64 (.t p28)),
  I0 p30 (.fa 2 (.t p2)),
  I0 p31 (.load 1 false (.t p30)),
  I0 p32 (.bin .mul (.t p29) (.t p31)),
  I0 p33 (.mov (.t p7)),
  I0 p34 (.bin .add (.t p32) (.t p33)),
  I0 p4 (.mov (.t p34)),
  I0 p5 (.mov (.c (.int .i64 0)))]
def X8 : List Ins := [I0 p26 (.bin .add (.t p19) (.c (.int .i64 1))),
  I0 p19 (.mov (.t p26))]
def XV : List Ins := [I0 p22 (.mov (.t p7)),
  I0 p23 (.mov (.t p9)),
  .call .always (some p24) false (.t p23) [],
  I0 p25 (.minmax true [(.t p22), (.t p24)]),
  I0 p7 (.mov (.t p25))]
def YI : List Ins := [I0 p21 (.idxA 1 11 false (.t p18) (.t p19)),
  I0 p9 (.mov (.t p21))]
def YK : List Ins := [I0 p20 (.bin .lss (.t p19) (.c (.int .i64 11)))]
def Yw : List Ins := [I0 p16 (.load 6 true (.t p2)),
  I0 p17 (.load 4 true (.t p3)),
  .call .always (some p18) false (.c (.func 70 [] [])) [(.t p16), (.t p17)],
  I0 p19 (.mov (.c (.int .i64 0)))]
def YE : List Ins := [I0 p7 (.mov (.c (.int .u64 0)))]
def YT : List Ins := [I0 p15 (.mov (.t p6)),
  I0 p4 (.mov (.c (.int .u64 0))),
  I0 p5 (.mov (.t p15))]
def YJ : List Ins := [I0 p13 (.mov (.t p6)),
  I0 p14 (.bin .neq (.t p13) (.c (.int .i64 0)))]
def Yg : List Ins := [I0 p10 (.load 6 true (.t p2)),
  I0 p11 (.load 4 true (.t p3)),
  .call .always (some p12) false (.c (.func 69 [] [])) [(.t p10), (.t p11)],
  I0 p6 (.mov (.t p12))]
def VM : List Ins := [I0 p2 (.box (.t p0)),
  I0 p3 (.box (.t p1)),
  I0 p4 (.mov (.c (.int .u64 0))),
  I0 p5 (.mov (.c (.int .i64 0)))]
def Np : SC := .seq none (.reg [(none, VM)]) (.seq none (.seq none (.reg [(none, Yg)]) (.seq none (.reg [(none, YJ)]) (.cond (.t p14) (.seq none (.reg [(none, YT)]) (.ret)) (.skip)))) (.seq none (.reg [(none, YE)]) (.seq none (.seq none (.reg [(none, Yw)]) (.block 0 (some X4) (.loop OM (.seq none (.reg [(none, YK)]) (.seq none (.cond (.t p20) (.skip) (.exit 0)) (.seq none (.block 1 none (.seq none (.reg [(none, YI)]) (.reg [(none, XV)]))) (.reg [(none, X8)]))))))) (.seq none (.reg [(none, X7)]) (.ret)))))
def aev : AFn := .code (a_cost_Most.map (·.1)) (ik Np) (z_cost_Most.map (·.1))
abbrev re : Nat := 57
def vH : Tr Ty := (tN (tJ (tN (tN .leaf tI) (tN .leaf tI)) (tN (tJ .leaf tI) (tJ tI tI))) (tN (tN (tN tI .leaf) (tN tI .leaf)) (tJ (tN tI tI) (tJ tI .leaf))))
def a_plan_shape : Kp := [(p0, .any), (p1, (.int .i64))]
def z_plan_shape : List (Rv × Ty) := [(.cell p4 4 true, .any)]
def U7 : List Ins := [I0 p12 (.fa 1 (.t p5)),
  I0 p13 (.load 1 false (.t p12)),
  I0 p14 (.bin .shl (.c (.int .i64 1)) (.t p13)),
  I0 p15 (.fa 2 (.t p5)),
  I0 p16 (.load 1 false (.t p15)),
  I0 p17 (.fa 2 (.t p5)),
  I0 p18 (.load 1 false (.t p17)),
  I0 p19 (.fa 7 (.t p5)),
  I0 p20 (.load 1 false (.t p19)),
  I0 p21 (.bin .add (.t p18) (.t p20)),
  I0 p22 (.bin .sub (.t p21) (.c (.int .i64 1))),
  I0 p23 (.mov (.t p6)),
  I0 p24 (.fa 6 (.t p5)),
  I0 p25 (.load 1 false (.t p24)),
  I0 p26 (.bin .mul (.t p23) (.t p25)),
  I0 p27 (.minmax false [(.t p22), (.t p26)]),
  I0 p28 (.fa 3 (.t p5)),
  I0 p29 (.load 1 false (.t p28)),
  I0 p30 (.build [(.int .i64 0), (.int .i64 0), (.int .i64 0), (.int .i64 0)] [(0, 1, (.t p14)), (1, 1, (.t p16)), (2, 1, (.t p27)), (3, 1, (.t p29))]),
  .op .always none (.store 4 (.t p4) (.t p30))]
def Ux : List Ins := [I0 p6 (.mov (.c (.int .i64 16)))]
def Uy : List Ins := [I0 p7 (.fa 16 (.t p2)),
  I0 p8 (.load 1 false (.t p7)),
  I0 p9 (.mov (.t p1)),
  I0 p10 (.iaS 8 (.t p8) (.t p9)),
  I0 p11 (.load 8 true (.t p10)),
  I0 p5 (.alloc [.nilslice, (.int .i64 0), (.int .i64 0), (.int .i64 0), (.int .i64 0), (.int .i64 0), (.int .i64 0), (.int .i64 0)]),
  .op .always none (.store 8 (.t p5) (.t p11))]
def VK : List Ins := [I0 p2 (.box (.t p0)),
  I0 p4 (.alloc [(.int .i64 0), (.int .i64 0), (.int .i64 0), (.int .i64 0)])]
def KN : SC := .seq none (.reg [(none, VK)]) (.seq none (.reg [(none, Uy)]) (.seq none (.reg [(none, Ux)]) (.seq none (.reg [(none, U7)]) (.ret))))
def abk : AFn := .code (a_plan_shape.map (·.1)) (ik KN) (z_plan_shape.map (·.1))
abbrev pF : Nat := 40
def eX : Tr Ty := (tN (tN (.node (tJ (tC (tN tI .leaf) (tJ (.node .leaf (some (.int .u64)) .leaf) .leaf)) (.node tI (some (.int .u64)) tB)) (some (.int .u64)) (tC (tC .leaf (tN tI .leaf)) (tC (tN tI .leaf) tI))) (tJ (.node (tN (tC tB .leaf) (tC tB .leaf)) (some (.int .u64)) (tC (tJ (.node .leaf (some (.int .u64)) .leaf) .leaf) .leaf)) (.node (tC .leaf (.node .leaf (some (.int .u64)) .leaf)) (some (.int .u64)) (tC (tN tB .leaf) tI)))) (tC (tJ (tN (tC (tJ tI .leaf) (tJ (.node .leaf (some (.int .u64)) .leaf) .leaf)) tB) (tN (tC .leaf (.node .leaf (some (.int .u64)) .leaf)) (tC (tJ tB .leaf) .leaf))) (.node (tC (.node tB (some (.int .u64)) (tC tB .leaf)) (tN (tJ tI .leaf) tI)) (some (.int .u64)) (tC (tN (tN tI .leaf) tB) (tN (.node .leaf (some (.int .u64)) .leaf) .leaf)))))
def a_plan_sliced : Kp := [(p0, .any)]
def z_plan_sliced : List (Rv × Ty) := [(.t p2, .bool)]
def Sj : Kp := []
def IM : Kp := [(p1, .any), (p58, (.int .i64)), (p59, (.int .i64))]
def II : Kp := [(p1, .any), (p58, (.int .i64)), (p59, (.int .i64))]
def Tu : Kp := [(p1, .any), (p58, (.int .i64)), (p59, (.int .i64)), (p82, .bool)]
def Sq : Kp := [(p1, .any), (p55, .bool)]
def Sz : Kp := [(p1, .any), (p34, .bool)]
def Sg : Kp := [(p1, .any), (p15, .bool)]
def Tz : Kp := [(p1, .any), (p20, .bool)]
def S5 : Kp := [(p1, .any), (p25, .bool)]
def S6 : List Ins := [I0 p2 (.mov (.c (.bool true)))]
def S1 : List Ins := [I0 p83 (.bin .add (.t p59) (.c (.int .i64 1))),
  I0 p59 (.mov (.t p83))]
def Tt : List Ins := [I0 p2 (.mov (.c (.bool false)))]
def TT : List Ins := [I0 p75 (.mov (.t p7)),
  I0 p76 (.bin .neq (.t p75) (.c (.int .i64 0))),
  I0 p77 (.mov (.t p76)),
  .op (.on p77 false) (some p78) (.fa 12 (.t p1)),
  .op (.on p77 false) (some p79) (.load 1 false (.t p78)),
  .op (.on p77 false) (some p80) (.mov (.t p6)),
  .op (.on p77 false) (some p81) (.bin .lss (.t p79) (.t p80)),
  I0 p82 (.pick (.t p77) (.c (.bool true)) (.t p81))]
def Ss : List Ins := [I0 p67 (.fa 6 (.t p1)),
  I0 p68 (.load 6 true (.t p67)),
  I0 p69 (.load 17 true (.t p1)),
  I0 p70 (.mov (.t p5)),
  .call .always (some p71) true (.c (.func 57 [] [])) [(.t p69), (.t p70)],
  .call .always (some p72) false (.c (.func 56 [] [])) [(.t p68), (.t p71)],
  I0 p66 (.mov (.t p72)),
  I0 p73 (.ext 0 (.t p66)),
  I0 p74 (.ext 1 (.t p66)),
  I0 p6 (.mov (.t p73)),
  I0 p7 (.mov (.t p74))]
def Sc : List Ins := [I0 p62 (.load 17 true (.t p1)),
  I0 p63 (.mov (.t p5)),
  .call .always (some p64) false (.c (.func 42 [] [])) [(.t p62), (.t p63)],
  I0 p65 (.bin .neq (.t p64) (.c (.int .i64 0)))]
def Tl : List Ins := [I0 p61 (.mov (.t p59)),
  I0 p5 (.mov (.t p61))]
def Sn : List Ins := [I0 p60 (.bin .lss (.t p59) (.t p58))]
def SJ : List Ins := [I0 p56 (.fa 16 (.t p1)),
  I0 p57 (.load 1 false (.t p56)),
  I0 p58 (.len .sl (.t p57)),
  I0 p59 (.mov (.c (.int .i64 0)))]
def Sb : List Ins := [I0 p2 (.mov (.c (.bool false)))]
def QO : List Ins := [I0 p48 (.mov (.t p4)),
  I0 p49 (.bin .neq (.t p48) (.c (.int .i64 0))),
  I0 p50 (.mov (.t p49)),
  .op (.on p50 false) (some p51) (.fa 13 (.t p1)),
  .op (.on p50 false) (some p52) (.load 1 false (.t p51)),
  .op (.on p50 false) (some p53) (.mov (.t p3)),
  .op (.on p50 false) (some p54) (.bin .lss (.t p52) (.t p53)),
  I0 p55 (.pick (.t p50) (.c (.bool true)) (.t p54))]
def Pk : List Ins := [I0 p36 (.fa 6 (.t p1)),
  I0 p37 (.load 6 true (.t p36)),
  I0 p38 (.fa 3 (.t p1)),
  I0 p39 (.load 1 false (.t p38)),
  I0 p40 (.fa 4 (.t p1)),
  I0 p41 (.load 1 false (.t p40)),
  I0 p42 (.bin .mul (.t p39) (.t p41)),
  I0 p43 (.fa 5 (.t p1)),
  I0 p44 (.load 1 false (.t p43)),
  .call .always (some p45) false (.c (.func 55 [] [])) [(.t p37), (.t p42), (.t p44)],
  I0 p35 (.mov (.t p45)),
  I0 p46 (.ext 0 (.t p35)),
  I0 p47 (.ext 1 (.t p35)),
  I0 p3 (.mov (.t p46)),
  I0 p4 (.mov (.t p47))]
def O2 : List Ins := [I0 p2 (.mov (.c (.bool true)))]
def Rk : List Ins := [I0 p26 (.load 17 true (.t p1)),
  .call .always (some p27) false (.c (.func 38 [] [])) [(.t p26)],
  I0 p28 (.not (.t p27)),
  I0 p29 (.mov (.t p28)),
  .op (.on p29 false) (some p30) (.fa 6 (.t p1)),
  .op (.on p29 false) (some p31) (.load 6 true (.t p30)),
  .call (.on p29 false) (some p32) false (.c (.func 39 [] [])) [(.t p31)],
  .op (.on p29 false) (some p33) (.bin .neq (.t p32) (.c (.int .i64 0))),
  I0 p34 (.pick (.t p29) (.c (.bool true)) (.t p33))]
def PX : List Ins := [I0 p2 (.mov (.c (.bool false)))]
def Pe : List Ins := [I0 p8 (.fa 12 (.t p1)),
  I0 p9 (.load 1 false (.t p8)),
  I0 p10 (.bin .lss (.t p9) (.c (.int .u64 1))),
  I0 p11 (.mov (.t p10)),
  .op (.on p11 false) (some p12) (.fa 12 (.t p1)),
  .op (.on p11 false) (some p13) (.load 1 false (.t p12)),
  .op (.on p11 false) (some p14) (.bin .gtr (.t p13) (.c (.int .u64 4194304))),
  I0 p15 (.pick (.t p11) (.c (.bool true)) (.t p14))]
def QC : List Ins := [I0 p16 (.mov (.t p15)),
  .op (.on p16 false) (some p17) (.fa 13 (.t p1)),
  .op (.on p16 false) (some p18) (.load 1 false (.t p17)),
  .op (.on p16 false) (some p19) (.bin .gtr (.t p18) (.c (.int .u64 4194304))),
  I0 p20 (.pick (.t p16) (.c (.bool true)) (.t p19))]
def P8 : List Ins := [I0 p21 (.mov (.t p20)),
  .op (.on p21 false) (some p22) (.fa 14 (.t p1)),
  .op (.on p21 false) (some p23) (.load 1 false (.t p22)),
  .op (.on p21 false) (some p24) (.bin .geq (.t p23) (.c (.int .u64 1099511627776))),
  I0 p25 (.pick (.t p21) (.c (.bool true)) (.t p24))]
def PW : List Ins := [I0 p1 (.box (.t p0)),
  I0 p2 (.mov (.c (.bool false)))]
def GA : SC := .seq none (.reg [(none, PW)]) (.seq none (.seq none (.reg [(some Sg, Pe), (some Tz, QC), (some S5, P8)]) (.cond (.t p25) (.seq none (.reg [(none, PX)]) (.ret)) (.skip))) (.seq none (.seq none (.reg [(some Sz, Rk)]) (.cond (.t p34) (.seq none (.reg [(none, O2)]) (.ret)) (.skip))) (.seq none (.seq none (.reg [(none, Pk)]) (.seq none (.reg [(some Sq, QO)]) (.cond (.t p55) (.seq none (.reg [(none, Sb)]) (.ret)) (.skip)))) (.seq none (.seq none (.reg [(none, SJ)]) (.block 0 (some Sj) (.loop IM (.seq none (.reg [(none, Sn)]) (.seq none (.cond (.t p60) (.skip) (.exit 0)) (.seq none (.block 1 (some II) (.seq none (.reg [(none, Tl)]) (.seq none (.seq none (.reg [(none, Sc)]) (.cond (.t p65) (.exit 1) (.skip))) (.seq none (.reg [(none, Ss)]) (.seq none (.reg [(some Tu, TT)]) (.cond (.t p82) (.seq none (.reg [(none, Tt)]) (.ret)) (.skip))))))) (.reg [(none, S1)]))))))) (.seq none (.reg [(none, S6)]) (.ret))))))
def YC : AFn := .code (a_plan_sliced.map (·.1)) (ik GA) (z_plan_sliced.map (·.1))
abbrev jX : Nat := 59
def vc : Tr Ty := (tJ (tN (tC tI .leaf) (tN tB .leaf)) (tN (tJ tI .leaf) (tN tB .leaf)))
def a_plan_turned_f1 : Kp := [(p0, (.int .i64)), (p1, .any)]
def z_plan_turned_f1 : List (Rv × Ty) := [(.t p3, .bool)]
def MG : List Ins := [I0 p4 (.mov (.t p0)),
  I0 p5 (.fa 16 (.t p1)),
  I0 p6 (.load 1 false (.t p5)),
  I0 p7 (.len .sl (.t p6)),
  I0 p8 (.bin .sub (.t p7) (.c (.int .i64 1))),
  .call .always (some p9) false (.c (.func 54 [] [])) [(.t p4), (.c (.int .i64 0)), (.t p8)],
  I0 p10 (.not (.t p9)),
  I0 p3 (.mov (.t p10))]
def L9 : List Ins := [I0 p3 (.mov (.c (.bool false)))]
def y8 : SC := .seq none (.reg [(none, L9)]) (.seq none (.reg [(none, MG)]) (.ret))
def Pu : AFn := .code (a_plan_turned_f1.map (·.1)) (ik y8) (z_plan_turned_f1.map (·.1))
abbrev eH : Nat := 71
def dq : Tr Ty := (tN (tN (tN (tJ tI .leaf) .leaf) (tJ (tN tI .leaf) tI)) (tN (tJ (tJ tB .leaf) .leaf) (tN (tJ tI .leaf) .leaf)))
def a_slices_IndexFunc___int_int_ : Kp := [(p0, .any), (p1, .any)]
def z_slices_IndexFunc___int_int_ : List (Rv × Ty) := [(.t p4, (.int .i64))]
def ul : Kp := []
def oE : Kp := [(p0, .any), (p1, .any), (p7, (.int .i64)), (p8, (.int .i64))]
def ua : List Ins := [I0 p4 (.mov (.c (.int .i64 (-1))))]
def uk : List Ins := [I0 p18 (.bin .add (.t p8) (.c (.int .i64 1))),
  I0 p8 (.mov (.t p18))]
def uc : List Ins := [I0 p17 (.mov (.t p5)),
  I0 p4 (.mov (.t p17))]
def ue : List Ins := [I0 p11 (.mov (.t p1)),
  I0 p12 (.mov (.t p0)),
  I0 p13 (.mov (.t p5)),
  I0 p14 (.iaS 1 (.t p12) (.t p13)),
  I0 p15 (.load 1 false (.t p14)),
  .call .always (some p16) false (.t p11) [(.t p15)]]
def uj : List Ins := [I0 p10 (.mov (.t p8)),
  I0 p5 (.mov (.t p10))]
def ui : List Ins := [I0 p9 (.bin .lss (.t p8) (.t p7))]
def uf : List Ins := [I0 p6 (.mov (.t p0)),
  I0 p7 (.len .sl (.t p6)),
  I0 p8 (.mov (.c (.int .i64 0)))]
def ud : List Ins := [I0 p4 (.mov (.c (.int .i64 0)))]
def mh : SC := .seq none (.reg [(none, ud)]) (.seq none (.seq none (.reg [(none, uf)]) (.block 0 (some ul) (.loop oE (.seq none (.reg [(none, ui)]) (.seq none (.cond (.t p9) (.skip) (.exit 0)) (.seq none (.block 1 none (.seq none (.reg [(none, uj)]) (.seq none (.reg [(none, ue)]) (.cond (.t p16) (.seq none (.reg [(none, uc)]) (.ret)) (.skip))))) (.reg [(none, uk)]))))))) (.seq none (.reg [(none, ua)]) (.ret)))
def vp : AFn := .code (a_slices_IndexFunc___int_int_.map (·.1)) (ik mh) (z_slices_IndexFunc___int_int_.map (·.1))
abbrev dM : Nat := 58
def jj : Tr Ty := (tN (tN (tN tI .leaf) .leaf) (tN (tC tB .leaf) .leaf))
def a_slices_ContainsFunc___int_int_ : Kp := [(p0, .any), (p1, .any)]
def z_slices_ContainsFunc___int_int_ : List (Rv × Ty) := [(.t p4, .bool)]
def rM : List Ins := [I0 p5 (.mov (.t p0)),
  I0 p6 (.mov (.t p1)),
  .call .always (some p7) false (.c (.func 71 [] [])) [(.t p5), (.t p6)],
  I0 p8 (.bin .geq (.t p7) (.c (.int .i64 0))),
  I0 p4 (.mov (.t p8))]
def rT : List Ins := [I0 p4 (.mov (.c (.bool false)))]
def lr : SC := .seq none (.reg [(none, rT)]) (.seq none (.reg [(none, rM)]) (.ret))
def tK : AFn := .code (a_slices_ContainsFunc___int_int_.map (·.1)) (ik lr) (z_slices_ContainsFunc___int_int_.map (·.1))
abbrev pt : Nat := 41
def wP : Tr Ty := (tN (tN (tN tB tB) (tJ .leaf tB)) (tC (tN .leaf tB) tB))
def a_plan_turned : Kp := [(p0, .any)]
def z_plan_turned : List (Rv × Ty) := [(.t p2, .bool)]
def TR : Kp := [(p13, .bool)]
def Tw : List Ins := [I0 p3 (.fa 15 (.t p1)),
  I0 p4 (.load 1 false (.t p3)),
  I0 p5 (.len .sl (.t p4)),
  .call .always (some p6) false (.c (.func 54 [] [])) [(.t p5), (.c (.int .i64 1)), (.c (.int .i64 64))],
  I0 p7 (.mov (.t p6)),
  .op (.on p7 true) (some p8) (.fa 15 (.t p1)),
  .op (.on p7 true) (some p9) (.load 1 false (.t p8)),
  .op (.on p7 true) (some p10) (.mkfunc 59 [] [(.t p1)]),
  .call (.on p7 true) (some p11) false (.c (.func 58 [] [])) [(.t p9), (.t p10)],
  .op (.on p7 true) (some p12) (.not (.t p11)),
  I0 p13 (.pick (.t p7) (.t p12) (.c (.bool false)))]
def TW : List Ins := [I0 p2 (.mov (.t p13))]
def SO : List Ins := [I0 p1 (.box (.t p0)),
  I0 p2 (.mov (.c (.bool false)))]
def Gp : SC := .seq none (.reg [(none, SO)]) (.seq none (.reg [(some TR, Tw), (none, TW)]) (.ret))
def YG : AFn := .code (a_plan_turned.map (·.1)) (ik Gp) (z_plan_turned.map (·.1))
abbrev qY : Nat := 23
def jp : Tr Ty := (tN (tN (tN (tN (tJ tB .leaf) (tN tI .leaf)) (tN (tN tI .leaf) (tN tI .leaf))) (tJ (tN .leaf (tN tI .leaf)) (tN (tN tI .leaf) tI))) (tN (tN (tN (tC tI .leaf) (tC tI .leaf)) (tN tB tI)) (tJ (tC (tN tI .leaf) .leaf) (tN (tN tB .leaf) tI))))
def a_plan_Check : Kp := [(p0, .any)]
def z_plan_Check : List (Rv × Ty) := [(.t p2, .any)]
def Wk : Kp := [(p3, .any)]
def Li : Kp := [(p1, .any), (p3, .any), (p4, .any), (p29, (.int .i64)), (p30, (.int .i64))]
def Vi : List Ins := [I0 p44 (.load 1 false (.t p3)),
  I0 p2 (.mov (.t p44))]
def WL : List Ins := [I0 p43 (.bin .add (.t p30) (.c (.int .i64 1))),
  I0 p30 (.mov (.t p43))]
def WF : List Ins := [I0 p36 (.mov (.t p4)),
  I0 p37 (.mov (.t p6)),
  I0 p38 (.bin .eql (.t p37) (.c (.int .i64 0))),
  I0 p39 (.mov (.t p6)),
  I0 p40 (.mov (.t p5)),
  I0 p41 (.bin .add (.c (.int .i64 4)) (.t p40)),
  .call .always (some p42) false (.t p36) [(.t p38), (.t p39), (.t p41)]]
def U2 : List Ins := [I0 p33 (.load 17 true (.t p1)),
  I0 p34 (.mov (.t p5)),
  .call .always (some p35) false (.c (.func 42 [] [])) [(.t p33), (.t p34)],
  I0 p6 (.mov (.t p35))]
def UG : List Ins := [I0 p32 (.mov (.t p30)),
  I0 p5 (.mov (.t p32))]
def V9 : List Ins := [I0 p31 (.bin .lss (.t p30) (.t p29))]
def UW : List Ins := [I0 p26 (.fa 16 (.t p1)),
  I0 p27 (.load 1 false (.t p26)),
  I0 p28 (.len .sl (.t p27)),
  I0 p29 (.minmax false [(.t p28), (.c (.int .i64 8))]),
  I0 p30 (.mov (.c (.int .i64 0)))]
def Uw : List Ins := [I0 p22 (.mov (.t p4)),
  I0 p23 (.load 17 true (.t p1)),
  .call .always (some p24) false (.c (.func 41 [] [])) [(.t p23)],
  .call .always (some p25) false (.t p22) [(.t p24), (.c (.int .i64 112)), (.c (.int .i64 3))]]
def Wy : List Ins := [I0 p18 (.mov (.t p4)),
  I0 p19 (.load 17 true (.t p1)),
  .call .always (some p20) false (.c (.func 40 [] [])) [(.t p19)],
  .call .always (some p21) false (.t p18) [(.t p20), (.c (.int .i64 113)), (.c (.int .i64 2))]]
def Vl : List Ins := [I0 p12 (.mov (.t p4)),
  I0 p13 (.fa 6 (.t p1)),
  I0 p14 (.load 6 true (.t p13)),
  .call .always (some p15) false (.c (.func 39 [] [])) [(.t p14)],
  I0 p16 (.bin .eql (.t p15) (.c (.int .i64 0))),
  .call .always (some p17) false (.t p12) [(.t p16), (.c (.int .i64 100)), (.c (.int .i64 1))]]
def SK : List Ins := [I0 p8 (.mov (.t p4)),
  I0 p9 (.load 17 true (.t p1)),
  .call .always (some p10) false (.c (.func 38 [] [])) [(.t p9)],
  .call .always (some p11) false (.t p8) [(.t p10), (.c (.int .i64 114)), (.c (.int .i64 0))]]
def SZ : List Ins := [I0 p7 (.mkfunc 37 [] [(.t p3)]),
  I0 p4 (.mov (.t p7))]
def S0 : List Ins := [I0 p3 (.alloc [.nilslice])]
def Tk : List Ins := [I0 p1 (.box (.t p0)),
  I0 p2 (.mov (.c .nilslice))]
def JU : SC := .seq none (.reg [(none, Tk)]) (.seq none (.reg [(none, S0)]) (.seq none (.reg [(none, SZ)]) (.seq none (.reg [(none, SK)]) (.seq none (.reg [(none, Vl)]) (.seq none (.reg [(none, Wy)]) (.seq none (.reg [(none, Uw)]) (.seq none (.seq none (.reg [(none, UW)]) (.block 0 (some Wk) (.loop Li (.seq none (.reg [(none, V9)]) (.seq none (.cond (.t p31) (.skip) (.exit 0)) (.seq none (.block 1 none (.seq none (.reg [(none, UG)]) (.seq none (.reg [(none, U2)]) (.reg [(none, WF)])))) (.reg [(none, WL)]))))))) (.seq none (.reg [(none, Vi)]) (.ret)))))))))
def aaH : AFn := .code (a_plan_Check.map (·.1)) (ik JU) (z_plan_Check.map (·.1))
abbrev nL : Nat := 8
def K7 : Tr Ty := (tN (tN .leaf tI) (tC .leaf tB))
def a_plan_May : Kp := [(p0, .any)]
def z_plan_May : List (Rv × Ty) := [(.t p2, .bool)]
def abP : List Ins := [I0 p3 (.load 17 true (.t p1)),
  .call .always (some p4) false (.c (.func 23 [] [])) [(.t p3)],
  I0 p5 (.len .sl (.t p4)),
  I0 p6 (.bin .eql (.t p5) (.c (.int .i64 0))),
  I0 p2 (.mov (.t p6))]
def aag : List Ins := [I0 p1 (.box (.t p0)),
  I0 p2 (.mov (.c (.bool false)))]
def Rx : SC := .seq none (.reg [(none, aag)]) (.seq none (.reg [(none, abP)]) (.ret))
def ahm : AFn := .code (a_plan_May.map (·.1)) (ik Rx) (z_plan_May.map (·.1))
abbrev ra : Nat := 33
def py : Tr Ty := (tN (tJ (tN tB tB) (tC (tC tB .leaf) tI)) (tN (tJ (tC tI .leaf) tB) (tN (tJ tB .leaf) .leaf)))
def a_plan_there : Kp := [(p0, .any), (p1, (.int .i64))]
def z_plan_there : List (Rv × Ty) := [(.t p4, (.int .i64))]
def V4 : Kp := [(p18, .bool)]
def VA : List Ins := [I0 p4 (.mov (.c (.int .i64 0)))]
def Va : List Ins := [I0 p4 (.mov (.c (.int .i64 5)))]
def VR : List Ins := [I0 p4 (.mov (.c (.int .i64 270)))]
def V7 : List Ins := [I0 p10 (.mov (.t p1)),
  I0 p11 (.bin .lss (.t p10) (.c (.int .i64 0))),
  I0 p12 (.mov (.t p11)),
  .op (.on p12 false) (some p13) (.mov (.t p1)),
  .op (.on p12 false) (some p14) (.fa 16 (.t p2)),
  .op (.on p12 false) (some p15) (.load 1 false (.t p14)),
  .op (.on p12 false) (some p16) (.len .sl (.t p15)),
  .op (.on p12 false) (some p17) (.bin .geq (.t p13) (.t p16)),
  I0 p18 (.pick (.t p12) (.c (.bool true)) (.t p17))]
def Vc : List Ins := [I0 p9 (.mov (.t p18))]
def UB : List Ins := [I0 p6 (.load 17 true (.t p2)),
  .call .always (some p7) false (.c (.func 8 [] [])) [(.t p6)],
  I0 p8 (.not (.t p7)),
  I0 p5 (.mov (.t p8))]
def WK : List Ins := [I0 p2 (.box (.t p0)),
  I0 p4 (.mov (.c (.int .i64 0)))]
def Ks : SC := .seq none (.reg [(none, WK)]) (.seq none (.block 0 none (.seq none (.reg [(none, UB)]) (.cond (.t p5) (.seq none (.reg [(none, Va)]) (.ret)) (.seq none (.reg [(some V4, V7), (none, Vc)]) (.cond (.t p9) (.seq none (.reg [(none, VR)]) (.ret)) (.skip)))))) (.seq none (.reg [(none, VA)]) (.ret)))
def abX : AFn := .code (a_plan_there.map (·.1)) (ik Ks) (z_plan_there.map (·.1))
abbrev ri : Nat := 19
def ta : Tr Ty := (tN (tJ (tN (tN tI .leaf) tB) (tJ tI .leaf)) (tN (tJ tI tI) (tJ tI tI)))
def a_plan_Total : Kp := [(p0, .any), (p1, (.int .i64))]
def z_plan_Total : List (Rv × Ty) := [(.t p4, (.int .i64)), (.t p5, (.int .i64))]
def VG : List Ins := [I0 p13 (.load 17 true (.t p2)),
  I0 p14 (.mov (.t p1)),
  .call .always (some p15) false (.c (.func 34 [] [])) [(.t p13), (.t p14)],
  I0 p4 (.mov (.t p15)),
  I0 p5 (.mov (.c (.int .i64 0)))]
def U8 : List Ins := [I0 p12 (.mov (.t p6)),
  I0 p4 (.mov (.c (.int .i64 0))),
  I0 p5 (.mov (.t p12))]
def UP : List Ins := [I0 p10 (.mov (.t p6)),
  I0 p11 (.bin .neq (.t p10) (.c (.int .i64 0)))]
def Vt : List Ins := [I0 p7 (.load 17 true (.t p2)),
  I0 p8 (.mov (.t p1)),
  .call .always (some p9) false (.c (.func 33 [] [])) [(.t p7), (.t p8)],
  I0 p6 (.mov (.t p9))]
def UT : List Ins := [I0 p2 (.box (.t p0)),
  I0 p4 (.mov (.c (.int .i64 0))),
  I0 p5 (.mov (.c (.int .i64 0)))]
def Kg : SC := .seq none (.reg [(none, UT)]) (.seq none (.seq none (.reg [(none, Vt)]) (.seq none (.reg [(none, UP)]) (.cond (.t p11) (.seq none (.reg [(none, U8)]) (.ret)) (.skip)))) (.seq none (.reg [(none, VG)]) (.ret)))
def abO : AFn := .code (a_plan_Total.map (·.1)) (ik Kg) (z_plan_Total.map (·.1))
abbrev gu : Nat := 20
def jc : Tr Ty := (tN .leaf (tN tB .leaf))
def a_slices_Clone___int_int_ : Kp := [(p0, .any)]
def z_slices_Clone___int_int_ : List (Rv × Ty) := [(.t p2, .any)]
def xW : List Ins := [I0 p5 (.buildSlice 0 [] []),
  I0 p6 (.mov (.t p0)),
  I0 p7 (.append 1 (.t p5) (.t p6)),
  I0 p2 (.mov (.t p7))]
def xL : List Ins := [I0 p2 (.mov (.c .nilslice))]
def xG : List Ins := [I0 p3 (.mov (.t p0)),
  I0 p4 (.eq (.nil .sl) false (.t p3) (.c .nilslice))]
def yk : List Ins := [I0 p2 (.mov (.c .nilslice))]
def oI : SC := .seq none (.reg [(none, yk)]) (.seq none (.seq none (.reg [(none, xG)]) (.cond (.t p4) (.seq none (.reg [(none, xL)]) (.ret)) (.skip))) (.seq none (.reg [(none, xW)]) (.ret)))
def Al : AFn := .code (a_slices_Clone___int_int_.map (·.1)) (ik oI) (z_slices_Clone___int_int_.map (·.1))
abbrev eP : Nat := 35
def sY : Tr Ty := (tJ (tJ (tN tI tI) (tN tB tB)) (tJ (tN tI tI) (tC tB tB)))
def a_colour_within : Kp := [(p0, (.int .i64)), (p1, (.int .i64)), (p2, (.int .i64))]
def z_colour_within : List (Rv × Ty) := [(.t p6, .bool)]
def NL : Kp := [(p14, .bool)]
def Nf : List Ins := [I0 p7 (.mov (.t p0)),
  I0 p8 (.mov (.t p1)),
  I0 p9 (.bin .geq (.t p7) (.t p8)),
  I0 p10 (.mov (.t p9)),
  .op (.on p10 true) (some p11) (.mov (.t p0)),
  .op (.on p10 true) (some p12) (.mov (.t p2)),
  .op (.on p10 true) (some p13) (.bin .leq (.t p11) (.t p12)),
  I0 p14 (.pick (.t p10) (.t p13) (.c (.bool false)))]
def Oa : List Ins := [I0 p6 (.mov (.t p14))]
def Og : List Ins := [I0 p6 (.mov (.c (.bool false)))]
def BC : SC := .seq none (.reg [(none, Og)]) (.seq none (.reg [(some NL, Nf), (none, Oa)]) (.ret))
def TV : AFn := .code (a_colour_within.map (·.1)) (ik BC) (z_colour_within.map (·.1))
abbrev lq : Nat := 36
def Dn : Tr Ty := (tJ (tN tI .leaf) (tC tB .leaf))
def a_colour_may : Kp := [(p0, (.int .i64))]
def z_colour_may : List (Rv × Ty) := [(.t p2, .bool)]
def Vj : List Ins := [I0 p3 (.mov (.t p0)),
  .call .always (some p4) false (.c (.func 35 [] [])) [(.t p3), (.c (.int .i64 1)), (.c (.int .i64 16))],
  I0 p2 (.mov (.t p4))]
def WG : List Ins := [I0 p2 (.mov (.c (.bool false)))]
def Kq : SC := .seq none (.reg [(none, WG)]) (.seq none (.reg [(none, Vj)]) (.ret))
def aaI : AFn := .code (a_colour_may.map (·.1)) (ik Kq) (z_colour_may.map (·.1))
abbrev nV : Nat := 21
def pT : Tr Ty := (tJ (tJ (tN (tJ tB tI) (tC tI tI)) (tN (tC tI tI) (tC tB tI))) (tJ (tN (tJ tB tI) (tJ tB tI)) (tJ (tC tI tI) (tC tB tI))))
def a_colour_Count : Kp := [(p0, (.int .i64)), (p1, (.int .i64)), (p2, (.int .i64))]
def z_colour_Count : List (Rv × Ty) := [(.t p6, (.int .i64)), (.t p7, (.int .i64))]
def QX : Kp := [(p0, (.int .i64)), (p1, (.int .i64)), (p2, (.int .i64)), (p15, .bool)]
def Pa : Kp := [(p0, (.int .i64)), (p1, (.int .i64)), (p2, (.int .i64)), (p22, .bool)]
def Ps : List Ins := [I0 p23 (.mov (.t p0)),
  I0 p24 (.mov (.t p2)),
  I0 p25 (.bin .sub (.t p23) (.t p24)),
  I0 p26 (.mov (.t p1)),
  I0 p27 (.bin .add (.t p25) (.t p26)),
  I0 p28 (.bin .sub (.t p27) (.c (.int .i64 1))),
  I0 p29 (.mov (.t p1)),
  I0 p30 (.bin .quo (.t p28) (.t p29)),
  I0 p6 (.mov (.t p30)),
  I0 p7 (.mov (.c (.int .i64 0)))]
def Qh : List Ins := [I0 p6 (.mov (.c (.int .i64 0))),
  I0 p7 (.mov (.c (.int .i64 2)))]
def QP : List Ins := [I0 p8 (.mov (.t p0)),
  .call .always (some p9) false (.c (.func 35 [] [])) [(.t p8), (.c (.int .i64 1)), (.c (.int .i64 4096))],
  I0 p10 (.not (.t p9)),
  I0 p11 (.mov (.t p10)),
  .op (.on p11 false) (some p12) (.mov (.t p1)),
  .call (.on p11 false) (some p13) false (.c (.func 36 [] [])) [(.t p12)],
  .op (.on p11 false) (some p14) (.not (.t p13)),
  I0 p15 (.pick (.t p11) (.c (.bool true)) (.t p14))]
def Px : List Ins := [I0 p16 (.mov (.t p15)),
  .op (.on p16 false) (some p17) (.mov (.t p2)),
  .op (.on p16 false) (some p18) (.mov (.t p1)),
  .op (.on p16 false) (some p19) (.bin .sub (.t p18) (.c (.int .i64 1))),
  .call (.on p16 false) (some p20) false (.c (.func 35 [] [])) [(.t p17), (.c (.int .i64 0)), (.t p19)],
  .op (.on p16 false) (some p21) (.not (.t p20)),
  I0 p22 (.pick (.t p16) (.c (.bool true)) (.t p21))]
def Rd : List Ins := [I0 p6 (.mov (.c (.int .i64 0))),
  I0 p7 (.mov (.c (.int .i64 0)))]
def Cs : SC := .seq none (.reg [(none, Rd)]) (.seq none (.seq none (.reg [(some QX, QP), (some Pa, Px)]) (.cond (.t p22) (.seq none (.reg [(none, Qh)]) (.ret)) (.skip))) (.seq none (.reg [(none, Ps)]) (.ret)))
def Uv : AFn := .code (a_colour_Count.map (·.1)) (ik Cs) (z_colour_Count.map (·.1))
abbrev tu : Nat := 22
def mm : Tr Ty := (tJ (tN (tJ (tJ (tN tI .leaf) tI) (tC (tC tI .leaf) tI)) (tJ (tC (tJ tI .leaf) tI) (tJ tI tB))) (tN (tN (tC .leaf (tJ tI .leaf)) (tC tI tI)) (tJ (tJ tI tI) (tN tI tI))))
def a_buddy_New : Kp := [(p0, (.int .i64))]
def z_buddy_New : List (Rv × Ty) := [(.t p2, .any), (.t p3, (.int .i64))]
def Y6 : Kp := [(p4, .any)]
def OC : Kp := [(p0, (.int .i64)), (p4, .any), (p5, (.int .i64)), (p6, (.int .i64))]
def Yi : Kp := [(p0, (.int .i64)), (p4, .any), (p5, (.int .i64)), (p6, (.int .i64))]
def OB : Kp := [(p0, (.int .i64)), (p4, .any), (p5, (.int .i64)), (p6, (.int .i64))]
def Yb : Kp := [(p0, (.int .i64)), (p12, .bool)]
def YX : List Ins := [I0 p46 (.mov (.t p4)),
  I0 p2 (.mov (.t p46)),
  I0 p3 (.mov (.c (.int .i64 0)))]
def X0 : List Ins := [I0 p20 (.mov (.t p5)),
  I0 p21 (.mov (.t p6)),
  I0 p22 (.bin .shl (.c (.int .i64 1)) (.t p21)),
  I0 p23 (.bin .add (.t p20) (.t p22)),
  I0 p5 (.mov (.t p23))]
def Yt : List Ins := [I0 p32 (.mov (.t p4)),
  I0 p33 (.mov (.t p6)),
  I0 p34 (.mov (.t p4)),
  I0 p35 (.mov (.t p6)),
  I0 p36 (.nilchk (.t p34)),
  I0 p37 (.fa 2 (.t p36)),
  I0 p38 (.iaA 1 7 (.t p37) (.t p35)),
  I0 p39 (.load 1 false (.t p38)),
  I0 p40 (.mov (.t p5)),
  I0 p41 (.buildSlice 1 [(.int .i64 0)] [(0, 1, (.t p40))]),
  I0 p42 (.append 1 (.t p39) (.t p41)),
  I0 p43 (.nilchk (.t p32)),
  I0 p44 (.fa 2 (.t p43)),
  I0 p45 (.iaA 1 7 (.t p44) (.t p33)),
  .op .always none (.store 1 (.t p45) (.t p42))]
def YM : List Ins := [I0 p30 (.mov (.t p6)),
  I0 p31 (.bin .sub (.t p30) (.c (.int .i64 1))),
  I0 p6 (.mov (.t p31))]
def YQ : List Ins := [I0 p24 (.mov (.t p5)),
  I0 p25 (.mov (.t p6)),
  I0 p26 (.bin .shl (.c (.int .i64 1)) (.t p25)),
  I0 p27 (.bin .add (.t p24) (.t p26)),
  I0 p28 (.mov (.t p0)),
  I0 p29 (.bin .gtr (.t p27) (.t p28))]
def Yh : List Ins := [I0 p17 (.mov (.t p5)),
  I0 p18 (.mov (.t p0)),
  I0 p19 (.bin .lss (.t p17) (.t p18))]
def X5 : List Ins := [I0 p5 (.mov (.c (.int .i64 0))),
  I0 p6 (.mov (.c (.int .i64 6)))]
def Yx : List Ins := [I0 p13 (.mov (.t p0)),
  I0 p14 (.mkmap),
  I0 p15 (.build [(.bool false), (.int .i64 0), .nilslice, .nilslice, .nilslice, .nilslice, .nilslice, .nilslice, .nilslice, .nilmap] [(0, 1, (.c (.bool true))), (1, 1, (.t p13)), (9, 1, (.t p14))]),
  I0 p16 (.box (.t p15)),
  I0 p4 (.mov (.t p16))]
def Ys : List Ins := [I0 p2 (.mov (.c .nilptr)),
  I0 p3 (.mov (.c (.int .i64 2)))]
def YZ : List Ins := [I0 p7 (.mov (.t p0)),
  I0 p8 (.bin .lss (.t p7) (.c (.int .i64 0))),
  I0 p9 (.mov (.t p8)),
  .op (.on p9 false) (some p10) (.mov (.t p0)),
  .op (.on p9 false) (some p11) (.bin .gtr (.t p10) (.c (.int .i64 4096))),
  I0 p12 (.pick (.t p9) (.c (.bool true)) (.t p11))]
def V3 : List Ins := [I0 p2 (.mov (.c .nilptr)),
  I0 p3 (.mov (.c (.int .i64 0)))]
def N1 : SC := .seq none (.reg [(none, V3)]) (.seq none (.seq none (.reg [(some Yb, YZ)]) (.cond (.t p12) (.seq none (.reg [(none, Ys)]) (.ret)) (.skip))) (.seq none (.reg [(none, Yx)]) (.seq none (.seq none (.reg [(none, X5)]) (.block 0 (some Y6) (.loop OC (.seq none (.seq none (.reg [(none, Yh)]) (.cond (.t p19) (.skip) (.exit 0))) (.seq none (.block 1 none (.seq none (.block 2 (some Yi) (.loop OB (.seq none (.seq none (.reg [(none, YQ)]) (.cond (.t p29) (.skip) (.exit 2))) (.block 3 none (.reg [(none, YM)]))))) (.reg [(none, Yt)]))) (.reg [(none, X0)])))))) (.seq none (.reg [(none, YX)]) (.ret)))))
def aer : AFn := .code (a_buddy_New.map (·.1)) (ik N1) (z_buddy_New.map (·.1))
abbrev vA : Nat := 7
def ja : Tr Ty := (tN (tJ (tN (tJ (tN .leaf (tN tI .leaf)) (tJ (tN tI .leaf) .leaf)) (tJ (tJ (tJ tI .leaf) .leaf) (tN .leaf tI))) (tJ (tN (tJ (tN tI .leaf) (tN tB .leaf)) (tN (tN tB .leaf) .leaf)) (tJ tI (tN .leaf (tN tI .leaf))))) (tN (tN (tN (tN .leaf (tJ tI .leaf)) (tN (tN tI .leaf) .leaf)) (tJ (tJ (tJ tI .leaf) .leaf) (tN (tJ tI .leaf) .leaf))) (tJ (tN (tN .leaf (tJ tI .leaf)) (tJ (tJ tI .leaf) tI)) (tN (tC (tN tI .leaf) .leaf) (tJ tI tI)))))
def a_pool_New : Kp := [(p0, .any), (p1, (.int .i64))]
def z_pool_New : List (Rv × Ty) := [(.t p4, .any), (.t p5, (.int .i64))]
def abU : Kp := [(p9, .any)]
def RQ : Kp := [(p2, .any), (p9, .any), (p57, .any), (p58, (.int .i64)), (p59, (.int .i64))]
def aaG : List Ins := [I0 p94 (.mov (.t p9)),
  I0 p4 (.mov (.t p94)),
  I0 p5 (.mov (.c (.int .i64 0)))]
def aaj : List Ins := [I0 p93 (.bin .add (.t p59) (.c (.int .i64 1))),
  I0 p59 (.mov (.t p93))]
def abt : List Ins := [I0 p83 (.mov (.t p9)),
  I0 p84 (.mov (.t p9)),
  I0 p85 (.nilchk (.t p84)),
  I0 p86 (.fa 11 (.t p85)),
  I0 p87 (.load 1 false (.t p86)),
  I0 p88 (.mov (.t p14)),
  I0 p89 (.buildSlice 1 [.nilptr] [(0, 1, (.t p88))]),
  I0 p90 (.append 1 (.t p87) (.t p89)),
  I0 p91 (.nilchk (.t p83)),
  I0 p92 (.fa 11 (.t p91)),
  .op .always none (.store 1 (.t p92) (.t p90))]
def aam : List Ins := [I0 p82 (.mov (.t p13)),
  I0 p4 (.mov (.c .nilptr)),
  I0 p5 (.mov (.t p82))]
def abT : List Ins := [I0 p80 (.mov (.t p13)),
  I0 p81 (.bin .neq (.t p80) (.c (.int .i64 0)))]
def aaD : List Ins := [I0 p76 (.mov (.t p12)),
  .call .always (some p77) false (.c (.func 22 [] [])) [(.t p76)],
  I0 p75 (.mov (.t p77)),
  I0 p78 (.ext 0 (.t p75)),
  I0 p79 (.ext 1 (.t p75)),
  I0 p14 (.mov (.t p78)),
  I0 p13 (.mov (.t p79))]
def aaU : List Ins := [I0 p74 (.mov (.t p13)),
  I0 p4 (.mov (.c .nilptr)),
  I0 p5 (.mov (.t p74))]
def aat : List Ins := [I0 p72 (.mov (.t p13)),
  I0 p73 (.bin .neq (.t p72) (.c (.int .i64 0)))]
def Z7 : List Ins := [I0 p64 (.fa 0 (.t p2)),
  I0 p65 (.load 1 false (.t p64)),
  I0 p66 (.fa 1 (.t p2)),
  I0 p67 (.load 1 false (.t p66)),
  I0 p68 (.mov (.t p11)),
  .call .always (some p69) false (.c (.func 21 [] [])) [(.t p65), (.t p67), (.t p68)],
  I0 p63 (.mov (.t p69)),
  I0 p70 (.ext 0 (.t p63)),
  I0 p71 (.ext 1 (.t p63)),
  I0 p12 (.mov (.t p70)),
  I0 p13 (.mov (.t p71))]
def abc : List Ins := [I0 p61 (.iaS 1 (.t p57) (.t p59)),
  I0 p62 (.load 1 false (.t p61)),
  I0 p11 (.mov (.t p62))]
def Yy : List Ins := [I0 p60 (.bin .lss (.t p59) (.t p58))]
def YH : List Ins := [I0 p54 (.mov (.t p9)),
  I0 p55 (.nilchk (.t p54)),
  I0 p56 (.fa 1 (.t p55)),
  I0 p57 (.load 1 false (.t p56)),
  I0 p58 (.len .sl (.t p57)),
  I0 p59 (.mov (.c (.int .i64 0)))]
def Ya : List Ins := [I0 p40 (.mov (.t p9)),
  I0 p41 (.fa 2 (.t p8)),
  I0 p42 (.load 1 false (.t p41)),
  I0 p43 (.fa 3 (.t p8)),
  I0 p44 (.load 1 false (.t p43)),
  I0 p45 (.fa 4 (.t p8)),
  I0 p46 (.load 1 false (.t p45)),
  I0 p47 (.fa 5 (.t p8)),
  I0 p48 (.load 1 false (.t p47)),
  I0 p49 (.fa 6 (.t p8)),
  I0 p50 (.load 1 false (.t p49)),
  I0 p51 (.build [(.int .i64 0), (.int .i64 0), (.int .i64 0), (.int .i64 0), (.int .i64 0), (.int .i64 0), (.int .i64 0)] [(2, 1, (.t p42)), (3, 1, (.t p44)), (4, 1, (.t p46)), (5, 1, (.t p48)), (6, 1, (.t p50))]),
  I0 p52 (.nilchk (.t p40)),
  I0 p53 (.fa 3 (.t p52)),
  .op .always none (.store 7 (.t p53) (.t p51))]
def Ym : List Ins := [I0 p29 (.fa 1 (.t p2)),
  I0 p30 (.load 1 false (.t p29)),
  I0 p31 (.fa 0 (.t p8)),
  I0 p32 (.load 1 false (.t p31)),
  .call .always (some p33) true (.c (.func 20 [] [])) [(.t p32)],
  I0 p34 (.fa 1 (.t p8)),
  I0 p35 (.load 1 false (.t p34)),
  I0 p36 (.mov (.t p6)),
  I0 p37 (.mkmap),
  I0 p38 (.build [(.int .i64 0), .nilslice, (.int .i64 0), (.int .i64 0), (.int .i64 0), (.int .i64 0), (.int .i64 0), (.int .i64 0), (.int .i64 0), (.int .i64 0), (.int .i64 0), .nilslice, .nilmap, (.int .i64 0), (.int .i64 0), (.int .i64 0), (.int .i64 0), (.int .i64 0), (.int .i64 0), (.int .i64 0)] [(0, 1, (.t p30)), (1, 1, (.t p33)), (2, 1, (.t p35)), (10, 1, (.t p36)), (12, 1, (.t p37))]),
  I0 p39 (.box (.t p38)),
  I0 p9 (.mov (.t p39))]
def X9 : List Ins := [I0 p24 (.fa 16 (.t p2)),
  I0 p25 (.load 1 false (.t p24)),
  I0 p26 (.mov (.t p1)),
  I0 p27 (.iaS 8 (.t p25) (.t p26)),
  I0 p28 (.load 8 true (.t p27)),
  I0 p8 (.alloc [.nilslice, (.int .i64 0), (.int .i64 0), (.int .i64 0), (.int .i64 0), (.int .i64 0), (.int .i64 0), (.int .i64 0)]),
  .op .always none (.store 8 (.t p8) (.t p28))]
def Yd : List Ins := [I0 p23 (.mov (.t p7)),
  I0 p4 (.mov (.c .nilptr)),
  I0 p5 (.mov (.t p23))]
def Y1 : List Ins := [I0 p21 (.mov (.t p7)),
  I0 p22 (.bin .neq (.t p21) (.c (.int .i64 0)))]
def Yq : List Ins := [I0 p16 (.load 17 true (.t p2)),
  I0 p17 (.mov (.t p1)),
  .call .always (some p18) false (.c (.func 19 [] [])) [(.t p16), (.t p17)],
  I0 p15 (.mov (.t p18)),
  I0 p19 (.ext 0 (.t p15)),
  I0 p20 (.ext 1 (.t p15)),
  I0 p6 (.mov (.t p19)),
  I0 p7 (.mov (.t p20))]
def Yz : List Ins := [I0 p2 (.box (.t p0)),
  I0 p4 (.mov (.c .nilptr)),
  I0 p5 (.mov (.c (.int .i64 0)))]
def RP : SC := .seq none (.reg [(none, Yz)]) (.seq none (.reg [(none, Yq)]) (.seq none (.seq none (.reg [(none, Y1)]) (.cond (.t p22) (.seq none (.reg [(none, Yd)]) (.ret)) (.skip))) (.seq none (.reg [(none, X9)]) (.seq none (.reg [(none, Ym)]) (.seq none (.reg [(none, Ya)]) (.seq none (.seq none (.reg [(none, YH)]) (.block 0 (some abU) (.loop RQ (.seq none (.reg [(none, Yy)]) (.seq none (.cond (.t p60) (.skip) (.exit 0)) (.seq none (.block 1 none (.seq none (.reg [(none, abc)]) (.seq none (.reg [(none, Z7)]) (.seq none (.seq none (.reg [(none, aat)]) (.cond (.t p73) (.seq none (.reg [(none, aaU)]) (.ret)) (.skip))) (.seq none (.reg [(none, aaD)]) (.seq none (.seq none (.reg [(none, abT)]) (.cond (.t p81) (.seq none (.reg [(none, aam)]) (.ret)) (.skip))) (.reg [(none, abt)]))))))) (.reg [(none, aaj)]))))))) (.seq none (.reg [(none, aaG)]) (.ret))))))))
def agM : AFn := .code (a_pool_New.map (·.1)) (ik RP) (z_pool_New.map (·.1))
abbrev dC : Nat := 24
def pd : Tr Ty := (tN (tN (tN .leaf tB) tB) (tC tB (tN tB .leaf)))
def a_pool_Pool__there : Kp := [(p0, .any)]
def z_pool_Pool__there : List (Rv × Ty) := [(.t p2, .bool)]
def GZ : Kp := [(p11, .bool)]
def GP : List Ins := [I0 p3 (.mov (.t p0)),
  I0 p4 (.eq (.nil .ptr) true (.t p3) (.c .nilptr)),
  I0 p5 (.mov (.t p4)),
  .op (.on p5 true) (some p6) (.mov (.t p0)),
  .op (.on p5 true) (some p7) (.nilchk (.t p6)),
  .op (.on p5 true) (some p8) (.fa 12 (.t p7)),
  .op (.on p5 true) (some p9) (.load 1 false (.t p8)),
  .op (.on p5 true) (some p10) (.eq (.nil .mp) true (.t p9) (.c .nilmap)),
  I0 p11 (.pick (.t p5) (.t p10) (.c (.bool false)))]
def GU : List Ins := [I0 p2 (.mov (.t p11))]
def GG : List Ins := [I0 p2 (.mov (.c (.bool false)))]
def vy : SC := .seq none (.reg [(none, GG)]) (.seq none (.reg [(some GZ, GP), (none, GU)]) (.ret))
def Mg : AFn := .code (a_pool_Pool__there.map (·.1)) (ik vy) (z_pool_Pool__there.map (·.1))
abbrev eU : Nat := 45
def ol : Tr Ty := (tN (tN (tN .leaf tB) (tC tB .leaf)) (tC tB (tN tB .leaf)))
def a_buddy_Buddy__none : Kp := [(p0, .any)]
def z_buddy_Buddy__none : List (Rv × Ty) := [(.t p2, .bool)]
def EP : Kp := [(p11, .bool)]
def Ej : List Ins := [I0 p3 (.mov (.t p0)),
  I0 p4 (.eq (.nil .ptr) false (.t p3) (.c .nilptr)),
  I0 p5 (.mov (.t p4)),
  .op (.on p5 false) (some p6) (.mov (.t p0)),
  .op (.on p5 false) (some p7) (.nilchk (.t p6)),
  .op (.on p5 false) (some p8) (.fa 0 (.t p7)),
  .op (.on p5 false) (some p9) (.load 1 false (.t p8)),
  .op (.on p5 false) (some p10) (.not (.t p9)),
  I0 p11 (.pick (.t p5) (.c (.bool true)) (.t p10))]
def Ev : List Ins := [I0 p2 (.mov (.t p11))]
def Es : List Ins := [I0 p2 (.mov (.c (.bool false)))]
def uz : SC := .seq none (.reg [(none, Es)]) (.seq none (.reg [(some EP, Ej), (none, Ev)]) (.ret))
def JA : AFn := .code (a_buddy_Buddy__none.map (·.1)) (ik uz) (z_buddy_Buddy__none.map (·.1))
abbrev fS : Nat := 50
def ed : Tr Ty := (tN (tJ (tN (tJ tI .leaf) (tN tI .leaf)) (tN tI (tN tI tI))) (tJ (tN (tN tB tI) tI) (tN tI (tJ .leaf tI))))
def a_slices_Delete___int_int_ : Kp := [(p0, .any), (p1, (.int .i64)), (p2, (.int .i64))]
def z_slices_Delete___int_int_ : List (Rv × Ty) := [(.t p6, .any)]
def wd : List Ins := [I0 p32 (.mov (.t p0)),
  I0 p6 (.mov (.t p32))]
def vN : List Ins := [I0 p27 (.mov (.t p0)),
  I0 p28 (.mov (.t p0)),
  I0 p29 (.len .sl (.t p28)),
  I0 p30 (.mov (.t p7)),
  I0 p31 (.sl (.sl 1) (.t p27) (some (.t p29)) (some (.t p30)) none),
  .op .always none (.clear [(.int .i64 0)] (.t p31))]
def wB : List Ins := [I0 p20 (.mov (.t p0)),
  I0 p21 (.mov (.t p1)),
  I0 p22 (.sl (.sl 1) (.t p20) none (some (.t p21)) none),
  I0 p23 (.mov (.t p0)),
  I0 p24 (.mov (.t p2)),
  I0 p25 (.sl (.sl 1) (.t p23) (some (.t p24)) none none),
  I0 p26 (.append 1 (.t p22) (.t p25)),
  I0 p0 (.mov (.t p26))]
def wj : List Ins := [I0 p18 (.mov (.t p0)),
  I0 p19 (.len .sl (.t p18)),
  I0 p7 (.mov (.t p19))]
def vW : List Ins := [I0 p17 (.mov (.t p0)),
  I0 p6 (.mov (.t p17))]
def wC : List Ins := [I0 p14 (.mov (.t p1)),
  I0 p15 (.mov (.t p2)),
  I0 p16 (.bin .eql (.t p14) (.t p15))]
def wc : List Ins := [I0 p8 (.mov (.t p0)),
  I0 p9 (.mov (.t p1)),
  I0 p10 (.mov (.t p2)),
  I0 p11 (.mov (.t p0)),
  I0 p12 (.len .sl (.t p11)),
  I0 p13 (.sl (.sl 1) (.t p8) (some (.t p9)) (some (.t p10)) (some (.t p12)))]
def vL : List Ins := [I0 p6 (.mov (.c .nilslice))]
def nQ : SC := .seq none (.reg [(none, vL)]) (.seq none (.reg [(none, wc)]) (.seq none (.seq none (.reg [(none, wC)]) (.cond (.t p16) (.seq none (.reg [(none, vW)]) (.ret)) (.skip))) (.seq none (.reg [(none, wj)]) (.seq none (.reg [(none, wB)]) (.seq none (.reg [(none, vN)]) (.seq none (.reg [(none, wd)]) (.ret)))))))
def yJ : AFn := .code (a_slices_Delete___int_int_.map (·.1)) (ik nQ) (z_slices_Delete___int_int_.map (·.1))
abbrev lV : Nat := 83
def uK : Tr Ty := (tJ (tN tI tB) (tC tI .leaf))
def a_cmp_isNaN_int_ : Kp := [(p0, (.int .i64))]
def z_cmp_isNaN_int_ : List (Rv × Ty) := [(.t p2, .bool)]
def Mh : List Ins := [I0 p3 (.mov (.t p0)),
  I0 p4 (.mov (.t p0)),
  I0 p5 (.bin .neq (.t p3) (.t p4)),
  I0 p2 (.mov (.t p5))]
def MF : List Ins := [I0 p2 (.mov (.c (.bool false)))]
def zW : SC := .seq none (.reg [(none, MF)]) (.seq none (.reg [(none, Mh)]) (.ret))
def OY : AFn := .code (a_cmp_isNaN_int_.map (·.1)) (ik zW) (z_cmp_isNaN_int_.map (·.1))
abbrev mJ : Nat := 65
def qp : Tr Ty := (tJ (tJ (tN (tC tB .leaf) tB) (tJ tB tI)) (tN (tC (tJ tB .leaf) tB) (tC tB tI)))
def a_cmp_Less_int_ : Kp := [(p0, (.int .i64)), (p1, (.int .i64))]
def z_cmp_Less_int_ : List (Rv × Ty) := [(.t p4, .bool)]
def Nc : Kp := [(p0, (.int .i64)), (p1, (.int .i64)), (p11, .bool)]
def NS : Kp := [(p16, .bool)]
def NJ : List Ins := [I0 p5 (.mov (.t p0)),
  .call .always (some p6) false (.c (.func 83 [] [])) [(.t p5)],
  I0 p7 (.mov (.t p6)),
  .op (.on p7 true) (some p8) (.mov (.t p1)),
  .call (.on p7 true) (some p9) false (.c (.func 83 [] [])) [(.t p8)],
  .op (.on p7 true) (some p10) (.not (.t p9)),
  I0 p11 (.pick (.t p7) (.t p10) (.c (.bool false)))]
def No : List Ins := [I0 p12 (.mov (.t p11)),
  .op (.on p12 false) (some p13) (.mov (.t p0)),
  .op (.on p12 false) (some p14) (.mov (.t p1)),
  .op (.on p12 false) (some p15) (.bin .lss (.t p13) (.t p14)),
  I0 p16 (.pick (.t p12) (.c (.bool true)) (.t p15))]
def NN : List Ins := [I0 p4 (.mov (.t p16))]
def Nt : List Ins := [I0 p4 (.mov (.c (.bool false)))]
def Bq : SC := .seq none (.reg [(none, Nt)]) (.seq none (.reg [(some Nc, NJ), (some NS, No), (none, NN)]) (.ret))
def Ti : AFn := .code (a_cmp_Less_int_.map (·.1)) (ik Bq) (z_cmp_Less_int_.map (·.1))
abbrev jM : Nat := 66
def qw : Tr Ty := (tJ (tN tI tB) (tC tI .leaf))
def a_slices_isNaN_int_ : Kp := [(p0, (.int .i64))]
def z_slices_isNaN_int_ : List (Rv × Ty) := [(.t p2, .bool)]
def El : List Ins := [I0 p3 (.mov (.t p0)),
  I0 p4 (.mov (.t p0)),
  I0 p5 (.bin .neq (.t p3) (.t p4)),
  I0 p2 (.mov (.t p5))]
def EM : List Ins := [I0 p2 (.mov (.c (.bool false)))]
def uw : SC := .seq none (.reg [(none, EM)]) (.seq none (.reg [(none, El)]) (.ret))
def I4 : AFn := .code (a_slices_isNaN_int_.map (·.1)) (ik uw) (z_slices_isNaN_int_.map (·.1))
abbrev dN : Nat := 49
def cV : Tr Ty := (tN (tJ (tN (tJ (tC tI tB) (tJ tI .leaf)) (tJ (.node tB (some (.int .u64)) tB) tB)) (tC (tJ (tJ tI tI) (tJ tB .leaf)) (tJ (tJ tI tB) tI))) (tN (tJ (tJ (tJ tI tB) (tN tI .leaf)) (tJ (.node .leaf (some (.int .u64)) tB) (tJ tI .leaf))) (tJ (tN (tJ tB tB) (tJ tB .leaf)) (tJ .leaf (tJ tI .leaf)))))
def a_slices_BinarySearch___int_int_ : Kp := [(p0, .any), (p1, (.int .i64))]
def z_slices_BinarySearch___int_int_ : List (Rv × Ty) := [(.t p4, (.int .i64)), (.t p5, .bool)]
def sh : Kp := [(p31, (.int .i64)), (p53, .bool)]
def rU : Kp := [(p0, .any), (p1, (.int .i64)), (p6, (.int .i64)), (p7, (.int .i64))]
def kz : Kp := [(p0, .any), (p1, (.int .i64)), (p6, (.int .i64)), (p7, (.int .i64)), (p8, (.int .i64))]
def rV : List Ins := [I0 p31 (.mov (.t p7)),
  I0 p32 (.mov (.t p7)),
  I0 p33 (.mov (.t p6)),
  I0 p34 (.bin .lss (.t p32) (.t p33)),
  I0 p35 (.mov (.t p34)),
  .op (.on p35 true) (some p36) (.mov (.t p0)),
  .op (.on p35 true) (some p37) (.mov (.t p7)),
  .op (.on p35 true) (some p38) (.iaS 1 (.t p36) (.t p37)),
  .op (.on p35 true) (some p39) (.load 1 false (.t p38)),
  .op (.on p35 true) (some p40) (.mov (.t p1)),
  .op (.on p35 true) (some p41) (.bin .eql (.t p39) (.t p40)),
  .op (.on p35 true) (some p42) (.mov (.t p41)),
  .op (.on p42 false) (some p43) (.mov (.t p0)),
  .op (.on p42 false) (some p44) (.mov (.t p7)),
  .op (.on p42 false) (some p45) (.iaS 1 (.t p43) (.t p44)),
  .op (.on p42 false) (some p46) (.load 1 false (.t p45)),
  .call (.on p42 false) (some p47) false (.c (.func 66 [] [])) [(.t p46)],
  .op (.on p42 false) (some p48) (.mov (.t p47)),
  .op (.on p48 true) (some p49) (.mov (.t p1)),
  .call (.on p48 true) (some p50) false (.c (.func 66 [] [])) [(.t p49)],
  .op (.on p42 false) (some p51) (.pick (.t p48) (.t p50) (.c (.bool false))),
  .op (.on p35 true) (some p52) (.pick (.t p42) (.c (.bool true)) (.t p51)),
  I0 p53 (.pick (.t p35) (.t p52) (.c (.bool false)))]
def rW : List Ins := [I0 p4 (.mov (.t p31)),
  I0 p5 (.mov (.t p53))]
def rS : List Ins := [I0 p28 (.mov (.t p9)),
  I0 p29 (.bin .add (.t p28) (.c (.int .i64 1))),
  I0 p7 (.mov (.t p29))]
def se : List Ins := [I0 p30 (.mov (.t p9)),
  I0 p8 (.mov (.t p30))]
def rK : List Ins := [I0 p22 (.mov (.t p0)),
  I0 p23 (.mov (.t p9)),
  I0 p24 (.iaS 1 (.t p22) (.t p23)),
  I0 p25 (.load 1 false (.t p24)),
  I0 p26 (.mov (.t p1)),
  .call .always (some p27) false (.c (.func 65 [] [])) [(.t p25), (.t p26)]]
def rL : List Ins := [I0 p16 (.mov (.t p7)),
  I0 p17 (.mov (.t p8)),
  I0 p18 (.bin .add (.t p16) (.t p17)),
  I0 p19 (.conv .u64 (.t p18)),
  I0 p20 (.bin .shr (.t p19) (.c (.int .u64 1))),
  I0 p21 (.conv .i64 (.t p20)),
  I0 p9 (.mov (.t p21))]
def rQ : List Ins := [I0 p13 (.mov (.t p7)),
  I0 p14 (.mov (.t p8)),
  I0 p15 (.bin .lss (.t p13) (.t p14))]
def rZ : List Ins := [I0 p12 (.mov (.t p6)),
  I0 p7 (.mov (.c (.int .i64 0))),
  I0 p8 (.mov (.t p12))]
def rP : List Ins := [I0 p10 (.mov (.t p0)),
  I0 p11 (.len .sl (.t p10)),
  I0 p6 (.mov (.t p11))]
def rJ : List Ins := [I0 p4 (.mov (.c (.int .i64 0))),
  I0 p5 (.mov (.c (.bool false)))]
def ly : SC := .seq none (.reg [(none, rJ)]) (.seq none (.reg [(none, rP)]) (.seq none (.reg [(none, rZ)]) (.seq none (.block 0 (some rU) (.loop kz (.seq none (.seq none (.reg [(none, rQ)]) (.cond (.t p15) (.skip) (.exit 0))) (.block 1 none (.seq none (.reg [(none, rL)]) (.seq none (.reg [(none, rK)]) (.cond (.t p27) (.reg [(none, rS)]) (.reg [(none, se)])))))))) (.seq none (.reg [(some sh, rV), (none, rW)]) (.ret)))))
def s9 : AFn := .code (a_slices_BinarySearch___int_int_.map (·.1)) (ik ly) (z_slices_BinarySearch___int_int_.map (·.1))
abbrev kD : Nat := 51
def sd : Tr Ty := (tN (tJ (tN (tC tI .leaf) (tN .leaf tI)) (tN (tN tI .leaf) .leaf)) (tJ (tN .leaf (tN tI tI)) (tJ (tJ tB .leaf) (tN tI .leaf))))
def a_buddy_Buddy__put : Kp := [(p0, .any), (p1, (.int .i64)), (p2, (.int .i64))]
def z_buddy_Buddy__put : List (Rv × Ty) := []
def G5 : List Ins := [I0 p19 (.mov (.t p0)),
  I0 p20 (.mov (.t p2)),
  I0 p21 (.mov (.t p0)),
  I0 p22 (.mov (.t p2)),
  I0 p23 (.nilchk (.t p21)),
  I0 p24 (.fa 2 (.t p23)),
  I0 p25 (.iaA 1 7 (.t p24) (.t p22)),
  I0 p26 (.load 1 false (.t p25)),
  I0 p27 (.mov (.t p6)),
  I0 p28 (.mov (.t p1)),
  I0 p29 (.buildSlice 1 [(.int .i64 0)] [(0, 1, (.t p28))]),
  .call .always (some p30) false (.c (.func 67 [] [])) [(.t p26), (.t p27), (.t p29)],
  I0 p31 (.nilchk (.t p19)),
  I0 p32 (.fa 2 (.t p31)),
  I0 p33 (.iaA 1 7 (.t p32) (.t p20)),
  .op .always none (.store 1 (.t p33) (.t p30))]
def Ht : List Ins := [I0 p9 (.mov (.t p0)),
  I0 p10 (.mov (.t p2)),
  I0 p11 (.nilchk (.t p9)),
  I0 p12 (.fa 2 (.t p11)),
  I0 p13 (.iaA 1 7 (.t p12) (.t p10)),
  I0 p14 (.load 1 false (.t p13)),
  I0 p15 (.mov (.t p1)),
  .call .always (some p16) false (.c (.func 49 [] [])) [(.t p14), (.t p15)],
  I0 p8 (.mov (.t p16)),
  I0 p17 (.ext 0 (.t p8)),
  I0 p18 (.ext 1 (.t p8)),
  I0 p6 (.mov (.t p17)),
  I0 p7 (.mov (.t p18))]
def vx : SC := .seq none (.reg [(none, Ht)]) (.reg [(none, G5)])
def MC : AFn := .code (a_buddy_Buddy__put.map (·.1)) (ik vx) (z_buddy_Buddy__put.map (·.1))
abbrev jP : Nat := 43
def c0 : Tr Ty := (tN (tJ (tN (tJ (tJ (tJ tI .leaf) .leaf) (tJ (tN tI .leaf) tI)) (tC tI (tN .leaf tI))) (tJ (tN (tC (tJ tI .leaf) .leaf) (tN (tN tI .leaf) tB)) (tC tB (tC .leaf tI)))) (tN (tJ (tC (tC (tJ tI .leaf) .leaf) (tN (tN tI .leaf) tI)) (tJ (tC tI .leaf) (tJ tI .leaf))) (tJ (tC (tJ tB .leaf) (tN tI tI)) (tC .leaf (tC tI tI)))))
def a_buddy_Buddy__Take : Kp := [(p0, .any), (p1, (.int .i64))]
def z_buddy_Buddy__Take : List (Rv × Ty) := [(.t p4, (.int .i64)), (.t p5, (.int .i64))]
def ED : Kp := [(p0, .any), (p1, (.int .i64)), (p7, (.int .i64))]
def w4 : Kp := [(p0, .any), (p1, (.int .i64)), (p6, (.int .i64)), (p7, (.int .i64))]
def EO : Kp := [(p0, .any), (p1, (.int .i64)), (p6, (.int .i64))]
def wY : Kp := [(p0, .any), (p1, (.int .i64)), (p6, (.int .i64))]
def En : Kp := [(p0, .any), (p1, (.int .i64)), (p6, (.int .i64)), (p30, .bool)]
def Ez : Kp := [(p0, .any), (p1, (.int .i64)), (p17, .bool)]
def EC : List Ins := [I0 p73 (.mov (.t p7)),
  I0 p4 (.mov (.t p73)),
  I0 p5 (.mov (.c (.int .i64 0)))]
def EE : List Ins := [I0 p67 (.mov (.t p0)),
  I0 p68 (.nilchk (.t p67)),
  I0 p69 (.fa 9 (.t p68)),
  I0 p70 (.load 1 false (.t p69)),
  I0 p71 (.mov (.t p7)),
  I0 p72 (.mov (.t p1)),
  .op .always none (.mapset (.cell .int) (.t p70) (.t p71) (.t p72))]
def D7 : List Ins := [I0 p60 (.mov (.t p0)),
  I0 p61 (.mov (.t p7)),
  I0 p62 (.mov (.t p6)),
  I0 p63 (.bin .shl (.c (.int .i64 1)) (.t p62)),
  I0 p64 (.bin .add (.t p61) (.t p63)),
  I0 p65 (.mov (.t p6)),
  .call .always (some p66) false (.c (.func 51 [] [])) [(.t p60), (.t p64), (.t p65)]]
def EF : List Ins := [I0 p58 (.mov (.t p6)),
  I0 p59 (.bin .sub (.t p58) (.c (.int .i64 1))),
  I0 p6 (.mov (.t p59))]
def EJ : List Ins := [I0 p55 (.mov (.t p6)),
  I0 p56 (.mov (.t p1)),
  I0 p57 (.bin .gtr (.t p55) (.t p56))]
def Er : List Ins := [I0 p43 (.mov (.t p0)),
  I0 p44 (.mov (.t p6)),
  I0 p45 (.mov (.t p0)),
  I0 p46 (.mov (.t p6)),
  I0 p47 (.nilchk (.t p45)),
  I0 p48 (.fa 2 (.t p47)),
  I0 p49 (.iaA 1 7 (.t p48) (.t p46)),
  I0 p50 (.load 1 false (.t p49)),
  .call .always (some p51) false (.c (.func 50 [] [])) [(.t p50), (.c (.int .i64 0)), (.c (.int .i64 1))],
  I0 p52 (.nilchk (.t p43)),
  I0 p53 (.fa 2 (.t p52)),
  I0 p54 (.iaA 1 7 (.t p53) (.t p44)),
  .op .always none (.store 1 (.t p54) (.t p51))]
def Eo : List Ins := [I0 p35 (.mov (.t p0)),
  I0 p36 (.mov (.t p6)),
  I0 p37 (.nilchk (.t p35)),
  I0 p38 (.fa 2 (.t p37)),
  I0 p39 (.iaA 1 7 (.t p38) (.t p36)),
  I0 p40 (.load 1 false (.t p39)),
  I0 p41 (.iaS 1 (.t p40) (.c (.int .i64 0))),
  I0 p42 (.load 1 false (.t p41)),
  I0 p7 (.mov (.t p42))]
def EA : List Ins := [I0 p4 (.mov (.c (.int .i64 0))),
  I0 p5 (.mov (.c (.int .i64 90)))]
def D9 : List Ins := [I0 p33 (.mov (.t p6)),
  I0 p34 (.bin .gtr (.t p33) (.c (.int .i64 6)))]
def EB : List Ins := [I0 p31 (.mov (.t p6)),
  I0 p32 (.bin .add (.t p31) (.c (.int .i64 1))),
  I0 p6 (.mov (.t p32))]
def Ds : List Ins := [I0 p19 (.mov (.t p6)),
  I0 p20 (.bin .leq (.t p19) (.c (.int .i64 6))),
  I0 p21 (.mov (.t p20)),
  .op (.on p21 true) (some p22) (.mov (.t p0)),
  .op (.on p21 true) (some p23) (.mov (.t p6)),
  .op (.on p21 true) (some p24) (.nilchk (.t p22)),
  .op (.on p21 true) (some p25) (.fa 2 (.t p24)),
  .op (.on p21 true) (some p26) (.iaA 1 7 (.t p25) (.t p23)),
  .op (.on p21 true) (some p27) (.load 1 false (.t p26)),
  .op (.on p21 true) (some p28) (.len .sl (.t p27)),
  .op (.on p21 true) (some p29) (.bin .eql (.t p28) (.c (.int .i64 0))),
  I0 p30 (.pick (.t p21) (.t p29) (.c (.bool false)))]
def C2 : List Ins := [I0 p18 (.mov (.t p1)),
  I0 p6 (.mov (.t p18))]
def CB : List Ins := [I0 p4 (.mov (.c (.int .i64 0))),
  I0 p5 (.mov (.c (.int .i64 1)))]
def DR : List Ins := [I0 p4 (.mov (.c (.int .i64 0))),
  I0 p5 (.mov (.c (.int .i64 2)))]
def Da : List Ins := [I0 p12 (.mov (.t p1)),
  I0 p13 (.bin .lss (.t p12) (.c (.int .i64 0))),
  I0 p14 (.mov (.t p13)),
  .op (.on p14 false) (some p15) (.mov (.t p1)),
  .op (.on p14 false) (some p16) (.bin .gtr (.t p15) (.c (.int .i64 6))),
  I0 p17 (.pick (.t p14) (.c (.bool true)) (.t p16))]
def Dw : List Ins := [I0 p11 (.mov (.t p17))]
def DP : List Ins := [I0 p9 (.mov (.t p0)),
  .call .always (some p10) false (.c (.func 45 [] [])) [(.t p9)],
  I0 p8 (.mov (.t p10))]
def DC : List Ins := [I0 p4 (.mov (.c (.int .i64 0))),
  I0 p5 (.mov (.c (.int .i64 0)))]
def um : SC := .seq none (.reg [(none, DC)]) (.seq none (.block 0 none (.seq none (.reg [(none, DP)]) (.cond (.t p8) (.seq none (.reg [(none, CB)]) (.ret)) (.seq none (.reg [(some Ez, Da), (none, Dw)]) (.cond (.t p11) (.seq none (.reg [(none, DR)]) (.ret)) (.skip)))))) (.seq none (.reg [(none, C2)]) (.seq none (.block 1 (some EO) (.loop wY (.seq none (.seq none (.reg [(some En, Ds)]) (.cond (.t p30) (.skip) (.exit 1))) (.block 2 none (.reg [(none, EB)]))))) (.seq none (.seq none (.reg [(none, D9)]) (.cond (.t p34) (.seq none (.reg [(none, EA)]) (.ret)) (.skip))) (.seq none (.reg [(none, Eo)]) (.seq none (.reg [(none, Er)]) (.seq none (.block 3 (some ED) (.loop w4 (.seq none (.seq none (.reg [(none, EJ)]) (.cond (.t p57) (.skip) (.exit 3))) (.block 4 none (.seq none (.reg [(none, EF)]) (.reg [(none, D7)])))))) (.seq none (.reg [(none, EE)]) (.seq none (.reg [(none, EC)]) (.ret))))))))))
def I8 : AFn := .code (a_buddy_Buddy__Take.map (·.1)) (ik um) (z_buddy_Buddy__Take.map (·.1))
abbrev nW : Nat := 44
def pQ : Tr Ty := (tJ (tJ (tN (tJ (tC tI .leaf) tI) (tC tI tI)) (tN (tC tB tB) (tJ tI tI))) (tJ (tN (tJ tB tB) (tJ tI tI)) (tJ (tC tB tB) (tJ tI tI))))
def a_colour_Frame : Kp := [(p0, (.int .i64)), (p1, (.int .i64)), (p2, (.int .i64))]
def z_colour_Frame : List (Rv × Ty) := [(.t p6, (.int .i64)), (.t p7, (.int .i64))]
def QL : Kp := [(p0, (.int .i64)), (p1, (.int .i64)), (p2, (.int .i64)), (p17, .bool)]
def PI : Kp := [(p0, (.int .i64)), (p1, (.int .i64)), (p2, (.int .i64)), (p26, .bool)]
def PF : List Ins := [I0 p27 (.mov (.t p1)),
  I0 p28 (.mov (.t p2)),
  I0 p29 (.bin .mul (.t p27) (.t p28)),
  I0 p30 (.mov (.t p0)),
  I0 p31 (.bin .add (.t p29) (.t p30)),
  I0 p6 (.mov (.t p31)),
  I0 p7 (.mov (.c (.int .i64 0)))]
def Re : List Ins := [I0 p6 (.mov (.c (.int .i64 0))),
  I0 p7 (.mov (.c (.int .i64 2)))]
def O3 : List Ins := [I0 p8 (.mov (.t p2)),
  .call .always (some p9) false (.c (.func 36 [] [])) [(.t p8)],
  I0 p10 (.not (.t p9)),
  I0 p11 (.mov (.t p10)),
  .op (.on p11 false) (some p12) (.mov (.t p0)),
  .op (.on p11 false) (some p13) (.mov (.t p2)),
  .op (.on p11 false) (some p14) (.bin .sub (.t p13) (.c (.int .i64 1))),
  .call (.on p11 false) (some p15) false (.c (.func 35 [] [])) [(.t p12), (.c (.int .i64 0)), (.t p14)],
  .op (.on p11 false) (some p16) (.not (.t p15)),
  I0 p17 (.pick (.t p11) (.c (.bool true)) (.t p16))]
def PP : List Ins := [I0 p18 (.mov (.t p17)),
  .op (.on p18 false) (some p19) (.mov (.t p1)),
  .op (.on p18 false) (some p20) (.mov (.t p0)),
  .op (.on p18 false) (some p21) (.bin .sub (.c (.int .i64 4095)) (.t p20)),
  .op (.on p18 false) (some p22) (.mov (.t p2)),
  .op (.on p18 false) (some p23) (.bin .quo (.t p21) (.t p22)),
  .call (.on p18 false) (some p24) false (.c (.func 35 [] [])) [(.t p19), (.c (.int .i64 0)), (.t p23)],
  .op (.on p18 false) (some p25) (.not (.t p24)),
  I0 p26 (.pick (.t p18) (.c (.bool true)) (.t p25))]
def QJ : List Ins := [I0 p6 (.mov (.c (.int .i64 0))),
  I0 p7 (.mov (.c (.int .i64 0)))]
def DI : SC := .seq none (.reg [(none, QJ)]) (.seq none (.seq none (.reg [(some QL, O3), (some PI, PP)]) (.cond (.t p26) (.seq none (.reg [(none, Re)]) (.ret)) (.skip))) (.seq none (.reg [(none, PF)]) (.ret)))
def Ve : AFn := .code (a_colour_Frame.map (·.1)) (ik DI) (z_colour_Frame.map (·.1))
abbrev fP : Nat := 25
def dA : Tr Ty := (tN (tJ (.node (tN (tJ (tJ (.node .leaf (some (.int .u8)) .leaf) .leaf) .leaf) (tN .leaf tI)) (some (.int .u8)) (tJ (tN (tN tI .leaf) tI) (tJ tI .leaf))) (tN (tJ (tN tB tI) (tN (tN tI .leaf) .leaf)) (tJ (tJ .leaf tI) (tC tI (.node .leaf (some (.int .u8)) .leaf))))) (tJ (tN (tN (tN tI .leaf) (tJ tI .leaf)) (tN (tN (tN tI .leaf) tI) (tJ (tJ tI .leaf) tI))) (tN (tJ (tN tI .leaf) (tJ tI .leaf)) (tJ (tN .leaf tB) tI))))
def a_pool_Pool__taken : Kp := [(p0, .any), (p1, (.int .i64)), (p2, (.int .i64)), (p3, (.int .u8))]
def z_pool_Pool__taken : List (Rv × Ty) := [(.t p8, .any), (.t p9, (.int .i64))]
def GN : Kp := [(p12, .any)]
def yU : Kp := [(p0, .any), (p1, (.int .i64)), (p3, (.int .u8)), (p10, (.int .i64)), (p12, .any), (p31, (.int .i64)), (p32, (.int .i64))]
def G9 : List Ins := [I0 p77 (.mov (.t p12)),
  I0 p8 (.mov (.t p77)),
  I0 p9 (.mov (.c (.int .i64 0)))]
def G8 : List Ins := [I0 p76 (.bin .add (.t p32) (.c (.int .i64 1))),
  I0 p32 (.mov (.t p76))]
def G2 : List Ins := [I0 p72 (.mov (.t p12)),
  I0 p73 (.mov (.t p14)),
  I0 p74 (.buildSlice 1 [(.int .i64 0)] [(0, 1, (.t p73))]),
  I0 p75 (.append 1 (.t p72) (.t p74)),
  I0 p12 (.mov (.t p75))]
def GM : List Ins := [I0 p62 (.mov (.t p0)),
  I0 p63 (.mov (.t p3)),
  I0 p64 (.nilchk (.t p62)),
  I0 p65 (.fa 13 (.t p64)),
  I0 p66 (.iaA 1 7 (.t p65) (.t p63)),
  I0 p67 (.load 1 false (.t p66)),
  I0 p68 (.bin .add (.t p67) (.c (.int .i64 1))),
  I0 p69 (.nilchk (.t p62)),
  I0 p70 (.fa 13 (.t p69)),
  I0 p71 (.iaA 1 7 (.t p70) (.t p63)),
  .op .always none (.store 1 (.t p71) (.t p68))]
def Hu : List Ins := [I0 p56 (.mov (.t p0)),
  I0 p57 (.nilchk (.t p56)),
  I0 p58 (.fa 12 (.t p57)),
  I0 p59 (.load 1 false (.t p58)),
  I0 p60 (.mov (.t p14)),
  I0 p61 (.mov (.t p3)),
  .op .always none (.mapset (.cell .int) (.t p59) (.t p60) (.t p61))]
def G1 : List Ins := [I0 p55 (.mov (.t p15)),
  I0 p8 (.mov (.c .nilslice)),
  I0 p9 (.mov (.t p55))]
def Hk : List Ins := [I0 p53 (.mov (.t p15)),
  I0 p54 (.bin .neq (.t p53) (.c (.int .i64 0)))]
def GX : List Ins := [I0 p36 (.mov (.t p0)),
  I0 p37 (.nilchk (.t p36)),
  I0 p38 (.fa 1 (.t p37)),
  I0 p39 (.load 1 false (.t p38)),
  I0 p40 (.mov (.t p1)),
  I0 p41 (.iaS 1 (.t p39) (.t p40)),
  I0 p42 (.load 1 false (.t p41)),
  I0 p43 (.mov (.t p10)),
  I0 p44 (.mov (.t p13)),
  I0 p45 (.bin .add (.t p43) (.t p44)),
  I0 p46 (.mov (.t p0)),
  I0 p47 (.nilchk (.t p46)),
  I0 p48 (.fa 0 (.t p47)),
  I0 p49 (.load 1 false (.t p48)),
  .call .always (some p50) false (.c (.func 44 [] [])) [(.t p42), (.t p45), (.t p49)],
  I0 p35 (.mov (.t p50)),
  I0 p51 (.ext 0 (.t p35)),
  I0 p52 (.ext 1 (.t p35)),
  I0 p14 (.mov (.t p51)),
  I0 p15 (.mov (.t p52))]
def Hs : List Ins := [I0 p34 (.mov (.t p32)),
  I0 p13 (.mov (.t p34))]
def GO : List Ins := [I0 p33 (.bin .lss (.t p32) (.t p31))]
def Eh : List Ins := [I0 p30 (.mov (.t p2)),
  I0 p31 (.bin .shl (.c (.int .i64 1)) (.t p30)),
  I0 p32 (.mov (.c (.int .i64 0)))]
def Eg : List Ins := [I0 p12 (.mov (.c .nilslice))]
def ER : List Ins := [I0 p8 (.mov (.c .nilslice)),
  I0 p9 (.mov (.c (.int .i64 4)))]
def Em : List Ins := [I0 p28 (.mov (.t p11)),
  I0 p29 (.bin .neq (.t p28) (.c (.int .i64 0)))]
def D8 : List Ins := [I0 p17 (.mov (.t p0)),
  I0 p18 (.nilchk (.t p17)),
  I0 p19 (.fa 11 (.t p18)),
  I0 p20 (.load 1 false (.t p19)),
  I0 p21 (.mov (.t p1)),
  I0 p22 (.iaS 1 (.t p20) (.t p21)),
  I0 p23 (.load 1 false (.t p22)),
  I0 p24 (.mov (.t p2)),
  .call .always (some p25) false (.c (.func 43 [] [])) [(.t p23), (.t p24)],
  I0 p16 (.mov (.t p25)),
  I0 p26 (.ext 0 (.t p16)),
  I0 p27 (.ext 1 (.t p16)),
  I0 p10 (.mov (.t p26)),
  I0 p11 (.mov (.t p27))]
def Ea : List Ins := [I0 p8 (.mov (.c .nilslice)),
  I0 p9 (.mov (.c (.int .i64 0)))]
def vD : SC := .seq none (.reg [(none, Ea)]) (.seq none (.reg [(none, D8)]) (.seq none (.seq none (.reg [(none, Em)]) (.cond (.t p29) (.seq none (.reg [(none, ER)]) (.ret)) (.skip))) (.seq none (.reg [(none, Eg)]) (.seq none (.seq none (.reg [(none, Eh)]) (.block 0 (some GN) (.loop yU (.seq none (.reg [(none, GO)]) (.seq none (.cond (.t p33) (.skip) (.exit 0)) (.seq none (.block 1 none (.seq none (.reg [(none, Hs)]) (.seq none (.reg [(none, GX)]) (.seq none (.seq none (.reg [(none, Hk)]) (.cond (.t p54) (.seq none (.reg [(none, G1)]) (.ret)) (.skip))) (.seq none (.reg [(none, Hu)]) (.seq none (.reg [(none, GM)]) (.reg [(none, G2)]))))))) (.reg [(none, G8)]))))))) (.seq none (.reg [(none, G9)]) (.ret))))))
def KV : AFn := .code (a_pool_Pool__taken.map (·.1)) (ik vD) (z_pool_Pool__taken.map (·.1))
abbrev kw : Nat := 9
def kC : Tr Ty := (tN (tN (tJ .leaf tI) (tC (tN tI .leaf) .leaf)) (tN (tN .leaf (tC tI .leaf)) tB))
def a_pool_Pool__Image : Kp := [(p0, .any)]
def z_pool_Pool__Image : List (Rv × Ty) := [(.t p2, .any), (.t p3, (.int .i64))]
def GJ : List Ins := [I0 p13 (.mov (.t p0)),
  I0 p14 (.mov (.t p0)),
  I0 p15 (.nilchk (.t p14)),
  I0 p16 (.fa 2 (.t p15)),
  I0 p17 (.load 1 false (.t p16)),
  .call .always (some p18) false (.c (.func 25 [] [])) [(.t p13), (.c (.int .i64 0)), (.t p17), (.c (.int .u8 1))],
  I0 p19 (.ext 0 (.t p18)),
  I0 p20 (.ext 1 (.t p18)),
  I0 p2 (.mov (.t p19)),
  I0 p3 (.mov (.t p20))]
def Hh : List Ins := [I0 p2 (.mov (.c .nilslice)),
  I0 p3 (.mov (.c (.int .i64 91)))]
def Hq : List Ins := [I0 p7 (.mov (.t p0)),
  I0 p8 (.nilchk (.t p7)),
  I0 p9 (.fa 13 (.t p8)),
  I0 p10 (.iaA 1 7 (.t p9) (.c (.int .u8 1))),
  I0 p11 (.load 1 false (.t p10)),
  I0 p12 (.bin .gtr (.t p11) (.c (.int .i64 0)))]
def GY : List Ins := [I0 p2 (.mov (.c .nilslice)),
  I0 p3 (.mov (.c (.int .i64 1)))]
def GS : List Ins := [I0 p4 (.mov (.t p0)),
  .call .always (some p5) false (.c (.func 24 [] [])) [(.t p4)],
  I0 p6 (.not (.t p5))]
def G7 : List Ins := [I0 p2 (.mov (.c .nilslice)),
  I0 p3 (.mov (.c (.int .i64 0)))]
def vB : SC := .seq none (.reg [(none, G7)]) (.seq none (.seq none (.reg [(none, GS)]) (.cond (.t p6) (.seq none (.reg [(none, GY)]) (.ret)) (.skip))) (.seq none (.seq none (.reg [(none, Hq)]) (.cond (.t p12) (.seq none (.reg [(none, Hh)]) (.ret)) (.skip))) (.seq none (.reg [(none, GJ)]) (.ret))))
def L5 : AFn := .code (a_pool_Pool__Image.map (·.1)) (ik vB) (z_pool_Pool__Image.map (·.1))
abbrev eV : Nat := 26
def gj : Tr Ty := (tN (tN (tJ (tC .leaf tI) (tN tI .leaf)) (tN .leaf (tN tI .leaf))) (tJ (tJ (tN tI .leaf) (tJ tI .leaf)) (tN (tN tI .leaf) (tJ tI .leaf))))
def a_buddy_Buddy__Free : Kp := [(p0, .any)]
def z_buddy_Buddy__Free : List (Rv × Ty) := [(.t p2, (.int .i64))]
def Ei : Kp := [(p3, (.int .i64))]
def w0 : Kp := [(p3, (.int .i64)), (p11, .any), (p12, (.int .i64))]
def Ew : List Ins := [I0 p23 (.mov (.t p3)),
  I0 p2 (.mov (.t p23))]
def Eu : List Ins := [I0 p22 (.bin .add (.t p12) (.c (.int .i64 1))),
  I0 p12 (.mov (.t p22))]
def EI : List Ins := [I0 p16 (.mov (.t p3)),
  I0 p17 (.mov (.t p5)),
  I0 p18 (.len .sl (.t p17)),
  I0 p19 (.mov (.t p4)),
  I0 p20 (.bin .shl (.t p18) (.t p19)),
  I0 p21 (.bin .add (.t p16) (.t p20)),
  I0 p3 (.mov (.t p21))]
def EH : List Ins := [I0 p14 (.mov (.t p12)),
  I0 p15 (.idxA 1 7 false (.t p11) (.t p12)),
  I0 p4 (.mov (.t p14)),
  I0 p5 (.mov (.t p15))]
def EQ : List Ins := [I0 p13 (.bin .lss (.t p12) (.c (.int .i64 7)))]
def Ef : List Ins := [I0 p8 (.mov (.t p0)),
  I0 p9 (.nilchk (.t p8)),
  I0 p10 (.fa 2 (.t p9)),
  I0 p11 (.load 7 true (.t p10)),
  I0 p12 (.mov (.c (.int .i64 0)))]
def Ee : List Ins := [I0 p3 (.mov (.c (.int .i64 0)))]
def EK : List Ins := [I0 p2 (.mov (.c (.int .i64 0)))]
def EG : List Ins := [I0 p6 (.mov (.t p0)),
  .call .always (some p7) false (.c (.func 45 [] [])) [(.t p6)]]
def Eb : List Ins := [I0 p2 (.mov (.c (.int .i64 0)))]
def uB : SC := .seq none (.reg [(none, Eb)]) (.seq none (.seq none (.reg [(none, EG)]) (.cond (.t p7) (.seq none (.reg [(none, EK)]) (.ret)) (.skip))) (.seq none (.reg [(none, Ee)]) (.seq none (.seq none (.reg [(none, Ef)]) (.block 0 (some Ei) (.loop w0 (.seq none (.reg [(none, EQ)]) (.seq none (.cond (.t p13) (.skip) (.exit 0)) (.seq none (.block 1 none (.seq none (.reg [(none, EH)]) (.reg [(none, EI)]))) (.reg [(none, Eu)]))))))) (.seq none (.reg [(none, Ew)]) (.ret)))))
def Jr : AFn := .code (a_buddy_Buddy__Free.map (·.1)) (ik uB) (z_buddy_Buddy__Free.map (·.1))
abbrev lj : Nat := 10
def dg : Tr Ty := (tN (.node (tN (tJ (tC .leaf tI) (tN (tN tI .leaf) tI)) (tC (.node (tC tB .leaf) (some (.int .u8)) .leaf) (tN tI .leaf))) (some (.int .u8)) (tJ (tN (tC (tN tI .leaf) .leaf) (tN tI tI)) (tC tB (tN .leaf tI)))) (tN (tJ (tN (.node .leaf (some (.int .u8)) .leaf) (.node tI (some (.int .u8)) tB)) (tN (tC (tN tI .leaf) tI) tI)) (tJ (tJ (tC (tJ tI .leaf) .leaf) (tN .leaf tI)) (tC tB (.node .leaf (some (.int .u8)) (.node .leaf (some (.int .u8)) .leaf))))))
def a_pool_Pool__Take : Kp := [(p0, .any), (p1, (.int .u8))]
def z_pool_Pool__Take : List (Rv × Ty) := [(.t p4, (.int .i64)), (.t p5, (.int .i64))]
def Jq : Kp := [(p0, .any), (p1, (.int .u8)), (p6, (.int .i64))]
def As : Kp := [(p0, .any), (p1, (.int .u8)), (p6, (.int .i64)), (p39, .any), (p40, (.int .i64)), (p41, (.int .i64))]
def AO : Kp := [(p0, .any), (p1, (.int .u8)), (p6, (.int .i64)), (p39, .any), (p40, (.int .i64)), (p41, (.int .i64))]
def JD : Kp := [(p0, .any), (p1, (.int .u8)), (p21, .bool)]
def Jh : List Ins := [I0 p69 (.mov (.t p9)),
  I0 p70 (.iaS 1 (.t p69) (.c (.int .i64 0))),
  I0 p71 (.load 1 false (.t p70)),
  I0 p4 (.mov (.t p71)),
  I0 p5 (.mov (.c (.int .i64 0)))]
def JE : List Ins := [I0 p68 (.mov (.t p10)),
  I0 p4 (.mov (.c (.int .i64 0))),
  I0 p5 (.mov (.t p68))]
def Jb : List Ins := [I0 p66 (.mov (.t p10)),
  I0 p67 (.bin .neq (.t p66) (.c (.int .i64 0)))]
def Jy : List Ins := [I0 p60 (.mov (.t p0)),
  I0 p61 (.mov (.t p6)),
  I0 p62 (.mov (.t p1)),
  .call .always (some p63) false (.c (.func 25 [] [])) [(.t p60), (.t p61), (.c (.int .i64 0)), (.t p62)],
  I0 p59 (.mov (.t p63)),
  I0 p64 (.ext 0 (.t p59)),
  I0 p65 (.ext 1 (.t p59)),
  I0 p9 (.mov (.t p64)),
  I0 p10 (.mov (.t p65))]
def I9 : List Ins := [I0 p58 (.bin .add (.t p41) (.c (.int .i64 1))),
  I0 p41 (.mov (.t p58))]
def Jo : List Ins := [I0 p57 (.mov (.t p7)),
  I0 p6 (.mov (.t p57))]
def Je : List Ins := [I0 p46 (.mov (.t p8)),
  .call .always (some p47) true (.c (.func 26 [] [])) [(.t p46)],
  I0 p48 (.mov (.t p0)),
  I0 p49 (.nilchk (.t p48)),
  I0 p50 (.fa 11 (.t p49)),
  I0 p51 (.load 1 false (.t p50)),
  I0 p52 (.mov (.t p6)),
  I0 p53 (.iaS 1 (.t p51) (.t p52)),
  I0 p54 (.load 1 false (.t p53)),
  .call .always (some p55) false (.c (.func 26 [] [])) [(.t p54)],
  I0 p56 (.bin .gtr (.t p47) (.t p55))]
def Jd : List Ins := [I0 p43 (.mov (.t p41)),
  I0 p44 (.iaS 1 (.t p39) (.t p41)),
  I0 p45 (.load 1 false (.t p44)),
  I0 p7 (.mov (.t p43)),
  I0 p8 (.mov (.t p45))]
def Jg : List Ins := [I0 p42 (.bin .lss (.t p41) (.t p40))]
def Jj : List Ins := [I0 p36 (.mov (.t p0)),
  I0 p37 (.nilchk (.t p36)),
  I0 p38 (.fa 11 (.t p37)),
  I0 p39 (.load 1 false (.t p38)),
  I0 p40 (.len .sl (.t p39)),
  I0 p41 (.mov (.c (.int .i64 0)))]
def GK : List Ins := [I0 p6 (.mov (.c (.int .i64 0)))]
def GT : List Ins := [I0 p4 (.mov (.c (.int .i64 0))),
  I0 p5 (.mov (.c (.int .i64 1)))]
def Hw : List Ins := [I0 p4 (.mov (.c (.int .i64 0))),
  I0 p5 (.mov (.c (.int .i64 2)))]
def Hl : List Ins := [I0 p4 (.mov (.c (.int .i64 0))),
  I0 p5 (.mov (.c (.int .i64 4)))]
def GV : List Ins := [I0 p23 (.mov (.t p0)),
  I0 p24 (.mov (.t p1)),
  I0 p25 (.nilchk (.t p23)),
  I0 p26 (.fa 13 (.t p25)),
  I0 p27 (.iaA 1 7 (.t p26) (.t p24)),
  I0 p28 (.load 1 false (.t p27)),
  I0 p29 (.mov (.t p0)),
  I0 p30 (.mov (.t p1)),
  I0 p31 (.nilchk (.t p29)),
  I0 p32 (.fa 3 (.t p31)),
  I0 p33 (.iaA 1 7 (.t p32) (.t p30)),
  I0 p34 (.load 1 false (.t p33)),
  I0 p35 (.bin .geq (.t p28) (.t p34)),
  I0 p22 (.mov (.t p35))]
def GQ : List Ins := [I0 p16 (.mov (.t p1)),
  I0 p17 (.bin .lss (.t p16) (.c (.int .u8 2))),
  I0 p18 (.mov (.t p17)),
  .op (.on p18 false) (some p19) (.mov (.t p1)),
  .op (.on p18 false) (some p20) (.bin .gtr (.t p19) (.c (.int .u8 6))),
  I0 p21 (.pick (.t p18) (.c (.bool true)) (.t p20))]
def G0 : List Ins := [I0 p15 (.mov (.t p21))]
def G4 : List Ins := [I0 p12 (.mov (.t p0)),
  .call .always (some p13) false (.c (.func 24 [] [])) [(.t p12)],
  I0 p14 (.not (.t p13)),
  I0 p11 (.mov (.t p14))]
def Hf : List Ins := [I0 p4 (.mov (.c (.int .i64 0))),
  I0 p5 (.mov (.c (.int .i64 0)))]
def xF : SC := .seq none (.reg [(none, Hf)]) (.seq none (.block 0 none (.seq none (.reg [(none, G4)]) (.cond (.t p11) (.seq none (.reg [(none, GT)]) (.ret)) (.seq none (.reg [(some JD, GQ), (none, G0)]) (.cond (.t p15) (.seq none (.reg [(none, Hw)]) (.ret)) (.seq none (.reg [(none, GV)]) (.cond (.t p22) (.seq none (.reg [(none, Hl)]) (.ret)) (.skip)))))))) (.seq none (.reg [(none, GK)]) (.seq none (.seq none (.reg [(none, Jj)]) (.block 1 (some Jq) (.loop As (.seq none (.reg [(none, Jg)]) (.seq none (.cond (.t p42) (.skip) (.exit 1)) (.seq none (.block 2 (some AO) (.seq none (.reg [(none, Jd)]) (.seq none (.reg [(none, Je)]) (.cond (.t p56) (.reg [(none, Jo)]) (.skip))))) (.reg [(none, I9)]))))))) (.seq none (.reg [(none, Jy)]) (.seq none (.seq none (.reg [(none, Jb)]) (.cond (.t p67) (.seq none (.reg [(none, JE)]) (.ret)) (.skip))) (.seq none (.reg [(none, Jh)]) (.ret)))))))
def Od : AFn := .code (a_pool_Pool__Take.map (·.1)) (ik xF) (z_pool_Pool__Take.map (·.1))
abbrev lm : Nat := 11
def ii : Tr Ty := (tN (tN (tN (tC .leaf tI) .leaf) (tN .leaf tI)) (tN (tN tB (tN tI .leaf)) (tN .leaf tI)))
def a_pool_Pool__Free : Kp := [(p0, .any)]
def z_pool_Pool__Free : List (Rv × Ty) := [(.t p2, .any)]
def JM : Kp := [(p3, .any)]
def Aw : Kp := [(p3, .any), (p12, .any), (p13, (.int .i64)), (p14, (.int .i64))]
def Jp : List Ins := [I0 p24 (.mov (.t p3)),
  I0 p2 (.mov (.t p24))]
def JJ : List Ins := [I0 p23 (.bin .add (.t p14) (.c (.int .i64 1))),
  I0 p14 (.mov (.t p23))]
def JN : List Ins := [I0 p18 (.mov (.t p3)),
  I0 p19 (.mov (.t p5)),
  .call .always (some p20) false (.c (.func 26 [] [])) [(.t p19)],
  I0 p21 (.buildSlice 1 [(.int .i64 0)] [(0, 1, (.t p20))]),
  I0 p22 (.append 1 (.t p18) (.t p21)),
  I0 p3 (.mov (.t p22))]
def JH : List Ins := [I0 p16 (.iaS 1 (.t p12) (.t p14)),
  I0 p17 (.load 1 false (.t p16)),
  I0 p5 (.mov (.t p17))]
def Ja : List Ins := [I0 p15 (.bin .lss (.t p14) (.t p13))]
def Ji : List Ins := [I0 p9 (.mov (.t p0)),
  I0 p10 (.nilchk (.t p9)),
  I0 p11 (.fa 11 (.t p10)),
  I0 p12 (.load 1 false (.t p11)),
  I0 p13 (.len .sl (.t p12)),
  I0 p14 (.mov (.c (.int .i64 0)))]
def Ju : List Ins := [I0 p3 (.mov (.c .nilslice))]
def Jf : List Ins := [I0 p2 (.mov (.c .nilslice))]
def JO : List Ins := [I0 p6 (.mov (.t p0)),
  .call .always (some p7) false (.c (.func 24 [] [])) [(.t p6)],
  I0 p8 (.not (.t p7))]
def I5 : List Ins := [I0 p2 (.mov (.c .nilslice))]
def xA : SC := .seq none (.reg [(none, I5)]) (.seq none (.seq none (.reg [(none, JO)]) (.cond (.t p8) (.seq none (.reg [(none, Jf)]) (.ret)) (.skip))) (.seq none (.reg [(none, Ju)]) (.seq none (.seq none (.reg [(none, Ji)]) (.block 0 (some JM) (.loop Aw (.seq none (.reg [(none, Ja)]) (.seq none (.cond (.t p15) (.skip) (.exit 0)) (.seq none (.block 1 none (.seq none (.reg [(none, JH)]) (.reg [(none, JN)]))) (.reg [(none, JJ)]))))))) (.seq none (.reg [(none, Jp)]) (.ret)))))
def Of : AFn := .code (a_pool_Pool__Free.map (·.1)) (ik xA) (z_pool_Pool__Free.map (·.1))
abbrev gZ : Nat := 12
def ew : Tr Ty := (tN (tN (tN (tJ tI .leaf) tI) (tJ (tJ .leaf tB) tI)) (tN (tC (tN tI tI) (tN tI .leaf)) (tN (tC tI .leaf) (tC tI .leaf))))
def a_cofferdamref00_EqInts : Kp := [(p0, .any), (p1, .any)]
def z_cofferdamref00_EqInts : List (Rv × Ty) := [(.t p4, .bool)]
def z6 : Kp := []
def sJ : Kp := [(p0, .any), (p1, .any), (p5, (.int .i64))]
def Am : List Ins := [I0 p4 (.mov (.c (.bool true)))]
def Ag : List Ins := [I0 p15 (.mov (.t p5)),
  I0 p16 (.bin .add (.t p15) (.c (.int .i64 1))),
  I0 p5 (.mov (.t p16))]
def An : List Ins := [I0 p4 (.mov (.c (.bool false)))]
def Ak : List Ins := [I0 p17 (.mov (.t p0)),
  I0 p18 (.mov (.t p5)),
  I0 p19 (.iaS 1 (.t p17) (.t p18)),
  I0 p20 (.load 1 false (.t p19)),
  I0 p21 (.mov (.t p1)),
  I0 p22 (.mov (.t p5)),
  I0 p23 (.iaS 1 (.t p21) (.t p22)),
  I0 p24 (.load 1 false (.t p23)),
  I0 p25 (.bin .neq (.t p20) (.t p24))]
def z7 : List Ins := [I0 p11 (.mov (.t p5)),
  I0 p12 (.mov (.t p0)),
  I0 p13 (.len .sl (.t p12)),
  I0 p14 (.bin .lss (.t p11) (.t p13))]
def Aj : List Ins := [I0 p5 (.mov (.c (.int .i64 0)))]
def z8 : List Ins := [I0 p4 (.mov (.c (.bool false)))]
def Ao : List Ins := [I0 p6 (.mov (.t p0)),
  I0 p7 (.len .sl (.t p6)),
  I0 p8 (.mov (.t p1)),
  I0 p9 (.len .sl (.t p8)),
  I0 p10 (.bin .neq (.t p7) (.t p9))]
def Ae : List Ins := [I0 p4 (.mov (.c (.bool false)))]
def pV : SC := .seq none (.reg [(none, Ae)]) (.seq none (.seq none (.reg [(none, Ao)]) (.cond (.t p10) (.seq none (.reg [(none, z8)]) (.ret)) (.skip))) (.seq none (.seq none (.reg [(none, Aj)]) (.block 0 (some z6) (.loop sJ (.seq none (.seq none (.reg [(none, z7)]) (.cond (.t p14) (.skip) (.exit 0))) (.seq none (.block 1 none (.seq none (.reg [(none, Ak)]) (.cond (.t p25) (.seq none (.reg [(none, An)]) (.ret)) (.skip)))) (.reg [(none, Ag)])))))) (.seq none (.reg [(none, Am)]) (.ret))))
def Ch : AFn := .code (a_cofferdamref00_EqInts.map (·.1)) (ik pV) (z_cofferdamref00_EqInts.map (·.1))
abbrev oJ : Nat := 4
def bF : Tr Ty := (tN (tJ (tN (tN (tN (tJ (tJ tB .leaf) (tJ tB .leaf)) (tC tI tI)) (tN (tC (.node tI (some (.int .u8)) .leaf) tB) (tJ tI tB))) (tJ (tJ (tJ (tN tI .leaf) .leaf) (tC .leaf tI)) (tN (tC (tN tI .leaf) .leaf) (tC tI .leaf)))) (tN (tN (tJ (tN (tN tI .leaf) tI) (tJ tI .leaf)) (tJ (tJ (.node tI (some (.int .u8)) .leaf) .leaf) (tJ tI tB))) (tN (tC (tC (.node tI (some (.int .u8)) .leaf) tI) (tN (tJ tB .leaf) tI)) (tN (tN tI .leaf) (tC tB tB))))) (tN (tN (tJ (tJ (tN (tJ tB .leaf) (tN tB .leaf)) (tC (tC tI .leaf) .leaf)) (tN tB (tN (tN tI .leaf) tI))) (.node (tJ (tC (tN tB .leaf) tI) (tC (tJ tI .leaf) .leaf)) (some (.int .u8)) (tJ (tC (tN tI .leaf) (.node .leaf (some (.int .u8)) .leaf)) (tJ (tC tI .leaf) .leaf)))) (tC (tJ (tN (tJ tI .leaf) (tC (tJ tI .leaf) .leaf)) (tN (tJ (tN tB .leaf) .leaf) (tC (tN tI .leaf) tB))) (tJ (tC (tJ (.node tI (some (.int .u8)) .leaf) tB) (tN (tN tB .leaf) tB)) (tN (tC (tN tI .leaf) tI) (tC (tN tI .leaf) tB))))))
def a_cofferdamlaw12_PoolEven : Kp := [(p0, .any), (p1, (.int .i64)), (p2, .any)]
def z_cofferdamlaw12_PoolEven : List (Rv × Ty) := [(.t p6, .bool)]
def xt : Kp := []
def qR : Kp := [(p2, .any), (p7, .any), (p9, .any), (p11, (.int .i64))]
def xT : Kp := [(p2, .any), (p7, .any), (p9, .any), (p11, (.int .i64))]
def qN : Kp := [(p2, .any), (p7, .any), (p9, .any), (p11, (.int .i64)), (p15, .any), (p18, .any), (p19, (.int .i64))]
def xo : Kp := [(p2, .any), (p7, .any), (p9, .any), (p11, (.int .i64)), (p15, .any), (p18, .any), (p19, (.int .i64))]
def q9 : Kp := [(p2, .any), (p7, .any), (p9, .any), (p11, (.int .i64)), (p15, .any), (p18, .any), (p19, (.int .i64)), (p20, (.int .i64))]
def xP : Kp := [(p2, .any), (p7, .any), (p9, .any), (p11, (.int .i64)), (p15, .any), (p18, .any), (p19, (.int .i64)), (p20, (.int .i64)), (p160, .bool)]
def xE : Kp := [(p2, .any), (p7, .any), (p9, .any), (p11, (.int .i64)), (p15, .any), (p18, .any), (p128, .bool)]
def xq : Kp := [(p2, .any), (p7, .any), (p9, .any), (p11, (.int .i64)), (p12, (.int .u8))]
def rf : Kp := [(p2, .any), (p7, .any), (p9, .any), (p11, (.int .i64)), (p12, (.int .u8)), (p13, .any), (p14, (.int .i64))]
def wl : Kp := [(p2, .any), (p7, .any), (p9, .any), (p11, (.int .i64)), (p12, (.int .u8)), (p13, .any), (p14, (.int .i64)), (p103, .bool)]
def vZ : Kp := [(p2, .any), (p7, .any), (p9, .any), (p11, (.int .i64)), (p62, .bool)]
def wJ : Kp := [(p52, .bool)]
def wt : Kp := [(p2, .any), (p3, .any), (p7, .any), (p8, (.int .i64)), (p9, .any), (p10, (.int .i64)), (p40, .bool)]
def yb : List Ins := [I0 p6 (.mov (.c (.bool true)))]
def xV : List Ins := [I0 p63 (.mov (.t p11)),
  I0 p64 (.bin .add (.t p63) (.c (.int .i64 1))),
  I0 p11 (.mov (.t p64))]
def xI : List Ins := [I0 p133 (.mov (.t p19)),
  I0 p134 (.bin .add (.t p133) (.c (.int .i64 1))),
  I0 p19 (.mov (.t p134))]
def yl : List Ins := [I0 p139 (.mov (.t p20)),
  I0 p140 (.bin .add (.t p139) (.c (.int .i64 1))),
  I0 p20 (.mov (.t p140))]
def xZ : List Ins := [I0 p6 (.mov (.c (.bool false)))]
def yg : List Ins := [I0 p141 (.mov (.t p18)),
  I0 p142 (.mov (.t p19)),
  I0 p143 (.iaS 1 (.t p141) (.t p142)),
  I0 p144 (.load 1 false (.t p143)),
  I0 p145 (.mov (.t p15)),
  I0 p146 (.mov (.t p19)),
  I0 p147 (.iaS 1 (.t p145) (.t p146)),
  I0 p148 (.load 1 false (.t p147)),
  I0 p149 (.bin .lss (.t p144) (.t p148)),
  I0 agw (.mov (.t p149)),
  .op (.on agw true) (some p151) (.mov (.t p15)),
  .op (.on agw true) (some p152) (.mov (.t p20)),
  .op (.on agw true) (some p153) (.iaS 1 (.t p151) (.t p152)),
  .op (.on agw true) (some p154) (.load 1 false (.t p153)),
  .op (.on agw true) (some p155) (.mov (.t p15)),
  .op (.on agw true) (some p156) (.mov (.t p19)),
  .op (.on agw true) (some p157) (.iaS 1 (.t p155) (.t p156)),
  .op (.on agw true) (some p158) (.load 1 false (.t p157)),
  .op (.on agw true) (some p159) (.bin .gtr (.t p154) (.t p158)),
  I0 p160 (.pick (.t agw) (.t p159) (.c (.bool false)))]
def xY : List Ins := [I0 p135 (.mov (.t p20)),
  I0 p136 (.mov (.t p15)),
  I0 p137 (.len .sl (.t p136)),
  I0 p138 (.bin .lss (.t p135) (.t p137))]
def xC : List Ins := [I0 p20 (.mov (.c (.int .i64 0)))]
def xS : List Ins := [I0 p129 (.mov (.t p19)),
  I0 p130 (.mov (.t p15)),
  I0 p131 (.len .sl (.t p130)),
  I0 p132 (.bin .lss (.t p129) (.t p131))]
def ya : List Ins := [I0 p19 (.mov (.c (.int .i64 0)))]
def vI : List Ins := [I0 p6 (.mov (.c (.bool false)))]
def wg : List Ins := [I0 p114 (.mov (.t p18)),
  I0 p115 (.len .sl (.t p114)),
  I0 p116 (.mov (.t p15)),
  I0 p117 (.len .sl (.t p116)),
  I0 p118 (.bin .neq (.t p115) (.t p117)),
  I0 p119 (.mov (.t p118)),
  .op (.on p119 false) (some p120) (.mov (.t p17)),
  .op (.on p119 false) (some p121) (.bin .neq (.t p120) (.c (.int .i64 0))),
  .op (.on p119 false) (some p122) (.mov (.t p121)),
  .op (.on p122 true) (some p123) (.mov (.t p18)),
  .op (.on p122 true) (some p124) (.mov (.t p15)),
  .call (.on p122 true) (some p125) false (.c (.func 12 [] [])) [(.t p123), (.t p124)],
  .op (.on p122 true) (some p126) (.not (.t p125)),
  .op (.on p119 false) (some p127) (.pick (.t p122) (.t p126) (.c (.bool false))),
  I0 p128 (.pick (.t p119) (.c (.bool true)) (.t p127))]
def ww : List Ins := [I0 p112 (.mov (.t p9)),
  .call .always (some p113) false (.c (.func 11 [] [])) [(.t p112)],
  I0 p18 (.mov (.t p113))]
def wG : List Ins := [I0 p107 (.mov (.t p9)),
  I0 p108 (.mov (.t p12)),
  .call .always (some p109) false (.c (.func 10 [] [])) [(.t p107), (.t p108)],
  I0 p106 (.mov (.t p109)),
  I0 p110 (.ext 0 (.t p106)),
  I0 p111 (.ext 1 (.t p106)),
  I0 p16 (.mov (.t p110)),
  I0 p17 (.mov (.t p111))]
def wD : List Ins := [I0 p104 (.mov (.t p9)),
  .call .always (some p105) false (.c (.func 11 [] [])) [(.t p104)],
  I0 p15 (.mov (.t p105))]
def vT : List Ins := [I0 p81 (.mov (.t p14)),
  I0 p82 (.bin .add (.t p81) (.c (.int .i64 1))),
  I0 p14 (.mov (.t p82))]
def vS : List Ins := [I0 p6 (.mov (.c (.bool false)))]
def wE : List Ins := [I0 p83 (.mov (.t p13)),
  I0 p84 (.mov (.t p14)),
  I0 p85 (.bin .sub (.t p84) (.c (.int .i64 1))),
  I0 p86 (.iaS 1 (.t p83) (.t p85)),
  I0 p87 (.load 1 false (.t p86)),
  I0 p88 (.mov (.t p13)),
  I0 p89 (.mov (.t p14)),
  I0 p90 (.iaS 1 (.t p88) (.t p89)),
  I0 p91 (.load 1 false (.t p90)),
  I0 p92 (.bin .gtr (.t p87) (.t p91)),
  I0 p93 (.mov (.t p92)),
  .op (.on p93 false) (some p94) (.mov (.t p13)),
  .op (.on p93 false) (some p95) (.mov (.t p14)),
  .op (.on p93 false) (some p96) (.iaS 1 (.t p94) (.t p95)),
  .op (.on p93 false) (some p97) (.load 1 false (.t p96)),
  .op (.on p93 false) (some p98) (.mov (.t p13)),
  .op (.on p93 false) (some p99) (.iaS 1 (.t p98) (.c (.int .i64 0))),
  .op (.on p93 false) (some p100) (.load 1 false (.t p99)),
  .op (.on p93 false) (some p101) (.bin .add (.t p100) (.c (.int .i64 1))),
  .op (.on p93 false) (some p102) (.bin .gtr (.t p97) (.t p101)),
  I0 p103 (.pick (.t p93) (.c (.bool true)) (.t p102))]
def wo : List Ins := [I0 p77 (.mov (.t p14)),
  I0 p78 (.mov (.t p13)),
  I0 p79 (.len .sl (.t p78)),
  I0 p80 (.bin .lss (.t p77) (.t p79))]
def wh : List Ins := [I0 p14 (.mov (.c (.int .i64 1)))]
def wA : List Ins := [I0 p75 (.mov (.t p7)),
  .call .always (some p76) false (.c (.func 11 [] [])) [(.t p75)],
  I0 p13 (.mov (.t p76))]
def wi : List Ins := [I0 p72 (.mov (.t p7)),
  I0 p73 (.mov (.t p12)),
  .call .always (some p74) false (.c (.func 10 [] [])) [(.t p72), (.t p73)]]
def vR : List Ins := [I0 p65 (.mov (.t p2)),
  I0 p66 (.mov (.t p11)),
  I0 p67 (.iaS 3 (.t p65) (.t p66)),
  I0 p68 (.fa 2 (.t p67)),
  I0 p69 (.load 1 false (.t p68)),
  I0 p70 (.bin .rem (.t p69) (.c (.int .u8 5))),
  I0 p71 (.bin .add (.c (.int .u8 2)) (.t p70)),
  I0 p12 (.mov (.t p71))]
def wx : List Ins := [I0 p55 (.mov (.t p11)),
  I0 p56 (.mov (.t p2)),
  I0 p57 (.len .sl (.t p56)),
  I0 p58 (.bin .lss (.t p55) (.t p57)),
  I0 p59 (.mov (.t p58)),
  .op (.on p59 true) (some p60) (.mov (.t p11)),
  .op (.on p59 true) (some p61) (.bin .lss (.t p60) (.c (.int .i64 60))),
  I0 p62 (.pick (.t p59) (.t p61) (.c (.bool false)))]
def wy : List Ins := [I0 p11 (.mov (.c (.int .i64 0)))]
def wH : List Ins := [I0 p53 (.mov (.t p9)),
  .call .always (some p54) false (.c (.func 9 [] [])) [(.t p53)]]
def vX : List Ins := [I0 p41 (.mov (.t p8)),
  I0 p42 (.mov (.t p10)),
  I0 p43 (.bin .eql (.t p41) (.t p42)),
  I0 p44 (.mov (.t p43)),
  .op (.on p44 true) (some p45) (.load 17 true (.t p3)),
  .call (.on p44 true) (some p46) false (.c (.func 8 [] [])) [(.t p45)],
  .op (.on p44 true) (some p47) (.not (.t p46)),
  .op (.on p44 true) (some p48) (.mov (.t p47)),
  .op (.on p48 false) (some p49) (.mov (.t p8)),
  .op (.on p48 false) (some p50) (.bin .eql (.t p49) (.c (.int .i64 270))),
  .op (.on p44 true) (some p51) (.pick (.t p48) (.c (.bool true)) (.t p50)),
  I0 p52 (.pick (.t p44) (.t p51) (.c (.bool false)))]
def wu : List Ins := [I0 p6 (.mov (.t p52))]
def wa : List Ins := [I0 p35 (.mov (.t p8)),
  I0 p36 (.bin .neq (.t p35) (.c (.int .i64 0))),
  I0 p37 (.mov (.t p36)),
  .op (.on p37 false) (some p38) (.mov (.t p10)),
  .op (.on p37 false) (some p39) (.bin .neq (.t p38) (.c (.int .i64 0))),
  I0 p40 (.pick (.t p37) (.c (.bool true)) (.t p39))]
def vO : List Ins := [I0 p30 (.load 17 true (.t p3)),
  I0 p31 (.mov (.t p1)),
  .call .always (some p32) false (.c (.func 7 [] [])) [(.t p30), (.t p31)],
  I0 p29 (.mov (.t p32)),
  I0 p33 (.ext 0 (.t p29)),
  I0 p34 (.ext 1 (.t p29)),
  I0 p9 (.mov (.t p33)),
  I0 p10 (.mov (.t p34))]
def wz : List Ins := [I0 p24 (.load 17 true (.t p3)),
  I0 p25 (.mov (.t p1)),
  .call .always (some p26) false (.c (.func 7 [] [])) [(.t p24), (.t p25)],
  I0 p23 (.mov (.t p26)),
  I0 p27 (.ext 0 (.t p23)),
  I0 p28 (.ext 1 (.t p23)),
  I0 p7 (.mov (.t p27)),
  I0 p8 (.mov (.t p28))]
def wN : List Ins := [I0 p6 (.mov (.c (.bool false)))]
def wb : List Ins := [.call .always (some p21) false (.c (.func 6 [] [])) [],
  I0 p22 (.not (.t p21))]
def wv : List Ins := [I0 p3 (.box (.t p0)),
  I0 p6 (.mov (.c (.bool false)))]
def oM : SC := .seq none (.reg [(none, wv)]) (.seq none (.seq none (.reg [(none, wb)]) (.cond (.t p22) (.seq none (.reg [(none, wN)]) (.ret)) (.skip))) (.seq none (.reg [(none, wz)]) (.seq none (.reg [(none, vO)]) (.seq none (.seq none (.reg [(some wt, wa)]) (.cond (.t p40) (.seq none (.reg [(some wJ, vX), (none, wu)]) (.ret)) (.skip))) (.seq none (.reg [(none, wH)]) (.seq none (.seq none (.reg [(none, wy)]) (.block 0 (some xt) (.loop qR (.seq none (.seq none (.reg [(some vZ, wx)]) (.cond (.t p62) (.skip) (.exit 0))) (.seq none (.block 1 none (.seq none (.reg [(none, vR)]) (.seq none (.reg [(none, wi)]) (.seq none (.reg [(none, wA)]) (.seq none (.seq none (.reg [(none, wh)]) (.block 2 (some xq) (.loop rf (.seq none (.seq none (.reg [(none, wo)]) (.cond (.t p80) (.skip) (.exit 2))) (.seq none (.block 3 none (.seq none (.reg [(some wl, wE)]) (.cond (.t p103) (.seq none (.reg [(none, vS)]) (.ret)) (.skip)))) (.reg [(none, vT)])))))) (.seq none (.reg [(none, wD)]) (.seq none (.reg [(none, wG)]) (.seq none (.reg [(none, ww)]) (.seq none (.seq none (.reg [(some xE, wg)]) (.cond (.t p128) (.seq none (.reg [(none, vI)]) (.ret)) (.skip))) (.seq none (.reg [(none, ya)]) (.block 4 (some xT) (.loop qN (.seq none (.seq none (.reg [(none, xS)]) (.cond (.t p132) (.skip) (.exit 4))) (.seq none (.block 5 none (.seq none (.reg [(none, xC)]) (.block 6 (some xo) (.loop q9 (.seq none (.seq none (.reg [(none, xY)]) (.cond (.t p138) (.skip) (.exit 6))) (.seq none (.block 7 none (.seq none (.reg [(some xP, yg)]) (.cond (.t p160) (.seq none (.reg [(none, xZ)]) (.ret)) (.skip)))) (.reg [(none, yl)]))))))) (.reg [(none, xI)]))))))))))))))) (.reg [(none, xV)])))))) (.seq none (.reg [(none, yb)]) (.ret))))))))
def Ab : AFn := .code (a_cofferdamlaw12_PoolEven.map (·.1)) (ik oM) (z_cofferdamlaw12_PoolEven.map (·.1))
end Go.Proofs.Ytnlbfbiogfilfaa.Sh
