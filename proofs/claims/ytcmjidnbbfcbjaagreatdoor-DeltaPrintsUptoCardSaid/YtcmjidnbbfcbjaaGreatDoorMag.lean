/- Parts of the proof, joined (F0, V41, V42, V43, V44, V45, QP); no condition. -/
import Derived.Test.YtcmjidnbbfcbjaaGreatDoorMaf
import Derived.Test.YtcmjidnbbfcbjaaGreatDoorChecked
import Derived.IntWalk
import Derived.Test.YtcmjidnbbfcbjaaGreatDoorMae
/- Facts of the program's types, as rules; no condition. -/
namespace Go.Proofs.YtcmjidnbbfcbjaaGreatDoor.V
open Go
set_option maxRecDepth 100000
@[go_sem] theorem t0 : szOf Tryz.prog 0 = some 1 ∧ aggOf Tryz.prog 0 = some false := by and_intros <;> kernel_rfl
@[go_sem] theorem t1 : szOf Tryz.prog 1 = some 1 ∧ aggOf Tryz.prog 1 = some false ∧ zeroOf Tryz.prog 1 = some .nilF := by and_intros <;> kernel_rfl
@[go_sem] theorem t2 : szOf Tryz.prog 2 = some 1 ∧ aggOf Tryz.prog 2 = some false ∧ zeroOf Tryz.prog 2 = some (.sc (.int .i64 0)) := by and_intros <;> kernel_rfl
@[go_sem] theorem t3 : szOf Tryz.prog 3 = some 1 ∧ aggOf Tryz.prog 3 = some false ∧ zeroOf Tryz.prog 3 = some (.sc (.int .i64 0)) := by and_intros <;> kernel_rfl
@[go_sem] theorem t4 : szOf Tryz.prog 4 = some 1 ∧ aggOf Tryz.prog 4 = some false ∧ zeroOf Tryz.prog 4 = some (.sc (.bool false)) := by and_intros <;> kernel_rfl
@[go_sem] theorem t5 : szOf Tryz.prog 5 = some 1 ∧ aggOf Tryz.prog 5 = some false ∧ zeroOf Tryz.prog 5 = some (.sc (.int .u8 0)) := by and_intros <;> kernel_rfl
@[go_sem] theorem t6 : szOf Tryz.prog 6 = some 1 ∧ aggOf Tryz.prog 6 = some false ∧ zeroOf Tryz.prog 6 = some (.sc (.int .u8 0)) := by and_intros <;> kernel_rfl
@[go_sem] theorem t7 : szOf Tryz.prog 7 = some 4 ∧ aggOf Tryz.prog 7 = some true ∧ flatS Tryz.prog 7 = some [.int .i64, .int .i64, .bool, .int .u8] ∧ placesO Tryz.prog 7 = some [(0, 1), (1, 1), (2, 1), (3, 1)] ∧ zeroOf Tryz.prog 7 = some (.agg [.sc (.int .i64 0), .sc (.int .i64 0), .sc (.bool false), .sc (.int .u8 0)]) ∧ fldO Tryz.prog 7 0 = some (0, 1, false) ∧ fldO Tryz.prog 7 1 = some (1, 1, false) ∧ fldO Tryz.prog 7 2 = some (2, 1, false) ∧ fldO Tryz.prog 7 3 = some (3, 1, false) := by and_intros <;> kernel_rfl
@[go_sem] theorem t8 : szOf Tryz.prog 8 = some 4 ∧ aggOf Tryz.prog 8 = some true ∧ flatS Tryz.prog 8 = some [.int .i64, .int .i64, .bool, .int .u8] ∧ placesO Tryz.prog 8 = some [(0, 1), (1, 1), (2, 1), (3, 1)] ∧ zeroOf Tryz.prog 8 = some (.agg [.sc (.int .i64 0), .sc (.int .i64 0), .sc (.bool false), .sc (.int .u8 0)]) ∧ fldO Tryz.prog 8 0 = some (0, 1, false) ∧ fldO Tryz.prog 8 1 = some (1, 1, false) ∧ fldO Tryz.prog 8 2 = some (2, 1, false) ∧ fldO Tryz.prog 8 3 = some (3, 1, false) := by and_intros <;> kernel_rfl
@[go_sem] theorem t9 : szOf Tryz.prog 9 = some 1 ∧ aggOf Tryz.prog 9 = some false ∧ zeroOf Tryz.prog 9 = some (.sc (.string { data := { toList := [] } })) := by and_intros <;> kernel_rfl
@[go_sem] theorem t10 : szOf Tryz.prog 10 = some 1 ∧ aggOf Tryz.prog 10 = some false ∧ zeroOf Tryz.prog 10 = some (.sc (.string { data := { toList := [] } })) := by and_intros <;> kernel_rfl
@[go_sem] theorem t11 : szOf Tryz.prog 11 = some 1 ∧ aggOf Tryz.prog 11 = some false ∧ zeroOf Tryz.prog 11 = some (.sc (.string { data := { toList := [] } })) := by and_intros <;> kernel_rfl
@[go_sem] theorem t12 : szOf Tryz.prog 12 = some 1 ∧ aggOf Tryz.prog 12 = some false ∧ zeroOf Tryz.prog 12 = some (.sc (.int .u64 0)) := by and_intros <;> kernel_rfl
@[go_sem] theorem t13 : szOf Tryz.prog 13 = some 2 ∧ aggOf Tryz.prog 13 = some true ∧ placesO Tryz.prog 13 = some [(0, 1), (1, 1)] ∧ zeroOf Tryz.prog 13 = some (.agg [.sc (.string { data := { toList := [] } }), .sc (.int .u64 0)]) ∧ fldO Tryz.prog 13 0 = some (0, 1, false) ∧ fldO Tryz.prog 13 1 = some (1, 1, false) := by and_intros <;> kernel_rfl
@[go_sem] theorem t14 : szOf Tryz.prog 14 = some 2 ∧ aggOf Tryz.prog 14 = some true ∧ placesO Tryz.prog 14 = some [(0, 1), (1, 1)] ∧ zeroOf Tryz.prog 14 = some (.agg [.sc (.string { data := { toList := [] } }), .sc (.int .u64 0)]) ∧ fldO Tryz.prog 14 0 = some (0, 1, false) ∧ fldO Tryz.prog 14 1 = some (1, 1, false) := by and_intros <;> kernel_rfl
@[go_sem] theorem t15 : szOf Tryz.prog 15 = some 1 ∧ aggOf Tryz.prog 15 = some false ∧ zeroOf Tryz.prog 15 = some .nilP := by and_intros <;> kernel_rfl
@[go_sem] theorem t16 : szOf Tryz.prog 16 = some 1 ∧ aggOf Tryz.prog 16 = some false ∧ zeroOf Tryz.prog 16 = some .nilP := by and_intros <;> kernel_rfl
@[go_sem] theorem t17 : szOf Tryz.prog 17 = some 1 ∧ aggOf Tryz.prog 17 = some false ∧ zeroOf Tryz.prog 17 = some .nilP := by and_intros <;> kernel_rfl
@[go_sem] theorem t18 : szOf Tryz.prog 18 = some 1 ∧ aggOf Tryz.prog 18 = some true ∧ placesO Tryz.prog 18 = some [(0, 1)] ∧ zeroOf Tryz.prog 18 = some (.agg [.nilP]) ∧ fldO Tryz.prog 18 0 = some (0, 1, false) := by and_intros <;> kernel_rfl
@[go_sem] theorem t19 : szOf Tryz.prog 19 = some 1 ∧ aggOf Tryz.prog 19 = some true ∧ placesO Tryz.prog 19 = some [(0, 1)] ∧ zeroOf Tryz.prog 19 = some (.agg [.nilP]) ∧ fldO Tryz.prog 19 0 = some (0, 1, false) := by and_intros <;> kernel_rfl
@[go_sem] theorem t20 : szOf Tryz.prog 20 = some 1 ∧ aggOf Tryz.prog 20 = some false ∧ zeroOf Tryz.prog 20 = some .nilI := by and_intros <;> kernel_rfl
@[go_sem] theorem t21 : szOf Tryz.prog 21 = some 1 ∧ aggOf Tryz.prog 21 = some false ∧ zeroOf Tryz.prog 21 = some (.sc (.int .i32 0)) := by and_intros <;> kernel_rfl
@[go_sem] theorem t22 : szOf Tryz.prog 22 = some 1 ∧ aggOf Tryz.prog 22 = some false ∧ elemSz Tryz.prog 22 = some 5 ∧ buildOk Tryz.prog 22 = false ∧ buildW Tryz.prog 22 = some 5 ∧ mkOk Tryz.prog 22 = some (56, 5, 64, .agg [.sc (.int .u8 0), .sc (.string { data := { toList := [] } }), .sc (.string { data := { toList := [] } }), .sc (.int .i64 0), .sc (.string { data := { toList := [] } })]) ∧ zeroOf Tryz.prog 22 = some .nilS ∧ appOk Tryz.prog 22 22 = some (56, 5) := by and_intros <;> kernel_rfl
@[go_sem] theorem t23 : szOf Tryz.prog 23 = some 1 ∧ aggOf Tryz.prog 23 = some false ∧ elemSz Tryz.prog 23 = some 4 ∧ buildOk Tryz.prog 23 = false ∧ buildW Tryz.prog 23 = some 4 ∧ mkOk Tryz.prog 23 = some (44, 4, 56, .agg [.sc (.string { data := { toList := [] } }), .sc (.bool false), .sc (.string { data := { toList := [] } }), .sc (.string { data := { toList := [] } })]) ∧ zeroOf Tryz.prog 23 = some .nilS ∧ appOk Tryz.prog 23 23 = some (44, 4) := by and_intros <;> kernel_rfl
@[go_sem] theorem t24 : szOf Tryz.prog 24 = some 1 ∧ aggOf Tryz.prog 24 = some false ∧ zeroOf Tryz.prog 24 = some .nilF := by and_intros <;> kernel_rfl
@[go_sem] theorem t25 : szOf Tryz.prog 25 = some 1 ∧ aggOf Tryz.prog 25 = some false ∧ zeroOf Tryz.prog 25 = some .nilF := by and_intros <;> kernel_rfl
@[go_sem] theorem t26 : szOf Tryz.prog 26 = some 1 ∧ aggOf Tryz.prog 26 = some false ∧ zeroOf Tryz.prog 26 = some (.sc (.int .i64 0)) := by and_intros <;> kernel_rfl
@[go_sem] theorem t27 : szOf Tryz.prog 27 = some 1 ∧ aggOf Tryz.prog 27 = some false := by and_intros <;> kernel_rfl
@[go_sem] theorem t28 : szOf Tryz.prog 28 = some 1 ∧ aggOf Tryz.prog 28 = some false ∧ zeroOf Tryz.prog 28 = some .nilF := by and_intros <;> kernel_rfl
@[go_sem] theorem t29 : szOf Tryz.prog 29 = some 1 ∧ aggOf Tryz.prog 29 = some false ∧ elemSz Tryz.prog 29 = some 1 ∧ buildOk Tryz.prog 29 = true ∧ buildW Tryz.prog 29 = some 1 ∧ mkOk Tryz.prog 29 = some (27, 1, 8, .sc (.int .i64 0)) ∧ zeroOf Tryz.prog 29 = some .nilS ∧ appOk Tryz.prog 29 29 = some (27, 1) := by and_intros <;> kernel_rfl
@[go_sem] theorem t30 : szOf Tryz.prog 30 = some 1 ∧ aggOf Tryz.prog 30 = some false := by and_intros <;> kernel_rfl
@[go_sem] theorem t31 : szOf Tryz.prog 31 = some 1 ∧ aggOf Tryz.prog 31 = some false ∧ zeroOf Tryz.prog 31 = some .nilF := by and_intros <;> kernel_rfl
@[go_sem] theorem t32 : szOf Tryz.prog 32 = some 1 ∧ aggOf Tryz.prog 32 = some false ∧ zeroOf Tryz.prog 32 = some .nilF := by and_intros <;> kernel_rfl
@[go_sem] theorem t33 : szOf Tryz.prog 33 = some 1 ∧ aggOf Tryz.prog 33 = some false ∧ zeroOf Tryz.prog 33 = some .nilF := by and_intros <;> kernel_rfl
@[go_sem] theorem t34 : szOf Tryz.prog 34 = some 1 ∧ aggOf Tryz.prog 34 = some false ∧ zeroOf Tryz.prog 34 = some .nilF := by and_intros <;> kernel_rfl
@[go_sem] theorem t35 : szOf Tryz.prog 35 = some 1 ∧ aggOf Tryz.prog 35 = some false ∧ elemSz Tryz.prog 35 = some 1 ∧ buildOk Tryz.prog 35 = true ∧ buildW Tryz.prog 35 = some 1 ∧ mkOk Tryz.prog 35 = some (10, 1, 16, .sc (.string { data := { toList := [] } })) ∧ zeroOf Tryz.prog 35 = some .nilS ∧ appOk Tryz.prog 35 35 = some (10, 1) := by and_intros <;> kernel_rfl
@[go_sem] theorem t36 : szOf Tryz.prog 36 = some 1 ∧ aggOf Tryz.prog 36 = some false := by and_intros <;> kernel_rfl
@[go_sem] theorem t37 : szOf Tryz.prog 37 = some 1 ∧ aggOf Tryz.prog 37 = some false ∧ zeroOf Tryz.prog 37 = some .nilF := by and_intros <;> kernel_rfl
@[go_sem] theorem t38 : szOf Tryz.prog 38 = some 1 ∧ aggOf Tryz.prog 38 = some false ∧ zeroOf Tryz.prog 38 = some .nilF := by and_intros <;> kernel_rfl
@[go_sem] theorem t39 : szOf Tryz.prog 39 = some 1 ∧ aggOf Tryz.prog 39 = some false ∧ zeroOf Tryz.prog 39 = some .nilF := by and_intros <;> kernel_rfl
@[go_sem] theorem t40 : szOf Tryz.prog 40 = some 1 ∧ aggOf Tryz.prog 40 = some false ∧ zeroOf Tryz.prog 40 = some .nilF := by and_intros <;> kernel_rfl
@[go_sem] theorem t41 : szOf Tryz.prog 41 = some 1 ∧ aggOf Tryz.prog 41 = some false ∧ zeroOf Tryz.prog 41 = some .nilF := by and_intros <;> kernel_rfl
@[go_sem] theorem t42 : szOf Tryz.prog 42 = some 4 ∧ aggOf Tryz.prog 42 = some true ∧ flatS Tryz.prog 42 = some [.string, .bool, .string, .string] ∧ placesO Tryz.prog 42 = some [(0, 1), (1, 1), (2, 1), (3, 1)] ∧ zeroOf Tryz.prog 42 = some (.agg [.sc (.string { data := { toList := [] } }), .sc (.bool false), .sc (.string { data := { toList := [] } }), .sc (.string { data := { toList := [] } })]) ∧ fldO Tryz.prog 42 0 = some (0, 1, false) ∧ fldO Tryz.prog 42 1 = some (1, 1, false) ∧ fldO Tryz.prog 42 2 = some (2, 1, false) ∧ fldO Tryz.prog 42 3 = some (3, 1, false) := by and_intros <;> kernel_rfl
@[go_sem] theorem t43 : szOf Tryz.prog 43 = some 4 ∧ aggOf Tryz.prog 43 = some true ∧ flatS Tryz.prog 43 = some [.string, .bool, .string, .string] ∧ placesO Tryz.prog 43 = some [(0, 1), (1, 1), (2, 1), (3, 1)] ∧ zeroOf Tryz.prog 43 = some (.agg [.sc (.string { data := { toList := [] } }), .sc (.bool false), .sc (.string { data := { toList := [] } }), .sc (.string { data := { toList := [] } })]) ∧ fldO Tryz.prog 43 0 = some (0, 1, false) ∧ fldO Tryz.prog 43 1 = some (1, 1, false) ∧ fldO Tryz.prog 43 2 = some (2, 1, false) ∧ fldO Tryz.prog 43 3 = some (3, 1, false) := by and_intros <;> kernel_rfl
@[go_sem] theorem t44 : szOf Tryz.prog 44 = some 1 ∧ aggOf Tryz.prog 44 = some false := by and_intros <;> kernel_rfl
@[go_sem] theorem t45 : szOf Tryz.prog 45 = some 1 ∧ aggOf Tryz.prog 45 = some false ∧ zeroOf Tryz.prog 45 = some .nilF := by and_intros <;> kernel_rfl
@[go_sem] theorem t46 : szOf Tryz.prog 46 = some 1 ∧ aggOf Tryz.prog 46 = some false ∧ zeroOf Tryz.prog 46 = some .nilF := by and_intros <;> kernel_rfl
@[go_sem] theorem t47 : szOf Tryz.prog 47 = some 1 ∧ aggOf Tryz.prog 47 = some false := by and_intros <;> kernel_rfl
@[go_sem] theorem t48 : szOf Tryz.prog 48 = some 1 ∧ aggOf Tryz.prog 48 = some false ∧ zeroOf Tryz.prog 48 = some .nilF := by and_intros <;> kernel_rfl
@[go_sem] theorem t49 : szOf Tryz.prog 49 = some 1 ∧ aggOf Tryz.prog 49 = some false ∧ zeroOf Tryz.prog 49 = some .nilF := by and_intros <;> kernel_rfl
@[go_sem] theorem t50 : szOf Tryz.prog 50 = some 1 ∧ aggOf Tryz.prog 50 = some false ∧ zeroOf Tryz.prog 50 = some .nilF := by and_intros <;> kernel_rfl
@[go_sem] theorem t51 : szOf Tryz.prog 51 = some 1 ∧ aggOf Tryz.prog 51 = some false ∧ zeroOf Tryz.prog 51 = some .nilF := by and_intros <;> kernel_rfl
@[go_sem] theorem t52 : szOf Tryz.prog 52 = some 1 ∧ aggOf Tryz.prog 52 = some false ∧ zeroOf Tryz.prog 52 = some .nilF := by and_intros <;> kernel_rfl
@[go_sem] theorem t53 : szOf Tryz.prog 53 = some 1 ∧ aggOf Tryz.prog 53 = some false ∧ zeroOf Tryz.prog 53 = some (.sc (.int .u8 0)) := by and_intros <;> kernel_rfl
@[go_sem] theorem t54 : szOf Tryz.prog 54 = some 5 ∧ aggOf Tryz.prog 54 = some true ∧ flatS Tryz.prog 54 = some [.int .u8, .string, .string, .int .i64, .string] ∧ placesO Tryz.prog 54 = some [(0, 1), (1, 1), (2, 1), (3, 1), (4, 1)] ∧ zeroOf Tryz.prog 54 = some (.agg [.sc (.int .u8 0), .sc (.string { data := { toList := [] } }), .sc (.string { data := { toList := [] } }), .sc (.int .i64 0), .sc (.string { data := { toList := [] } })]) ∧ fldO Tryz.prog 54 0 = some (0, 1, false) ∧ fldO Tryz.prog 54 1 = some (1, 1, false) ∧ fldO Tryz.prog 54 2 = some (2, 1, false) ∧ fldO Tryz.prog 54 3 = some (3, 1, false) ∧ fldO Tryz.prog 54 4 = some (4, 1, false) := by and_intros <;> kernel_rfl
@[go_sem] theorem t55 : szOf Tryz.prog 55 = some 5 ∧ aggOf Tryz.prog 55 = some true ∧ flatS Tryz.prog 55 = some [.int .u8, .string, .string, .int .i64, .string] ∧ placesO Tryz.prog 55 = some [(0, 1), (1, 1), (2, 1), (3, 1), (4, 1)] ∧ zeroOf Tryz.prog 55 = some (.agg [.sc (.int .u8 0), .sc (.string { data := { toList := [] } }), .sc (.string { data := { toList := [] } }), .sc (.int .i64 0), .sc (.string { data := { toList := [] } })]) ∧ fldO Tryz.prog 55 0 = some (0, 1, false) ∧ fldO Tryz.prog 55 1 = some (1, 1, false) ∧ fldO Tryz.prog 55 2 = some (2, 1, false) ∧ fldO Tryz.prog 55 3 = some (3, 1, false) ∧ fldO Tryz.prog 55 4 = some (4, 1, false) := by and_intros <;> kernel_rfl
@[go_sem] theorem t56 : szOf Tryz.prog 56 = some 1 ∧ aggOf Tryz.prog 56 = some false ∧ zeroOf Tryz.prog 56 = some .nilF := by and_intros <;> kernel_rfl
@[go_sem] theorem t57 : szOf Tryz.prog 57 = some 1 ∧ aggOf Tryz.prog 57 = some false ∧ keyO Tryz.prog 57 = some .string ∧ zeroOf Tryz.prog 57 = some .nilM ∧ lookO Tryz.prog 57 = some (.string, .agg [.sc (.string { data := { toList := [] } }), .sc (.bool false), .sc (.string { data := { toList := [] } }), .sc (.string { data := { toList := [] } })]) := by and_intros <;> kernel_rfl
@[go_sem] theorem t58 : szOf Tryz.prog 58 = some 1 ∧ aggOf Tryz.prog 58 = some false ∧ keyO Tryz.prog 58 = some .string ∧ zeroOf Tryz.prog 58 = some .nilM ∧ lookO Tryz.prog 58 = some (.string, .nilS) := by and_intros <;> kernel_rfl
@[go_sem] theorem t59 : szOf Tryz.prog 59 = some 3 ∧ aggOf Tryz.prog 59 = some true ∧ placesO Tryz.prog 59 = some [(0, 1), (1, 1), (2, 1)] ∧ zeroOf Tryz.prog 59 = some (.agg [.nilS, .nilM, .nilM]) ∧ fldO Tryz.prog 59 0 = some (0, 1, false) ∧ fldO Tryz.prog 59 1 = some (1, 1, false) ∧ fldO Tryz.prog 59 2 = some (2, 1, false) := by and_intros <;> kernel_rfl
@[go_sem] theorem t60 : szOf Tryz.prog 60 = some 3 ∧ aggOf Tryz.prog 60 = some true ∧ placesO Tryz.prog 60 = some [(0, 1), (1, 1), (2, 1)] ∧ zeroOf Tryz.prog 60 = some (.agg [.nilS, .nilM, .nilM]) ∧ fldO Tryz.prog 60 0 = some (0, 1, false) ∧ fldO Tryz.prog 60 1 = some (1, 1, false) ∧ fldO Tryz.prog 60 2 = some (2, 1, false) := by and_intros <;> kernel_rfl
@[go_sem] theorem t61 : szOf Tryz.prog 61 = some 1 ∧ aggOf Tryz.prog 61 = some false := by and_intros <;> kernel_rfl
@[go_sem] theorem t62 : szOf Tryz.prog 62 = some 1 ∧ aggOf Tryz.prog 62 = some false ∧ zeroOf Tryz.prog 62 = some .nilF := by and_intros <;> kernel_rfl
@[go_sem] theorem t63 : szOf Tryz.prog 63 = some 1 ∧ aggOf Tryz.prog 63 = some false ∧ zeroOf Tryz.prog 63 = some .nilF := by and_intros <;> kernel_rfl
@[go_sem] theorem t64 : szOf Tryz.prog 64 = some 1 ∧ aggOf Tryz.prog 64 = some false ∧ zeroOf Tryz.prog 64 = some .nilF := by and_intros <;> kernel_rfl
@[go_sem] theorem t65 : szOf Tryz.prog 65 = some 1 ∧ aggOf Tryz.prog 65 = some false ∧ zeroOf Tryz.prog 65 = some .nilF := by and_intros <;> kernel_rfl
@[go_sem] theorem t66 : szOf Tryz.prog 66 = some 1 ∧ aggOf Tryz.prog 66 = some false ∧ zeroOf Tryz.prog 66 = some .nilF := by and_intros <;> kernel_rfl
@[go_sem] theorem t67 : szOf Tryz.prog 67 = some 1 ∧ aggOf Tryz.prog 67 = some false := by and_intros <;> kernel_rfl
@[go_sem] theorem t68 : szOf Tryz.prog 68 = some 1 ∧ aggOf Tryz.prog 68 = some false ∧ zeroOf Tryz.prog 68 = some .nilF := by and_intros <;> kernel_rfl
@[go_sem] theorem t69 : szOf Tryz.prog 69 = some 1 ∧ aggOf Tryz.prog 69 = some false ∧ zeroOf Tryz.prog 69 = some .nilF := by and_intros <;> kernel_rfl
@[go_sem] theorem t70 : szOf Tryz.prog 70 = some 1 ∧ aggOf Tryz.prog 70 = some false ∧ zeroOf Tryz.prog 70 = some .nilF := by and_intros <;> kernel_rfl
@[go_sem] theorem t71 : szOf Tryz.prog 71 = some 1 ∧ aggOf Tryz.prog 71 = some false ∧ zeroOf Tryz.prog 71 = some .nilF := by and_intros <;> kernel_rfl
@[go_sem] theorem t72 : szOf Tryz.prog 72 = some 1 ∧ aggOf Tryz.prog 72 = some false ∧ keyO Tryz.prog 72 = some .string ∧ zeroOf Tryz.prog 72 = some .nilM ∧ lookO Tryz.prog 72 = some (.string, .sc (.bool false)) := by and_intros <;> kernel_rfl
@[go_sem] theorem t73 : szOf Tryz.prog 73 = some 1 ∧ aggOf Tryz.prog 73 = some false ∧ zeroOf Tryz.prog 73 = some .nilF := by and_intros <;> kernel_rfl
@[go_sem] theorem t74 : szOf Tryz.prog 74 = some 1 ∧ aggOf Tryz.prog 74 = some false ∧ zeroOf Tryz.prog 74 = some .nilF := by and_intros <;> kernel_rfl
@[go_sem] theorem t75 : szOf Tryz.prog 75 = some 1 ∧ aggOf Tryz.prog 75 = some false ∧ zeroOf Tryz.prog 75 = some .nilF := by and_intros <;> kernel_rfl
@[go_sem] theorem t76 : szOf Tryz.prog 76 = some 1 ∧ aggOf Tryz.prog 76 = some false ∧ zeroOf Tryz.prog 76 = some .nilF := by and_intros <;> kernel_rfl
@[go_sem] theorem t77 : szOf Tryz.prog 77 = some 1 ∧ aggOf Tryz.prog 77 = some false ∧ zeroOf Tryz.prog 77 = some .nilF := by and_intros <;> kernel_rfl
@[go_sem] theorem t78 : szOf Tryz.prog 78 = some 1 ∧ aggOf Tryz.prog 78 = some false := by and_intros <;> kernel_rfl
@[go_sem] theorem t79 : szOf Tryz.prog 79 = some 1 ∧ aggOf Tryz.prog 79 = some false ∧ zeroOf Tryz.prog 79 = some .nilF := by and_intros <;> kernel_rfl
@[go_sem] theorem t80 : szOf Tryz.prog 80 = some 1 ∧ aggOf Tryz.prog 80 = some false := by and_intros <;> kernel_rfl
@[go_sem] theorem t81 : szOf Tryz.prog 81 = some 1 ∧ aggOf Tryz.prog 81 = some false ∧ zeroOf Tryz.prog 81 = some .nilF := by and_intros <;> kernel_rfl
@[go_sem] theorem t82 : szOf Tryz.prog 82 = some 1 ∧ aggOf Tryz.prog 82 = some false ∧ zeroOf Tryz.prog 82 = some .nilP := by and_intros <;> kernel_rfl
@[go_sem] theorem t83 : szOf Tryz.prog 83 = some 1 ∧ aggOf Tryz.prog 83 = some false ∧ elemSz Tryz.prog 83 = some 1 ∧ buildOk Tryz.prog 83 = true ∧ buildW Tryz.prog 83 = some 1 ∧ mkOk Tryz.prog 83 = some (6, 1, 1, .sc (.int .u8 0)) ∧ zeroOf Tryz.prog 83 = some .nilS ∧ appOk Tryz.prog 83 83 = some (6, 1) ∧ appOk Tryz.prog 83 9 = some (6, 1) := by and_intros <;> kernel_rfl
@[go_sem] theorem t84 : szOf Tryz.prog 84 = some 2 ∧ aggOf Tryz.prog 84 = some true ∧ placesO Tryz.prog 84 = some [(0, 1), (1, 1)] ∧ zeroOf Tryz.prog 84 = some (.agg [.nilP, .nilS]) ∧ fldO Tryz.prog 84 0 = some (0, 1, false) ∧ fldO Tryz.prog 84 1 = some (1, 1, false) := by and_intros <;> kernel_rfl
@[go_sem] theorem t85 : szOf Tryz.prog 85 = some 2 ∧ aggOf Tryz.prog 85 = some true ∧ placesO Tryz.prog 85 = some [(0, 1), (1, 1)] ∧ zeroOf Tryz.prog 85 = some (.agg [.nilP, .nilS]) ∧ fldO Tryz.prog 85 0 = some (0, 1, false) ∧ fldO Tryz.prog 85 1 = some (1, 1, false) := by and_intros <;> kernel_rfl
@[go_sem] theorem t86 : szOf Tryz.prog 86 = some 1 ∧ aggOf Tryz.prog 86 = some false ∧ zeroOf Tryz.prog 86 = some .nilF := by and_intros <;> kernel_rfl
@[go_sem] theorem t87 : szOf Tryz.prog 87 = some 1 ∧ aggOf Tryz.prog 87 = some false ∧ zeroOf Tryz.prog 87 = some .nilI := by and_intros <;> kernel_rfl
@[go_sem] theorem t88 : szOf Tryz.prog 88 = some 1 ∧ aggOf Tryz.prog 88 = some false ∧ zeroOf Tryz.prog 88 = some .nilI := by and_intros <;> kernel_rfl
@[go_sem] theorem t89 : szOf Tryz.prog 89 = some 1 ∧ aggOf Tryz.prog 89 = some false := by and_intros <;> kernel_rfl
@[go_sem] theorem t90 : szOf Tryz.prog 90 = some 1 ∧ aggOf Tryz.prog 90 = some false ∧ zeroOf Tryz.prog 90 = some .nilF := by and_intros <;> kernel_rfl
@[go_sem] theorem t91 : szOf Tryz.prog 91 = some 1 ∧ aggOf Tryz.prog 91 = some false ∧ zeroOf Tryz.prog 91 = some .nilF := by and_intros <;> kernel_rfl
@[go_sem] theorem t92 : szOf Tryz.prog 92 = some 1 ∧ aggOf Tryz.prog 92 = some false ∧ zeroOf Tryz.prog 92 = some .nilF := by and_intros <;> kernel_rfl
@[go_sem] theorem t93 : szOf Tryz.prog 93 = some 1 ∧ aggOf Tryz.prog 93 = some false ∧ zeroOf Tryz.prog 93 = some .nilF := by and_intros <;> kernel_rfl
@[go_sem] theorem t94 : szOf Tryz.prog 94 = some 1 ∧ aggOf Tryz.prog 94 = some false := by and_intros <;> kernel_rfl
@[go_sem] theorem t95 : szOf Tryz.prog 95 = some 1 ∧ aggOf Tryz.prog 95 = some false ∧ zeroOf Tryz.prog 95 = some .nilF := by and_intros <;> kernel_rfl
@[go_sem] theorem t96 : szOf Tryz.prog 96 = some 1 ∧ aggOf Tryz.prog 96 = some false ∧ zeroOf Tryz.prog 96 = some .nilF := by and_intros <;> kernel_rfl
@[go_sem] theorem t97 : szOf Tryz.prog 97 = some 1 ∧ aggOf Tryz.prog 97 = some false := by and_intros <;> kernel_rfl
@[go_sem] theorem t98 : szOf Tryz.prog 98 = some 1 ∧ aggOf Tryz.prog 98 = some false ∧ zeroOf Tryz.prog 98 = some .nilF := by and_intros <;> kernel_rfl
@[go_sem] theorem t99 : szOf Tryz.prog 99 = some 1 ∧ aggOf Tryz.prog 99 = some false ∧ zeroOf Tryz.prog 99 = some .nilF := by and_intros <;> kernel_rfl
@[go_sem] theorem t100 : szOf Tryz.prog 100 = some 1 ∧ aggOf Tryz.prog 100 = some false ∧ zeroOf Tryz.prog 100 = some .nilF := by and_intros <;> kernel_rfl
@[go_sem] theorem t101 : szOf Tryz.prog 101 = some 1 ∧ aggOf Tryz.prog 101 = some false ∧ zeroOf Tryz.prog 101 = some .nilF := by and_intros <;> kernel_rfl
@[go_sem] theorem t102 : szOf Tryz.prog 102 = some 1 ∧ aggOf Tryz.prog 102 = some false ∧ elemSz Tryz.prog 102 = some 1 ∧ buildOk Tryz.prog 102 = true ∧ buildW Tryz.prog 102 = some 1 ∧ mkOk Tryz.prog 102 = some (23, 1, 24, .nilS) ∧ zeroOf Tryz.prog 102 = some .nilS ∧ appOk Tryz.prog 102 102 = some (23, 1) := by and_intros <;> kernel_rfl
@[go_sem] theorem t103 : szOf Tryz.prog 103 = some 1 ∧ aggOf Tryz.prog 103 = some false ∧ zeroOf Tryz.prog 103 = some .nilF := by and_intros <;> kernel_rfl
@[go_sem] theorem t104 : szOf Tryz.prog 104 = some 1 ∧ aggOf Tryz.prog 104 = some false ∧ zeroOf Tryz.prog 104 = some .nilF := by and_intros <;> kernel_rfl
@[go_sem] theorem t105 : szOf Tryz.prog 105 = some 1 ∧ aggOf Tryz.prog 105 = some false ∧ zeroOf Tryz.prog 105 = some .nilF := by and_intros <;> kernel_rfl
@[go_sem] theorem t106 : szOf Tryz.prog 106 = some 1 ∧ aggOf Tryz.prog 106 = some false ∧ zeroOf Tryz.prog 106 = some .nilF := by and_intros <;> kernel_rfl
@[go_sem] theorem t107 : szOf Tryz.prog 107 = some 1 ∧ aggOf Tryz.prog 107 = some false ∧ zeroOf Tryz.prog 107 = some (.sc (.int .u64 0)) := by and_intros <;> kernel_rfl
@[go_sem] theorem t108 : szOf Tryz.prog 108 = some 1 ∧ aggOf Tryz.prog 108 = some false ∧ zeroOf Tryz.prog 108 = some .nilF := by and_intros <;> kernel_rfl
@[go_sem] theorem t109 : szOf Tryz.prog 109 = some 1 ∧ aggOf Tryz.prog 109 = some false ∧ zeroOf Tryz.prog 109 = some .nilF := by and_intros <;> kernel_rfl
@[go_sem] theorem t110 : szOf Tryz.prog 110 = some 1 ∧ aggOf Tryz.prog 110 = some false ∧ zeroOf Tryz.prog 110 = some .nilF := by and_intros <;> kernel_rfl
@[go_sem] theorem t111 : szOf Tryz.prog 111 = some 1 ∧ aggOf Tryz.prog 111 = some false ∧ zeroOf Tryz.prog 111 = some .nilF := by and_intros <;> kernel_rfl
@[go_sem] theorem t112 : szOf Tryz.prog 112 = some 1 ∧ aggOf Tryz.prog 112 = some false ∧ zeroOf Tryz.prog 112 = some .nilF := by and_intros <;> kernel_rfl
@[go_sem] theorem t113 : szOf Tryz.prog 113 = some 1 ∧ aggOf Tryz.prog 113 = some false := by and_intros <;> kernel_rfl
@[go_sem] theorem t114 : szOf Tryz.prog 114 = some 1 ∧ aggOf Tryz.prog 114 = some false ∧ zeroOf Tryz.prog 114 = some .nilF := by and_intros <;> kernel_rfl
@[go_sem] theorem t115 : szOf Tryz.prog 115 = some 1 ∧ aggOf Tryz.prog 115 = some false ∧ zeroOf Tryz.prog 115 = some .nilF := by and_intros <;> kernel_rfl
@[go_sem] theorem t116 : szOf Tryz.prog 116 = some 1 ∧ aggOf Tryz.prog 116 = some false ∧ zeroOf Tryz.prog 116 = some .nilF := by and_intros <;> kernel_rfl
@[go_sem] theorem t117 : szOf Tryz.prog 117 = some 1 ∧ aggOf Tryz.prog 117 = some false ∧ zeroOf Tryz.prog 117 = some .nilF := by and_intros <;> kernel_rfl
@[go_sem] theorem t118 : szOf Tryz.prog 118 = some 1 ∧ aggOf Tryz.prog 118 = some false ∧ ustO Tryz.prog 118 = some 6 ∧ zeroOf Tryz.prog 118 = some .nilP := by and_intros <;> kernel_rfl
@[go_sem] theorem t119 : szOf Tryz.prog 119 = some 1 ∧ aggOf Tryz.prog 119 = some false ∧ zeroOf Tryz.prog 119 = some .nilF := by and_intros <;> kernel_rfl
@[go_sem] theorem t120 : szOf Tryz.prog 120 = some 1 ∧ aggOf Tryz.prog 120 = some false ∧ zeroOf Tryz.prog 120 = some .nilF := by and_intros <;> kernel_rfl
@[go_sem] theorem t121 : szOf Tryz.prog 121 = some 1 ∧ aggOf Tryz.prog 121 = some false ∧ zeroOf Tryz.prog 121 = some .nilF := by and_intros <;> kernel_rfl
@[go_sem] theorem t122 : szOf Tryz.prog 122 = some 1 ∧ aggOf Tryz.prog 122 = some false ∧ zeroOf Tryz.prog 122 = some .nilF := by and_intros <;> kernel_rfl
@[go_sem] theorem t123 : szOf Tryz.prog 123 = some 1 ∧ aggOf Tryz.prog 123 = some false := by and_intros <;> kernel_rfl
@[go_sem] theorem t124 : szOf Tryz.prog 124 = some 1 ∧ aggOf Tryz.prog 124 = some false ∧ zeroOf Tryz.prog 124 = some .nilF := by and_intros <;> kernel_rfl
@[go_sem] theorem t125 : szOf Tryz.prog 125 = some 1 ∧ aggOf Tryz.prog 125 = some false ∧ zeroOf Tryz.prog 125 = some .nilF := by and_intros <;> kernel_rfl
@[go_sem] theorem t126 : szOf Tryz.prog 126 = some 1 ∧ aggOf Tryz.prog 126 = some false ∧ zeroOf Tryz.prog 126 = some .nilF := by and_intros <;> kernel_rfl
@[go_sem] theorem t127 : szOf Tryz.prog 127 = some 1 ∧ aggOf Tryz.prog 127 = some false ∧ zeroOf Tryz.prog 127 = some .nilF := by and_intros <;> kernel_rfl
@[go_sem] theorem t128 : szOf Tryz.prog 128 = some 1 ∧ aggOf Tryz.prog 128 = some false ∧ zeroOf Tryz.prog 128 = some .nilF := by and_intros <;> kernel_rfl
@[go_sem] theorem t129 : szOf Tryz.prog 129 = some 1 ∧ aggOf Tryz.prog 129 = some false ∧ zeroOf Tryz.prog 129 = some .nilF := by and_intros <;> kernel_rfl
@[go_sem] theorem t130 : szOf Tryz.prog 130 = some 1 ∧ aggOf Tryz.prog 130 = some false := by and_intros <;> kernel_rfl
@[go_sem] theorem t131 : szOf Tryz.prog 131 = some 1 ∧ aggOf Tryz.prog 131 = some false ∧ zeroOf Tryz.prog 131 = some .nilF := by and_intros <;> kernel_rfl
@[go_sem] theorem t132 : szOf Tryz.prog 132 = some 1 ∧ aggOf Tryz.prog 132 = some false ∧ zeroOf Tryz.prog 132 = some .nilF := by and_intros <;> kernel_rfl
@[go_sem] theorem t133 : szOf Tryz.prog 133 = some 1 ∧ aggOf Tryz.prog 133 = some false := by and_intros <;> kernel_rfl
@[go_sem] theorem t134 : szOf Tryz.prog 134 = some 1 ∧ aggOf Tryz.prog 134 = some false ∧ zeroOf Tryz.prog 134 = some .nilF := by and_intros <;> kernel_rfl
@[go_sem] theorem t135 : szOf Tryz.prog 135 = some 1 ∧ aggOf Tryz.prog 135 = some false ∧ zeroOf Tryz.prog 135 = some .nilF := by and_intros <;> kernel_rfl
@[go_sem] theorem t136 : szOf Tryz.prog 136 = some 1 ∧ aggOf Tryz.prog 136 = some false ∧ zeroOf Tryz.prog 136 = some .nilF := by and_intros <;> kernel_rfl
@[go_sem] theorem t137 : szOf Tryz.prog 137 = some 1 ∧ aggOf Tryz.prog 137 = some false ∧ zeroOf Tryz.prog 137 = some .nilF := by and_intros <;> kernel_rfl
@[go_sem] theorem t138 : szOf Tryz.prog 138 = some 1 ∧ aggOf Tryz.prog 138 = some false ∧ zeroOf Tryz.prog 138 = some .nilF := by and_intros <;> kernel_rfl
@[go_sem] theorem t139 : szOf Tryz.prog 139 = some 1 ∧ aggOf Tryz.prog 139 = some false ∧ zeroOf Tryz.prog 139 = some .nilF := by and_intros <;> kernel_rfl
@[go_sem] theorem t140 : szOf Tryz.prog 140 = some 1 ∧ aggOf Tryz.prog 140 = some false ∧ zeroOf Tryz.prog 140 = some .nilF := by and_intros <;> kernel_rfl
@[go_sem] theorem t141 : szOf Tryz.prog 141 = some 1 ∧ aggOf Tryz.prog 141 = some false ∧ zeroOf Tryz.prog 141 = some .nilF := by and_intros <;> kernel_rfl
@[go_sem] theorem t142 : szOf Tryz.prog 142 = some 1 ∧ aggOf Tryz.prog 142 = some false ∧ zeroOf Tryz.prog 142 = some .nilF := by and_intros <;> kernel_rfl
@[go_sem] theorem t143 : szOf Tryz.prog 143 = some 1 ∧ aggOf Tryz.prog 143 = some false ∧ zeroOf Tryz.prog 143 = some .nilP := by and_intros <;> kernel_rfl
@[go_sem] theorem t144 : szOf Tryz.prog 144 = some 1 ∧ aggOf Tryz.prog 144 = some false ∧ zeroOf Tryz.prog 144 = some .nilF := by and_intros <;> kernel_rfl
@[go_sem] theorem t145 : szOf Tryz.prog 145 = some 1 ∧ aggOf Tryz.prog 145 = some false ∧ zeroOf Tryz.prog 145 = some .nilF := by and_intros <;> kernel_rfl
@[go_sem] theorem t146 : szOf Tryz.prog 146 = some 1 ∧ aggOf Tryz.prog 146 = some false ∧ zeroOf Tryz.prog 146 = some .nilF := by and_intros <;> kernel_rfl
@[go_sem] theorem t147 : szOf Tryz.prog 147 = some 1 ∧ aggOf Tryz.prog 147 = some false ∧ zeroOf Tryz.prog 147 = some .nilF := by and_intros <;> kernel_rfl
@[go_sem] theorem t148 : szOf Tryz.prog 148 = some 1 ∧ aggOf Tryz.prog 148 = some false ∧ zeroOf Tryz.prog 148 = some .nilF := by and_intros <;> kernel_rfl
@[go_sem] theorem t149 : szOf Tryz.prog 149 = some 1 ∧ aggOf Tryz.prog 149 = some false := by and_intros <;> kernel_rfl
@[go_sem] theorem t150 : szOf Tryz.prog 150 = some 1 ∧ aggOf Tryz.prog 150 = some false ∧ zeroOf Tryz.prog 150 = some .nilF := by and_intros <;> kernel_rfl
@[go_sem] theorem t151 : szOf Tryz.prog 151 = some 1 ∧ aggOf Tryz.prog 151 = some false ∧ zeroOf Tryz.prog 151 = some .nilF := by and_intros <;> kernel_rfl
@[go_sem] theorem t152 : szOf Tryz.prog 152 = some 1 ∧ aggOf Tryz.prog 152 = some false ∧ zeroOf Tryz.prog 152 = some .nilF := by and_intros <;> kernel_rfl
@[go_sem] theorem t153 : szOf Tryz.prog 153 = some 1 ∧ aggOf Tryz.prog 153 = some false ∧ zeroOf Tryz.prog 153 = some .nilF := by and_intros <;> kernel_rfl
@[go_sem] theorem t154 : szOf Tryz.prog 154 = some 1 ∧ aggOf Tryz.prog 154 = some false ∧ zeroOf Tryz.prog 154 = some .nilF := by and_intros <;> kernel_rfl
@[go_sem] theorem t155 : szOf Tryz.prog 155 = some 1 ∧ aggOf Tryz.prog 155 = some false ∧ zeroOf Tryz.prog 155 = some .nilF := by and_intros <;> kernel_rfl
@[go_sem] theorem t156 : szOf Tryz.prog 156 = some 1 ∧ aggOf Tryz.prog 156 = some false ∧ zeroOf Tryz.prog 156 = some .nilF := by and_intros <;> kernel_rfl
@[go_sem] theorem t157 : szOf Tryz.prog 157 = some 1 ∧ aggOf Tryz.prog 157 = some false ∧ keyO Tryz.prog 157 = some .string ∧ zeroOf Tryz.prog 157 = some .nilM ∧ lookO Tryz.prog 157 = some (.string, .sc (.string { data := { toList := [] } })) := by and_intros <;> kernel_rfl
@[go_sem] theorem t158 : szOf Tryz.prog 158 = some 1 ∧ aggOf Tryz.prog 158 = some false ∧ zeroOf Tryz.prog 158 = some .nilF := by and_intros <;> kernel_rfl
@[go_sem] theorem t159 : szOf Tryz.prog 159 = some 1 ∧ aggOf Tryz.prog 159 = some false ∧ zeroOf Tryz.prog 159 = some .nilF := by and_intros <;> kernel_rfl
@[go_sem] theorem t160 : szOf Tryz.prog 160 = some 1 ∧ aggOf Tryz.prog 160 = some false ∧ zeroOf Tryz.prog 160 = some (.sc (.int .i64 0)) := by and_intros <;> kernel_rfl
@[go_sem] theorem t161 : szOf Tryz.prog 161 = some 1 ∧ aggOf Tryz.prog 161 = some false := by and_intros <;> kernel_rfl
@[go_sem] theorem t162 : szOf Tryz.prog 162 = some 1 ∧ aggOf Tryz.prog 162 = some false ∧ zeroOf Tryz.prog 162 = some .nilF := by and_intros <;> kernel_rfl
@[go_sem] theorem t163 : szOf Tryz.prog 163 = some 1 ∧ aggOf Tryz.prog 163 = some false ∧ zeroOf Tryz.prog 163 = some .nilF := by and_intros <;> kernel_rfl
@[go_sem] theorem t164 : szOf Tryz.prog 164 = some 1 ∧ aggOf Tryz.prog 164 = some false ∧ zeroOf Tryz.prog 164 = some .nilF := by and_intros <;> kernel_rfl
@[go_sem] theorem t165 : szOf Tryz.prog 165 = some 1 ∧ aggOf Tryz.prog 165 = some false ∧ zeroOf Tryz.prog 165 = some .nilF := by and_intros <;> kernel_rfl
@[go_sem] theorem t166 : szOf Tryz.prog 166 = some 1 ∧ aggOf Tryz.prog 166 = some false ∧ zeroOf Tryz.prog 166 = some .nilF := by and_intros <;> kernel_rfl
@[go_sem] theorem t167 : szOf Tryz.prog 167 = some 1 ∧ aggOf Tryz.prog 167 = some false ∧ zeroOf Tryz.prog 167 = some (.sc (.int .u32 0)) := by and_intros <;> kernel_rfl
@[go_sem] theorem t168 : szOf Tryz.prog 168 = some 1 ∧ aggOf Tryz.prog 168 = some false ∧ zeroOf Tryz.prog 168 = some .nilF := by and_intros <;> kernel_rfl
@[go_sem] theorem t169 : szOf Tryz.prog 169 = some 1 ∧ aggOf Tryz.prog 169 = some false ∧ zeroOf Tryz.prog 169 = some (.sc (.int .u64 0)) := by and_intros <;> kernel_rfl
@[go_sem] theorem t170 : szOf Tryz.prog 170 = some 1 ∧ aggOf Tryz.prog 170 = some false ∧ zeroOf Tryz.prog 170 = some .nilF := by and_intros <;> kernel_rfl
@[go_sem] theorem t171 : szOf Tryz.prog 171 = some 1 ∧ aggOf Tryz.prog 171 = some false := by and_intros <;> kernel_rfl
@[go_sem] theorem t172 : szOf Tryz.prog 172 = some 1 ∧ aggOf Tryz.prog 172 = some false ∧ zeroOf Tryz.prog 172 = some .nilF := by and_intros <;> kernel_rfl
@[go_sem] theorem t173 : szOf Tryz.prog 173 = some 1 ∧ aggOf Tryz.prog 173 = some false ∧ zeroOf Tryz.prog 173 = some (.sc (.int .i64 0)) := by and_intros <;> kernel_rfl
@[go_sem] theorem t174 : szOf Tryz.prog 174 = some 1 ∧ aggOf Tryz.prog 174 = some false := by and_intros <;> kernel_rfl
@[go_sem] theorem t175 : szOf Tryz.prog 175 = some 1 ∧ aggOf Tryz.prog 175 = some false ∧ zeroOf Tryz.prog 175 = some .nilF := by and_intros <;> kernel_rfl
@[go_sem] theorem t176 : szOf Tryz.prog 176 = some 1 ∧ aggOf Tryz.prog 176 = some false ∧ zeroOf Tryz.prog 176 = some .nilP := by and_intros <;> kernel_rfl
@[go_sem] theorem t177 : szOf Tryz.prog 177 = some 1 ∧ aggOf Tryz.prog 177 = some false ∧ zeroOf Tryz.prog 177 = some .nilF := by and_intros <;> kernel_rfl
@[go_sem] theorem t178 : szOf Tryz.prog 178 = some 1 ∧ aggOf Tryz.prog 178 = some false ∧ zeroOf Tryz.prog 178 = some .nilF := by and_intros <;> kernel_rfl
@[go_sem] theorem t179 : szOf Tryz.prog 179 = some 1 ∧ aggOf Tryz.prog 179 = some false ∧ zeroOf Tryz.prog 179 = some .nilF := by and_intros <;> kernel_rfl
@[go_sem] theorem t180 : szOf Tryz.prog 180 = some 1 ∧ aggOf Tryz.prog 180 = some false ∧ zeroOf Tryz.prog 180 = some (.sc (.int .u64 0)) := by and_intros <;> kernel_rfl
@[go_sem] theorem t181 : szOf Tryz.prog 181 = some 1 ∧ aggOf Tryz.prog 181 = some false ∧ zeroOf Tryz.prog 181 = some .nilF := by and_intros <;> kernel_rfl
@[go_sem] theorem t182 : szOf Tryz.prog 182 = some 1 ∧ aggOf Tryz.prog 182 = some false ∧ zeroOf Tryz.prog 182 = some .nilF := by and_intros <;> kernel_rfl
@[go_sem] theorem t183 : szOf Tryz.prog 183 = some 1 ∧ aggOf Tryz.prog 183 = some false ∧ zeroOf Tryz.prog 183 = some .nilF := by and_intros <;> kernel_rfl
@[go_sem] theorem t184 : szOf Tryz.prog 184 = some 1 ∧ aggOf Tryz.prog 184 = some false ∧ ustO Tryz.prog 184 = some 4 ∧ zeroOf Tryz.prog 184 = some .nilP := by and_intros <;> kernel_rfl
@[go_sem] theorem t185 : szOf Tryz.prog 185 = some 1 ∧ aggOf Tryz.prog 185 = some false ∧ zeroOf Tryz.prog 185 = some .nilF := by and_intros <;> kernel_rfl
@[go_sem] theorem t186 : szOf Tryz.prog 186 = some 24 ∧ aggOf Tryz.prog 186 = some true ∧ arrOf Tryz.prog 186 = some (24, 1) := by and_intros <;> kernel_rfl
@[go_sem] theorem t187 : szOf Tryz.prog 187 = some 1 ∧ aggOf Tryz.prog 187 = some false ∧ zeroOf Tryz.prog 187 = some .nilF := by and_intros <;> kernel_rfl
@[go_sem] theorem t188 : szOf Tryz.prog 188 = some 1 ∧ aggOf Tryz.prog 188 = some false := by and_intros <;> kernel_rfl
@[go_sem] theorem t189 : szOf Tryz.prog 189 = some 1 ∧ aggOf Tryz.prog 189 = some false ∧ zeroOf Tryz.prog 189 = some .nilF := by and_intros <;> kernel_rfl
@[go_sem] theorem t190 : szOf Tryz.prog 190 = some 1 ∧ aggOf Tryz.prog 190 = some false ∧ zeroOf Tryz.prog 190 = some .nilF := by and_intros <;> kernel_rfl
@[go_sem] theorem t191 : szOf Tryz.prog 191 = some 1 ∧ aggOf Tryz.prog 191 = some false ∧ zeroOf Tryz.prog 191 = some .nilF := by and_intros <;> kernel_rfl
@[go_sem] theorem t192 : szOf Tryz.prog 192 = some 1 ∧ aggOf Tryz.prog 192 = some false := by and_intros <;> kernel_rfl
@[go_sem] theorem t193 : szOf Tryz.prog 193 = some 1 ∧ aggOf Tryz.prog 193 = some false ∧ zeroOf Tryz.prog 193 = some .nilF := by and_intros <;> kernel_rfl
@[go_sem] theorem t194 : szOf Tryz.prog 194 = some 3 ∧ aggOf Tryz.prog 194 = some true ∧ placesO Tryz.prog 194 = some [(0, 1), (1, 1), (2, 1)] ∧ zeroOf Tryz.prog 194 = some (.agg [.sc (.string { data := { toList := [] } }), .sc (.string { data := { toList := [] } }), .nilI]) ∧ fldO Tryz.prog 194 0 = some (0, 1, false) ∧ fldO Tryz.prog 194 1 = some (1, 1, false) ∧ fldO Tryz.prog 194 2 = some (2, 1, false) := by and_intros <;> kernel_rfl
@[go_sem] theorem t195 : szOf Tryz.prog 195 = some 3 ∧ aggOf Tryz.prog 195 = some true ∧ placesO Tryz.prog 195 = some [(0, 1), (1, 1), (2, 1)] ∧ zeroOf Tryz.prog 195 = some (.agg [.sc (.string { data := { toList := [] } }), .sc (.string { data := { toList := [] } }), .nilI]) ∧ fldO Tryz.prog 195 0 = some (0, 1, false) ∧ fldO Tryz.prog 195 1 = some (1, 1, false) ∧ fldO Tryz.prog 195 2 = some (2, 1, false) := by and_intros <;> kernel_rfl
@[go_sem] theorem t196 : szOf Tryz.prog 196 = some 1 ∧ aggOf Tryz.prog 196 = some false ∧ zeroOf Tryz.prog 196 = some .nilF := by and_intros <;> kernel_rfl
@[go_sem] theorem t197 : szOf Tryz.prog 197 = some 1 ∧ aggOf Tryz.prog 197 = some false ∧ zeroOf Tryz.prog 197 = some .nilF := by and_intros <;> kernel_rfl
@[go_sem] theorem t198 : szOf Tryz.prog 198 = some 1 ∧ aggOf Tryz.prog 198 = some false ∧ ustO Tryz.prog 198 = some 181 ∧ zeroOf Tryz.prog 198 = some .nilP := by and_intros <;> kernel_rfl
@[go_sem] theorem t199 : szOf Tryz.prog 199 = some 1 ∧ aggOf Tryz.prog 199 = some false := by and_intros <;> kernel_rfl
@[go_sem] theorem t200 : szOf Tryz.prog 200 = some 1 ∧ aggOf Tryz.prog 200 = some false ∧ zeroOf Tryz.prog 200 = some .nilF := by and_intros <;> kernel_rfl
@[go_sem] theorem t201 : szOf Tryz.prog 201 = some 1 ∧ aggOf Tryz.prog 201 = some false ∧ zeroOf Tryz.prog 201 = some .nilF := by and_intros <;> kernel_rfl
@[go_sem] theorem t202 : szOf Tryz.prog 202 = some 20 ∧ aggOf Tryz.prog 202 = some true ∧ arrOf Tryz.prog 202 = some (20, 1) := by and_intros <;> kernel_rfl
@[go_sem] theorem t203 : szOf Tryz.prog 203 = some 65 ∧ aggOf Tryz.prog 203 = some true ∧ arrOf Tryz.prog 203 = some (65, 1) := by and_intros <;> kernel_rfl
@[go_sem] theorem t204 : szOf Tryz.prog 204 = some 1 ∧ aggOf Tryz.prog 204 = some false ∧ zeroOf Tryz.prog 204 = some .nilF := by and_intros <;> kernel_rfl
@[go_sem] theorem t205 : szOf Tryz.prog 205 = some 256 ∧ aggOf Tryz.prog 205 = some true ∧ arrOf Tryz.prog 205 = some (256, 1) := by and_intros <;> kernel_rfl
@[go_sem] theorem t206 : szOf Tryz.prog 206 = some 2 ∧ aggOf Tryz.prog 206 = some true ∧ flatS Tryz.prog 206 = some [.int .u8, .int .u8] ∧ placesO Tryz.prog 206 = some [(0, 1), (1, 1)] ∧ zeroOf Tryz.prog 206 = some (.agg [.sc (.int .u8 0), .sc (.int .u8 0)]) ∧ fldO Tryz.prog 206 0 = some (0, 1, false) ∧ fldO Tryz.prog 206 1 = some (1, 1, false) := by and_intros <;> kernel_rfl
@[go_sem] theorem t207 : szOf Tryz.prog 207 = some 2 ∧ aggOf Tryz.prog 207 = some true ∧ flatS Tryz.prog 207 = some [.int .u8, .int .u8] ∧ placesO Tryz.prog 207 = some [(0, 1), (1, 1)] ∧ zeroOf Tryz.prog 207 = some (.agg [.sc (.int .u8 0), .sc (.int .u8 0)]) ∧ fldO Tryz.prog 207 0 = some (0, 1, false) ∧ fldO Tryz.prog 207 1 = some (1, 1, false) := by and_intros <;> kernel_rfl
@[go_sem] theorem t208 : szOf Tryz.prog 208 = some 32 ∧ aggOf Tryz.prog 208 = some true ∧ arrOf Tryz.prog 208 = some (16, 2) := by and_intros <;> kernel_rfl
@[go_sem] theorem t209 : szOf Tryz.prog 209 = some 1 ∧ aggOf Tryz.prog 209 = some false := by and_intros <;> kernel_rfl
@[go_sem] theorem t210 : szOf Tryz.prog 210 = some 1 ∧ aggOf Tryz.prog 210 = some false ∧ zeroOf Tryz.prog 210 = some .nilF := by and_intros <;> kernel_rfl
@[go_sem] theorem t211 : szOf Tryz.prog 211 = some 1 ∧ aggOf Tryz.prog 211 = some false ∧ ustO Tryz.prog 211 = some 214 ∧ zeroOf Tryz.prog 211 = some .nilP := by and_intros <;> kernel_rfl
@[go_sem] theorem t212 : szOf Tryz.prog 212 = some 1 ∧ aggOf Tryz.prog 212 = some true ∧ flatS Tryz.prog 212 = some [.string] ∧ placesO Tryz.prog 212 = some [(0, 1)] ∧ zeroOf Tryz.prog 212 = some (.agg [.sc (.string { data := { toList := [] } })]) ∧ fldO Tryz.prog 212 0 = some (0, 1, false) := by and_intros <;> kernel_rfl
@[go_sem] theorem t213 : szOf Tryz.prog 213 = some 1 ∧ aggOf Tryz.prog 213 = some true ∧ flatS Tryz.prog 213 = some [.string] ∧ placesO Tryz.prog 213 = some [(0, 1)] ∧ zeroOf Tryz.prog 213 = some (.agg [.sc (.string { data := { toList := [] } })]) ∧ fldO Tryz.prog 213 0 = some (0, 1, false) := by and_intros <;> kernel_rfl
@[go_sem] theorem t214 : szOf Tryz.prog 214 = some 32 ∧ aggOf Tryz.prog 214 = some true ∧ arrOf Tryz.prog 214 = some (32, 1) := by and_intros <;> kernel_rfl
@[go_sem] theorem t215 : szOf Tryz.prog 215 = some 64 ∧ aggOf Tryz.prog 215 = some true ∧ arrOf Tryz.prog 215 = some (64, 1) := by and_intros <;> kernel_rfl
@[go_sem] theorem t216 : szOf Tryz.prog 216 = some 4 ∧ aggOf Tryz.prog 216 = some true ∧ placesO Tryz.prog 216 = some [(0, 1), (1, 1), (2, 1), (3, 1)] ∧ zeroOf Tryz.prog 216 = some (.agg [.nilP, .nilP, .nilP, .sc (.string { data := { toList := [] } })]) ∧ fldO Tryz.prog 216 0 = some (0, 1, false) ∧ fldO Tryz.prog 216 1 = some (1, 1, false) ∧ fldO Tryz.prog 216 2 = some (2, 1, false) ∧ fldO Tryz.prog 216 3 = some (3, 1, false) := by and_intros <;> kernel_rfl
@[go_sem] theorem t217 : szOf Tryz.prog 217 = some 4 ∧ aggOf Tryz.prog 217 = some true ∧ placesO Tryz.prog 217 = some [(0, 1), (1, 1), (2, 1), (3, 1)] ∧ zeroOf Tryz.prog 217 = some (.agg [.nilP, .nilP, .nilP, .sc (.string { data := { toList := [] } })]) ∧ fldO Tryz.prog 217 0 = some (0, 1, false) ∧ fldO Tryz.prog 217 1 = some (1, 1, false) ∧ fldO Tryz.prog 217 2 = some (2, 1, false) ∧ fldO Tryz.prog 217 3 = some (3, 1, false) := by and_intros <;> kernel_rfl
@[go_sem] theorem t218 : szOf Tryz.prog 218 = some 0 ∧ aggOf Tryz.prog 218 = some true ∧ arrOf Tryz.prog 218 = some (0, 1) ∧ zeroOf Tryz.prog 218 = some (.agg []) := by and_intros <;> kernel_rfl
@[go_sem] theorem t219 : szOf Tryz.prog 219 = some 0 ∧ aggOf Tryz.prog 219 = some true ∧ placesO Tryz.prog 219 = some [(0, 0)] ∧ zeroOf Tryz.prog 219 = some (.agg []) ∧ fldO Tryz.prog 219 0 = some (0, 0, true) := by and_intros <;> kernel_rfl
@[go_sem] theorem t220 : szOf Tryz.prog 220 = some 0 ∧ aggOf Tryz.prog 220 = some true ∧ placesO Tryz.prog 220 = some [(0, 0)] ∧ zeroOf Tryz.prog 220 = some (.agg []) ∧ fldO Tryz.prog 220 0 = some (0, 0, true) := by and_intros <;> kernel_rfl
@[go_sem] theorem t221 : szOf Tryz.prog 221 = some 1 ∧ aggOf Tryz.prog 221 = some false ∧ zeroOf Tryz.prog 221 = some .nilF := by and_intros <;> kernel_rfl
@[go_sem] theorem t222 : szOf Tryz.prog 222 = some 1 ∧ aggOf Tryz.prog 222 = some false ∧ zeroOf Tryz.prog 222 = some (.sc (.int .u8 0)) := by and_intros <;> kernel_rfl
@[go_sem] theorem t223 : szOf Tryz.prog 223 = some 1 ∧ aggOf Tryz.prog 223 = some false ∧ zeroOf Tryz.prog 223 = some (.sc (.int .u8 0)) := by and_intros <;> kernel_rfl
@[go_sem] theorem t224 : szOf Tryz.prog 224 = some 1 ∧ aggOf Tryz.prog 224 = some false ∧ zeroOf Tryz.prog 224 = some .nilF := by and_intros <;> kernel_rfl
@[go_sem] theorem t225 : szOf Tryz.prog 225 = some 1 ∧ aggOf Tryz.prog 225 = some false ∧ zeroOf Tryz.prog 225 = some (.sc (.int .i32 0)) := by and_intros <;> kernel_rfl
@[go_sem] theorem t226 : szOf Tryz.prog 226 = some 1 ∧ aggOf Tryz.prog 226 = some false ∧ zeroOf Tryz.prog 226 = some (.sc (.int .i32 0)) := by and_intros <;> kernel_rfl
@[go_sem] theorem t227 : szOf Tryz.prog 227 = some 11 ∧ aggOf Tryz.prog 227 = some true ∧ placesO Tryz.prog 227 = some [(0, 1), (1, 1), (2, 1), (3, 1), (4, 1), (5, 1), (6, 1), (7, 1), (8, 1), (9, 1), (10, 1)] ∧ fldO Tryz.prog 227 0 = some (0, 1, false) ∧ fldO Tryz.prog 227 1 = some (1, 1, false) ∧ fldO Tryz.prog 227 2 = some (2, 1, false) ∧ fldO Tryz.prog 227 3 = some (3, 1, false) ∧ fldO Tryz.prog 227 4 = some (4, 1, false) ∧ fldO Tryz.prog 227 5 = some (5, 1, false) ∧ fldO Tryz.prog 227 6 = some (6, 1, false) ∧ fldO Tryz.prog 227 7 = some (7, 1, false) := by and_intros <;> kernel_rfl
@[go_sem] theorem t228 : szOf Tryz.prog 228 = some 11 ∧ aggOf Tryz.prog 228 = some true ∧ placesO Tryz.prog 228 = some [(0, 1), (1, 1), (2, 1), (3, 1), (4, 1), (5, 1), (6, 1), (7, 1), (8, 1), (9, 1), (10, 1)] ∧ fldO Tryz.prog 228 0 = some (0, 1, false) ∧ fldO Tryz.prog 228 1 = some (1, 1, false) ∧ fldO Tryz.prog 228 2 = some (2, 1, false) ∧ fldO Tryz.prog 228 3 = some (3, 1, false) ∧ fldO Tryz.prog 228 4 = some (4, 1, false) ∧ fldO Tryz.prog 228 5 = some (5, 1, false) ∧ fldO Tryz.prog 228 6 = some (6, 1, false) ∧ fldO Tryz.prog 228 7 = some (7, 1, false) := by and_intros <;> kernel_rfl
attribute [go_sem] Tryz.underlying0 Tryz.underlying1 Tryz.underlying2 Tryz.underlying3 Tryz.underlying4 Tryz.underlying5 Tryz.underlying6 Tryz.underlying7 Tryz.underlying8 Tryz.underlying9 Tryz.underlying10 Tryz.underlying11 Tryz.underlying12 Tryz.underlying13 Tryz.underlying14 Tryz.underlying15 Tryz.underlying16 Tryz.underlying17 Tryz.underlying18 Tryz.underlying19 Tryz.underlying20 Tryz.underlying21 Tryz.underlying22 Tryz.underlying23 Tryz.underlying24 Tryz.underlying25 Tryz.underlying26 Tryz.underlying27 Tryz.underlying28 Tryz.underlying29 Tryz.underlying30 Tryz.underlying31 Tryz.underlying32 Tryz.underlying33 Tryz.underlying34 Tryz.underlying35 Tryz.underlying36 Tryz.underlying37 Tryz.underlying38 Tryz.underlying39 Tryz.underlying40 Tryz.underlying41 Tryz.underlying42 Tryz.underlying43 Tryz.underlying44 Tryz.underlying45 Tryz.underlying46 Tryz.underlying47 Tryz.underlying48 Tryz.underlying49 Tryz.underlying50 Tryz.underlying51 Tryz.underlying52 Tryz.underlying53 Tryz.underlying54 Tryz.underlying55 Tryz.underlying56 Tryz.underlying57 Tryz.underlying58 Tryz.underlying59 Tryz.underlying60 Tryz.underlying61 Tryz.underlying62 Tryz.underlying63 Tryz.underlying64 Tryz.underlying65 Tryz.underlying66 Tryz.underlying67 Tryz.underlying68 Tryz.underlying69 Tryz.underlying70 Tryz.underlying71 Tryz.underlying72 Tryz.underlying73 Tryz.underlying74 Tryz.underlying75 Tryz.underlying76 Tryz.underlying77 Tryz.underlying78 Tryz.underlying79 Tryz.underlying80 Tryz.underlying81 Tryz.underlying82 Tryz.underlying83 Tryz.underlying84 Tryz.underlying85 Tryz.underlying86 Tryz.underlying87 Tryz.underlying88 Tryz.underlying89 Tryz.underlying90 Tryz.underlying91 Tryz.underlying92 Tryz.underlying93 Tryz.underlying94 Tryz.underlying95 Tryz.underlying96 Tryz.underlying97 Tryz.underlying98 Tryz.underlying99 Tryz.underlying100 Tryz.underlying101 Tryz.underlying102 Tryz.underlying103 Tryz.underlying104 Tryz.underlying105 Tryz.underlying106 Tryz.underlying107 Tryz.underlying108 Tryz.underlying109 Tryz.underlying110 Tryz.underlying111 Tryz.underlying112 Tryz.underlying113 Tryz.underlying114 Tryz.underlying115 Tryz.underlying116 Tryz.underlying117 Tryz.underlying118 Tryz.underlying119 Tryz.underlying120 Tryz.underlying121 Tryz.underlying122 Tryz.underlying123 Tryz.underlying124 Tryz.underlying125 Tryz.underlying126 Tryz.underlying127 Tryz.underlying128 Tryz.underlying129 Tryz.underlying130 Tryz.underlying131 Tryz.underlying132 Tryz.underlying133 Tryz.underlying134 Tryz.underlying135 Tryz.underlying136 Tryz.underlying137 Tryz.underlying138 Tryz.underlying139 Tryz.underlying140 Tryz.underlying141 Tryz.underlying142 Tryz.underlying143 Tryz.underlying144 Tryz.underlying145 Tryz.underlying146 Tryz.underlying147 Tryz.underlying148 Tryz.underlying149 Tryz.underlying150 Tryz.underlying151 Tryz.underlying152 Tryz.underlying153 Tryz.underlying154 Tryz.underlying155 Tryz.underlying156 Tryz.underlying157 Tryz.underlying158 Tryz.underlying159 Tryz.underlying160 Tryz.underlying161 Tryz.underlying162 Tryz.underlying163 Tryz.underlying164 Tryz.underlying165 Tryz.underlying166 Tryz.underlying167 Tryz.underlying168 Tryz.underlying169 Tryz.underlying170 Tryz.underlying171 Tryz.underlying172 Tryz.underlying173 Tryz.underlying174 Tryz.underlying175 Tryz.underlying176 Tryz.underlying177 Tryz.underlying178 Tryz.underlying179 Tryz.underlying180 Tryz.underlying181 Tryz.underlying182 Tryz.underlying183 Tryz.underlying184 Tryz.underlying185 Tryz.underlying186 Tryz.underlying187 Tryz.underlying188 Tryz.underlying189 Tryz.underlying190 Tryz.underlying191 Tryz.underlying192 Tryz.underlying193 Tryz.underlying194 Tryz.underlying195 Tryz.underlying196 Tryz.underlying197 Tryz.underlying198 Tryz.underlying199 Tryz.underlying200 Tryz.underlying201 Tryz.underlying202 Tryz.underlying203 Tryz.underlying204 Tryz.underlying205 Tryz.underlying206 Tryz.underlying207 Tryz.underlying208 Tryz.underlying209 Tryz.underlying210 Tryz.underlying211 Tryz.underlying212 Tryz.underlying213 Tryz.underlying214 Tryz.underlying215 Tryz.underlying216 Tryz.underlying217 Tryz.underlying218 Tryz.underlying219 Tryz.underlying220 Tryz.underlying221 Tryz.underlying222 Tryz.underlying223 Tryz.underlying224 Tryz.underlying225 Tryz.underlying226 Tryz.underlying227 Tryz.underlying228
end Go.Proofs.YtcmjidnbbfcbjaaGreatDoor.V
/- Calls as equations; conditions taken apart; no condition. -/
namespace Go.Proofs.YtcmjidnbbfcbjaaGreatDoor.V
open Go
set_option linter.unusedVariables false
set_option linter.unusedSimpArgs false
noncomputable section
variable {P : Program} {pol : Pol} {en : Env}
theorem CallR.det {fn : Fn} {args : List AV} {m : Mem} {v u : AV} {m' m'' : Mem} (h1 : CallR P pol en fn args m v m') (h2 : CallR P pol en fn args m u m'') : v = u ∧ m' = m'' := by
  obtain ⟨N, hN⟩ := h1
  obtain ⟨M, hM⟩ := h2
  have := (hN (max N M) (by omega)).symm.trans (hM (max N M) (by omega))
  cases this
  exact ⟨rfl, rfl⟩
/-- A contract as an equation. -/
theorem WC.rule {fn : Fn} {args : List AV} {m : Mem} {v0 : AV} {m0 : Mem} (h : WC P pol en fn args m fun v m' => v = v0 ∧ m' = m0) (Q : AV → Mem → Prop) : WC P pol en fn args m Q = Q v0 m0 := by
  obtain ⟨v, m', h1, rfl, rfl⟩ := h
  refine propext ⟨fun ⟨u, m'', h2, hQ⟩ => ?_, fun h => ⟨_, _, h1, h⟩⟩
  obtain ⟨rfl, rfl⟩ := h1.det h2
  exact hQ
theorem Fits.up {n k : Nat} (h : Fits en n) (hk : n ≤ k) : Fits en k := h.mono hk
theorem Fits.upPur {n k : Nat} (h : Fits en n) (hk : n ≤ k) : Fits ⟨n :: en.bases, n⟩ k := h.pur.mono hk
theorem gIf_t {q : Bool} {ts : List AV} {A B : List AV → Prop} (h1 : q = true → A ts) (h2 : q = false → B ts) : gIf (guardV (some (.sc (.bool q))) true) ts A B := by
  cases q
  · exact h2 rfl
  · exact h1 rfl
theorem gIf_f {q : Bool} {ts : List AV} {A B : List AV → Prop} (h1 : q = true → B ts) (h2 : q = false → A ts) : gIf (guardV (some (.sc (.bool q))) false) ts A B := by
  cases q
  · exact h2 rfl
  · exact h1 rfl
theorem ite_t {q : Bool} {a b : Prop} (h1 : q = true → a) (h2 : q = false → b) : if q = true then a else b := by
  cases q
  · exact h2 rfl
  · exact h1 rfl
theorem ite_p {p : Prop} [Decidable p] {a b : Prop} (h1 : p → a) (h2 : ¬p → b) : if p then a else b := by
  split
  · exact h1 ‹_›
  · exact h2 ‹_›
theorem ds_t {ops : Array Oper} (h : drawStatic ops = true) : drawStatic ops = true := h
theorem pc_t {n : Nat} {ops : Array Oper} {tr : List (Nat × Req)} (h : peace pol n ops tr = true) : peace pol n ops tr = true := h
theorem okToP {n id : Nat} {low : Nat → Bool} (h : Fits en n) (hid : n ≤ id) : okTo ⟨n :: en.bases, n⟩ id low = True := eq_true (okTo_pur h hid low)
theorem okToO {n id : Nat} {low : Nat → Bool} (h : Fits en n) (hb : en.bar ≤ n) (hid : n ≤ id) : okTo en id low = True := eq_true (okTo_fits h hb hid low)
/-- A row that this call has made, and grows; nothing of it: nil. -/
def Rw {α : Type} (f : α → AV) (m0 : Mem) (l : List α) (v : AV) (m : Mem) : Prop :=
  (l = [] ∧ v = .nilS ∧ m = m0) ∨ (l ≠ [] ∧ ∃ ver, v = .own m0.length ver 0 l.length 1 ∧ m = m0 ++ [.cells ver (l.map f)])
theorem Rw.row {α : Type} {f : α → AV} {m0 : Mem} {l : List α} {v : AV} {m : Mem} (h : Rw f m0 l v m) : Row f m0 l v m := by
  rcases h with h | ⟨_, h⟩
  · exact Or.inl h
  · exact Or.inr h
theorem Rw.nil {α : Type} {f : α → AV} {m0 : Mem} : Rw f m0 [] .nilS m0 := Or.inl ⟨rfl, rfl, rfl⟩
theorem Rw.own {α : Type} {f : α → AV} {m0 : Mem} {l : List α} {ver n : Nat} {cs : List AV} (hl : l ≠ []) (hn : n = l.length) (hc : cs = l.map f) : Rw f m0 l (.own m0.length ver 0 n 1) (m0 ++ [.cells ver cs]) := Or.inr ⟨hl, ver, by rw [hn], by rw [hc]⟩
theorem Rw.app {α : Type} {f : α → AV} {m0 : Mem} {l : List α} {v : AV} {m : Mem} (h : Rw f m0 l v m) (a : α) (hfit : Fits en m0.length) (hb : en.bar ≤ m0.length) (hn : l.length < 2 ^ 32) {tg : Nat} {k : Req → AV → Mem → Prop}
    (hk : ∀ r v' m', Rw f m0 (l ++ [a]) v' m' → k r (kv v') m') : WOf P pol en (appR tg 1 (some (kv v)) (some (.lst 1 [f a]))) m k :=
  h.row.app a hfit hb hn fun r v' m' hr => hk r v' m' (by
    rcases hr with ⟨e, _⟩ | hr
    · simp at e
    · exact Or.inr ⟨by simp, hr⟩)
theorem Rw.len {α : Type} {f : α → AV} {m0 : Mem} {l : List α} {v : AV} {m : Mem} (h : Rw f m0 l v m) (e : TypeId) (g : Option Req) : lenR (some (kv v)) (some (.slice e)) g = some (.val (I l.length)) := h.row.len e g
theorem Rw.frz {α : Type} {f : α → AV} {m0 : Mem} {l : List α} {v : AV} {m : Mem} (h : Rw f m0 l v m) (hf : ∀ a, Clean (f a)) (hi : ∀ a t u, f a ≠ .ifc t u) {b : Nat} (hb : b ≤ m0.length) (d : Nat) (k : AV → Prop) : frzQ m b (d + 2) (kv v) k = k (sl f ⟨true, false, l⟩) := by
  unfold kv
  rcases h with ⟨rfl, rfl, rfl⟩ | ⟨hl, ver, rfl, rfl⟩
  · rw [frzQ_nilS]; rfl
  · rw [frzQ_own hf hi l (by rw [getM0]; rfl) hb]
    simp [sl, hl]
theorem Rw.old {α : Type} {f : α → AV} {m0 : Mem} {l : List α} {v : AV} {m : Mem} (h : Rw f m0 l v m) {i : Nat} (hi : i < m0.length) : m[i]? = m0[i]? := by
  rcases h with ⟨_, _, rfl⟩ | ⟨_, ver, _, rfl⟩
  · rfl
  · exact List.getElem?_append_left hi
theorem Rw.le {α : Type} {f : α → AV} {m0 : Mem} {l : List α} {v : AV} {m : Mem} (h : Rw f m0 l v m) : m0.length ≤ m.length := by
  rcases h with ⟨_, _, rfl⟩ | ⟨_, ver, _, rfl⟩
  · exact Nat.le_refl _
  · simp
def RwF {α : Type} (f : α → List AV) (w : Nat) (m0 : Mem) (l : List α) (v : AV) (m : Mem) : Prop :=
  (l = [] ∧ v = .nilS ∧ m = m0) ∨ (l ≠ [] ∧ ∃ ver, v = .own m0.length ver 0 l.length w ∧ m = m0 ++ [.cells ver (l.flatMap f)])
theorem RwF.nil {α : Type} {f : α → List AV} {w : Nat} {m0 : Mem} : RwF f w m0 [] .nilS m0 := Or.inl ⟨rfl, rfl, rfl⟩
theorem RwF.len {α : Type} {f : α → List AV} {w : Nat} {m0 : Mem} {l : List α} {v : AV} {m : Mem} (h : RwF f w m0 l v m) (e : TypeId) (g : Option Req) : lenR (some (kv v)) (some (.slice e)) g = some (.val (I l.length)) := by
  rcases h with ⟨rfl, rfl, rfl⟩ | ⟨_, ver, rfl, rfl⟩ <;> rfl
theorem RwF.apps {α : Type} {f : α → List AV} {w : Nat} [hw : Wide f w] {m0 : Mem} {l : List α} {v : AV} {m : Mem} (h : RwF f w m0 l v m) (ys : List α) {cs : List AV} (hcs : cs = ys.flatMap f) {n : Nat} (hys : ys.length = n) (hfit : Fits en m0.length) (hb : en.bar ≤ m0.length) (hn : l.length + n ≤ 2 ^ 32) (hw64 : w ≤ 64) {tg : Nat} {k : Req → AV → Mem → Prop}
    (hk : ∀ r v' m', RwF f w m0 (l ++ ys) v' m' → k r (kv v') m') : WOf P pol en (appR tg w (some (kv v)) (some (.lst n cs))) m k := by
  subst hcs
  unfold kv at *
  have hp := hw.pos
  cases n with
  | zero =>
    have : ys = [] := List.eq_nil_of_length_eq_zero hys
    subst this
    have e0 : appR tg w (some v) (some (.lst 0 (([] : List α).flatMap f))) = some (.val v) := by
      rcases h with ⟨_, rfl, _⟩ | ⟨_, ver, rfl, _⟩ <;> simp [appR, Src.n]
    rw [e0, WOf_val]
    exact hk _ _ _ (by rwa [List.append_nil])
  | succ n =>
    have hne : l ++ ys ≠ [] := by intro e; have := congrArg List.length e; rw [List.length_append, List.length_nil] at this; omega
    have hroom : roomOk (l.length + (n + 1)) w = true := by simp only [roomOk, Bool.and_eq_true, decide_eq_true_eq]; omega
    have hyl : (ys.flatMap f).length = (n + 1) * w := by rw [flat_len (w := w), hys]
    rcases h with ⟨rfl, rfl, rfl⟩ | ⟨hl, ver, rfl, rfl⟩
    · rw [appR_nil, WOf_appnew]
      refine ⟨⟨hyl, by simp, hroom, by omega⟩, hk _ _ _ (Or.inr ⟨hne, tg, ?_, ?_⟩)⟩
      · simp [hys]
      · simp
    · rw [appR_own, WOf_app, getM0, List.getElem?_cons_zero, cellsQ_some]
      refine ⟨rfl, ⟨hyl, by rw [flat_len (w := w)]; omega, hroom, by omega⟩, okTo_fits hfit hb (Nat.le_refl _) _, ?_⟩
      rw [setM0, List.set_cons_zero]
      refine hk _ _ _ (Or.inr ⟨hne, nextV tg ver, ?_, ?_⟩)
      · simp [hys]
      · rw [List.drop_zero, List.take_of_length_le (by rw [flat_len (w := w)]; omega), List.flatMap_append]
theorem RwF.app {α : Type} {f : α → List AV} {w : Nat} [hw : Wide f w] {m0 : Mem} {l : List α} {v : AV} {m : Mem} (h : RwF f w m0 l v m) (a : α) {cs : List AV} (hcs : cs = f a) (hfit : Fits en m0.length) (hb : en.bar ≤ m0.length) (hn : l.length < 2 ^ 32) (hw64 : w ≤ 64) {tg : Nat} {k : Req → AV → Mem → Prop}
    (hk : ∀ r v' m', RwF f w m0 (l ++ [a]) v' m' → k r (kv v') m') : WOf P pol en (appR tg w (some (kv v)) (some (.lst 1 cs))) m k :=
  h.apps (n := 1) [a] (by simp [hcs]) rfl hfit hb (by omega) hw64 hk
theorem RwF.old {α : Type} {f : α → List AV} {w : Nat} {m0 : Mem} {l : List α} {v : AV} {m : Mem} (h : RwF f w m0 l v m) {i : Nat} (hi : i < m0.length) : m[i]? = m0[i]? := by
  rcases h with ⟨_, _, rfl⟩ | ⟨_, ver, _, rfl⟩
  · rfl
  · exact List.getElem?_append_left hi
theorem RwF.le {α : Type} {f : α → List AV} {w : Nat} {m0 : Mem} {l : List α} {v : AV} {m : Mem} (h : RwF f w m0 l v m) : m0.length ≤ m.length := by
  rcases h with ⟨_, _, rfl⟩ | ⟨_, ver, _, rfl⟩
  · exact Nat.le_refl _
  · simp
theorem RwF.frz {α : Type} {f : α → List AV} {w : Nat} [hw : Wide f w] {m0 : Mem} {l : List α} {v : AV} {m : Mem} (h : RwF f w m0 l v m) {b : Nat} (hb : b ≤ m0.length) (d : Nat) (k : AV → Prop) : frzQ m b (d + 2) (kv v) k = k (slf f ⟨true, false, l⟩) := by
  unfold kv
  rcases h with ⟨rfl, rfl, rfl⟩ | ⟨hl, ver, rfl, rfl⟩
  · rw [frzQ_nilS]; rfl
  · have h1 : (l.flatMap f).mapM (V.frz (m0 ++ [.cells ver (l.flatMap f)]) b (d + 1)) = some (l.flatMap f) := by
      generalize hM : m0 ++ [Ob.cells ver (l.flatMap f)] = M
      have : ∀ cs : List AV, (∀ c ∈ cs, Clean c ∧ ∀ t u, c ≠ .ifc t u) → cs.mapM (V.frz M b (d + 1)) = some cs := fun cs => by
        induction cs with
        | nil => intro _; rfl
        | cons c cs ih =>
          intro hc
          obtain ⟨h1, h2⟩ := hc c (by simp)
          simp only [List.mapM_cons, ih (fun c h => hc c (by simp [h])), clean_frz h1 M b d h2]; rfl
      refine this _ fun c hc => ?_
      rw [List.mem_flatMap] at hc
      obtain ⟨a, _, hc⟩ := hc
      exact hw.clean a c hc
    have e6 : V.frz (m0 ++ [.cells ver (l.flatMap f)]) b (d + 2) (.own m0.length ver 0 l.length w) = some (slf f ⟨true, false, l⟩) := by
      rw [V.frz]
      rw [if_neg (by omega), lget_eq, getM0, List.getElem?_cons_zero]
      simp only
      rw [if_pos ⟨trivial, by rw [flat_len (w := w)]; omega⟩, List.drop_zero, List.take_of_length_le (by rw [flat_len (w := w)]; omega), h1]
      simp only
      rw [if_pos (flat_leaf (w := w) l)]
      simp [slf, hl]
    unfold frzQ
    rw [e6]; simp
theorem roomD {n w : Nat} (h : n ≤ 4294967296) (hw : 0 < w ∧ w ≤ 64) : (roomOk n w = true) = True := by
  simp only [roomOk, Bool.and_eq_true, decide_eq_true_eq, eq_iff_iff, iff_true]; omega
theorem takeD {α : Type} {l : List α} {n : Nat} (h : l.length ≤ n) : l.take n = l := List.take_of_length_le h
theorem clean_tx (l : List UInt8) : Clean (tx l) := clean_sc _
theorem tx_ifc (l : List UInt8) (t : TypeId) (u : AV) : tx l ≠ .ifc t u := by simp [tx]
/-! Structs, part by part. -/
def fillS (pl : Option (Nat × Nat)) (v : AV) (cells : List AV) (k : List AV → Option (List AV)) : Option (List AV) :=
  match pl with
  | none => none
  | some (off, size) => if v.cells.length ≠ size || off + v.cells.length > cells.length || !v.cells.all AV.leaf then none else k (splice cells off v.cells)
@[go_sem] theorem fillA_cons (place : Nat → Option (Nat × Nat)) (cells : List AV) (i : Nat) (v : AV) (rest : List (Nat × AV)) : fillA place cells ((i, v) :: rest) = fillS (place i) v cells (lock (fun c => fillA place c rest) ()) := by
  simp only [fillA, fillS, lock]
  cases place i with
  | none => rfl
  | some p => rfl
def fillE (pl : Option (Nat × Nat)) (v : AV) (cells : List AV) (k : List AV → Option (List AV)) : Option (List AV) := fillS pl v cells k
@[go_sem] theorem fillS_leaf (off : Nat) (v : AV) (cells : List AV) (k : List AV → Option (List AV)) : fillS (some (off, 1)) v cells k = if v.leaf = true ∧ off < cells.length then k (cells.set off v) else fillE (some (off, 1)) v cells k := by
  split
  · rename_i h
    simp only [fillS, cells_leaf h.1, List.length_singleton, List.all_cons, List.all_nil, h.1, splice]
    rw [if_neg (by simp; omega)]
  · rfl
@[go_sem] theorem fillS_agg (off n : Nat) (cs cells : List AV) (k : List AV → Option (List AV)) : fillS (some (off, n + 2)) (.agg cs) cells k = if cs.length = n + 2 ∧ off + cs.length ≤ cells.length ∧ cs.all AV.leaf = true then k (splice cells off cs) else none := by
  show (if (decide (cs.length ≠ n + 2) || decide (off + cs.length > cells.length) || !cs.all AV.leaf) = true then none else k (splice cells off cs)) = _
  by_cases h : cs.length = n + 2 ∧ off + cs.length ≤ cells.length ∧ cs.all AV.leaf = true
  · rw [if_pos h, if_neg (by simp [h.1, h.2.2]; omega)]
  · rw [if_neg h, if_pos]
    simp only [Bool.or_eq_true, decide_eq_true_eq, Bool.not_eq_true']
    by_cases h1 : cs.length = n + 2
    · by_cases h2 : off + cs.length ≤ cells.length
      · right; cases h3 : cs.all AV.leaf
        · rfl
        · exact (h ⟨h1, h2, h3⟩).elim
      · left; right; omega
    · left; left; exact h1
/-! Peace does not hang on where the objects lie. -/
def Foot.shift (B : Nat) (f : Foot) : Foot := ⟨f.rd.map (B + ·), f.wr.map (B + ·), f.al, f.ra, f.all⟩
def peaceF (b : List Nat) (ml : Nat) (l : List (Nat × Foot)) : Bool :=
  let loud := l.filter fun x => x.2.loud
  loud.all fun (j, fj) => loud.all fun (i, fi) => !(i < j) || ordered b i j || !confl ml fi fj
theorem peaceF_eq (n : Nat) (ops : Array Oper) (tr : List (Nat × Req)) : peace pol n ops tr = peaceF (bef ops.toList) n (tr.map fun x => (x.1, x.2.foot pol)) := by
  simp only [peace, peaceF, List.filter_map, List.all_map]
  rfl
theorem loud_shift (B : Nat) (f : Foot) : (f.shift B).loud = f.loud := by simp [Foot.shift, Foot.loud]
theorem any_shift (B ml : Nat) (l : List Nat) : ((l.map (B + ·)).any fun i => decide (B + ml ≤ i)) = l.any fun i => decide (ml ≤ i) := by
  rw [List.any_map]
  congr 1
  funext i
  simp
theorem contains_shift (B i : Nat) (l : List Nat) : (l.map (B + ·)).contains (B + i) = l.contains i := by
  rw [Bool.eq_iff_iff]
  simp
theorem confl_shift (B ml : Nat) (f g : Foot) : confl (B + ml) (f.shift B) (g.shift B) = confl ml f g := by
  have hw : ∀ f : Foot, (f.shift B).writes = f.writes := fun f => by simp [Foot.shift, Foot.writes]
  have e1 : (f.shift B).rd = f.rd.map (B + ·) := rfl
  have e2 : (g.shift B).rd = g.rd.map (B + ·) := rfl
  have e3 : (f.shift B).wr = f.wr.map (B + ·) := rfl
  have e4 : (g.shift B).wr = g.wr.map (B + ·) := rfl
  have e5 : ∀ f : Foot, (f.shift B).al = f.al := fun _ => rfl
  have e6 : ∀ f : Foot, (f.shift B).ra = f.ra := fun _ => rfl
  have e7 : ∀ f : Foot, (f.shift B).all = f.all := fun _ => rfl
  unfold confl
  simp only [loud_shift, hw, e1, e2, e3, e4, e5, e6, e7, List.any_map, Function.comp_def, contains_shift, Nat.add_le_add_iff_left]
theorem peaceF_shift (b : List Nat) (B ml : Nat) (l : List (Nat × Foot)) : peaceF b (B + ml) (l.map fun x => (x.1, x.2.shift B)) = peaceF b ml l := by
  simp only [peaceF, List.filter_map, List.all_map, Function.comp_def, loud_shift, confl_shift]
theorem peace_all {n : Nat} {ops : Array Oper} {tr : Nat → List (Nat × Req)} (h0 : peace pol n ops (tr 0) = true) (hs : ∀ B, (tr B).map (fun x => (x.1, x.2.foot pol)) = (tr 0).map (fun x => (x.1, (x.2.foot pol).shift B))) (B : Nat) : peace pol (B + n) ops (tr B) = true := by
  rw [peaceF_eq] at h0 ⊢
  rw [hs B, ← h0, ← peaceF_shift _ B n, List.map_map]
  rfl
theorem peace_all0 {ops : Array Oper} {tr : Nat → List (Nat × Req)} (h0 : peace pol 0 ops (tr 0) = true) (hs : ∀ B, (tr B).map (fun x => (x.1, x.2.foot pol)) = (tr 0).map (fun x => (x.1, (x.2.foot pol).shift B))) (B : Nat) : peace pol B ops (tr B) = true := peace_all (n := 0) h0 hs B
/-! Bools held against each other. -/
section
variable {ρ : Operand → Option AV} {d : Option Tmp} {ty : TypeId} {p : String} {af : Array Edge} {gd : Option (Nat × Bool)}
def binB (op : BinOp) (dt : Option TypeDesc) (x y : Option AV) (g : Option Req) : Option Req :=
  match x, y with
  | some (.sc (.bool a)), some (.sc (.bool b)) =>
    match eqOp op, dt with
    | some e, some .bool => some (.val (.sc (.bool ((a == b) == e))))
    | _, _ => g
  | _, _ => g
@[go_sem] theorem binB_eql (a b : Bool) (g : Option Req) : binB .eql (some .bool) (some (.sc (.bool a))) (some (.sc (.bool b))) g = some (.val (.sc (.bool (a == b)))) := by cases a <;> cases b <;> rfl
@[go_sem] theorem binB_neq (a b : Bool) (g : Option Req) : binB .neq (some .bool) (some (.sc (.bool a))) (some (.sc (.bool b))) g = some (.val (.sc (.bool (!(a == b))))) := by cases a <;> cases b <;> rfl
@[go_sem] theorem binB_int (k : IntKind) (a : Int) (op : BinOp) (dt : Option TypeDesc) (y : Option AV) (g : Option Req) : binB op dt (some (.sc (.int k a))) y g = g := rfl
@[go_sem] theorem binB_tx (l : List UInt8) (op : BinOp) (dt : Option TypeDesc) (y : Option AV) (g : Option Req) : binB op dt (some (tx l)) y g = g := rfl
@[go_sem] theorem binB_nilP  (op : BinOp) (dt : Option TypeDesc) (y : Option AV) (g : Option Req) : binB op dt (some .nilP) y g = g := rfl
@[go_sem] theorem binB_nilS  (op : BinOp) (dt : Option TypeDesc) (y : Option AV) (g : Option Req) : binB op dt (some .nilS) y g = g := rfl
@[go_sem] theorem binB_nilI  (op : BinOp) (dt : Option TypeDesc) (y : Option AV) (g : Option Req) : binB op dt (some .nilI) y g = g := rfl
@[go_sem] theorem binB_nilM  (op : BinOp) (dt : Option TypeDesc) (y : Option AV) (g : Option Req) : binB op dt (some .nilM) y g = g := rfl
@[go_sem] theorem binB_nilF  (op : BinOp) (dt : Option TypeDesc) (y : Option AV) (g : Option Req) : binB op dt (some .nilF) y g = g := rfl
@[go_sem] theorem binB_ptr (a b c : Nat) (op : BinOp) (dt : Option TypeDesc) (y : Option AV) (g : Option Req) : binB op dt (some (.ptr a b c)) y g = g := rfl
@[go_sem] theorem binB_cptr (cs : List AV) (op : BinOp) (dt : Option TypeDesc) (y : Option AV) (g : Option Req) : binB op dt (some (.cptr cs)) y g = g := rfl
@[go_sem] theorem binB_lst (n : Nat) (cs : List AV) (c : Bool) (op : BinOp) (dt : Option TypeDesc) (y : Option AV) (g : Option Req) : binB op dt (some (.lst n cs c)) y g = g := rfl
@[go_sem] theorem binB_own (a b c e f : Nat) (op : BinOp) (dt : Option TypeDesc) (y : Option AV) (g : Option Req) : binB op dt (some (.own a b c e f)) y g = g := rfl
@[go_sem] theorem binB_mp (a : Nat) (op : BinOp) (dt : Option TypeDesc) (y : Option AV) (g : Option Req) : binB op dt (some (.mp a)) y g = g := rfl
@[go_sem] theorem binB_ifc (t : TypeId) (v : AV) (op : BinOp) (dt : Option TypeDesc) (y : Option AV) (g : Option Req) : binB op dt (some (.ifc t v)) y g = g := rfl
@[go_sem] theorem binB_agg (cs : List AV) (op : BinOp) (dt : Option TypeDesc) (y : Option AV) (g : Option Req) : binB op dt (some (.agg cs)) y g = g := rfl
@[go_sem] theorem binB_clo (f : Fn) (a b : List AV) (op : BinOp) (dt : Option TypeDesc) (y : Option AV) (g : Option Req) : binB op dt (some (.clo f a b)) y g = g := rfl
@[go_sem] theorem binB_sl {α : Type} (f : α → AV) (x : Sl α) (op : BinOp) (dt : Option TypeDesc) (y : Option AV) (g : Option Req) : binB op dt (some (sl f x)) y g = g := by unfold sl; split <;> rfl
@[go_sem] theorem binB_slf {α : Type} (f : α → List AV) (x : Sl α) (op : BinOp) (dt : Option TypeDesc) (y : Option AV) (g : Option Req) : binB op dt (some (slf f x)) y g = g := by unfold slf; split <;> rfl
theorem pv_equalB (n : Nat) {t : TypeId} (ht : P.underlying t = some .bool) (a b : Bool) : pv P (Op.equalIn (n + 1) t (.bool a) (.bool b)) = some (a == b) := by
  simp only [Op.equalIn, pv_bind, pv_under ht, Option.bind_some]
  rfl
theorem gen_bool {op : BinOp} {t yt : TypeId} {x y : Operand} {a b e : Bool} (hx : ρ x = some (.sc (.bool a))) (hy : ρ y = some (.sc (.bool b))) (ht : P.underlying t = some .bool) (ho : eqOp op = some e) :
    generic P ρ ⟨d, .binOp op t x y yt, ty, p, af, gd⟩ = some (.val (.sc (.bool ((a == b) == e)))) := by
  rw [generic_pv (us := [.bool a, .bool b]) (u := .bool ((a == b) == e)) rfl (by simp [Op.operands, hx, hy, AV.toV])]
  · rfl
  · simp only [execOp, hx, hy, Option.bind_some, AV.toV, Option.getD_some, pv_bind]
    have hg : pv P (eqGuard op t x y (.bool a) (.bool b)) = some () := by
      unfold eqGuard
      rcases eqOp_some ho with ⟨rfl, _⟩ | ⟨rfl, _⟩ <;> simp [pv_bind] <;> rfl
    rw [hg, Option.bind_some]
    have h5 : pv P (Op.equal t (.bool a) (.bool b)) = some (a == b) := by
      simp only [Op.equal, Op.maxDepth]
      exact pv_equalB 9999 ht a b
    rcases eqOp_some ho with ⟨rfl, rfl⟩ | ⟨rfl, rfl⟩ <;> simp only [Go.binOp] <;> rw [pv_bind, h5] <;> cases (a == b) <;> rfl
@[go_sem 16000] theorem plan_binB (op : BinOp) (t yt : TypeId) (x y : Operand) : plan P ρ ⟨d, .binOp op t x y yt, ty, p, af, gd⟩ = binB op (P.underlying t) (ρ x) (ρ y) (binA op (flatS P t) (ρ x) (ρ y) (binT op (ρ x) (ρ y) (binN op (P.underlying t) (ρ x) (ρ y) (binR P op (P.underlying t) (ρ x) (ρ y) (generic P ρ ⟨d, .binOp op t x y yt, ty, p, af, gd⟩))))) := by
  unfold binB
  split
  · rename_i a b hx hy
    split
    · rename_i e ho ht
      rw [← gen_bool (P := P) (ρ := ρ) (d := d) (ty := ty) (p := p) (af := af) (gd := gd) (yt := yt) hx hy ht ho]
      simp only [plan, hx, hy]
      cases op <;> simp_all [notNil, eqOp]
    · exact plan_binA op t yt x y
  · exact plan_binA op t yt x y
end
theorem ds_and {ops : Array Oper} {q : Prop} (h : drawStatic ops = true) (hq : q) : drawStatic ops = true ∧ q := ⟨h, hq⟩
theorem pc_and {n : Nat} {ops : Array Oper} {tr : List (Nat × Req)} {q : Prop} (h : peace pol n ops tr = true) (hq : q) : peace pol n ops tr = true ∧ q := ⟨h, hq⟩
end
end Go.Proofs.YtcmjidnbbfcbjaaGreatDoor.V
/- Functions whose contracts are proved, as known ones of a further layer; no condition. -/
namespace Go.Proofs.YtcmjidnbbfcbjaaGreatDoor.V
open Go
set_option linter.unusedVariables false
set_option linter.unusedSimpArgs false
noncomputable section
open Classical in
/-- What a call comes to, whatever the store. -/
def kn (P : Program) (pol : Pol) (f : FuncId) (args : List AV) : Option AV :=
  if h : ∃ v, ∀ m, WC P pol ⟨[], 0⟩ (.func f) args m fun v' m' => v' = v ∧ m' = m then some h.choose else none
def dirOf (g : List AV → Option AV) : DirF := fun _ args m => (g args).map (·, m)
theorem dirOf_some {g : List AV → Option AV} {en : Env} {args : List AV} {m m' : Mem} {v : AV} (h : dirOf g en args m = some (v, m')) : g args = some v ∧ m' = m := by
  unfold dirOf at h
  cases hg : g args with
  | none => rw [hg] at h; cases h
  | some u => rw [hg] at h; cases h; exact ⟨rfl, rfl⟩
def inF (f : Nat) : List Nat → Bool
  | [] => false
  | a :: l => Nat.beq f a || inF f l
def layer (P : Program) (pol : Pol) (fs : List FuncId) : Pol where
  glob := pol.glob
  mode := pol.mode
  dir f := if inF f fs = true then some (dirOf (kn P pol f)) else pol.dir f
  alo f := pol.alo f && !inF f fs
  qui f := inF f fs || pol.qui f
variable {P : Program} {pol : Pol} {en : Env}
theorem kn_spec {f : FuncId} {args : List AV} {v : AV} (h : kn P pol f args = some v) : ∀ m, WC P pol ⟨[], 0⟩ (.func f) args m fun v' m' => v' = v ∧ m' = m := by
  unfold kn at h
  split at h
  · rename_i h1
    cases h; exact h1.choose_spec
  · cases h
theorem kn_of {f : FuncId} {args : List AV} {v : AV} (h : ∀ m, WC P pol ⟨[], 0⟩ (.func f) args m fun v' m' => v' = v ∧ m' = m) : kn P pol f args = some v := by
  have hx : ∃ v, ∀ m, WC P pol ⟨[], 0⟩ (.func f) args m fun v' m' => v' = v ∧ m' = m := ⟨v, h⟩
  have e : kn P pol f args = some hx.choose := by unfold kn; rw [dif_pos hx]
  obtain ⟨u, m', h1, h2, _⟩ := h []
  obtain ⟨u2, m2, h3, h4, _⟩ := hx.choose_spec []
  rw [e, ← h4, ← h2]
  exact congrArg some (h3.det h1).1
theorem MI.glob_eq {pol pol' : Pol} (h : pol'.glob = pol.glob) {E : En} (hM : MI pol E) : MI pol' E := ⟨hM.len, hM.inj, hM.ob, fun g cs hg => hM.glob g cs (by rw [← h]; exact hg)⟩
theorem known_ok {pol' : Pol} (hG : GoodP P pol) {f : FuncId} (hd : pol.dir f = none) (hg : pol'.glob = pol.glob) (ha : pol'.alo f = false) : DirOk P pol' f (dirOf (kn P pol f)) := by
  refine ⟨fun en args m v m' h E hm hM us hus => .inl ?_, fun _ en args m v m' h => (dirOf_some h).2, fun h => by rw [ha] at h; cases h⟩
  obtain ⟨h1, rfl⟩ := dirOf_some h
  obtain ⟨u, m2, ⟨N, hN⟩, rfl, rfl⟩ := kn_spec h1 m'
  rcases (vm_ok hG N).1 _ _ _ _ _ _ (hN N (Nat.le_refl _)) E hm (hM.glob_eq hg.symm) us hus (.func f) rfl with ⟨nx, fr, g1, g2, g3⟩ | ⟨⟨f', d, e, hd'⟩, _⟩
  · refine ⟨nx, fr, g1, g2, fun c cs => ?_⟩
    obtain ⟨E', u', k1, k2, k3, k4, k5⟩ := g3 c cs
    exact ⟨E', u', k1, k2, k3.glob_eq hg, k4, k5⟩
  · cases e; rw [hd] at hd'; cases hd'
theorem layer_good (hG : GoodP P pol) {fs : List FuncId} (hd : ∀ f, inF f fs = true → pol.dir f = none) : GoodP P (layer P pol fs) where
  ng := hG.ng
  mixed := hG.mixed
  glob := hG.glob
  dir f d h := by
    simp only [layer] at h
    split at h
    · rename_i hf
      cases h
      exact known_ok hG (hd f hf) rfl (by simp [layer, hf])
    · obtain ⟨k1, k2, k3⟩ := hG.dir f d h
      refine ⟨fun en args m v m' h E hm hM us hus => ?_, k2, fun ha => k3 (by simp only [layer, Bool.and_eq_true] at ha; exact ha.1)⟩
      rcases k1 en args m v m' h E hm (MI.glob_eq (pol := layer P pol fs) (pol' := pol) rfl hM) us hus with ⟨nx, fr, g1, g2, g3⟩ | ⟨E', u, g1, g2, g3, g4, g5⟩
      · refine .inl ⟨nx, fr, g1, g2, fun c cs => ?_⟩
        obtain ⟨E', u', q1, q2, q3, q4, q5⟩ := g3 c cs
        exact ⟨E', u', q1, q2, MI.glob_eq (pol := pol) (pol' := layer P pol fs) rfl q3, q4, q5⟩
      · exact .inr ⟨E', u, g1, g2, MI.glob_eq (pol := pol) (pol' := layer P pol fs) rfl g3, g4, g5⟩
  dirKeep f d h := by
    simp only [layer] at h
    split at h
    · cases h
      intro en args m v m' h
      obtain ⟨_, rfl⟩ := dirOf_some h
      exact Keep.refl _ _
    · exact hG.dirKeep f d h
  alo f h := by
    simp only [layer, Bool.and_eq_true, Bool.not_eq_true'] at h ⊢
    rw [h.2]; exact hG.alo f h.1
  qui f h := by
    simp only [layer]
    by_cases hf : inF f fs = true
    · refine ⟨_, by rw [if_pos hf], fun en args m v m' h => ?_⟩
      obtain ⟨h1, rfl⟩ := dirOf_some h
      exact ⟨rfl, fun en2 m2 => by simp [dirOf, h1]⟩
    · rw [if_neg hf]
      have hf : inF f fs = false := by simpa using hf
      simp only [layer, hf, Bool.false_or] at h
      exact hG.qui f h
/-- A contract of the layer below, as an equation. -/
theorem lift {fs : List FuncId} {f : FuncId} {args : List AV} {v : AV} (h : ∀ m, WC P pol ⟨[], 0⟩ (.func f) args m fun v' m' => v' = v ∧ m' = m) (hf : inF f fs = true := by rfl) (m : Mem) (Q : AV → Mem → Prop) : WC P (layer P pol fs) en (.func f) args m Q = Q v m := by
  refine WC.rule (v0 := v) (m0 := m) ?_ Q
  exact wcallD (d := dirOf (kn P pol f)) (by simp only [layer, hf, if_true]) (by simp [dirOf, kn_of h]) ⟨rfl, rfl⟩
theorem fits0 (n : Nat) : Fits ⟨[], 0⟩ n := fun B hB => by cases hB
end
end Go.Proofs.YtcmjidnbbfcbjaaGreatDoor.V
/- A row that grows wherever it lies; no condition. -/
namespace Go.Proofs.YtcmjidnbbfcbjaaGreatDoor.V
open Go
set_option linter.unusedVariables false
set_option linter.unusedSimpArgs false
noncomputable section
variable {P : Program} {pol : Pol} {en : Env}
@[go_sem] theorem appR_clip (tg s k n : Nat) (cs ys : List AV) : appR tg s (some (.lst k cs true)) (some (.lst (n + 1) ys)) = some (.appnew tg s k cs (.lst (n + 1) ys)) := by
  simp [appR, Src.n]
/-! Loops over texts. -/
section
variable {ρ : Operand → Option AV} {d : Option Tmp} {ty : TypeId} {p : String} {af : Array Edge} {gd : Option (Nat × Bool)}
def rngR (dt : Option TypeDesc) (x : Option AV) (g : Option Req) : Option Req :=
  match dt, x with
  | some .string, some (.sc (.string s)) => some (.iter s)
  | _, _ => g
@[go_sem] theorem rngR_tx (l : List UInt8) (g : Option Req) : rngR (some .string) (some (tx l)) g = some (.iter ⟨⟨l⟩⟩) := rfl
@[go_sem] theorem plan_range (t : TypeId) (x : Operand) : plan P ρ ⟨d, .range t x, ty, p, af, gd⟩ = rngR (P.underlying t) (ρ x) (same P ρ ⟨d, .range t x, ty, p, af, gd⟩) := by
  unfold rngR
  split
  · rename_i h1 h2; simp only [plan, h1, h2]
  · rfl
def nxtR (x : Option AV) (g : Option Req) : Option Req :=
  match x with
  | some (.it id) => some (.nextS id)
  | _ => g
@[go_sem] theorem nxtR_it (id : Nat) (g : Option Req) : nxtR (some (.it id)) g = some (.nextS id) := rfl
@[go_sem] theorem plan_next (x : Operand) : plan P ρ ⟨d, .next x true, ty, p, af, gd⟩ = nxtR (ρ x) (same P ρ ⟨d, .next x true, ty, p, af, gd⟩) := by
  unfold nxtR
  split
  · rename_i h1; simp only [plan, h1]
  · rfl
def encL (n : Int) : List UInt8 := (Utf8.encode n).data.toList
def convI (sd dt : Option TypeDesc) (x : Option AV) (g : Option Req) : Option Req :=
  match sd, dt, x with
  | some (.int _), some .string, some (.sc (.int _ n)) => some (.val (tx (encL n)))
  | _, _, _ => g
@[go_sem] theorem convI_yes (k k' : IntKind) (n : Int) (g : Option Req) : convI (some (.int k)) (some .string) (some (.sc (.int k' n))) g = some (.val (tx (encL n))) := rfl
@[go_sem] theorem convI_int (sd : Option TypeDesc) (k : IntKind) (x : Option AV) (g : Option Req) : convI sd (some (.int k)) x g = g := by unfold convI; split <;> simp_all
@[go_sem] theorem convI_toS (sd : Option TypeDesc) (e : TypeId) (x : Option AV) (g : Option Req) : convI sd (some (.slice e)) x g = g := by unfold convI; split <;> simp_all
@[go_sem] theorem convI_ofS (dt : Option TypeDesc) (e : TypeId) (x : Option AV) (g : Option Req) : convI (some (.slice e)) dt x g = g := by unfold convI; split <;> simp_all
@[go_sem] theorem convI_ofP (dt : Option TypeDesc) (e : TypeId) (x : Option AV) (g : Option Req) : convI (some (.pointer e)) dt x g = g := by unfold convI; split <;> simp_all
@[go_sem] theorem convI_ofU (dt : Option TypeDesc) (x : Option AV) (g : Option Req) : convI (some .unsafePointer) dt x g = g := by unfold convI; split <;> simp_all
@[go_sem] theorem convI_ofT (dt : Option TypeDesc) (x : Option AV) (g : Option Req) : convI (some .string) dt x g = g := by unfold convI; split <;> simp_all
theorem gen_conv {s t : TypeId} {x : Operand} {k k' : IntKind} {n : Int} (hs : P.underlying s = some (.int k)) (ht : P.underlying t = some .string) (hx : ρ x = some (.sc (.int k' n))) :
    generic P ρ ⟨d, .convert s t x, ty, p, af, gd⟩ = some (.val (tx (encL n))) := by
  rw [generic_pv (us := [.int k' n]) (u := .string (Utf8.encode n)) rfl (by simp [Op.operands, hx, AV.toV])]
  · rfl
  · simp only [execOp, hx, Option.bind_some, AV.toV, Option.getD_some, pv_bind]
    simp only [Go.convert, pv_bind, pv_under hs, pv_under ht, Option.bind_some]
    rfl
@[go_sem 2000] theorem plan_convI (s t : TypeId) (x : Operand) : plan P ρ ⟨d, .convert s t x, ty, p, af, gd⟩ = convI (P.underlying s) (P.underlying t) (ρ x) (convR P (ρ x) (P.underlying s) (P.underlying t) (generic P ρ ⟨d, .convert s t x, ty, p, af, gd⟩)) := by
  unfold convI
  split
  · rename_i k k' n hs ht hx
    rw [← gen_conv (P := P) (ρ := ρ) (d := d) (ty := ty) (p := p) (af := af) (gd := gd) hs ht hx]
    simp only [plan, hs, ht, hx]
  · rfl
@[go_sem] theorem size_mk (s : List UInt8) : (⟨⟨s⟩⟩ : ByteArray).size = s.length := rfl
end
structure RwC (w b n : Nat) (cs : List AV) (v : AV) (m : Mem) : Prop where
  le : b ≤ m.length
  row : (n = 0 ∧ cs = [] ∧ v = .nilS) ∨ (0 < n ∧ ∃ id ver, v = .own id ver 0 n w ∧ b ≤ id ∧ m[id]? = some (.cells ver cs) ∧ cs.length = n * w)
variable {w b n : Nat} {cs : List AV} {v : AV} {m : Mem}
theorem RwC.nil (h : b ≤ m.length) : RwC w b 0 [] .nilS m := ⟨h, Or.inl ⟨rfl, rfl, rfl⟩⟩
theorem RwC.push (h : RwC w b n cs v m) (l : Mem) : RwC w b n cs v (m ++ l) := by
  obtain ⟨h1, h2⟩ := h
  refine ⟨by simp; omega, ?_⟩
  rcases h2 with h2 | ⟨h2, id, ver, h3, h4, h5, h6⟩
  · exact Or.inl h2
  · exact Or.inr ⟨h2, id, ver, h3, h4, by rw [List.getElem?_append_left (List.getElem?_eq_some_iff.1 h5).1]; exact h5, h6⟩
theorem RwC.len (h : RwC w b n cs v m) (e : TypeId) (g : Option Req) : lenR (some (kv v)) (some (.slice e)) g = some (.val (I n)) := by
  rcases h.row with ⟨rfl, rfl, rfl⟩ | ⟨_, id, ver, rfl, _⟩ <;> rfl
theorem RwC.apps (h : RwC w b n cs v m) {k : Nat} {ys : List AV} (hy : ys.length = k * w) (hfit : Fits en b) (hb : en.bar ≤ b) (hn : n + k ≤ 2 ^ 32) (hw : 0 < w ∧ w ≤ 64) {tg : Nat} {K : Req → AV → Mem → Prop}
    (hK : ∀ r v' m', RwC w b (n + k) (cs ++ ys) v' m' → (∀ i, i < b → m'[i]? = m[i]?) → m.length ≤ m'.length → AppLike r → K r (kv v') m') : WOf P pol en (appR tg w (some (kv v)) (some (.lst k ys))) m K := by
  unfold kv at *
  have hl := h.le
  cases k with
  | zero =>
    have : ys = [] := List.eq_nil_of_length_eq_zero (by simpa using hy)
    subst this
    have e0 : appR tg w (some v) (some (.lst 0 [])) = some (.val v) := by
      rcases h.row with ⟨_, _, rfl⟩ | ⟨_, id, ver, rfl, _⟩ <;> simp [appR, Src.n]
    rw [e0, WOf_val]
    exact hK _ _ _ (by rwa [List.append_nil, Nat.add_zero]) (fun _ _ => rfl) (Nat.le_refl _) (Or.inr (Or.inr ⟨_, rfl⟩))
  | succ k =>
    have hroom : roomOk (n + (k + 1)) w = true := by simp only [roomOk, Bool.and_eq_true, decide_eq_true_eq]; omega
    rcases h.row with ⟨rfl, rfl, rfl⟩ | ⟨hn0, id, ver, rfl, h4, h5, h6⟩
    · rw [appR_nil, WOf_appnew]
      refine ⟨⟨hy, by simp, hroom, by omega⟩, hK _ _ _ ⟨by simp; omega, Or.inr ⟨by omega, m.length, tg, rfl, hl, by simp, by simpa using hy⟩⟩ (fun i hi => List.getElem?_append_left (by omega)) (by simp) (Or.inr (Or.inl ⟨_, _, _, _, _, rfl⟩))⟩
    · have hid : id < m.length := (List.getElem?_eq_some_iff.1 h5).1
      rw [appR_own, WOf_app, h5, cellsQ_some]
      refine ⟨rfl, ⟨hy, by omega, hroom, by omega⟩, okTo_fits hfit hb h4 _, ?_⟩
      rw [List.drop_zero, List.take_of_length_le (by omega)]
      refine hK _ _ _ ⟨by simpa using hl, Or.inr ⟨by omega, id, nextV tg ver, rfl, h4, by simp [hid], by simp [h6, hy, Nat.add_mul]⟩⟩ (fun i hi => List.getElem?_set_ne (by omega)) (by simp) (Or.inl ⟨_, _, _, _, _, _, _, rfl⟩)
theorem RwC.frzF {α : Type} {f : α → List AV} [hw : Wide f w] {l : List α} (h : RwC w b l.length (l.flatMap f) v m) {b' : Nat} (hb : b' ≤ b) (d : Nat) (k : AV → Prop) : frzQ m b' (d + 2) (kv v) k = k (slf f ⟨true, false, l⟩) := by
  unfold kv
  rcases h.row with ⟨h1, h2, rfl⟩ | ⟨h1, id, ver, rfl, h4, h5, h6⟩
  · rw [frzQ_nilS, List.eq_nil_of_length_eq_zero h1]; rfl
  · have hl : l ≠ [] := by rintro rfl; simp at h1
    have h7 : (l.flatMap f).mapM (V.frz m b' (d + 1)) = some (l.flatMap f) := by
      have : ∀ cs : List AV, (∀ c ∈ cs, Clean c ∧ ∀ t u, c ≠ .ifc t u) → cs.mapM (V.frz m b' (d + 1)) = some cs := fun cs => by
        induction cs with
        | nil => intro _; rfl
        | cons c cs ih =>
          intro hc
          obtain ⟨h1, h2⟩ := hc c (by simp)
          simp only [List.mapM_cons, ih (fun c h => hc c (by simp [h])), clean_frz h1 m b' d h2]; rfl
      refine this _ fun c hc => ?_
      rw [List.mem_flatMap] at hc
      obtain ⟨a, _, hc⟩ := hc
      exact hw.clean a c hc
    have e6 : V.frz m b' (d + 2) (.own id ver 0 l.length w) = some (slf f ⟨true, false, l⟩) := by
      rw [V.frz]
      rw [if_neg (by omega), lget_eq, h5]
      simp only
      rw [if_pos ⟨trivial, by omega⟩, List.drop_zero, List.take_of_length_le (by omega), h7]
      simp only
      rw [if_pos (flat_leaf (w := w) l)]
      simp [slf, hl]
    unfold frzQ
    rw [e6]; simp
theorem RwC.frz1 {α : Type} {f : α → AV} (hf : ∀ a, Clean (f a)) (hi : ∀ a t u, f a ≠ .ifc t u) {l : List α} (h : RwC 1 b l.length (l.map f) v m) {b' : Nat} (hb : b' ≤ b) (d : Nat) (k : AV → Prop) : frzQ m b' (d + 2) (kv v) k = k (sl f ⟨true, false, l⟩) := by
  unfold kv
  rcases h.row with ⟨h1, h2, rfl⟩ | ⟨h1, id, ver, rfl, h4, h5, h6⟩
  · rw [frzQ_nilS, List.eq_nil_of_length_eq_zero h1]; rfl
  · have hl : l ≠ [] := by rintro rfl; simp at h1
    rw [frzQ_own hf hi l h5 (by omega)]
    simp [sl, hl]
/-- One more element. -/
theorem RwC.app1 {α : Type} {f : α → AV} {l : List α} (h : RwC 1 b l.length (l.map f) v m) (a : α) (hfit : Fits en b) (hb : en.bar ≤ b) (hn : l.length < 2 ^ 32) {tg : Nat} {K : Req → AV → Mem → Prop}
    (hK : ∀ r v' m', RwC 1 b (l ++ [a]).length ((l ++ [a]).map f) v' m' → (∀ i, i < b → m'[i]? = m[i]?) → m.length ≤ m'.length → AppLike r → K r (kv v') m') : WOf P pol en (appR tg 1 (some (kv v)) (some (.lst 1 [f a]))) m K :=
  h.apps (k := 1) (ys := [f a]) rfl hfit hb (by omega) (by omega) fun r v' m' h1 h2 h3 h4 => hK r v' m' (by simpa using h1) h2 h3 h4
theorem RwC.appF {α : Type} {f : α → List AV} [hw : Wide f w] {l : List α} (h : RwC w b l.length (l.flatMap f) v m) (a : α) {cs : List AV} (hcs : cs = f a) (hfit : Fits en b) (hb : en.bar ≤ b) (hn : l.length < 2 ^ 32) (hw64 : w ≤ 64) {tg : Nat} {K : Req → AV → Mem → Prop}
    (hK : ∀ r v' m', RwC w b (l ++ [a]).length ((l ++ [a]).flatMap f) v' m' → (∀ i, i < b → m'[i]? = m[i]?) → m.length ≤ m'.length → AppLike r → K r (kv v') m') : WOf P pol en (appR tg w (some (kv v)) (some (.lst 1 cs))) m K := by
  subst hcs
  exact h.apps (k := 1) (ys := f a) (by rw [hw.len]; omega) hfit hb (by omega) ⟨hw.pos, hw64⟩ fun r v' m' h1 h2 h3 h4 => hK r v' m' (by simpa using h1) h2 h3 h4
/-- Many more at once. -/
theorem RwC.appsF {α : Type} {f : α → List AV} [hw : Wide f w] {l : List α} (h : RwC w b l.length (l.flatMap f) v m) (ys : List α) {n : Nat} {cs : List AV} (hn : n = ys.length) (hcs : cs = ys.flatMap f) (hfit : Fits en b) (hb : en.bar ≤ b) (hl : l.length + n ≤ 2 ^ 32) (hw64 : w ≤ 64) {tg : Nat} {K : Req → AV → Mem → Prop}
    (hK : ∀ r v' m', RwC w b (l ++ ys).length ((l ++ ys).flatMap f) v' m' → (∀ i, i < b → m'[i]? = m[i]?) → m.length ≤ m'.length → AppLike r → K r (kv v') m') : WOf P pol en (appR tg w (some (kv v)) (some (.lst n cs))) m K := by
  subst hcs hn
  exact h.apps (k := ys.length) (ys := ys.flatMap f) (by rw [flat_len (w := w)]) hfit hb hl ⟨hw.pos, hw64⟩ fun r v' m' h1 h2 h3 h4 => hK r v' m' (by simpa using h1) h2 h3 h4
/-- The same with its elements as a list. -/
def RW {α : Type} (f : α → List AV) {w : Nat} [Wide f w] (b : Nat) (l : List α) (v : AV) (m : Mem) : Prop := RwC w b l.length (l.flatMap f) v m
def RW1 {α : Type} (f : α → AV) (b : Nat) (l : List α) (v : AV) (m : Mem) : Prop := RwC 1 b l.length (l.map f) v m
section
variable {α : Type} {f : α → List AV} {w : Nat} [hw : Wide f w] {f1 : α → AV} {l : List α}
theorem RW.nil (h : b ≤ m.length) : RW f b [] .nilS m := RwC.nil h
theorem RW.le (h : RW f b l v m) : b ≤ m.length := RwC.le h
theorem RW.push (h : RW f b l v m) (l' : Mem) : RW f b l v (m ++ l') := RwC.push h l'
theorem RW.len (h : RW f b l v m) (e : TypeId) (g : Option Req) : lenR (some (kv v)) (some (.slice e)) g = some (.val (I l.length)) := RwC.len h e g
theorem RW.app (h : RW f b l v m) (a : α) {cs : List AV} (hcs : cs = f a) (hfit : Fits en b) (hb : en.bar ≤ b) (hn : l.length < 2 ^ 32) (hw64 : w ≤ 64) {tg : Nat} {K : Req → AV → Mem → Prop}
    (hK : ∀ r v' m', RW f b (l ++ [a]) v' m' → (∀ i, i < b → m'[i]? = m[i]?) → m.length ≤ m'.length → AppLike r → K r (kv v') m') : WOf P pol en (appR tg w (some (kv v)) (some (.lst 1 cs))) m K := RwC.appF h a hcs hfit hb hn hw64 hK
theorem RW.apps (h : RW f b l v m) (ys : List α) {n : Nat} {cs : List AV} (hn : n = ys.length) (hcs : cs = ys.flatMap f) (hfit : Fits en b) (hb : en.bar ≤ b) (hl : l.length + n ≤ 2 ^ 32) (hw64 : w ≤ 64) {tg : Nat} {K : Req → AV → Mem → Prop}
    (hK : ∀ r v' m', RW f b (l ++ ys) v' m' → (∀ i, i < b → m'[i]? = m[i]?) → m.length ≤ m'.length → AppLike r → K r (kv v') m') : WOf P pol en (appR tg w (some (kv v)) (some (.lst n cs))) m K := RwC.appsF h ys hn hcs hfit hb hl hw64 hK
theorem RW.frz (h : RW f b l v m) {b' : Nat} (hb : b' ≤ b) (d : Nat) (k : AV → Prop) : frzQ m b' (d + 2) (kv v) k = k (slf f ⟨true, false, l⟩) := RwC.frzF h hb d k
theorem RW1.nil (h : b ≤ m.length) : RW1 f1 b [] .nilS m := RwC.nil h
theorem RW1.le (h : RW1 f1 b l v m) : b ≤ m.length := RwC.le h
theorem RW1.push (h : RW1 f1 b l v m) (l' : Mem) : RW1 f1 b l v (m ++ l') := RwC.push h l'
theorem RW1.len (h : RW1 f1 b l v m) (e : TypeId) (g : Option Req) : lenR (some (kv v)) (some (.slice e)) g = some (.val (I l.length)) := RwC.len h e g
theorem RW1.app (h : RW1 f1 b l v m) (a : α) (hfit : Fits en b) (hb : en.bar ≤ b) (hn : l.length < 2 ^ 32) {tg : Nat} {K : Req → AV → Mem → Prop}
    (hK : ∀ r v' m', RW1 f1 b (l ++ [a]) v' m' → (∀ i, i < b → m'[i]? = m[i]?) → m.length ≤ m'.length → AppLike r → K r (kv v') m') : WOf P pol en (appR tg 1 (some (kv v)) (some (.lst 1 [f1 a]))) m K := RwC.app1 h a hfit hb hn hK
theorem RW1.frz (h : RW1 f1 b l v m) (hf : ∀ a, Clean (f1 a)) (hi : ∀ a t u, f1 a ≠ .ifc t u) {b' : Nat} (hb : b' ≤ b) (d : Nat) (k : AV → Prop) : frzQ m b' (d + 2) (kv v) k = k (sl f1 ⟨true, false, l⟩) := RwC.frz1 hf hi h hb d k
end
end
end Go.Proofs.YtcmjidnbbfcbjaaGreatDoor.V
/- Maps from texts; peace wherever the objects lie; no condition. -/
namespace Go.Proofs.YtcmjidnbbfcbjaaGreatDoor.V
open Go
set_option linter.unusedVariables false
set_option linter.unusedSimpArgs false
noncomputable section
variable {P : Program} {pol : Pol} {en : Env}
abbrev sV (k : List UInt8) : Value := .string ⟨⟨k⟩⟩
/-- A map from texts: its keys in order, and what stands at each. -/
def strM (g : List UInt8 → AV) (ks : List (List UInt8)) : List (Value × AV) := ks.map fun k => (sV k, g k)
theorem sameK_str (a b : List UInt8) : findV.sameK (sV a) (sV b) = decide (a = b) := by
  show (((⟨⟨a⟩⟩ : ByteArray)) == ⟨⟨b⟩⟩) = decide (a = b)
  show ((⟨a⟩ : Array UInt8) == ⟨b⟩) = decide (a = b)
  by_cases h : a = b <;> simp [h]
theorem findV_str (g : List UInt8 → AV) (f : List UInt8) : ∀ (ks : List (List UInt8)) (i : Nat), findV .string (sV f) (strM g ks) i = some ((ks.findIdx? fun k => decide (f = k)).map fun j => (i + j, g f))
  | [], i => rfl
  | k :: ks, i => by
    have ih := findV_str g f ks (i + 1)
    show (if isKeyT .string (sV k) = true then (if findV.sameK (sV f) (sV k) = true then some (some (i, g k)) else findV .string (sV f) (strM g ks) (i + 1)) else none) = _
    rw [if_pos (show isKeyT .string (sV k) = true from rfl), sameK_str, List.findIdx?_cons]
    by_cases h : f = k
    · subst h; simp
    · simp only [h, decide_false, Bool.false_eq_true, if_false]
      rw [ih, Option.map_map]
      congr 2
      funext j
      simp; omega
theorem findV_in {g : List UInt8 → AV} {f : List UInt8} {ks : List (List UInt8)} (h : f ∈ ks) : ∃ j, ks[j]? = some f ∧ findV .string (sV f) (strM g ks) 0 = some (some (j, g f)) := by
  rw [findV_str]
  cases hj : ks.findIdx? fun k => decide (f = k) with
  | none =>
    rw [List.findIdx?_eq_none_iff] at hj
    have := hj f h
    simp at this
  | some j =>
    rw [List.findIdx?_eq_some_iff_getElem] at hj
    obtain ⟨h1, h2, _⟩ := hj
    refine ⟨j, ?_, by simp⟩
    rw [List.getElem?_eq_getElem h1]
    simp at h2; rw [← h2]
theorem findV_out {g : List UInt8 → AV} {f : List UInt8} {ks : List (List UInt8)} (h : f ∉ ks) : findV .string (sV f) (strM g ks) 0 = some none := by
  rw [findV_str]
  rw [List.findIdx?_eq_none_iff.2]
  · rfl
  · intro x hx
    have : f ≠ x := by rintro rfl; exact h hx
    simp [this]
def upd (g : List UInt8 → AV) (f : List UInt8) (v : AV) (k : List UInt8) : AV := if k = f then v else g k
theorem strM_set {g : List UInt8 → AV} {f : List UInt8} {ks : List (List UInt8)} (hn : ks.Nodup) {j : Nat} (hj : ks[j]? = some f) (v : AV) : (strM g ks).set j (sV f, v) = strM (upd g f v) ks := by
  apply List.ext_getElem?
  intro i
  rw [List.getElem?_set]
  unfold strM
  by_cases h : j = i
  · subst h
    obtain ⟨hl, he⟩ := List.getElem?_eq_some_iff.1 hj
    rw [if_pos rfl, if_pos (by simpa using hl), List.getElem?_map, hj]
    simp [upd]
  · rw [if_neg h, List.getElem?_map, List.getElem?_map]
    cases hk : ks[i]? with
    | none => rfl
    | some k =>
      have : k ≠ f := by
        rintro rfl
        obtain ⟨hl, he⟩ := List.getElem?_eq_some_iff.1 hj
        obtain ⟨hl2, he2⟩ := List.getElem?_eq_some_iff.1 hk
        exact h ((List.getElem_inj hn).1 (he.trans he2.symm))
      simp [upd, this]
theorem strM_app {g : List UInt8 → AV} {f : List UInt8} {ks : List (List UInt8)} (hf : f ∉ ks) (v : AV) : strM g ks ++ [(sV f, v)] = strM (upd g f v) (ks ++ [f]) := by
  unfold strM
  rw [List.map_append]
  congr 1
  · apply List.map_congr_left
    intro k hk
    have : k ≠ f := by rintro rfl; exact hf hk
    simp [upd, this]
  · simp [upd]
/-! Peace hangs on which objects are the same, and which are new, alone. -/
def Foot.ren (ι : Nat → Nat) (f : Foot) : Foot := ⟨f.rd.map ι, f.wr.map ι, f.al, f.ra, f.all⟩
def Foot.within (K : Nat) (f : Foot) : Bool := f.rd.all (fun i => decide (i < K)) && f.wr.all (fun i => decide (i < K))
theorem loud_ren (ι : Nat → Nat) (f : Foot) : (f.ren ι).loud = f.loud := by simp [Foot.ren, Foot.loud]
theorem contains_ren {ι : Nat → Nat} {K : Nat} (hi : ∀ i j, i < K → j < K → ι i = ι j → i = j) {i : Nat} {l : List Nat} (h : i < K) (hl : ∀ j ∈ l, j < K) : (l.map ι).contains (ι i) = l.contains i := by
  rw [Bool.eq_iff_iff]
  simp only [List.contains_iff_mem, List.mem_map]
  constructor
  · rintro ⟨j, hj, he⟩; rw [← hi j i (hl j hj) h he]; exact hj
  · intro h; exact ⟨i, h, rfl⟩
theorem any_ren {ι : Nat → Nat} {K n ml : Nat} (hn : ∀ i, i < K → (n ≤ i ↔ ml ≤ ι i)) {l : List Nat} (hl : ∀ j ∈ l, j < K) : ((l.map ι).any fun i => decide (ml ≤ i)) = l.any fun i => decide (n ≤ i) := by
  rw [List.any_map, Bool.eq_iff_iff]
  simp only [List.any_eq_true, Function.comp_apply, decide_eq_true_eq]
  constructor
  · rintro ⟨j, hj, he⟩; exact ⟨j, hj, (hn j (hl j hj)).2 he⟩
  · rintro ⟨j, hj, he⟩; exact ⟨j, hj, (hn j (hl j hj)).1 he⟩
theorem anyc_ren {ι : Nat → Nat} {K : Nat} (hi : ∀ i j, i < K → j < K → ι i = ι j → i = j) {w r : List Nat} (hw : ∀ j ∈ w, j < K) (hr : ∀ j ∈ r, j < K) : ((w.map ι).any fun i => (r.map ι).contains i) = w.any fun i => r.contains i := by
  rw [List.any_map, Bool.eq_iff_iff]
  simp only [List.any_eq_true, Function.comp_apply]
  constructor
  · rintro ⟨j, hj, he⟩; exact ⟨j, hj, by rw [contains_ren hi (hw j hj) hr] at he; exact he⟩
  · rintro ⟨j, hj, he⟩; exact ⟨j, hj, by rw [contains_ren hi (hw j hj) hr]; exact he⟩
theorem confl_ren {ι : Nat → Nat} {K n ml : Nat} (hi : ∀ i j, i < K → j < K → ι i = ι j → i = j) (hn : ∀ i, i < K → (n ≤ i ↔ ml ≤ ι i)) {f g : Foot} (hf : f.within K = true) (hg : g.within K = true) : confl ml (f.ren ι) (g.ren ι) = confl n f g := by
  simp only [Foot.within, Bool.and_eq_true, List.all_eq_true, decide_eq_true_eq] at hf hg
  have hw : ∀ f : Foot, (f.ren ι).writes = f.writes := fun f => by simp [Foot.ren, Foot.writes]
  have e1 : (f.ren ι).rd = f.rd.map ι := rfl
  have e2 : (g.ren ι).rd = g.rd.map ι := rfl
  have e3 : (f.ren ι).wr = f.wr.map ι := rfl
  have e4 : (g.ren ι).wr = g.wr.map ι := rfl
  have e5 : ∀ f : Foot, (f.ren ι).al = f.al := fun _ => rfl
  have e6 : ∀ f : Foot, (f.ren ι).ra = f.ra := fun _ => rfl
  have e7 : ∀ f : Foot, (f.ren ι).all = f.all := fun _ => rfl
  unfold confl
  rw [e1, e2, e3, e4, any_ren hn hf.1, any_ren hn hg.1, anyc_ren hi hf.2 hg.1, anyc_ren hi hg.2 hf.1]
  simp only [loud_ren, hw, e5, e6, e7]
theorem peaceF_ren {b : List Nat} {ι : Nat → Nat} {K n ml : Nat} (hi : ∀ i j, i < K → j < K → ι i = ι j → i = j) (hn : ∀ i, i < K → (n ≤ i ↔ ml ≤ ι i)) {l : List (Nat × Foot)} (hl : l.all (fun x => x.2.within K) = true) (h : peaceF b n l = true) : peaceF b ml (l.map fun x => (x.1, x.2.ren ι)) = true := by
  rw [List.all_eq_true] at hl
  simp only [peaceF, List.filter_map, Function.comp_def, loud_ren, List.all_map, List.all_eq_true] at h ⊢
  intro x hx y hy
  have h1 := h x hx y hy
  have e := confl_ren hi hn (hl y (List.mem_filter.1 hy).1) (hl x (List.mem_filter.1 hx).1)
  simpa [e] using h1
theorem peace_inj {n K : Nat} {ops : Array Oper} {tr : (Nat → Nat) → List (Nat × Req)} (h0 : peace pol n ops (tr fun i => i) = true) (hs : ∀ ι, (tr ι).map (fun x => (x.1, x.2.foot pol)) = (tr fun i => i).map (fun x => (x.1, (x.2.foot pol).ren ι)))
    (hK : ((tr fun i => i).all fun x => (x.2.foot pol).within K) = true) {ι : Nat → Nat} {ml : Nat} (hi : ∀ i j, i < K → j < K → ι i = ι j → i = j) (hn : ∀ i, i < K → (n ≤ i ↔ ml ≤ ι i)) : peace pol ml ops (tr ι) = true := by
  rw [peaceF_eq] at h0 ⊢
  rw [hs ι]
  have := peaceF_ren (l := (tr fun i => i).map fun x => (x.1, x.2.foot pol)) hi hn (by rw [List.all_map]; exact hK) h0
  rw [List.map_map] at this
  exact this
theorem peace_injR {n K : Nat} {ops : Array Oper} {tr : (Nat → Nat) → List (Nat × Req)} {ml : (Nat → Nat) → Nat} (h0 : peace pol n ops (tr fun i => i) = true) (hs : ∀ ι, (tr ι).map (fun x => (x.1, x.2.foot pol)) = (tr fun i => i).map (fun x => (x.1, (x.2.foot pol).ren ι)))
    (hK : ((tr fun i => i).all fun x => (x.2.foot pol).within K) = true) : ∀ ι, (∀ i j, i < K → j < K → ι i = ι j → i = j) ∧ (∀ i, i < K → (n ≤ i ↔ ml ι ≤ ι i)) → peace pol (ml ι) ops (tr ι) = true := fun ι h => peace_inj h0 hs hK h.1 h.2
/-- Four objects, all old. -/
theorem old4 {ρ : Nat → Nat} {ml a b c d : Nat} (h0 : ρ 0 = a) (h1 : ρ 1 = b) (h2 : ρ 2 = c) (h3 : ρ 3 = d) (hab : a ≠ b) (hac : a ≠ c) (had : a ≠ d) (hbc : b ≠ c) (hbd : b ≠ d) (hcd : c ≠ d) (ha : a < ml) (hb : b < ml) (hc : c < ml) (hd : d < ml) :
    (∀ i j, i < 4 → j < 4 → ρ i = ρ j → i = j) ∧ (∀ i, i < 4 → (4 ≤ i ↔ ml ≤ ρ i)) := by
  constructor
  · intro i j hi hj h
    obtain rfl | rfl | rfl | rfl : i = 0 ∨ i = 1 ∨ i = 2 ∨ i = 3 := by omega
    all_goals
      obtain rfl | rfl | rfl | rfl : j = 0 ∨ j = 1 ∨ j = 2 ∨ j = 3 := by omega
      all_goals omega
  · intro i hi
    obtain rfl | rfl | rfl | rfl : i = 0 ∨ i = 1 ∨ i = 2 ∨ i = 3 := by omega
    all_goals omega
theorem ren4 (a b c d : Nat) : ∃ ρ : Nat → Nat, ρ 0 = a ∧ ρ 1 = b ∧ ρ 2 = c ∧ ρ 3 = d := ⟨fun k => match k with | 0 => a | 1 => b | 2 => c | _ => d, rfl, rfl, rfl, rfl⟩
end
end Go.Proofs.YtcmjidnbbfcbjaaGreatDoor.V
/- Bytes as slices, pieces with a limit, min; no condition. -/
namespace Go.Proofs.YtcmjidnbbfcbjaaGreatDoor.V
open Go
set_option linter.unusedVariables false
set_option linter.unusedSimpArgs false
noncomputable section
variable {P : Program} {pol : Pol} {en : Env} {ρ : Operand → Option AV} {d : Option Tmp} {ty : TypeId} {p : String} {af : Array Edge} {gd : Option (Nat × Bool)}
@[go_sem] theorem toB_tx (l : List UInt8) : toB (some (.int .u8)) ⟨⟨l⟩⟩ = some (.val (sl u8v ⟨false, false, l⟩)) := by
  simp [toB, sl, byteCells, ByteArray.size]
def ofS (d : Option TypeDesc) (l : List UInt8) : Option Req :=
  match d with
  | some (.int .u8) => some (.val (tx l))
  | _ => none
@[go_sem] theorem ofS_u8 (l : List UInt8) : ofS (some (.int .u8)) l = some (.val (tx l)) := rfl
theorem bytesOf_u8 : ∀ l : List UInt8, bytesOf (l.map u8v) = some l
  | [] => rfl
  | a :: l => by
    have h1 := a.toNat_lt
    simp only [List.map_cons, bytesOf, bytesOf_u8 l]
    rw [if_pos ⟨by omega, by omega⟩]
    simp
@[go_sem] theorem convR_sl (x : Sl UInt8) (e : TypeId) (g : Option Req) : convR P (some (sl u8v x)) (some (.slice e)) (some .string) g = ofS (P.underlying e) x.l := by
  unfold sl
  split
  · rename_i h
    simp only [Bool.and_eq_true, List.isEmpty_iff] at h
    rw [convR_ofN, h.2]
    unfold ofN ofS
    cases P.underlying e with
    | none => rfl
    | some dd => cases dd <;> first | rfl | (rename_i k; cases k <;> rfl)
  · rw [convR_ofB]
    unfold ofB ofS
    rw [bytesOf_u8]
    cases P.underlying e with
    | none => rfl
    | some dd => cases dd <;> first | rfl | (rename_i k; cases k <;> first | rfl | simp)
@[go_sem] theorem asI_int (k : IntKind) (n : Int) : asI (.sc (.int k n)) = some (k, n) := rfl
/-! 's[lo:hi:max]'. -/
def sl3R (v : Option AV) (s : Option Nat) (lo hi mx : Option (IntKind × Int)) (g : Option Req) : Option Req :=
  match v, s, lo, hi, mx with
  | some (.lst n cs c), some s, some (_, l), some (_, h), some (_, m) =>
    if 0 ≤ l ∧ l ≤ h ∧ h ≤ m ∧ m ≤ n ∧ h.toNat * s ≤ cs.length then some (.val (.lst (h.toNat - l.toNat) ((cs.drop (l.toNat * s)).take ((h.toNat - l.toNat) * s)) (decide (m = h)))) else g
  | _, _, _, _, _ => g
@[go_sem 3000] theorem plan_slice3 (t : TypeId) (x a b c : Operand) : plan P ρ ⟨d, .slice t x (some a) (some b) (some c), ty, p, af, gd⟩ = sl3R (ρ x) (elemSz P t) ((ρ a).bind asI) ((ρ b).bind asI) ((ρ c).bind asI) (same P ρ ⟨d, .slice t x (some a) (some b) (some c), ty, p, af, gd⟩) := by
  unfold sl3R
  split
  · rename_i n cs cl s k1 l k2 h k3 m hx hs ha hb hc
    split
    · rename_i hh
      obtain ⟨h1, h2, h3, h4, h5⟩ := hh
      unfold elemSz at hs
      simp only [plan, hx, hs, asI?, ha, hb, hc, bounds]
      rw [if_pos ⟨h1, h2, by omega⟩]
      simp only
      rw [if_pos ⟨by omega, h4, h5⟩]
      have : decide (m = ((h.toNat : Nat) : Int)) = decide (m = h) := by rw [Int.toNat_of_nonneg (by omega)]
      rw [this]
    · rfl
  · rfl
theorem sl3R_sl {α : Type} (f : α → AV) (c : Bool) (x : List α) (k1 k2 k3 : IntKind) (l h m : Int) (g : Option Req) : sl3R (some (sl f ⟨false, c, x⟩)) (some 1) (some (k1, l)) (some (k2, h)) (some (k3, m)) g = if 0 ≤ l ∧ l ≤ h ∧ h ≤ m ∧ m ≤ x.length then some (.val (sl f ⟨false, decide (m = h), (x.drop l.toNat).take (h.toNat - l.toNat)⟩)) else g := by
  simp only [sl, Bool.false_and, Bool.false_eq_true, if_false, sl3R, Nat.mul_one, List.length_map]
  by_cases hc : 0 ≤ l ∧ l ≤ h ∧ h ≤ m ∧ m ≤ x.length
  · rw [if_pos hc, if_pos ⟨hc.1, hc.2.1, hc.2.2.1, hc.2.2.2, by omega⟩]
    rw [← List.map_drop, ← List.map_take]
    simp
    omega
  · rw [if_neg hc, if_neg (fun h => hc ⟨h.1, h.2.1, h.2.2.1, h.2.2.2.1⟩)]
theorem sl3D {α : Type} {f : α → AV} {c : Bool} {x : List α} {k1 k2 k3 : IntKind} {l h m : Int} {g : Option Req} (hc : 0 ≤ l ∧ l ≤ h ∧ h ≤ m ∧ m ≤ x.length) : sl3R (some (sl f ⟨false, c, x⟩)) (some 1) (some (k1, l)) (some (k2, h)) (some (k3, m)) g = some (.val (sl f ⟨false, decide (m = h), (x.drop l.toNat).take (h.toNat - l.toNat)⟩)) := by rw [sl3R_sl, if_pos hc]
/-! min. -/
def minR (x y : Option AV) (g : Option Req) : Option Req :=
  match x, y with
  | some (.sc (.int k a)), some (.sc (.int k' b)) => if k = k' then some (.val (.sc (.int k (if b < a then b else a)))) else g
  | _, _ => g
@[go_sem] theorem minR_int (k : IntKind) (a b : Int) (g : Option Req) : minR (some (.sc (.int k a))) (some (.sc (.int k b))) g = some (.val (.sc (.int k (if b < a then b else a)))) := by simp [minR]
@[go_sem] theorem plan_min (x y : Operand) (t t' : TypeId) : plan P ρ ⟨d, .call ⟨.builtin .min, ⟨[x, y]⟩, ⟨[t, t']⟩⟩, ty, p, af, gd⟩ = minR (ρ x) (ρ y) (same P ρ ⟨d, .call ⟨.builtin .min, ⟨[x, y]⟩, ⟨[t, t']⟩⟩, ty, p, af, gd⟩) := by
  unfold minR
  split
  · rename_i k a k' b hx hy
    split
    · rename_i hk
      subst hk
      simp only [plan, planB, generic, plainOp, Bool.true_eq_false, if_false, Op.operands, Call.operands]
      have e1 : ((#[] : Array Operand) ++ (⟨[x, y]⟩ : Array Operand)).toList = [x, y] := by simp
      rw [e1]
      simp only [List.mapM_cons, List.mapM_nil, hx, hy, Option.bind_some, AV.toV, Option.bind_eq_bind, Option.pure_def]
      simp only [execOp, resolve, invoke, builtin, Builtin.min_]
      have e2 : (Array.map (fun x => ((ρ x).bind AV.toV).getD undef) ⟨[x, y]⟩) = #[.int k a, .int k b] := by simp [hx, hy, AV.toV]
      rw [e2]
      rfl
    · rfl
  · rfl
/-- A loop over a function, her record by a name. -/
theorem rangeN {f : Operand} {params : Array Tmp} {assign body : Code} {ts : List AV} {m : Mem} {Q : X → List AV → Mem → Prop} {g : FuncId} {first cap : List AV}
    (hf : opnd pol ts f = some (.clo (.func g) first cap))
    (h : ∀ LO, LO = Ob.loop .ready none ts params assign body → WC P pol en (.func g) (first ++ [.clo (.yield m.length) [] []] ++ cap) (m ++ [LO]) fun _ m2 =>
      ∃ s p t pa a b, m2[m.length]? = some (.loop s p t pa a b) ∧ s ≠ .busy ∧
        match p with
        | none => Q .normal ts (m2.set m.length (.loop .exhausted p t pa a b))
        | some c => Wf P pol en c ts (m2.set m.length (.loop .exhausted p t pa a b)) Q) (hdn : pol.dir g = none := by rfl) : Wq P pol en (.rangeFunc f params assign body) ts m Q := rangeF hf (h _ rfl) hdn
end
end Go.Proofs.YtcmjidnbbfcbjaaGreatDoor.V
/- Texts in quotes: the plain law; no condition. -/
namespace Go.Proofs.YtcmjidnbbfcbjaaGreatDoor.V
def plainB (c : UInt8) : Bool := decide (32 < c.toNat) && decide (c.toNat < 127) && decide (c.toNat ≠ 34) && decide (c.toNat ≠ 37)
def hexd (n : Nat) : UInt8 := UInt8.ofNat (if n < 10 then 48 + n else 87 + n)
def encB (c : UInt8) : List UInt8 := if plainB c then [c] else [37, hexd (c.toNat / 16), hexd (c.toNat % 16)]
def qencL (l : List UInt8) : List UInt8 := l.flatMap encB
def quoteL (l : List UInt8) : List UInt8 := 34 :: (qencL l ++ [34])
/-- A hex digit's value. -/
def valB (c : UInt8) : Option Nat := if 48 ≤ c.toNat ∧ c.toNat ≤ 57 then some (c.toNat - 48) else if 97 ≤ c.toNat ∧ c.toNat ≤ 102 then some (c.toNat - 87) else none
/-- What is in quotes, strictly. -/
def decL : List UInt8 → Option (List UInt8)
  | [] => some []
  | c :: l =>
    if c = 37 then match l with
      | a :: b :: l' => match valB a, valB b with
        | some x, some y => if plainB (UInt8.ofNat (x * 16 + y)) then none else (decL l').map (UInt8.ofNat (x * 16 + y) :: ·)
        | _, _ => none
      | _ => none
    else if plainB c then (decL l).map (c :: ·) else none
/-- The same without a look at what stands plain. -/
def laxL : List UInt8 → Option (List UInt8)
  | [] => some []
  | c :: l =>
    if c = 37 then match l with
      | a :: b :: l' => match valB a, valB b with
        | some x, some y => (laxL l').map (UInt8.ofNat (x * 16 + y) :: ·)
        | _, _ => none
      | _ => none
    else (laxL l).map (c :: ·)
theorem valB_lt {c : UInt8} {n : Nat} (h : valB c = some n) : n < 16 ∧ hexd n = c := by
  unfold valB at h
  split at h
  · cases h
    refine ⟨by omega, ?_⟩
    unfold hexd
    rw [if_pos (by omega)]
    have : 48 + (c.toNat - 48) = c.toNat := by omega
    rw [this]; simp
  · split at h
    · cases h
      refine ⟨by omega, ?_⟩
      unfold hexd
      rw [if_neg (by omega)]
      have : 87 + (c.toNat - 87) = c.toNat := by omega
      rw [this]; simp
    · cases h
theorem hexd_nat {n : Nat} (h : n < 16) : (hexd n).toNat = if n < 10 then 48 + n else 87 + n := by
  unfold hexd
  rw [UInt8.toNat_ofNat']
  split <;> exact Nat.mod_eq_of_lt (by omega)
theorem valB_hexd {n : Nat} (h : n < 16) : valB (hexd n) = some n := by
  unfold valB
  rw [hexd_nat h]
  by_cases h10 : n < 10
  · rw [if_pos h10, if_pos (by omega)]; congr 1; omega
  · rw [if_neg h10, if_neg (by omega), if_pos (by omega)]; congr 1; omega
theorem dec_c {c : UInt8} {l : List UInt8} (hc : c ≠ 37) : decL (c :: l) = if plainB c then (decL l).map (c :: ·) else none := by
  cases l with
  | nil => simp [decL, hc]
  | cons a l => cases l <;> simp [decL, hc]
theorem dec_h (a b : UInt8) (l : List UInt8) : decL (37 :: a :: b :: l) = match valB a, valB b with
    | some x, some y => if plainB (UInt8.ofNat (x * 16 + y)) then none else (decL l).map (UInt8.ofNat (x * 16 + y) :: ·)
    | _, _ => none := by simp only [decL, if_true]
theorem dec_0 : decL [37] = none := by simp [decL]
theorem dec_1 (a : UInt8) : decL [37, a] = none := by simp [decL]
theorem lax_c {c : UInt8} {l : List UInt8} (hc : c ≠ 37) : laxL (c :: l) = (laxL l).map (c :: ·) := by
  cases l with
  | nil => simp [laxL, hc]
  | cons a l => cases l <;> simp [laxL, hc]
theorem lax_h (a b : UInt8) (l : List UInt8) : laxL (37 :: a :: b :: l) = match valB a, valB b with
    | some x, some y => (laxL l).map (UInt8.ofNat (x * 16 + y) :: ·)
    | _, _ => none := by simp only [laxL, if_true]
theorem lax_0 : laxL [37] = none := by simp [laxL]
theorem lax_1 (a : UInt8) : laxL [37, a] = none := by simp [laxL]
theorem dec_enc : ∀ l, decL (qencL l) = some l
  | [] => rfl
  | c :: l => by
    have ih := dec_enc l
    show decL (encB c ++ qencL l) = _
    unfold encB
    by_cases hp : plainB c = true
    · rw [if_pos hp]
      have hc : c ≠ 37 := by rintro rfl; simp [plainB] at hp
      rw [List.singleton_append, dec_c hc, if_pos hp, ih]; rfl
    · rw [if_neg hp]
      have hlt := c.toNat_lt
      have h1 : c.toNat / 16 < 16 := by omega
      have h2 : c.toNat % 16 < 16 := by omega
      have he : UInt8.ofNat (c.toNat / 16 * 16 + c.toNat % 16) = c := by
        have : c.toNat / 16 * 16 + c.toNat % 16 = c.toNat := by omega
        rw [this]; simp
      show decL (37 :: hexd (c.toNat / 16) :: hexd (c.toNat % 16) :: qencL l) = _
      rw [dec_h, valB_hexd h1, valB_hexd h2]
      simp only [he]
      rw [if_neg hp, ih]; rfl
theorem dec_lax : ∀ (n : Nat) {l out : List UInt8}, l.length ≤ n → decL l = some out → laxL l = some out ∧ qencL out = l
  | _, [], out, _, h => by simp only [decL, Option.some.injEq] at h; subst h; exact ⟨rfl, rfl⟩
  | 0, c :: l, out, hn, h => by simp at hn
  | n + 1, c :: l, out, hn, h => by
    by_cases hc : c = 37
    · subst hc
      match l, h, hn with
      | [], h, _ => rw [dec_0] at h; cases h
      | [a], h, _ => rw [dec_1] at h; cases h
      | a :: b :: l', h, hn =>
        rw [dec_h] at h
        split at h
        case h_2 => cases h
        rename_i x y hx hy
        split at h
        · cases h
        rename_i hp
        simp only [Option.map_eq_some_iff] at h
        obtain ⟨o, ho, rfl⟩ := h
        obtain ⟨h1, h2⟩ := dec_lax n (by simp at hn; omega) ho
        obtain ⟨hx1, hx2⟩ := valB_lt hx
        obtain ⟨hy1, hy2⟩ := valB_lt hy
        refine ⟨by rw [lax_h, hx, hy]; simp only [h1]; rfl, ?_⟩
        show encB _ ++ qencL o = _
        have hn : (UInt8.ofNat (x * 16 + y)).toNat = x * 16 + y := by rw [UInt8.toNat_ofNat']; exact Nat.mod_eq_of_lt (by omega)
        rw [encB, if_neg hp, hn, h2, show (x * 16 + y) / 16 = x by omega, show (x * 16 + y) % 16 = y by omega, hx2, hy2]; rfl
    · rw [dec_c hc] at h
      split at h
      · rename_i hp
        simp only [Option.map_eq_some_iff] at h
        obtain ⟨o, ho, rfl⟩ := h
        obtain ⟨h1, h2⟩ := dec_lax n (by simpa using hn) ho
        refine ⟨by rw [lax_c hc, h1]; rfl, ?_⟩
        show encB c ++ qencL o = _
        rw [encB, if_pos hp, h2]; rfl
      · cases h
/-- What both answer. -/
theorem dec_iff (l : List UInt8) : decL l = (laxL l).bind fun out => if qencL out = l then some out else none := by
  cases h : decL l with
  | some out =>
    obtain ⟨h1, h2⟩ := dec_lax _ (Nat.le_refl _) h
    rw [h1, Option.bind_some, if_pos h2]
  | none =>
    cases h2 : laxL l with
    | none => rfl
    | some out =>
      rw [Option.bind_some]
      split
      · rename_i he
        have := dec_enc out
        rw [he, h] at this; cases this
      · rfl
end Go.Proofs.YtcmjidnbbfcbjaaGreatDoor.V
