/- Parts of the proof, joined (F0, Q0, QP, Q1); no condition. -/
import Derived.Test.YtcmjidnbbfcbjaaDoorMo
import Derived.Test.YtcmjidnbbfcbjaaDoorChecked
import Derived.IntWalk
/- Facts of the program's types, as rules; no condition. -/
namespace Go.Proofs.YtcmjidnbbfcbjaaDoor.V
open Go
set_option maxRecDepth 100000
@[go_sem] theorem sz0 : szOf Tryd.prog 0 = some 1 := by kernel_rfl
@[go_sem] theorem ag0 : aggOf Tryd.prog 0 = some false := by kernel_rfl
@[go_sem] theorem sz1 : szOf Tryd.prog 1 = some 1 := by kernel_rfl
@[go_sem] theorem ag1 : aggOf Tryd.prog 1 = some false := by kernel_rfl
@[go_sem] theorem ze1 : zeroOf Tryd.prog 1 = some AV.nilF := by kernel_rfl
@[go_sem] theorem sz2 : szOf Tryd.prog 2 = some 1 := by kernel_rfl
@[go_sem] theorem ag2 : aggOf Tryd.prog 2 = some false := by kernel_rfl
@[go_sem] theorem ze2 : zeroOf Tryd.prog 2 = some (AV.sc (Value.int IntKind.i64 0)) := by kernel_rfl
@[go_sem] theorem sz3 : szOf Tryd.prog 3 = some 1 := by kernel_rfl
@[go_sem] theorem ag3 : aggOf Tryd.prog 3 = some false := by kernel_rfl
@[go_sem] theorem ze3 : zeroOf Tryd.prog 3 = some (AV.sc (Value.int IntKind.i64 0)) := by kernel_rfl
@[go_sem] theorem sz4 : szOf Tryd.prog 4 = some 1 := by kernel_rfl
@[go_sem] theorem ag4 : aggOf Tryd.prog 4 = some false := by kernel_rfl
@[go_sem] theorem ze4 : zeroOf Tryd.prog 4 = some (AV.sc (Value.bool false)) := by kernel_rfl
@[go_sem] theorem sz5 : szOf Tryd.prog 5 = some 1 := by kernel_rfl
@[go_sem] theorem ag5 : aggOf Tryd.prog 5 = some false := by kernel_rfl
@[go_sem] theorem ze5 : zeroOf Tryd.prog 5 = some (AV.sc (Value.int IntKind.u8 0)) := by kernel_rfl
@[go_sem] theorem sz6 : szOf Tryd.prog 6 = some 1 := by kernel_rfl
@[go_sem] theorem ag6 : aggOf Tryd.prog 6 = some false := by kernel_rfl
@[go_sem] theorem ze6 : zeroOf Tryd.prog 6 = some (AV.sc (Value.int IntKind.u8 0)) := by kernel_rfl
@[go_sem] theorem sz7 : szOf Tryd.prog 7 = some 4 := by kernel_rfl
@[go_sem] theorem ag7 : aggOf Tryd.prog 7 = some true := by kernel_rfl
@[go_sem] theorem fl7 : flatS Tryd.prog 7 = some [TypeDesc.int IntKind.i64, TypeDesc.int IntKind.i64, TypeDesc.bool, TypeDesc.int IntKind.u8] := by kernel_rfl
@[go_sem] theorem pl7 : placesO Tryd.prog 7 = some [(0, 1), (1, 1), (2, 1), (3, 1)] := by kernel_rfl
@[go_sem] theorem ze7 : zeroOf Tryd.prog 7 = some (AV.agg [AV.sc (Value.int IntKind.i64 0), AV.sc (Value.int IntKind.i64 0), AV.sc (Value.bool false), AV.sc (Value.int IntKind.u8 0)]) := by kernel_rfl
@[go_sem] theorem fo7_0 : fldO Tryd.prog 7 0 = some (0, 1, false) := by kernel_rfl
@[go_sem] theorem fo7_1 : fldO Tryd.prog 7 1 = some (1, 1, false) := by kernel_rfl
@[go_sem] theorem fo7_2 : fldO Tryd.prog 7 2 = some (2, 1, false) := by kernel_rfl
@[go_sem] theorem fo7_3 : fldO Tryd.prog 7 3 = some (3, 1, false) := by kernel_rfl
@[go_sem] theorem sz8 : szOf Tryd.prog 8 = some 4 := by kernel_rfl
@[go_sem] theorem ag8 : aggOf Tryd.prog 8 = some true := by kernel_rfl
@[go_sem] theorem fl8 : flatS Tryd.prog 8 = some [TypeDesc.int IntKind.i64, TypeDesc.int IntKind.i64, TypeDesc.bool, TypeDesc.int IntKind.u8] := by kernel_rfl
@[go_sem] theorem pl8 : placesO Tryd.prog 8 = some [(0, 1), (1, 1), (2, 1), (3, 1)] := by kernel_rfl
@[go_sem] theorem ze8 : zeroOf Tryd.prog 8 = some (AV.agg [AV.sc (Value.int IntKind.i64 0), AV.sc (Value.int IntKind.i64 0), AV.sc (Value.bool false), AV.sc (Value.int IntKind.u8 0)]) := by kernel_rfl
@[go_sem] theorem fo8_0 : fldO Tryd.prog 8 0 = some (0, 1, false) := by kernel_rfl
@[go_sem] theorem fo8_1 : fldO Tryd.prog 8 1 = some (1, 1, false) := by kernel_rfl
@[go_sem] theorem fo8_2 : fldO Tryd.prog 8 2 = some (2, 1, false) := by kernel_rfl
@[go_sem] theorem fo8_3 : fldO Tryd.prog 8 3 = some (3, 1, false) := by kernel_rfl
@[go_sem] theorem sz9 : szOf Tryd.prog 9 = some 1 := by kernel_rfl
@[go_sem] theorem ag9 : aggOf Tryd.prog 9 = some false := by kernel_rfl
@[go_sem] theorem ze9 : zeroOf Tryd.prog 9 = some (AV.sc (Value.string { data := { toList := [] } })) := by kernel_rfl
@[go_sem] theorem sz10 : szOf Tryd.prog 10 = some 1 := by kernel_rfl
@[go_sem] theorem ag10 : aggOf Tryd.prog 10 = some false := by kernel_rfl
@[go_sem] theorem ze10 : zeroOf Tryd.prog 10 = some (AV.sc (Value.string { data := { toList := [] } })) := by kernel_rfl
@[go_sem] theorem sz11 : szOf Tryd.prog 11 = some 1 := by kernel_rfl
@[go_sem] theorem ag11 : aggOf Tryd.prog 11 = some false := by kernel_rfl
@[go_sem] theorem ze11 : zeroOf Tryd.prog 11 = some (AV.sc (Value.string { data := { toList := [] } })) := by kernel_rfl
@[go_sem] theorem sz12 : szOf Tryd.prog 12 = some 1 := by kernel_rfl
@[go_sem] theorem ag12 : aggOf Tryd.prog 12 = some false := by kernel_rfl
@[go_sem] theorem ze12 : zeroOf Tryd.prog 12 = some (AV.sc (Value.int IntKind.u64 0)) := by kernel_rfl
@[go_sem] theorem sz13 : szOf Tryd.prog 13 = some 2 := by kernel_rfl
@[go_sem] theorem ag13 : aggOf Tryd.prog 13 = some true := by kernel_rfl
@[go_sem] theorem pl13 : placesO Tryd.prog 13 = some [(0, 1), (1, 1)] := by kernel_rfl
@[go_sem] theorem ze13 : zeroOf Tryd.prog 13 = some (AV.agg [AV.sc (Value.string { data := { toList := [] } }), AV.sc (Value.int IntKind.u64 0)]) := by kernel_rfl
@[go_sem] theorem fo13_0 : fldO Tryd.prog 13 0 = some (0, 1, false) := by kernel_rfl
@[go_sem] theorem fo13_1 : fldO Tryd.prog 13 1 = some (1, 1, false) := by kernel_rfl
@[go_sem] theorem sz14 : szOf Tryd.prog 14 = some 2 := by kernel_rfl
@[go_sem] theorem ag14 : aggOf Tryd.prog 14 = some true := by kernel_rfl
@[go_sem] theorem pl14 : placesO Tryd.prog 14 = some [(0, 1), (1, 1)] := by kernel_rfl
@[go_sem] theorem ze14 : zeroOf Tryd.prog 14 = some (AV.agg [AV.sc (Value.string { data := { toList := [] } }), AV.sc (Value.int IntKind.u64 0)]) := by kernel_rfl
@[go_sem] theorem fo14_0 : fldO Tryd.prog 14 0 = some (0, 1, false) := by kernel_rfl
@[go_sem] theorem fo14_1 : fldO Tryd.prog 14 1 = some (1, 1, false) := by kernel_rfl
@[go_sem] theorem sz15 : szOf Tryd.prog 15 = some 1 := by kernel_rfl
@[go_sem] theorem ag15 : aggOf Tryd.prog 15 = some false := by kernel_rfl
@[go_sem] theorem ze15 : zeroOf Tryd.prog 15 = some AV.nilP := by kernel_rfl
@[go_sem] theorem sz16 : szOf Tryd.prog 16 = some 1 := by kernel_rfl
@[go_sem] theorem ag16 : aggOf Tryd.prog 16 = some false := by kernel_rfl
@[go_sem] theorem ze16 : zeroOf Tryd.prog 16 = some AV.nilP := by kernel_rfl
@[go_sem] theorem sz17 : szOf Tryd.prog 17 = some 1 := by kernel_rfl
@[go_sem] theorem ag17 : aggOf Tryd.prog 17 = some false := by kernel_rfl
@[go_sem] theorem ze17 : zeroOf Tryd.prog 17 = some AV.nilP := by kernel_rfl
@[go_sem] theorem sz18 : szOf Tryd.prog 18 = some 1 := by kernel_rfl
@[go_sem] theorem ag18 : aggOf Tryd.prog 18 = some true := by kernel_rfl
@[go_sem] theorem pl18 : placesO Tryd.prog 18 = some [(0, 1)] := by kernel_rfl
@[go_sem] theorem ze18 : zeroOf Tryd.prog 18 = some (AV.agg [AV.nilP]) := by kernel_rfl
@[go_sem] theorem fo18_0 : fldO Tryd.prog 18 0 = some (0, 1, false) := by kernel_rfl
@[go_sem] theorem sz19 : szOf Tryd.prog 19 = some 1 := by kernel_rfl
@[go_sem] theorem ag19 : aggOf Tryd.prog 19 = some true := by kernel_rfl
@[go_sem] theorem pl19 : placesO Tryd.prog 19 = some [(0, 1)] := by kernel_rfl
@[go_sem] theorem ze19 : zeroOf Tryd.prog 19 = some (AV.agg [AV.nilP]) := by kernel_rfl
@[go_sem] theorem fo19_0 : fldO Tryd.prog 19 0 = some (0, 1, false) := by kernel_rfl
@[go_sem] theorem sz20 : szOf Tryd.prog 20 = some 1 := by kernel_rfl
@[go_sem] theorem ag20 : aggOf Tryd.prog 20 = some false := by kernel_rfl
@[go_sem] theorem ze20 : zeroOf Tryd.prog 20 = some AV.nilI := by kernel_rfl
@[go_sem] theorem sz21 : szOf Tryd.prog 21 = some 1 := by kernel_rfl
@[go_sem] theorem ag21 : aggOf Tryd.prog 21 = some false := by kernel_rfl
@[go_sem] theorem ze21 : zeroOf Tryd.prog 21 = some (AV.sc (Value.int IntKind.i32 0)) := by kernel_rfl
@[go_sem] theorem sz22 : szOf Tryd.prog 22 = some 1 := by kernel_rfl
@[go_sem] theorem ag22 : aggOf Tryd.prog 22 = some false := by kernel_rfl
@[go_sem] theorem es22 : elemSz Tryd.prog 22 = some 4 := by kernel_rfl
@[go_sem] theorem bo22 : buildOk Tryd.prog 22 = false := by kernel_rfl
@[go_sem] theorem bw22 : buildW Tryd.prog 22 = some 4 := by kernel_rfl
@[go_sem] theorem mk22 : mkOk Tryd.prog 22 = some (48, 4, 56, AV.agg [AV.sc (Value.string { data := { toList := [] } }), AV.sc (Value.bool false), AV.sc (Value.string { data := { toList := [] } }), AV.sc (Value.string { data := { toList := [] } })]) := by kernel_rfl
@[go_sem] theorem ze22 : zeroOf Tryd.prog 22 = some AV.nilS := by kernel_rfl
@[go_sem] theorem ap22 : appOk Tryd.prog 22 22 = some (48, 4) := by kernel_rfl
@[go_sem] theorem sz23 : szOf Tryd.prog 23 = some 1 := by kernel_rfl
@[go_sem] theorem ag23 : aggOf Tryd.prog 23 = some false := by kernel_rfl
@[go_sem] theorem ze23 : zeroOf Tryd.prog 23 = some AV.nilF := by kernel_rfl
@[go_sem] theorem sz24 : szOf Tryd.prog 24 = some 1 := by kernel_rfl
@[go_sem] theorem ag24 : aggOf Tryd.prog 24 = some false := by kernel_rfl
@[go_sem] theorem es24 : elemSz Tryd.prog 24 = some 5 := by kernel_rfl
@[go_sem] theorem bo24 : buildOk Tryd.prog 24 = false := by kernel_rfl
@[go_sem] theorem bw24 : buildW Tryd.prog 24 = some 5 := by kernel_rfl
@[go_sem] theorem mk24 : mkOk Tryd.prog 24 = some (52, 5, 64, AV.agg [AV.sc (Value.int IntKind.u8 0), AV.sc (Value.string { data := { toList := [] } }), AV.sc (Value.string { data := { toList := [] } }), AV.sc (Value.int IntKind.i64 0), AV.sc (Value.string { data := { toList := [] } })]) := by kernel_rfl
@[go_sem] theorem ze24 : zeroOf Tryd.prog 24 = some AV.nilS := by kernel_rfl
@[go_sem] theorem ap24 : appOk Tryd.prog 24 24 = some (52, 5) := by kernel_rfl
@[go_sem] theorem sz25 : szOf Tryd.prog 25 = some 1 := by kernel_rfl
@[go_sem] theorem ag25 : aggOf Tryd.prog 25 = some false := by kernel_rfl
@[go_sem] theorem ze25 : zeroOf Tryd.prog 25 = some (AV.sc (Value.int IntKind.i64 0)) := by kernel_rfl
@[go_sem] theorem sz26 : szOf Tryd.prog 26 = some 1 := by kernel_rfl
@[go_sem] theorem ag26 : aggOf Tryd.prog 26 = some false := by kernel_rfl
@[go_sem] theorem sz27 : szOf Tryd.prog 27 = some 1 := by kernel_rfl
@[go_sem] theorem ag27 : aggOf Tryd.prog 27 = some false := by kernel_rfl
@[go_sem] theorem ze27 : zeroOf Tryd.prog 27 = some AV.nilF := by kernel_rfl
@[go_sem] theorem sz28 : szOf Tryd.prog 28 = some 1 := by kernel_rfl
@[go_sem] theorem ag28 : aggOf Tryd.prog 28 = some false := by kernel_rfl
@[go_sem] theorem es28 : elemSz Tryd.prog 28 = some 1 := by kernel_rfl
@[go_sem] theorem bo28 : buildOk Tryd.prog 28 = true := by kernel_rfl
@[go_sem] theorem bw28 : buildW Tryd.prog 28 = some 1 := by kernel_rfl
@[go_sem] theorem mk28 : mkOk Tryd.prog 28 = some (10, 1, 16, AV.sc (Value.string { data := { toList := [] } })) := by kernel_rfl
@[go_sem] theorem ze28 : zeroOf Tryd.prog 28 = some AV.nilS := by kernel_rfl
@[go_sem] theorem ap28 : appOk Tryd.prog 28 28 = some (10, 1) := by kernel_rfl
@[go_sem] theorem sz29 : szOf Tryd.prog 29 = some 1 := by kernel_rfl
@[go_sem] theorem ag29 : aggOf Tryd.prog 29 = some false := by kernel_rfl
@[go_sem] theorem sz30 : szOf Tryd.prog 30 = some 1 := by kernel_rfl
@[go_sem] theorem ag30 : aggOf Tryd.prog 30 = some false := by kernel_rfl
@[go_sem] theorem ze30 : zeroOf Tryd.prog 30 = some AV.nilF := by kernel_rfl
@[go_sem] theorem sz31 : szOf Tryd.prog 31 = some 1 := by kernel_rfl
@[go_sem] theorem ag31 : aggOf Tryd.prog 31 = some false := by kernel_rfl
@[go_sem] theorem ze31 : zeroOf Tryd.prog 31 = some AV.nilF := by kernel_rfl
@[go_sem] theorem sz32 : szOf Tryd.prog 32 = some 1 := by kernel_rfl
@[go_sem] theorem ag32 : aggOf Tryd.prog 32 = some false := by kernel_rfl
@[go_sem] theorem ze32 : zeroOf Tryd.prog 32 = some AV.nilF := by kernel_rfl
@[go_sem] theorem sz33 : szOf Tryd.prog 33 = some 1 := by kernel_rfl
@[go_sem] theorem ag33 : aggOf Tryd.prog 33 = some false := by kernel_rfl
@[go_sem] theorem ze33 : zeroOf Tryd.prog 33 = some AV.nilF := by kernel_rfl
@[go_sem] theorem sz34 : szOf Tryd.prog 34 = some 1 := by kernel_rfl
@[go_sem] theorem ag34 : aggOf Tryd.prog 34 = some false := by kernel_rfl
@[go_sem] theorem ze34 : zeroOf Tryd.prog 34 = some AV.nilF := by kernel_rfl
@[go_sem] theorem sz35 : szOf Tryd.prog 35 = some 1 := by kernel_rfl
@[go_sem] theorem ag35 : aggOf Tryd.prog 35 = some false := by kernel_rfl
@[go_sem] theorem ze35 : zeroOf Tryd.prog 35 = some AV.nilF := by kernel_rfl
@[go_sem] theorem sz36 : szOf Tryd.prog 36 = some 1 := by kernel_rfl
@[go_sem] theorem ag36 : aggOf Tryd.prog 36 = some false := by kernel_rfl
@[go_sem] theorem ze36 : zeroOf Tryd.prog 36 = some AV.nilF := by kernel_rfl
@[go_sem] theorem sz37 : szOf Tryd.prog 37 = some 1 := by kernel_rfl
@[go_sem] theorem ag37 : aggOf Tryd.prog 37 = some false := by kernel_rfl
@[go_sem] theorem sz38 : szOf Tryd.prog 38 = some 1 := by kernel_rfl
@[go_sem] theorem ag38 : aggOf Tryd.prog 38 = some false := by kernel_rfl
@[go_sem] theorem ze38 : zeroOf Tryd.prog 38 = some AV.nilF := by kernel_rfl
@[go_sem] theorem sz39 : szOf Tryd.prog 39 = some 1 := by kernel_rfl
@[go_sem] theorem ag39 : aggOf Tryd.prog 39 = some false := by kernel_rfl
@[go_sem] theorem ze39 : zeroOf Tryd.prog 39 = some AV.nilF := by kernel_rfl
@[go_sem] theorem sz40 : szOf Tryd.prog 40 = some 1 := by kernel_rfl
@[go_sem] theorem ag40 : aggOf Tryd.prog 40 = some false := by kernel_rfl
@[go_sem] theorem ke40 : keyO Tryd.prog 40 = some TypeDesc.string := by kernel_rfl
@[go_sem] theorem ze40 : zeroOf Tryd.prog 40 = some AV.nilM := by kernel_rfl
@[go_sem] theorem lo40 : lookO Tryd.prog 40 = some (TypeDesc.string, AV.agg [AV.sc (Value.string { data := { toList := [] } }), AV.sc (Value.bool false), AV.sc (Value.string { data := { toList := [] } }), AV.sc (Value.string { data := { toList := [] } })]) := by kernel_rfl
@[go_sem] theorem sz41 : szOf Tryd.prog 41 = some 1 := by kernel_rfl
@[go_sem] theorem ag41 : aggOf Tryd.prog 41 = some false := by kernel_rfl
@[go_sem] theorem ke41 : keyO Tryd.prog 41 = some TypeDesc.string := by kernel_rfl
@[go_sem] theorem ze41 : zeroOf Tryd.prog 41 = some AV.nilM := by kernel_rfl
@[go_sem] theorem lo41 : lookO Tryd.prog 41 = some (TypeDesc.string, AV.nilS) := by kernel_rfl
@[go_sem] theorem sz42 : szOf Tryd.prog 42 = some 3 := by kernel_rfl
@[go_sem] theorem ag42 : aggOf Tryd.prog 42 = some true := by kernel_rfl
@[go_sem] theorem pl42 : placesO Tryd.prog 42 = some [(0, 1), (1, 1), (2, 1)] := by kernel_rfl
@[go_sem] theorem ze42 : zeroOf Tryd.prog 42 = some (AV.agg [AV.nilS, AV.nilM, AV.nilM]) := by kernel_rfl
@[go_sem] theorem fo42_0 : fldO Tryd.prog 42 0 = some (0, 1, false) := by kernel_rfl
@[go_sem] theorem fo42_1 : fldO Tryd.prog 42 1 = some (1, 1, false) := by kernel_rfl
@[go_sem] theorem fo42_2 : fldO Tryd.prog 42 2 = some (2, 1, false) := by kernel_rfl
@[go_sem] theorem sz43 : szOf Tryd.prog 43 = some 3 := by kernel_rfl
@[go_sem] theorem ag43 : aggOf Tryd.prog 43 = some true := by kernel_rfl
@[go_sem] theorem pl43 : placesO Tryd.prog 43 = some [(0, 1), (1, 1), (2, 1)] := by kernel_rfl
@[go_sem] theorem ze43 : zeroOf Tryd.prog 43 = some (AV.agg [AV.nilS, AV.nilM, AV.nilM]) := by kernel_rfl
@[go_sem] theorem fo43_0 : fldO Tryd.prog 43 0 = some (0, 1, false) := by kernel_rfl
@[go_sem] theorem fo43_1 : fldO Tryd.prog 43 1 = some (1, 1, false) := by kernel_rfl
@[go_sem] theorem fo43_2 : fldO Tryd.prog 43 2 = some (2, 1, false) := by kernel_rfl
@[go_sem] theorem sz44 : szOf Tryd.prog 44 = some 1 := by kernel_rfl
@[go_sem] theorem ag44 : aggOf Tryd.prog 44 = some false := by kernel_rfl
@[go_sem] theorem sz45 : szOf Tryd.prog 45 = some 1 := by kernel_rfl
@[go_sem] theorem ag45 : aggOf Tryd.prog 45 = some false := by kernel_rfl
@[go_sem] theorem ze45 : zeroOf Tryd.prog 45 = some AV.nilF := by kernel_rfl
@[go_sem] theorem sz46 : szOf Tryd.prog 46 = some 4 := by kernel_rfl
@[go_sem] theorem ag46 : aggOf Tryd.prog 46 = some true := by kernel_rfl
@[go_sem] theorem fl46 : flatS Tryd.prog 46 = some [TypeDesc.string, TypeDesc.bool, TypeDesc.string, TypeDesc.string] := by kernel_rfl
@[go_sem] theorem pl46 : placesO Tryd.prog 46 = some [(0, 1), (1, 1), (2, 1), (3, 1)] := by kernel_rfl
@[go_sem] theorem ze46 : zeroOf Tryd.prog 46 = some (AV.agg [AV.sc (Value.string { data := { toList := [] } }), AV.sc (Value.bool false), AV.sc (Value.string { data := { toList := [] } }), AV.sc (Value.string { data := { toList := [] } })]) := by kernel_rfl
@[go_sem] theorem fo46_0 : fldO Tryd.prog 46 0 = some (0, 1, false) := by kernel_rfl
@[go_sem] theorem fo46_1 : fldO Tryd.prog 46 1 = some (1, 1, false) := by kernel_rfl
@[go_sem] theorem fo46_2 : fldO Tryd.prog 46 2 = some (2, 1, false) := by kernel_rfl
@[go_sem] theorem fo46_3 : fldO Tryd.prog 46 3 = some (3, 1, false) := by kernel_rfl
@[go_sem] theorem sz47 : szOf Tryd.prog 47 = some 4 := by kernel_rfl
@[go_sem] theorem ag47 : aggOf Tryd.prog 47 = some true := by kernel_rfl
@[go_sem] theorem fl47 : flatS Tryd.prog 47 = some [TypeDesc.string, TypeDesc.bool, TypeDesc.string, TypeDesc.string] := by kernel_rfl
@[go_sem] theorem pl47 : placesO Tryd.prog 47 = some [(0, 1), (1, 1), (2, 1), (3, 1)] := by kernel_rfl
@[go_sem] theorem ze47 : zeroOf Tryd.prog 47 = some (AV.agg [AV.sc (Value.string { data := { toList := [] } }), AV.sc (Value.bool false), AV.sc (Value.string { data := { toList := [] } }), AV.sc (Value.string { data := { toList := [] } })]) := by kernel_rfl
@[go_sem] theorem fo47_0 : fldO Tryd.prog 47 0 = some (0, 1, false) := by kernel_rfl
@[go_sem] theorem fo47_1 : fldO Tryd.prog 47 1 = some (1, 1, false) := by kernel_rfl
@[go_sem] theorem fo47_2 : fldO Tryd.prog 47 2 = some (2, 1, false) := by kernel_rfl
@[go_sem] theorem fo47_3 : fldO Tryd.prog 47 3 = some (3, 1, false) := by kernel_rfl
@[go_sem] theorem sz48 : szOf Tryd.prog 48 = some 1 := by kernel_rfl
@[go_sem] theorem ag48 : aggOf Tryd.prog 48 = some false := by kernel_rfl
@[go_sem] theorem ze48 : zeroOf Tryd.prog 48 = some AV.nilF := by kernel_rfl
@[go_sem] theorem sz49 : szOf Tryd.prog 49 = some 1 := by kernel_rfl
@[go_sem] theorem ag49 : aggOf Tryd.prog 49 = some false := by kernel_rfl
@[go_sem] theorem ze49 : zeroOf Tryd.prog 49 = some (AV.sc (Value.int IntKind.u8 0)) := by kernel_rfl
@[go_sem] theorem sz50 : szOf Tryd.prog 50 = some 5 := by kernel_rfl
@[go_sem] theorem ag50 : aggOf Tryd.prog 50 = some true := by kernel_rfl
@[go_sem] theorem fl50 : flatS Tryd.prog 50 = some [TypeDesc.int IntKind.u8, TypeDesc.string, TypeDesc.string, TypeDesc.int IntKind.i64, TypeDesc.string] := by kernel_rfl
@[go_sem] theorem pl50 : placesO Tryd.prog 50 = some [(0, 1), (1, 1), (2, 1), (3, 1), (4, 1)] := by kernel_rfl
@[go_sem] theorem ze50 : zeroOf Tryd.prog 50 = some (AV.agg [AV.sc (Value.int IntKind.u8 0), AV.sc (Value.string { data := { toList := [] } }), AV.sc (Value.string { data := { toList := [] } }), AV.sc (Value.int IntKind.i64 0), AV.sc (Value.string { data := { toList := [] } })]) := by kernel_rfl
@[go_sem] theorem fo50_0 : fldO Tryd.prog 50 0 = some (0, 1, false) := by kernel_rfl
@[go_sem] theorem fo50_1 : fldO Tryd.prog 50 1 = some (1, 1, false) := by kernel_rfl
@[go_sem] theorem fo50_2 : fldO Tryd.prog 50 2 = some (2, 1, false) := by kernel_rfl
@[go_sem] theorem fo50_3 : fldO Tryd.prog 50 3 = some (3, 1, false) := by kernel_rfl
@[go_sem] theorem fo50_4 : fldO Tryd.prog 50 4 = some (4, 1, false) := by kernel_rfl
@[go_sem] theorem sz51 : szOf Tryd.prog 51 = some 5 := by kernel_rfl
@[go_sem] theorem ag51 : aggOf Tryd.prog 51 = some true := by kernel_rfl
@[go_sem] theorem fl51 : flatS Tryd.prog 51 = some [TypeDesc.int IntKind.u8, TypeDesc.string, TypeDesc.string, TypeDesc.int IntKind.i64, TypeDesc.string] := by kernel_rfl
@[go_sem] theorem pl51 : placesO Tryd.prog 51 = some [(0, 1), (1, 1), (2, 1), (3, 1), (4, 1)] := by kernel_rfl
@[go_sem] theorem ze51 : zeroOf Tryd.prog 51 = some (AV.agg [AV.sc (Value.int IntKind.u8 0), AV.sc (Value.string { data := { toList := [] } }), AV.sc (Value.string { data := { toList := [] } }), AV.sc (Value.int IntKind.i64 0), AV.sc (Value.string { data := { toList := [] } })]) := by kernel_rfl
@[go_sem] theorem fo51_0 : fldO Tryd.prog 51 0 = some (0, 1, false) := by kernel_rfl
@[go_sem] theorem fo51_1 : fldO Tryd.prog 51 1 = some (1, 1, false) := by kernel_rfl
@[go_sem] theorem fo51_2 : fldO Tryd.prog 51 2 = some (2, 1, false) := by kernel_rfl
@[go_sem] theorem fo51_3 : fldO Tryd.prog 51 3 = some (3, 1, false) := by kernel_rfl
@[go_sem] theorem fo51_4 : fldO Tryd.prog 51 4 = some (4, 1, false) := by kernel_rfl
@[go_sem] theorem sz52 : szOf Tryd.prog 52 = some 1 := by kernel_rfl
@[go_sem] theorem ag52 : aggOf Tryd.prog 52 = some false := by kernel_rfl
@[go_sem] theorem ze52 : zeroOf Tryd.prog 52 = some AV.nilF := by kernel_rfl
@[go_sem] theorem sz53 : szOf Tryd.prog 53 = some 1 := by kernel_rfl
@[go_sem] theorem ag53 : aggOf Tryd.prog 53 = some false := by kernel_rfl
@[go_sem] theorem ze53 : zeroOf Tryd.prog 53 = some AV.nilF := by kernel_rfl
@[go_sem] theorem sz54 : szOf Tryd.prog 54 = some 1 := by kernel_rfl
@[go_sem] theorem ag54 : aggOf Tryd.prog 54 = some false := by kernel_rfl
@[go_sem] theorem ze54 : zeroOf Tryd.prog 54 = some AV.nilF := by kernel_rfl
@[go_sem] theorem sz55 : szOf Tryd.prog 55 = some 1 := by kernel_rfl
@[go_sem] theorem ag55 : aggOf Tryd.prog 55 = some false := by kernel_rfl
@[go_sem] theorem ze55 : zeroOf Tryd.prog 55 = some AV.nilF := by kernel_rfl
@[go_sem] theorem sz56 : szOf Tryd.prog 56 = some 1 := by kernel_rfl
@[go_sem] theorem ag56 : aggOf Tryd.prog 56 = some false := by kernel_rfl
@[go_sem] theorem ze56 : zeroOf Tryd.prog 56 = some AV.nilF := by kernel_rfl
@[go_sem] theorem sz57 : szOf Tryd.prog 57 = some 1 := by kernel_rfl
@[go_sem] theorem ag57 : aggOf Tryd.prog 57 = some false := by kernel_rfl
@[go_sem] theorem ze57 : zeroOf Tryd.prog 57 = some AV.nilF := by kernel_rfl
@[go_sem] theorem sz58 : szOf Tryd.prog 58 = some 1 := by kernel_rfl
@[go_sem] theorem ag58 : aggOf Tryd.prog 58 = some false := by kernel_rfl
@[go_sem] theorem sz59 : szOf Tryd.prog 59 = some 1 := by kernel_rfl
@[go_sem] theorem ag59 : aggOf Tryd.prog 59 = some false := by kernel_rfl
@[go_sem] theorem ze59 : zeroOf Tryd.prog 59 = some AV.nilF := by kernel_rfl
@[go_sem] theorem sz60 : szOf Tryd.prog 60 = some 1 := by kernel_rfl
@[go_sem] theorem ag60 : aggOf Tryd.prog 60 = some false := by kernel_rfl
@[go_sem] theorem ze60 : zeroOf Tryd.prog 60 = some AV.nilF := by kernel_rfl
@[go_sem] theorem sz61 : szOf Tryd.prog 61 = some 1 := by kernel_rfl
@[go_sem] theorem ag61 : aggOf Tryd.prog 61 = some false := by kernel_rfl
@[go_sem] theorem sz62 : szOf Tryd.prog 62 = some 1 := by kernel_rfl
@[go_sem] theorem ag62 : aggOf Tryd.prog 62 = some false := by kernel_rfl
@[go_sem] theorem ze62 : zeroOf Tryd.prog 62 = some AV.nilF := by kernel_rfl
@[go_sem] theorem sz63 : szOf Tryd.prog 63 = some 1 := by kernel_rfl
@[go_sem] theorem ag63 : aggOf Tryd.prog 63 = some false := by kernel_rfl
@[go_sem] theorem ze63 : zeroOf Tryd.prog 63 = some AV.nilF := by kernel_rfl
@[go_sem] theorem sz64 : szOf Tryd.prog 64 = some 1 := by kernel_rfl
@[go_sem] theorem ag64 : aggOf Tryd.prog 64 = some false := by kernel_rfl
@[go_sem] theorem es64 : elemSz Tryd.prog 64 = some 1 := by kernel_rfl
@[go_sem] theorem bo64 : buildOk Tryd.prog 64 = true := by kernel_rfl
@[go_sem] theorem bw64 : buildW Tryd.prog 64 = some 1 := by kernel_rfl
@[go_sem] theorem mk64 : mkOk Tryd.prog 64 = some (6, 1, 1, AV.sc (Value.int IntKind.u8 0)) := by kernel_rfl
@[go_sem] theorem ze64 : zeroOf Tryd.prog 64 = some AV.nilS := by kernel_rfl
@[go_sem] theorem ap64 : appOk Tryd.prog 64 64 = some (6, 1) := by kernel_rfl
@[go_sem] theorem sz65 : szOf Tryd.prog 65 = some 1 := by kernel_rfl
@[go_sem] theorem ag65 : aggOf Tryd.prog 65 = some false := by kernel_rfl
@[go_sem] theorem sz66 : szOf Tryd.prog 66 = some 1 := by kernel_rfl
@[go_sem] theorem ag66 : aggOf Tryd.prog 66 = some false := by kernel_rfl
@[go_sem] theorem ze66 : zeroOf Tryd.prog 66 = some AV.nilF := by kernel_rfl
@[go_sem] theorem sz67 : szOf Tryd.prog 67 = some 1 := by kernel_rfl
@[go_sem] theorem ag67 : aggOf Tryd.prog 67 = some false := by kernel_rfl
@[go_sem] theorem ze67 : zeroOf Tryd.prog 67 = some (AV.sc (Value.int IntKind.u64 0)) := by kernel_rfl
@[go_sem] theorem sz68 : szOf Tryd.prog 68 = some 1 := by kernel_rfl
@[go_sem] theorem ag68 : aggOf Tryd.prog 68 = some false := by kernel_rfl
@[go_sem] theorem ze68 : zeroOf Tryd.prog 68 = some AV.nilF := by kernel_rfl
@[go_sem] theorem sz69 : szOf Tryd.prog 69 = some 1 := by kernel_rfl
@[go_sem] theorem ag69 : aggOf Tryd.prog 69 = some false := by kernel_rfl
@[go_sem] theorem ze69 : zeroOf Tryd.prog 69 = some AV.nilF := by kernel_rfl
@[go_sem] theorem sz70 : szOf Tryd.prog 70 = some 1 := by kernel_rfl
@[go_sem] theorem ag70 : aggOf Tryd.prog 70 = some false := by kernel_rfl
@[go_sem] theorem ze70 : zeroOf Tryd.prog 70 = some AV.nilP := by kernel_rfl
@[go_sem] theorem sz71 : szOf Tryd.prog 71 = some 2 := by kernel_rfl
@[go_sem] theorem ag71 : aggOf Tryd.prog 71 = some true := by kernel_rfl
@[go_sem] theorem pl71 : placesO Tryd.prog 71 = some [(0, 1), (1, 1)] := by kernel_rfl
@[go_sem] theorem ze71 : zeroOf Tryd.prog 71 = some (AV.agg [AV.nilP, AV.nilS]) := by kernel_rfl
@[go_sem] theorem fo71_0 : fldO Tryd.prog 71 0 = some (0, 1, false) := by kernel_rfl
@[go_sem] theorem fo71_1 : fldO Tryd.prog 71 1 = some (1, 1, false) := by kernel_rfl
@[go_sem] theorem sz72 : szOf Tryd.prog 72 = some 2 := by kernel_rfl
@[go_sem] theorem ag72 : aggOf Tryd.prog 72 = some true := by kernel_rfl
@[go_sem] theorem pl72 : placesO Tryd.prog 72 = some [(0, 1), (1, 1)] := by kernel_rfl
@[go_sem] theorem ze72 : zeroOf Tryd.prog 72 = some (AV.agg [AV.nilP, AV.nilS]) := by kernel_rfl
@[go_sem] theorem fo72_0 : fldO Tryd.prog 72 0 = some (0, 1, false) := by kernel_rfl
@[go_sem] theorem fo72_1 : fldO Tryd.prog 72 1 = some (1, 1, false) := by kernel_rfl
@[go_sem] theorem sz73 : szOf Tryd.prog 73 = some 1 := by kernel_rfl
@[go_sem] theorem ag73 : aggOf Tryd.prog 73 = some false := by kernel_rfl
@[go_sem] theorem ze73 : zeroOf Tryd.prog 73 = some AV.nilI := by kernel_rfl
@[go_sem] theorem sz74 : szOf Tryd.prog 74 = some 1 := by kernel_rfl
@[go_sem] theorem ag74 : aggOf Tryd.prog 74 = some false := by kernel_rfl
@[go_sem] theorem ze74 : zeroOf Tryd.prog 74 = some AV.nilI := by kernel_rfl
@[go_sem] theorem sz75 : szOf Tryd.prog 75 = some 1 := by kernel_rfl
@[go_sem] theorem ag75 : aggOf Tryd.prog 75 = some false := by kernel_rfl
@[go_sem] theorem ze75 : zeroOf Tryd.prog 75 = some AV.nilF := by kernel_rfl
@[go_sem] theorem sz76 : szOf Tryd.prog 76 = some 1 := by kernel_rfl
@[go_sem] theorem ag76 : aggOf Tryd.prog 76 = some false := by kernel_rfl
@[go_sem] theorem ze76 : zeroOf Tryd.prog 76 = some AV.nilF := by kernel_rfl
@[go_sem] theorem sz77 : szOf Tryd.prog 77 = some 1 := by kernel_rfl
@[go_sem] theorem ag77 : aggOf Tryd.prog 77 = some false := by kernel_rfl
@[go_sem] theorem ze77 : zeroOf Tryd.prog 77 = some AV.nilF := by kernel_rfl
@[go_sem] theorem sz78 : szOf Tryd.prog 78 = some 1 := by kernel_rfl
@[go_sem] theorem ag78 : aggOf Tryd.prog 78 = some false := by kernel_rfl
@[go_sem] theorem ze78 : zeroOf Tryd.prog 78 = some AV.nilF := by kernel_rfl
@[go_sem] theorem sz79 : szOf Tryd.prog 79 = some 1 := by kernel_rfl
@[go_sem] theorem ag79 : aggOf Tryd.prog 79 = some false := by kernel_rfl
@[go_sem] theorem ze79 : zeroOf Tryd.prog 79 = some AV.nilF := by kernel_rfl
@[go_sem] theorem sz80 : szOf Tryd.prog 80 = some 1 := by kernel_rfl
@[go_sem] theorem ag80 : aggOf Tryd.prog 80 = some false := by kernel_rfl
@[go_sem] theorem ze80 : zeroOf Tryd.prog 80 = some AV.nilF := by kernel_rfl
@[go_sem] theorem sz81 : szOf Tryd.prog 81 = some 1 := by kernel_rfl
@[go_sem] theorem ag81 : aggOf Tryd.prog 81 = some false := by kernel_rfl
@[go_sem] theorem ze81 : zeroOf Tryd.prog 81 = some AV.nilF := by kernel_rfl
@[go_sem] theorem sz82 : szOf Tryd.prog 82 = some 1 := by kernel_rfl
@[go_sem] theorem ag82 : aggOf Tryd.prog 82 = some false := by kernel_rfl
@[go_sem] theorem es82 : elemSz Tryd.prog 82 = some 1 := by kernel_rfl
@[go_sem] theorem bo82 : buildOk Tryd.prog 82 = true := by kernel_rfl
@[go_sem] theorem bw82 : buildW Tryd.prog 82 = some 1 := by kernel_rfl
@[go_sem] theorem mk82 : mkOk Tryd.prog 82 = some (25, 1, 24, AV.nilS) := by kernel_rfl
@[go_sem] theorem ze82 : zeroOf Tryd.prog 82 = some AV.nilS := by kernel_rfl
@[go_sem] theorem ap82 : appOk Tryd.prog 82 82 = some (25, 1) := by kernel_rfl
@[go_sem] theorem sz83 : szOf Tryd.prog 83 = some 1 := by kernel_rfl
@[go_sem] theorem ag83 : aggOf Tryd.prog 83 = some false := by kernel_rfl
@[go_sem] theorem ze83 : zeroOf Tryd.prog 83 = some AV.nilF := by kernel_rfl
@[go_sem] theorem sz84 : szOf Tryd.prog 84 = some 1 := by kernel_rfl
@[go_sem] theorem ag84 : aggOf Tryd.prog 84 = some false := by kernel_rfl
@[go_sem] theorem ze84 : zeroOf Tryd.prog 84 = some AV.nilF := by kernel_rfl
@[go_sem] theorem sz85 : szOf Tryd.prog 85 = some 1 := by kernel_rfl
@[go_sem] theorem ag85 : aggOf Tryd.prog 85 = some false := by kernel_rfl
@[go_sem] theorem sz86 : szOf Tryd.prog 86 = some 1 := by kernel_rfl
@[go_sem] theorem ag86 : aggOf Tryd.prog 86 = some false := by kernel_rfl
@[go_sem] theorem ze86 : zeroOf Tryd.prog 86 = some AV.nilF := by kernel_rfl
@[go_sem] theorem sz87 : szOf Tryd.prog 87 = some 1 := by kernel_rfl
@[go_sem] theorem ag87 : aggOf Tryd.prog 87 = some false := by kernel_rfl
@[go_sem] theorem ze87 : zeroOf Tryd.prog 87 = some AV.nilF := by kernel_rfl
@[go_sem] theorem sz88 : szOf Tryd.prog 88 = some 1 := by kernel_rfl
@[go_sem] theorem ag88 : aggOf Tryd.prog 88 = some false := by kernel_rfl
@[go_sem] theorem sz89 : szOf Tryd.prog 89 = some 1 := by kernel_rfl
@[go_sem] theorem ag89 : aggOf Tryd.prog 89 = some false := by kernel_rfl
@[go_sem] theorem ze89 : zeroOf Tryd.prog 89 = some AV.nilF := by kernel_rfl
@[go_sem] theorem sz90 : szOf Tryd.prog 90 = some 1 := by kernel_rfl
@[go_sem] theorem ag90 : aggOf Tryd.prog 90 = some false := by kernel_rfl
@[go_sem] theorem ze90 : zeroOf Tryd.prog 90 = some AV.nilF := by kernel_rfl
@[go_sem] theorem sz91 : szOf Tryd.prog 91 = some 1 := by kernel_rfl
@[go_sem] theorem ag91 : aggOf Tryd.prog 91 = some false := by kernel_rfl
@[go_sem] theorem us91 : ustO Tryd.prog 91 = some 6 := by kernel_rfl
@[go_sem] theorem ze91 : zeroOf Tryd.prog 91 = some AV.nilP := by kernel_rfl
@[go_sem] theorem sz92 : szOf Tryd.prog 92 = some 1 := by kernel_rfl
@[go_sem] theorem ag92 : aggOf Tryd.prog 92 = some false := by kernel_rfl
@[go_sem] theorem ze92 : zeroOf Tryd.prog 92 = some AV.nilF := by kernel_rfl
@[go_sem] theorem sz93 : szOf Tryd.prog 93 = some 1 := by kernel_rfl
@[go_sem] theorem ag93 : aggOf Tryd.prog 93 = some false := by kernel_rfl
@[go_sem] theorem ze93 : zeroOf Tryd.prog 93 = some AV.nilF := by kernel_rfl
@[go_sem] theorem sz94 : szOf Tryd.prog 94 = some 1 := by kernel_rfl
@[go_sem] theorem ag94 : aggOf Tryd.prog 94 = some false := by kernel_rfl
@[go_sem] theorem ze94 : zeroOf Tryd.prog 94 = some AV.nilF := by kernel_rfl
@[go_sem] theorem sz95 : szOf Tryd.prog 95 = some 1 := by kernel_rfl
@[go_sem] theorem ag95 : aggOf Tryd.prog 95 = some false := by kernel_rfl
@[go_sem] theorem sz96 : szOf Tryd.prog 96 = some 1 := by kernel_rfl
@[go_sem] theorem ag96 : aggOf Tryd.prog 96 = some false := by kernel_rfl
@[go_sem] theorem ze96 : zeroOf Tryd.prog 96 = some AV.nilF := by kernel_rfl
@[go_sem] theorem sz97 : szOf Tryd.prog 97 = some 1 := by kernel_rfl
@[go_sem] theorem ag97 : aggOf Tryd.prog 97 = some false := by kernel_rfl
@[go_sem] theorem ze97 : zeroOf Tryd.prog 97 = some AV.nilF := by kernel_rfl
@[go_sem] theorem sz98 : szOf Tryd.prog 98 = some 1 := by kernel_rfl
@[go_sem] theorem ag98 : aggOf Tryd.prog 98 = some false := by kernel_rfl
@[go_sem] theorem ze98 : zeroOf Tryd.prog 98 = some AV.nilF := by kernel_rfl
@[go_sem] theorem sz99 : szOf Tryd.prog 99 = some 1 := by kernel_rfl
@[go_sem] theorem ag99 : aggOf Tryd.prog 99 = some false := by kernel_rfl
@[go_sem] theorem ze99 : zeroOf Tryd.prog 99 = some AV.nilF := by kernel_rfl
@[go_sem] theorem sz100 : szOf Tryd.prog 100 = some 1 := by kernel_rfl
@[go_sem] theorem ag100 : aggOf Tryd.prog 100 = some false := by kernel_rfl
@[go_sem] theorem ze100 : zeroOf Tryd.prog 100 = some AV.nilP := by kernel_rfl
@[go_sem] theorem sz101 : szOf Tryd.prog 101 = some 1 := by kernel_rfl
@[go_sem] theorem ag101 : aggOf Tryd.prog 101 = some false := by kernel_rfl
@[go_sem] theorem ze101 : zeroOf Tryd.prog 101 = some AV.nilF := by kernel_rfl
@[go_sem] theorem sz102 : szOf Tryd.prog 102 = some 1 := by kernel_rfl
@[go_sem] theorem ag102 : aggOf Tryd.prog 102 = some false := by kernel_rfl
@[go_sem] theorem sz103 : szOf Tryd.prog 103 = some 1 := by kernel_rfl
@[go_sem] theorem ag103 : aggOf Tryd.prog 103 = some false := by kernel_rfl
@[go_sem] theorem ze103 : zeroOf Tryd.prog 103 = some AV.nilF := by kernel_rfl
@[go_sem] theorem sz104 : szOf Tryd.prog 104 = some 1 := by kernel_rfl
@[go_sem] theorem ag104 : aggOf Tryd.prog 104 = some false := by kernel_rfl
@[go_sem] theorem ze104 : zeroOf Tryd.prog 104 = some AV.nilF := by kernel_rfl
@[go_sem] theorem sz105 : szOf Tryd.prog 105 = some 1 := by kernel_rfl
@[go_sem] theorem ag105 : aggOf Tryd.prog 105 = some false := by kernel_rfl
@[go_sem] theorem ze105 : zeroOf Tryd.prog 105 = some AV.nilF := by kernel_rfl
@[go_sem] theorem sz106 : szOf Tryd.prog 106 = some 1 := by kernel_rfl
@[go_sem] theorem ag106 : aggOf Tryd.prog 106 = some false := by kernel_rfl
@[go_sem] theorem ze106 : zeroOf Tryd.prog 106 = some AV.nilF := by kernel_rfl
@[go_sem] theorem sz107 : szOf Tryd.prog 107 = some 1 := by kernel_rfl
@[go_sem] theorem ag107 : aggOf Tryd.prog 107 = some false := by kernel_rfl
@[go_sem] theorem ze107 : zeroOf Tryd.prog 107 = some AV.nilF := by kernel_rfl
@[go_sem] theorem sz108 : szOf Tryd.prog 108 = some 1 := by kernel_rfl
@[go_sem] theorem ag108 : aggOf Tryd.prog 108 = some false := by kernel_rfl
@[go_sem] theorem ze108 : zeroOf Tryd.prog 108 = some AV.nilF := by kernel_rfl
@[go_sem] theorem sz109 : szOf Tryd.prog 109 = some 1 := by kernel_rfl
@[go_sem] theorem ag109 : aggOf Tryd.prog 109 = some false := by kernel_rfl
@[go_sem] theorem ze109 : zeroOf Tryd.prog 109 = some AV.nilF := by kernel_rfl
@[go_sem] theorem sz110 : szOf Tryd.prog 110 = some 1 := by kernel_rfl
@[go_sem] theorem ag110 : aggOf Tryd.prog 110 = some false := by kernel_rfl
@[go_sem] theorem ze110 : zeroOf Tryd.prog 110 = some AV.nilF := by kernel_rfl
@[go_sem] theorem sz111 : szOf Tryd.prog 111 = some 1 := by kernel_rfl
@[go_sem] theorem ag111 : aggOf Tryd.prog 111 = some false := by kernel_rfl
@[go_sem] theorem ze111 : zeroOf Tryd.prog 111 = some AV.nilF := by kernel_rfl
@[go_sem] theorem sz112 : szOf Tryd.prog 112 = some 1 := by kernel_rfl
@[go_sem] theorem ag112 : aggOf Tryd.prog 112 = some false := by kernel_rfl
@[go_sem] theorem ze112 : zeroOf Tryd.prog 112 = some AV.nilF := by kernel_rfl
@[go_sem] theorem sz113 : szOf Tryd.prog 113 = some 1 := by kernel_rfl
@[go_sem] theorem ag113 : aggOf Tryd.prog 113 = some false := by kernel_rfl
@[go_sem] theorem ze113 : zeroOf Tryd.prog 113 = some AV.nilF := by kernel_rfl
@[go_sem] theorem sz114 : szOf Tryd.prog 114 = some 24 := by kernel_rfl
@[go_sem] theorem ag114 : aggOf Tryd.prog 114 = some true := by kernel_rfl
@[go_sem] theorem ar114 : arrOf Tryd.prog 114 = some (24, 1) := by kernel_rfl
@[go_sem] theorem sz115 : szOf Tryd.prog 115 = some 1 := by kernel_rfl
@[go_sem] theorem ag115 : aggOf Tryd.prog 115 = some false := by kernel_rfl
@[go_sem] theorem ze115 : zeroOf Tryd.prog 115 = some (AV.sc (Value.int IntKind.u64 0)) := by kernel_rfl
@[go_sem] theorem sz116 : szOf Tryd.prog 116 = some 1 := by kernel_rfl
@[go_sem] theorem ag116 : aggOf Tryd.prog 116 = some false := by kernel_rfl
@[go_sem] theorem ze116 : zeroOf Tryd.prog 116 = some AV.nilF := by kernel_rfl
@[go_sem] theorem sz117 : szOf Tryd.prog 117 = some 1 := by kernel_rfl
@[go_sem] theorem ag117 : aggOf Tryd.prog 117 = some false := by kernel_rfl
@[go_sem] theorem ze117 : zeroOf Tryd.prog 117 = some AV.nilF := by kernel_rfl
@[go_sem] theorem sz118 : szOf Tryd.prog 118 = some 1 := by kernel_rfl
@[go_sem] theorem ag118 : aggOf Tryd.prog 118 = some false := by kernel_rfl
@[go_sem] theorem sz119 : szOf Tryd.prog 119 = some 1 := by kernel_rfl
@[go_sem] theorem ag119 : aggOf Tryd.prog 119 = some false := by kernel_rfl
@[go_sem] theorem ze119 : zeroOf Tryd.prog 119 = some AV.nilF := by kernel_rfl
@[go_sem] theorem sz120 : szOf Tryd.prog 120 = some 1 := by kernel_rfl
@[go_sem] theorem ag120 : aggOf Tryd.prog 120 = some false := by kernel_rfl
@[go_sem] theorem ze120 : zeroOf Tryd.prog 120 = some AV.nilF := by kernel_rfl
@[go_sem] theorem sz121 : szOf Tryd.prog 121 = some 1 := by kernel_rfl
@[go_sem] theorem ag121 : aggOf Tryd.prog 121 = some false := by kernel_rfl
@[go_sem] theorem ze121 : zeroOf Tryd.prog 121 = some AV.nilF := by kernel_rfl
@[go_sem] theorem sz122 : szOf Tryd.prog 122 = some 1 := by kernel_rfl
@[go_sem] theorem ag122 : aggOf Tryd.prog 122 = some false := by kernel_rfl
@[go_sem] theorem ze122 : zeroOf Tryd.prog 122 = some AV.nilF := by kernel_rfl
@[go_sem] theorem sz123 : szOf Tryd.prog 123 = some 20 := by kernel_rfl
@[go_sem] theorem ag123 : aggOf Tryd.prog 123 = some true := by kernel_rfl
@[go_sem] theorem ar123 : arrOf Tryd.prog 123 = some (20, 1) := by kernel_rfl
@[go_sem] theorem sz124 : szOf Tryd.prog 124 = some 1 := by kernel_rfl
@[go_sem] theorem ag124 : aggOf Tryd.prog 124 = some false := by kernel_rfl
@[go_sem] theorem ze124 : zeroOf Tryd.prog 124 = some (AV.sc (Value.int IntKind.u32 0)) := by kernel_rfl
@[go_sem] theorem sz125 : szOf Tryd.prog 125 = some 65 := by kernel_rfl
@[go_sem] theorem ag125 : aggOf Tryd.prog 125 = some true := by kernel_rfl
@[go_sem] theorem ar125 : arrOf Tryd.prog 125 = some (65, 1) := by kernel_rfl
@[go_sem] theorem sz126 : szOf Tryd.prog 126 = some 1 := by kernel_rfl
@[go_sem] theorem ag126 : aggOf Tryd.prog 126 = some false := by kernel_rfl
@[go_sem] theorem ze126 : zeroOf Tryd.prog 126 = some AV.nilF := by kernel_rfl
@[go_sem] theorem sz127 : szOf Tryd.prog 127 = some 1 := by kernel_rfl
@[go_sem] theorem ag127 : aggOf Tryd.prog 127 = some false := by kernel_rfl
@[go_sem] theorem ze127 : zeroOf Tryd.prog 127 = some AV.nilF := by kernel_rfl
@[go_sem] theorem sz128 : szOf Tryd.prog 128 = some 1 := by kernel_rfl
@[go_sem] theorem ag128 : aggOf Tryd.prog 128 = some false := by kernel_rfl
@[go_sem] theorem ze128 : zeroOf Tryd.prog 128 = some AV.nilF := by kernel_rfl
@[go_sem] theorem sz129 : szOf Tryd.prog 129 = some 32 := by kernel_rfl
@[go_sem] theorem ag129 : aggOf Tryd.prog 129 = some true := by kernel_rfl
@[go_sem] theorem ar129 : arrOf Tryd.prog 129 = some (32, 1) := by kernel_rfl
@[go_sem] theorem sz130 : szOf Tryd.prog 130 = some 64 := by kernel_rfl
@[go_sem] theorem ag130 : aggOf Tryd.prog 130 = some true := by kernel_rfl
@[go_sem] theorem ar130 : arrOf Tryd.prog 130 = some (64, 1) := by kernel_rfl
@[go_sem] theorem sz131 : szOf Tryd.prog 131 = some 4 := by kernel_rfl
@[go_sem] theorem ag131 : aggOf Tryd.prog 131 = some true := by kernel_rfl
@[go_sem] theorem pl131 : placesO Tryd.prog 131 = some [(0, 1), (1, 1), (2, 1), (3, 1)] := by kernel_rfl
@[go_sem] theorem ze131 : zeroOf Tryd.prog 131 = some (AV.agg [AV.nilP, AV.nilP, AV.nilP, AV.sc (Value.string { data := { toList := [] } })]) := by kernel_rfl
@[go_sem] theorem fo131_0 : fldO Tryd.prog 131 0 = some (0, 1, false) := by kernel_rfl
@[go_sem] theorem fo131_1 : fldO Tryd.prog 131 1 = some (1, 1, false) := by kernel_rfl
@[go_sem] theorem fo131_2 : fldO Tryd.prog 131 2 = some (2, 1, false) := by kernel_rfl
@[go_sem] theorem fo131_3 : fldO Tryd.prog 131 3 = some (3, 1, false) := by kernel_rfl
@[go_sem] theorem sz132 : szOf Tryd.prog 132 = some 4 := by kernel_rfl
@[go_sem] theorem ag132 : aggOf Tryd.prog 132 = some true := by kernel_rfl
@[go_sem] theorem pl132 : placesO Tryd.prog 132 = some [(0, 1), (1, 1), (2, 1), (3, 1)] := by kernel_rfl
@[go_sem] theorem ze132 : zeroOf Tryd.prog 132 = some (AV.agg [AV.nilP, AV.nilP, AV.nilP, AV.sc (Value.string { data := { toList := [] } })]) := by kernel_rfl
@[go_sem] theorem fo132_0 : fldO Tryd.prog 132 0 = some (0, 1, false) := by kernel_rfl
@[go_sem] theorem fo132_1 : fldO Tryd.prog 132 1 = some (1, 1, false) := by kernel_rfl
@[go_sem] theorem fo132_2 : fldO Tryd.prog 132 2 = some (2, 1, false) := by kernel_rfl
@[go_sem] theorem fo132_3 : fldO Tryd.prog 132 3 = some (3, 1, false) := by kernel_rfl
@[go_sem] theorem sz133 : szOf Tryd.prog 133 = some 0 := by kernel_rfl
@[go_sem] theorem ag133 : aggOf Tryd.prog 133 = some true := by kernel_rfl
@[go_sem] theorem ar133 : arrOf Tryd.prog 133 = some (0, 1) := by kernel_rfl
@[go_sem] theorem ze133 : zeroOf Tryd.prog 133 = some (AV.agg []) := by kernel_rfl
@[go_sem] theorem sz134 : szOf Tryd.prog 134 = some 0 := by kernel_rfl
@[go_sem] theorem ag134 : aggOf Tryd.prog 134 = some true := by kernel_rfl
@[go_sem] theorem pl134 : placesO Tryd.prog 134 = some [(0, 0)] := by kernel_rfl
@[go_sem] theorem ze134 : zeroOf Tryd.prog 134 = some (AV.agg []) := by kernel_rfl
@[go_sem] theorem fo134_0 : fldO Tryd.prog 134 0 = some (0, 0, true) := by kernel_rfl
@[go_sem] theorem sz135 : szOf Tryd.prog 135 = some 0 := by kernel_rfl
@[go_sem] theorem ag135 : aggOf Tryd.prog 135 = some true := by kernel_rfl
@[go_sem] theorem pl135 : placesO Tryd.prog 135 = some [(0, 0)] := by kernel_rfl
@[go_sem] theorem ze135 : zeroOf Tryd.prog 135 = some (AV.agg []) := by kernel_rfl
@[go_sem] theorem fo135_0 : fldO Tryd.prog 135 0 = some (0, 0, true) := by kernel_rfl
@[go_sem] theorem sz136 : szOf Tryd.prog 136 = some 1 := by kernel_rfl
@[go_sem] theorem ag136 : aggOf Tryd.prog 136 = some false := by kernel_rfl
@[go_sem] theorem ze136 : zeroOf Tryd.prog 136 = some AV.nilF := by kernel_rfl
@[go_sem] theorem sz137 : szOf Tryd.prog 137 = some 1 := by kernel_rfl
@[go_sem] theorem ag137 : aggOf Tryd.prog 137 = some false := by kernel_rfl
@[go_sem] theorem ze137 : zeroOf Tryd.prog 137 = some (AV.sc (Value.int IntKind.u8 0)) := by kernel_rfl
@[go_sem] theorem sz138 : szOf Tryd.prog 138 = some 1 := by kernel_rfl
@[go_sem] theorem ag138 : aggOf Tryd.prog 138 = some false := by kernel_rfl
@[go_sem] theorem ze138 : zeroOf Tryd.prog 138 = some (AV.sc (Value.int IntKind.u8 0)) := by kernel_rfl
@[go_sem] theorem sz139 : szOf Tryd.prog 139 = some 1 := by kernel_rfl
@[go_sem] theorem ag139 : aggOf Tryd.prog 139 = some false := by kernel_rfl
@[go_sem] theorem ze139 : zeroOf Tryd.prog 139 = some AV.nilF := by kernel_rfl
@[go_sem] theorem sz140 : szOf Tryd.prog 140 = some 1 := by kernel_rfl
@[go_sem] theorem ag140 : aggOf Tryd.prog 140 = some false := by kernel_rfl
@[go_sem] theorem ze140 : zeroOf Tryd.prog 140 = some (AV.sc (Value.int IntKind.i32 0)) := by kernel_rfl
@[go_sem] theorem sz141 : szOf Tryd.prog 141 = some 1 := by kernel_rfl
@[go_sem] theorem ag141 : aggOf Tryd.prog 141 = some false := by kernel_rfl
@[go_sem] theorem ze141 : zeroOf Tryd.prog 141 = some (AV.sc (Value.int IntKind.i32 0)) := by kernel_rfl
@[go_sem] theorem sz142 : szOf Tryd.prog 142 = some 11 := by kernel_rfl
@[go_sem] theorem ag142 : aggOf Tryd.prog 142 = some true := by kernel_rfl
@[go_sem] theorem pl142 : placesO Tryd.prog 142 = some [(0, 1), (1, 1), (2, 1), (3, 1), (4, 1), (5, 1), (6, 1), (7, 1), (8, 1), (9, 1), (10, 1)] := by kernel_rfl
@[go_sem] theorem fo142_0 : fldO Tryd.prog 142 0 = some (0, 1, false) := by kernel_rfl
@[go_sem] theorem fo142_1 : fldO Tryd.prog 142 1 = some (1, 1, false) := by kernel_rfl
@[go_sem] theorem fo142_2 : fldO Tryd.prog 142 2 = some (2, 1, false) := by kernel_rfl
@[go_sem] theorem fo142_3 : fldO Tryd.prog 142 3 = some (3, 1, false) := by kernel_rfl
@[go_sem] theorem fo142_4 : fldO Tryd.prog 142 4 = some (4, 1, false) := by kernel_rfl
@[go_sem] theorem fo142_5 : fldO Tryd.prog 142 5 = some (5, 1, false) := by kernel_rfl
@[go_sem] theorem fo142_6 : fldO Tryd.prog 142 6 = some (6, 1, false) := by kernel_rfl
@[go_sem] theorem fo142_7 : fldO Tryd.prog 142 7 = some (7, 1, false) := by kernel_rfl
@[go_sem] theorem sz143 : szOf Tryd.prog 143 = some 11 := by kernel_rfl
@[go_sem] theorem ag143 : aggOf Tryd.prog 143 = some true := by kernel_rfl
@[go_sem] theorem pl143 : placesO Tryd.prog 143 = some [(0, 1), (1, 1), (2, 1), (3, 1), (4, 1), (5, 1), (6, 1), (7, 1), (8, 1), (9, 1), (10, 1)] := by kernel_rfl
@[go_sem] theorem fo143_0 : fldO Tryd.prog 143 0 = some (0, 1, false) := by kernel_rfl
@[go_sem] theorem fo143_1 : fldO Tryd.prog 143 1 = some (1, 1, false) := by kernel_rfl
@[go_sem] theorem fo143_2 : fldO Tryd.prog 143 2 = some (2, 1, false) := by kernel_rfl
@[go_sem] theorem fo143_3 : fldO Tryd.prog 143 3 = some (3, 1, false) := by kernel_rfl
@[go_sem] theorem fo143_4 : fldO Tryd.prog 143 4 = some (4, 1, false) := by kernel_rfl
@[go_sem] theorem fo143_5 : fldO Tryd.prog 143 5 = some (5, 1, false) := by kernel_rfl
@[go_sem] theorem fo143_6 : fldO Tryd.prog 143 6 = some (6, 1, false) := by kernel_rfl
@[go_sem] theorem fo143_7 : fldO Tryd.prog 143 7 = some (7, 1, false) := by kernel_rfl
@[go_sem] theorem ap64_9 : appOk Tryd.prog 64 9 = some (6, 1) := by kernel_rfl
attribute [go_sem] Tryd.underlying0 Tryd.underlying1 Tryd.underlying2 Tryd.underlying3 Tryd.underlying4 Tryd.underlying5 Tryd.underlying6 Tryd.underlying7 Tryd.underlying8 Tryd.underlying9 Tryd.underlying10 Tryd.underlying11 Tryd.underlying12 Tryd.underlying13 Tryd.underlying14 Tryd.underlying15 Tryd.underlying16 Tryd.underlying17 Tryd.underlying18 Tryd.underlying19 Tryd.underlying20 Tryd.underlying21 Tryd.underlying22 Tryd.underlying23 Tryd.underlying24 Tryd.underlying25 Tryd.underlying26 Tryd.underlying27 Tryd.underlying28 Tryd.underlying29 Tryd.underlying30 Tryd.underlying31 Tryd.underlying32 Tryd.underlying33 Tryd.underlying34 Tryd.underlying35 Tryd.underlying36 Tryd.underlying37 Tryd.underlying38 Tryd.underlying39 Tryd.underlying40 Tryd.underlying41 Tryd.underlying42 Tryd.underlying43 Tryd.underlying44 Tryd.underlying45 Tryd.underlying46 Tryd.underlying47 Tryd.underlying48 Tryd.underlying49 Tryd.underlying50 Tryd.underlying51 Tryd.underlying52 Tryd.underlying53 Tryd.underlying54 Tryd.underlying55 Tryd.underlying56 Tryd.underlying57 Tryd.underlying58 Tryd.underlying59 Tryd.underlying60 Tryd.underlying61 Tryd.underlying62 Tryd.underlying63 Tryd.underlying64 Tryd.underlying65 Tryd.underlying66 Tryd.underlying67 Tryd.underlying68 Tryd.underlying69 Tryd.underlying70 Tryd.underlying71 Tryd.underlying72 Tryd.underlying73 Tryd.underlying74 Tryd.underlying75 Tryd.underlying76 Tryd.underlying77 Tryd.underlying78 Tryd.underlying79 Tryd.underlying80 Tryd.underlying81 Tryd.underlying82 Tryd.underlying83 Tryd.underlying84 Tryd.underlying85 Tryd.underlying86 Tryd.underlying87 Tryd.underlying88 Tryd.underlying89 Tryd.underlying90 Tryd.underlying91 Tryd.underlying92 Tryd.underlying93 Tryd.underlying94 Tryd.underlying95 Tryd.underlying96 Tryd.underlying97 Tryd.underlying98 Tryd.underlying99 Tryd.underlying100 Tryd.underlying101 Tryd.underlying102 Tryd.underlying103 Tryd.underlying104 Tryd.underlying105 Tryd.underlying106 Tryd.underlying107 Tryd.underlying108 Tryd.underlying109 Tryd.underlying110 Tryd.underlying111 Tryd.underlying112 Tryd.underlying113 Tryd.underlying114 Tryd.underlying115 Tryd.underlying116 Tryd.underlying117 Tryd.underlying118 Tryd.underlying119 Tryd.underlying120 Tryd.underlying121 Tryd.underlying122 Tryd.underlying123 Tryd.underlying124 Tryd.underlying125 Tryd.underlying126 Tryd.underlying127 Tryd.underlying128 Tryd.underlying129 Tryd.underlying130 Tryd.underlying131 Tryd.underlying132 Tryd.underlying133 Tryd.underlying134 Tryd.underlying135 Tryd.underlying136 Tryd.underlying137 Tryd.underlying138 Tryd.underlying139 Tryd.underlying140 Tryd.underlying141 Tryd.underlying142 Tryd.underlying143
end Go.Proofs.YtcmjidnbbfcbjaaDoor.V
/- How the VM runs the functions of this seat; no condition. -/
namespace Go.Proofs.YtcmjidnbbfcbjaaDoor.V
open Go
set_option linter.unusedVariables false
set_option linter.unusedSimpArgs false
noncomputable section
def pow10 : List Int := [1,10,100,1000,10000,100000,1000000,10000000,100000000,1000000000,10000000000,100000000000,1000000000000,10000000000000,100000000000000,1000000000000000,10000000000000000,100000000000000000,1000000000000000000,10000000000000000000]
def inL (f : Nat) : List Nat → Bool
  | [] => false
  | a :: l => Nat.beq f a || inL f l
def opnL : List Nat := [35, 46, 37, 50, 67, 77, 86,
  41, 53, 42, 39, 20]
def mutL : List Nat := [22, 84, 85]
def clsL : List Nat := [33, 36, 32, 34, 10]
/-- What the VM takes the tables to be, and how it runs each function. -/
def pol : Pol where
  glob g := if g = 1 then some (pow10.map fun n => .sc (.int .u64 n)) else none
  mode f := if inL f opnL then .opn else if inL f mutL then .mut else if inL f clsL then .cls else .pur
  alo f := Nat.beq f 86
  dir f := if f = 60 then some dSame else if f = 86 then some (dRaw 5) else none
abbrev en' (en : Env) (m : Mem) : Env := ⟨m.length :: en.bases, m.length⟩
variable {P : Program} {pol : Pol} {en : Env} {m : Mem}
theorem WC.eq {fn : Fn} {args : List AV} {v0 : AV} {m0 : Mem} {Q : AV → Mem → Prop} (h : WC P pol en fn args m fun v m' => v = v0 ∧ m' = m0) (k : Q v0 m0) : WC P pol en fn args m Q := h.mono fun v m' ⟨h1, h2⟩ => by rw [h1, h2]; exact k
/-- A function of one byte: by the kernel, 32 bytes at a time. -/
def byteRun (P : Program) (pol : Pol) (n : Nat) (f : FuncId) (j : Nat) : List (Option AV) := (List.range 32).map fun k : Nat => (callM P .pur (vrun P pol n) ⟨[], 0⟩ f [.sc (.int .u8 ((32 * j + k : Nat) : Int))] []).map (·.1)
def byteSay (g : Nat → AV) (j : Nat) : List (Option AV) := (List.range 32).map fun k : Nat => some (g (32 * j + k))
theorem byteFn {f : FuncId} {g : Nat → AV} (n : Nat) (hm : pol.mode f = .cls) (hd : pol.dir f = none) (hg : ∀ n, flat (g n) = true)
    (h0 : byteRun P pol n f 0 = byteSay g 0) (h1 : byteRun P pol n f 1 = byteSay g 1) (h2 : byteRun P pol n f 2 = byteSay g 2) (h3 : byteRun P pol n f 3 = byteSay g 3)
    (h4 : byteRun P pol n f 4 = byteSay g 4) (h5 : byteRun P pol n f 5 = byteSay g 5) (h6 : byteRun P pol n f 6 = byteSay g 6) (h7 : byteRun P pol n f 7 = byteSay g 7) (c : UInt8) :
    WC P pol en (.func f) [u8v c] m fun v m' => v = g c.toNat ∧ m' = m := by
  have hlt := c.toNat_lt
  have h : byteRun P pol n f (c.toNat / 32) = byteSay g (c.toNat / 32) := by
    have : c.toNat / 32 < 8 := by omega
    generalize c.toNat / 32 = j at this
    match j, this with
    | 0, _ => exact h0
    | 1, _ => exact h1
    | 2, _ => exact h2
    | 3, _ => exact h3
    | 4, _ => exact h4
    | 5, _ => exact h5
    | 6, _ => exact h6
    | 7, _ => exact h7
    | j + 8, h => omega
  have hk := congrArg (fun l => l[c.toNat % 32]?) h
  have hlt2 : c.toNat % 32 < 32 := by omega
  have he : 32 * (c.toNat / 32) + c.toNat % 32 = c.toNat := by omega
  simp only [byteRun, byteSay, List.getElem?_map, List.getElem?_range hlt2, Option.map_some, Option.some.injEq, he] at hk
  obtain ⟨⟨v, m1⟩, hv, h3⟩ := Option.map_eq_some_iff.1 hk
  simp only at h3
  subst h3
  refine WC.run (n + 1) (v := g c.toNat) (m' := m) ?_ ⟨rfl, rfl⟩
  show callF P pol (vrun P pol n) en f [u8v c] m = _
  unfold callF
  rw [hd, hm]
  have hfz : List.mapM (frz m 0 frzDepth) [u8v c] = some [u8v c] := rfl
  simp only [hfz, spine_eq, hv, hg, if_true]
end
end Go.Proofs.YtcmjidnbbfcbjaaDoor.V
/- Texts in quotes: the plain law; no condition. -/
namespace Go.Proofs.YtcmjidnbbfcbjaaDoor.V
def plainB (c : UInt8) : Bool := decide (32 < c.toNat) && decide (c.toNat < 127) && decide (c.toNat ≠ 34) && decide (c.toNat ≠ 37)
def hexd (n : Nat) : UInt8 := UInt8.ofNat (if n < 10 then 48 + n else 87 + n)
def encB (c : UInt8) : List UInt8 := if plainB c then [c] else [37, hexd (c.toNat / 16), hexd (c.toNat % 16)]
def qencL (l : List UInt8) : List UInt8 := l.flatMap encB
def quoteL (l : List UInt8) : List UInt8 := 34 :: (qencL l ++ [34])
/-- A hex digit's value. -/
def valB (c : UInt8) : Option Nat := if 48 ≤ c.toNat ∧ c.toNat ≤ 57 then some (c.toNat - 48) else if 97 ≤ c.toNat ∧ c.toNat ≤ 102 then some (c.toNat - 87) else none
/-- What is in quotes, strictly. -/
def decL : List UInt8 → Option (List UInt8)
  | [] => some []
  | c :: l =>
    if c = 37 then match l with
      | a :: b :: l' => match valB a, valB b with
        | some x, some y => if plainB (UInt8.ofNat (x * 16 + y)) then none else (decL l').map (UInt8.ofNat (x * 16 + y) :: ·)
        | _, _ => none
      | _ => none
    else if plainB c then (decL l).map (c :: ·) else none
/-- The same without a look at what stands plain. -/
def laxL : List UInt8 → Option (List UInt8)
  | [] => some []
  | c :: l =>
    if c = 37 then match l with
      | a :: b :: l' => match valB a, valB b with
        | some x, some y => (laxL l').map (UInt8.ofNat (x * 16 + y) :: ·)
        | _, _ => none
      | _ => none
    else (laxL l).map (c :: ·)
theorem valB_lt {c : UInt8} {n : Nat} (h : valB c = some n) : n < 16 ∧ hexd n = c := by
  unfold valB at h
  split at h
  · cases h
    refine ⟨by omega, ?_⟩
    unfold hexd
    rw [if_pos (by omega)]
    have : 48 + (c.toNat - 48) = c.toNat := by omega
    rw [this]; simp
  · split at h
    · cases h
      refine ⟨by omega, ?_⟩
      unfold hexd
      rw [if_neg (by omega)]
      have : 87 + (c.toNat - 87) = c.toNat := by omega
      rw [this]; simp
    · cases h
theorem hexd_nat {n : Nat} (h : n < 16) : (hexd n).toNat = if n < 10 then 48 + n else 87 + n := by
  unfold hexd
  rw [UInt8.toNat_ofNat']
  split <;> exact Nat.mod_eq_of_lt (by omega)
theorem valB_hexd {n : Nat} (h : n < 16) : valB (hexd n) = some n := by
  unfold valB
  rw [hexd_nat h]
  by_cases h10 : n < 10
  · rw [if_pos h10, if_pos (by omega)]; congr 1; omega
  · rw [if_neg h10, if_neg (by omega), if_pos (by omega)]; congr 1; omega
theorem dec_c {c : UInt8} {l : List UInt8} (hc : c ≠ 37) : decL (c :: l) = if plainB c then (decL l).map (c :: ·) else none := by
  cases l with
  | nil => simp [decL, hc]
  | cons a l => cases l <;> simp [decL, hc]
theorem dec_h (a b : UInt8) (l : List UInt8) : decL (37 :: a :: b :: l) = match valB a, valB b with
    | some x, some y => if plainB (UInt8.ofNat (x * 16 + y)) then none else (decL l).map (UInt8.ofNat (x * 16 + y) :: ·)
    | _, _ => none := by simp only [decL, if_true]
theorem dec_0 : decL [37] = none := by simp [decL]
theorem dec_1 (a : UInt8) : decL [37, a] = none := by simp [decL]
theorem lax_c {c : UInt8} {l : List UInt8} (hc : c ≠ 37) : laxL (c :: l) = (laxL l).map (c :: ·) := by
  cases l with
  | nil => simp [laxL, hc]
  | cons a l => cases l <;> simp [laxL, hc]
theorem lax_h (a b : UInt8) (l : List UInt8) : laxL (37 :: a :: b :: l) = match valB a, valB b with
    | some x, some y => (laxL l).map (UInt8.ofNat (x * 16 + y) :: ·)
    | _, _ => none := by simp only [laxL, if_true]
theorem lax_0 : laxL [37] = none := by simp [laxL]
theorem lax_1 (a : UInt8) : laxL [37, a] = none := by simp [laxL]
theorem dec_enc : ∀ l, decL (qencL l) = some l
  | [] => rfl
  | c :: l => by
    have ih := dec_enc l
    show decL (encB c ++ qencL l) = _
    unfold encB
    by_cases hp : plainB c = true
    · rw [if_pos hp]
      have hc : c ≠ 37 := by rintro rfl; simp [plainB] at hp
      rw [List.singleton_append, dec_c hc, if_pos hp, ih]; rfl
    · rw [if_neg hp]
      have hlt := c.toNat_lt
      have h1 : c.toNat / 16 < 16 := by omega
      have h2 : c.toNat % 16 < 16 := by omega
      have he : UInt8.ofNat (c.toNat / 16 * 16 + c.toNat % 16) = c := by
        have : c.toNat / 16 * 16 + c.toNat % 16 = c.toNat := by omega
        rw [this]; simp
      show decL (37 :: hexd (c.toNat / 16) :: hexd (c.toNat % 16) :: qencL l) = _
      rw [dec_h, valB_hexd h1, valB_hexd h2]
      simp only [he]
      rw [if_neg hp, ih]; rfl
theorem dec_lax : ∀ (n : Nat) {l out : List UInt8}, l.length ≤ n → decL l = some out → laxL l = some out ∧ qencL out = l
  | _, [], out, _, h => by simp only [decL, Option.some.injEq] at h; subst h; exact ⟨rfl, rfl⟩
  | 0, c :: l, out, hn, h => by simp at hn
  | n + 1, c :: l, out, hn, h => by
    by_cases hc : c = 37
    · subst hc
      match l, h, hn with
      | [], h, _ => rw [dec_0] at h; cases h
      | [a], h, _ => rw [dec_1] at h; cases h
      | a :: b :: l', h, hn =>
        rw [dec_h] at h
        split at h
        case h_2 => cases h
        rename_i x y hx hy
        split at h
        · cases h
        rename_i hp
        simp only [Option.map_eq_some_iff] at h
        obtain ⟨o, ho, rfl⟩ := h
        obtain ⟨h1, h2⟩ := dec_lax n (by simp at hn; omega) ho
        obtain ⟨hx1, hx2⟩ := valB_lt hx
        obtain ⟨hy1, hy2⟩ := valB_lt hy
        refine ⟨by rw [lax_h, hx, hy]; simp only [h1]; rfl, ?_⟩
        show encB _ ++ qencL o = _
        have hn : (UInt8.ofNat (x * 16 + y)).toNat = x * 16 + y := by rw [UInt8.toNat_ofNat']; exact Nat.mod_eq_of_lt (by omega)
        rw [encB, if_neg hp, hn, h2, show (x * 16 + y) / 16 = x by omega, show (x * 16 + y) % 16 = y by omega, hx2, hy2]; rfl
    · rw [dec_c hc] at h
      split at h
      · rename_i hp
        simp only [Option.map_eq_some_iff] at h
        obtain ⟨o, ho, rfl⟩ := h
        obtain ⟨h1, h2⟩ := dec_lax n (by simpa using hn) ho
        refine ⟨by rw [lax_c hc, h1]; rfl, ?_⟩
        show encB c ++ qencL o = _
        rw [encB, if_pos hp, h2]; rfl
      · cases h
/-- What both answer. -/
theorem dec_iff (l : List UInt8) : decL l = (laxL l).bind fun out => if qencL out = l then some out else none := by
  cases h : decL l with
  | some out =>
    obtain ⟨h1, h2⟩ := dec_lax _ (Nat.le_refl _) h
    rw [h1, Option.bind_some, if_pos h2]
  | none =>
    cases h2 : laxL l with
    | none => rfl
    | some out =>
      rw [Option.bind_some]
      split
      · rename_i he
        have := dec_enc out
        rw [he, h] at this; cases this
      · rfl
end Go.Proofs.YtcmjidnbbfcbjaaDoor.V
/- Functions of one byte; no condition. -/
namespace Go.Proofs.YtcmjidnbbfcbjaaDoor.V
open Go
set_option linter.unusedVariables false
set_option linter.unusedSimpArgs false
set_option maxRecDepth 100000
noncomputable section
variable {en : Env} {m : Mem}
def plainN (n : Nat) : AV := .sc (.bool (decide (32 < n) && decide (n < 127) && decide (n ≠ 34) && decide (n ≠ 37)))
theorem plainK0 : byteRun Tryd.prog pol 40 33 0 = byteSay plainN 0 := by kernel_rfl
theorem plainK1 : byteRun Tryd.prog pol 40 33 1 = byteSay plainN 1 := by kernel_rfl
theorem plainK2 : byteRun Tryd.prog pol 40 33 2 = byteSay plainN 2 := by kernel_rfl
theorem plainK3 : byteRun Tryd.prog pol 40 33 3 = byteSay plainN 3 := by kernel_rfl
theorem plainK4 : byteRun Tryd.prog pol 40 33 4 = byteSay plainN 4 := by kernel_rfl
theorem plainK5 : byteRun Tryd.prog pol 40 33 5 = byteSay plainN 5 := by kernel_rfl
theorem plainK6 : byteRun Tryd.prog pol 40 33 6 = byteSay plainN 6 := by kernel_rfl
theorem plainK7 : byteRun Tryd.prog pol 40 33 7 = byteSay plainN 7 := by kernel_rfl
theorem plain_ok (c : UInt8) : WC Tryd.prog pol en (.func 33) [u8v c] m fun v m' => v = .sc (.bool (plainB c)) ∧ m' = m :=
  byteFn (g := plainN) 40 rfl rfl (fun _ => rfl) plainK0 plainK1 plainK2 plainK3 plainK4 plainK5 plainK6 plainK7 c
def nibN (n : Nat) : AV := .sc (.int .u8 (if n < 10 then 48 + n else (87 + n) % 256 : Nat))
theorem nibK0 : byteRun Tryd.prog pol 40 36 0 = byteSay nibN 0 := by kernel_rfl
theorem nibK1 : byteRun Tryd.prog pol 40 36 1 = byteSay nibN 1 := by kernel_rfl
theorem nibK2 : byteRun Tryd.prog pol 40 36 2 = byteSay nibN 2 := by kernel_rfl
theorem nibK3 : byteRun Tryd.prog pol 40 36 3 = byteSay nibN 3 := by kernel_rfl
theorem nibK4 : byteRun Tryd.prog pol 40 36 4 = byteSay nibN 4 := by kernel_rfl
theorem nibK5 : byteRun Tryd.prog pol 40 36 5 = byteSay nibN 5 := by kernel_rfl
theorem nibK6 : byteRun Tryd.prog pol 40 36 6 = byteSay nibN 6 := by kernel_rfl
theorem nibK7 : byteRun Tryd.prog pol 40 36 7 = byteSay nibN 7 := by kernel_rfl
theorem nibble_ok (c : UInt8) (hc : c.toNat < 16) : WC Tryd.prog pol en (.func 36) [u8v c] m fun v m' => v = u8v (hexd c.toNat) ∧ m' = m := by
  refine (byteFn (g := nibN) 40 rfl rfl (fun _ => rfl) nibK0 nibK1 nibK2 nibK3 nibK4 nibK5 nibK6 nibK7 c).mono ?_
  rintro v m' ⟨rfl, rfl⟩
  refine ⟨?_, rfl⟩
  show AV.sc (.int .u8 _) = AV.sc (.int .u8 _)
  rw [hexd_nat hc]
  by_cases h : c.toNat < 10
  · simp [h]
  · simp only [h, if_false]; congr 3; omega
def valN (n : Nat) : AV := if 48 ≤ n ∧ n ≤ 57 then .tup [.sc (.int .u8 (n - 48 : Nat)), .sc (.bool true)] else if 97 ≤ n ∧ n ≤ 102 then .tup [.sc (.int .u8 (n - 87 : Nat)), .sc (.bool true)] else .tup [.sc (.int .u8 0), .sc (.bool false)]
theorem valN_flat (n : Nat) : flat (valN n) = true := by
  unfold valN
  split
  · rfl
  · split <;> rfl
theorem valK0 : byteRun Tryd.prog pol 40 32 0 = byteSay valN 0 := by kernel_rfl
theorem valK1 : byteRun Tryd.prog pol 40 32 1 = byteSay valN 1 := by kernel_rfl
theorem valK2 : byteRun Tryd.prog pol 40 32 2 = byteSay valN 2 := by kernel_rfl
theorem valK3 : byteRun Tryd.prog pol 40 32 3 = byteSay valN 3 := by kernel_rfl
theorem valK4 : byteRun Tryd.prog pol 40 32 4 = byteSay valN 4 := by kernel_rfl
theorem valK5 : byteRun Tryd.prog pol 40 32 5 = byteSay valN 5 := by kernel_rfl
theorem valK6 : byteRun Tryd.prog pol 40 32 6 = byteSay valN 6 := by kernel_rfl
theorem valK7 : byteRun Tryd.prog pol 40 32 7 = byteSay valN 7 := by kernel_rfl
theorem value_ok (c : UInt8) : WC Tryd.prog pol en (.func 32) [u8v c] m fun v m' => v = valN c.toNat ∧ m' = m :=
  byteFn (g := valN) 40 rfl rfl valN_flat valK0 valK1 valK2 valK3 valK4 valK5 valK6 valK7 c
def digN (n : Nat) : Int := if 48 ≤ n ∧ n ≤ 57 then n - 48 else if 97 ≤ n ∧ n ≤ 102 then n - 87 else 16
def digV (n : Nat) : AV := I (digN n)
theorem digK0 : byteRun Tryd.prog pol 60 34 0 = byteSay digV 0 := by kernel_rfl
theorem digK1 : byteRun Tryd.prog pol 60 34 1 = byteSay digV 1 := by kernel_rfl
theorem digK2 : byteRun Tryd.prog pol 60 34 2 = byteSay digV 2 := by kernel_rfl
theorem digK3 : byteRun Tryd.prog pol 60 34 3 = byteSay digV 3 := by kernel_rfl
theorem digK4 : byteRun Tryd.prog pol 60 34 4 = byteSay digV 4 := by kernel_rfl
theorem digK5 : byteRun Tryd.prog pol 60 34 5 = byteSay digV 5 := by kernel_rfl
theorem digK6 : byteRun Tryd.prog pol 60 34 6 = byteSay digV 6 := by kernel_rfl
theorem digK7 : byteRun Tryd.prog pol 60 34 7 = byteSay digV 7 := by kernel_rfl
theorem digit_ok (c : UInt8) : WC Tryd.prog pol en (.func 34) [u8v c] m fun v m' => v = I (digN c.toNat) ∧ m' = m :=
  byteFn (g := digV) 60 rfl rfl (fun _ => rfl) digK0 digK1 digK2 digK3 digK4 digK5 digK6 digK7 c
end
end Go.Proofs.YtcmjidnbbfcbjaaDoor.V
