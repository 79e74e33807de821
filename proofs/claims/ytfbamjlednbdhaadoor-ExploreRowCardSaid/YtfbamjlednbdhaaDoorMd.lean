/- Parts of the proof, joined (S1, S2, S3, S4, S5, S6, S7, S8, S9, S10, S11, S12, S13, P1, S14, S15, S16); no condition. -/
import Derived.Test.YtfbamjlednbdhaaDoorMc
import Derived.Test.YtfbamjlednbdhaaDoorChecked
import Derived.IntWalk
/- Facts of the program's types, as rules; no condition. -/
namespace Go.Proofs.YtfbamjlednbdhaaDoor.V
open Go
@[go_sem] theorem sz0 : szOf Tryd.prog 0 = some 1 := by kernel_rfl
@[go_sem] theorem sz1 : szOf Tryd.prog 1 = some 1 := by kernel_rfl
@[go_sem] theorem sz2 : szOf Tryd.prog 2 = some 1 := by kernel_rfl
@[go_sem] theorem sz3 : szOf Tryd.prog 3 = some 1 := by kernel_rfl
@[go_sem] theorem sz4 : szOf Tryd.prog 4 = some 1 := by kernel_rfl
@[go_sem] theorem sz5 : szOf Tryd.prog 5 = some 1 := by kernel_rfl
@[go_sem] theorem sz6 : szOf Tryd.prog 6 = some 1 := by kernel_rfl
@[go_sem] theorem sz7 : szOf Tryd.prog 7 = some 4 := by kernel_rfl
@[go_sem] theorem sz8 : szOf Tryd.prog 8 = some 4 := by kernel_rfl
@[go_sem] theorem sz9 : szOf Tryd.prog 9 = some 1 := by kernel_rfl
@[go_sem] theorem sz10 : szOf Tryd.prog 10 = some 1 := by kernel_rfl
@[go_sem] theorem sz11 : szOf Tryd.prog 11 = some 1 := by kernel_rfl
@[go_sem] theorem sz12 : szOf Tryd.prog 12 = some 1 := by kernel_rfl
@[go_sem] theorem sz13 : szOf Tryd.prog 13 = some 2 := by kernel_rfl
@[go_sem] theorem sz14 : szOf Tryd.prog 14 = some 2 := by kernel_rfl
@[go_sem] theorem sz15 : szOf Tryd.prog 15 = some 1 := by kernel_rfl
@[go_sem] theorem sz16 : szOf Tryd.prog 16 = some 1 := by kernel_rfl
@[go_sem] theorem sz17 : szOf Tryd.prog 17 = some 1 := by kernel_rfl
@[go_sem] theorem sz18 : szOf Tryd.prog 18 = some 1 := by kernel_rfl
@[go_sem] theorem sz19 : szOf Tryd.prog 19 = some 1 := by kernel_rfl
@[go_sem] theorem sz20 : szOf Tryd.prog 20 = some 1 := by kernel_rfl
@[go_sem] theorem sz21 : szOf Tryd.prog 21 = some 1 := by kernel_rfl
@[go_sem] theorem sz22 : szOf Tryd.prog 22 = some 1 := by kernel_rfl
@[go_sem] theorem sz23 : szOf Tryd.prog 23 = some 1 := by kernel_rfl
@[go_sem] theorem sz24 : szOf Tryd.prog 24 = some 1 := by kernel_rfl
@[go_sem] theorem sz25 : szOf Tryd.prog 25 = some 1 := by kernel_rfl
@[go_sem] theorem sz26 : szOf Tryd.prog 26 = some 1 := by kernel_rfl
@[go_sem] theorem sz27 : szOf Tryd.prog 27 = some 1 := by kernel_rfl
@[go_sem] theorem sz28 : szOf Tryd.prog 28 = some 1 := by kernel_rfl
@[go_sem] theorem sz29 : szOf Tryd.prog 29 = some 1 := by kernel_rfl
@[go_sem] theorem sz30 : szOf Tryd.prog 30 = some 1 := by kernel_rfl
@[go_sem] theorem sz31 : szOf Tryd.prog 31 = some 1 := by kernel_rfl
@[go_sem] theorem sz32 : szOf Tryd.prog 32 = some 1 := by kernel_rfl
@[go_sem] theorem sz33 : szOf Tryd.prog 33 = some 1 := by kernel_rfl
@[go_sem] theorem sz34 : szOf Tryd.prog 34 = some 1 := by kernel_rfl
@[go_sem] theorem sz35 : szOf Tryd.prog 35 = some 1 := by kernel_rfl
@[go_sem] theorem sz36 : szOf Tryd.prog 36 = some 1 := by kernel_rfl
@[go_sem] theorem sz37 : szOf Tryd.prog 37 = some 1 := by kernel_rfl
@[go_sem] theorem sz38 : szOf Tryd.prog 38 = some 2 := by kernel_rfl
@[go_sem] theorem sz39 : szOf Tryd.prog 39 = some 2 := by kernel_rfl
@[go_sem] theorem sz40 : szOf Tryd.prog 40 = some 1 := by kernel_rfl
@[go_sem] theorem sz41 : szOf Tryd.prog 41 = some 1 := by kernel_rfl
@[go_sem] theorem sz42 : szOf Tryd.prog 42 = some 1 := by kernel_rfl
@[go_sem] theorem sz43 : szOf Tryd.prog 43 = some 1 := by kernel_rfl
@[go_sem] theorem sz44 : szOf Tryd.prog 44 = some 1 := by kernel_rfl
@[go_sem] theorem sz45 : szOf Tryd.prog 45 = some 1 := by kernel_rfl
@[go_sem] theorem sz46 : szOf Tryd.prog 46 = some 1 := by kernel_rfl
@[go_sem] theorem sz47 : szOf Tryd.prog 47 = some 1 := by kernel_rfl
@[go_sem] theorem sz48 : szOf Tryd.prog 48 = some 1 := by kernel_rfl
@[go_sem] theorem sz49 : szOf Tryd.prog 49 = some 1 := by kernel_rfl
@[go_sem] theorem sz50 : szOf Tryd.prog 50 = some 1 := by kernel_rfl
@[go_sem] theorem sz51 : szOf Tryd.prog 51 = some 1 := by kernel_rfl
@[go_sem] theorem sz52 : szOf Tryd.prog 52 = some 1 := by kernel_rfl
@[go_sem] theorem sz53 : szOf Tryd.prog 53 = some 1 := by kernel_rfl
@[go_sem] theorem sz54 : szOf Tryd.prog 54 = some 1 := by kernel_rfl
@[go_sem] theorem sz55 : szOf Tryd.prog 55 = some 1 := by kernel_rfl
@[go_sem] theorem sz56 : szOf Tryd.prog 56 = some 1 := by kernel_rfl
@[go_sem] theorem sz57 : szOf Tryd.prog 57 = some 1 := by kernel_rfl
@[go_sem] theorem sz58 : szOf Tryd.prog 58 = some 1 := by kernel_rfl
@[go_sem] theorem sz59 : szOf Tryd.prog 59 = some 1 := by kernel_rfl
@[go_sem] theorem sz60 : szOf Tryd.prog 60 = some 1 := by kernel_rfl
@[go_sem] theorem sz61 : szOf Tryd.prog 61 = some 1 := by kernel_rfl
@[go_sem] theorem sz62 : szOf Tryd.prog 62 = some 1 := by kernel_rfl
@[go_sem] theorem sz63 : szOf Tryd.prog 63 = some 1 := by kernel_rfl
@[go_sem] theorem sz64 : szOf Tryd.prog 64 = some 1 := by kernel_rfl
@[go_sem] theorem sz65 : szOf Tryd.prog 65 = some 1 := by kernel_rfl
@[go_sem] theorem sz66 : szOf Tryd.prog 66 = some 1 := by kernel_rfl
@[go_sem] theorem sz67 : szOf Tryd.prog 67 = some 1 := by kernel_rfl
@[go_sem] theorem sz68 : szOf Tryd.prog 68 = some 1 := by kernel_rfl
@[go_sem] theorem sz69 : szOf Tryd.prog 69 = some 1 := by kernel_rfl
@[go_sem] theorem sz70 : szOf Tryd.prog 70 = some 1 := by kernel_rfl
@[go_sem] theorem sz71 : szOf Tryd.prog 71 = some 1 := by kernel_rfl
@[go_sem] theorem sz72 : szOf Tryd.prog 72 = some 1 := by kernel_rfl
@[go_sem] theorem sz73 : szOf Tryd.prog 73 = some 1 := by kernel_rfl
@[go_sem] theorem sz74 : szOf Tryd.prog 74 = some 1 := by kernel_rfl
@[go_sem] theorem sz75 : szOf Tryd.prog 75 = some 32 := by kernel_rfl
@[go_sem] theorem sz76 : szOf Tryd.prog 76 = some 64 := by kernel_rfl
@[go_sem] theorem sz77 : szOf Tryd.prog 77 = some 1 := by kernel_rfl
@[go_sem] theorem sz78 : szOf Tryd.prog 78 = some 4 := by kernel_rfl
@[go_sem] theorem sz79 : szOf Tryd.prog 79 = some 4 := by kernel_rfl
@[go_sem] theorem sz80 : szOf Tryd.prog 80 = some 0 := by kernel_rfl
@[go_sem] theorem sz81 : szOf Tryd.prog 81 = some 0 := by kernel_rfl
@[go_sem] theorem sz82 : szOf Tryd.prog 82 = some 0 := by kernel_rfl
@[go_sem] theorem sz83 : szOf Tryd.prog 83 = some 1 := by kernel_rfl
@[go_sem] theorem sz84 : szOf Tryd.prog 84 = some 1 := by kernel_rfl
@[go_sem] theorem sz85 : szOf Tryd.prog 85 = some 1 := by kernel_rfl
@[go_sem] theorem sz86 : szOf Tryd.prog 86 = some 1 := by kernel_rfl
@[go_sem] theorem sz87 : szOf Tryd.prog 87 = some 1 := by kernel_rfl
@[go_sem] theorem sz88 : szOf Tryd.prog 88 = some 1 := by kernel_rfl
@[go_sem] theorem sz89 : szOf Tryd.prog 89 = some 1 := by kernel_rfl
@[go_sem] theorem sz90 : szOf Tryd.prog 90 = some 11 := by kernel_rfl
@[go_sem] theorem sz91 : szOf Tryd.prog 91 = some 11 := by kernel_rfl
@[go_sem] theorem sz92 : szOf Tryd.prog 92 = some 1 := by kernel_rfl
@[go_sem] theorem ag0 : aggOf Tryd.prog 0 = some false := by kernel_rfl
@[go_sem] theorem ag1 : aggOf Tryd.prog 1 = some false := by kernel_rfl
@[go_sem] theorem ag2 : aggOf Tryd.prog 2 = some false := by kernel_rfl
@[go_sem] theorem ag3 : aggOf Tryd.prog 3 = some false := by kernel_rfl
@[go_sem] theorem ag4 : aggOf Tryd.prog 4 = some false := by kernel_rfl
@[go_sem] theorem ag5 : aggOf Tryd.prog 5 = some false := by kernel_rfl
@[go_sem] theorem ag6 : aggOf Tryd.prog 6 = some false := by kernel_rfl
@[go_sem] theorem ag7 : aggOf Tryd.prog 7 = some true := by kernel_rfl
@[go_sem] theorem ag8 : aggOf Tryd.prog 8 = some true := by kernel_rfl
@[go_sem] theorem ag9 : aggOf Tryd.prog 9 = some false := by kernel_rfl
@[go_sem] theorem ag10 : aggOf Tryd.prog 10 = some false := by kernel_rfl
@[go_sem] theorem ag11 : aggOf Tryd.prog 11 = some false := by kernel_rfl
@[go_sem] theorem ag12 : aggOf Tryd.prog 12 = some false := by kernel_rfl
@[go_sem] theorem ag13 : aggOf Tryd.prog 13 = some true := by kernel_rfl
@[go_sem] theorem ag14 : aggOf Tryd.prog 14 = some true := by kernel_rfl
@[go_sem] theorem ag15 : aggOf Tryd.prog 15 = some false := by kernel_rfl
@[go_sem] theorem ag16 : aggOf Tryd.prog 16 = some false := by kernel_rfl
@[go_sem] theorem ag17 : aggOf Tryd.prog 17 = some false := by kernel_rfl
@[go_sem] theorem ag18 : aggOf Tryd.prog 18 = some true := by kernel_rfl
@[go_sem] theorem ag19 : aggOf Tryd.prog 19 = some true := by kernel_rfl
@[go_sem] theorem ag20 : aggOf Tryd.prog 20 = some false := by kernel_rfl
@[go_sem] theorem ag21 : aggOf Tryd.prog 21 = some false := by kernel_rfl
@[go_sem] theorem ag22 : aggOf Tryd.prog 22 = some false := by kernel_rfl
@[go_sem] theorem ag23 : aggOf Tryd.prog 23 = some false := by kernel_rfl
@[go_sem] theorem ag24 : aggOf Tryd.prog 24 = some false := by kernel_rfl
@[go_sem] theorem ag25 : aggOf Tryd.prog 25 = some false := by kernel_rfl
@[go_sem] theorem ag26 : aggOf Tryd.prog 26 = some false := by kernel_rfl
@[go_sem] theorem ag27 : aggOf Tryd.prog 27 = some false := by kernel_rfl
@[go_sem] theorem ag28 : aggOf Tryd.prog 28 = some false := by kernel_rfl
@[go_sem] theorem ag29 : aggOf Tryd.prog 29 = some false := by kernel_rfl
@[go_sem] theorem ag30 : aggOf Tryd.prog 30 = some false := by kernel_rfl
@[go_sem] theorem ag31 : aggOf Tryd.prog 31 = some false := by kernel_rfl
@[go_sem] theorem ag32 : aggOf Tryd.prog 32 = some false := by kernel_rfl
@[go_sem] theorem ag33 : aggOf Tryd.prog 33 = some false := by kernel_rfl
@[go_sem] theorem ag34 : aggOf Tryd.prog 34 = some false := by kernel_rfl
@[go_sem] theorem ag35 : aggOf Tryd.prog 35 = some false := by kernel_rfl
@[go_sem] theorem ag36 : aggOf Tryd.prog 36 = some false := by kernel_rfl
@[go_sem] theorem ag37 : aggOf Tryd.prog 37 = some false := by kernel_rfl
@[go_sem] theorem ag38 : aggOf Tryd.prog 38 = some true := by kernel_rfl
@[go_sem] theorem ag39 : aggOf Tryd.prog 39 = some true := by kernel_rfl
@[go_sem] theorem ag40 : aggOf Tryd.prog 40 = some false := by kernel_rfl
@[go_sem] theorem ag41 : aggOf Tryd.prog 41 = some false := by kernel_rfl
@[go_sem] theorem ag42 : aggOf Tryd.prog 42 = some false := by kernel_rfl
@[go_sem] theorem ag43 : aggOf Tryd.prog 43 = some false := by kernel_rfl
@[go_sem] theorem ag44 : aggOf Tryd.prog 44 = some false := by kernel_rfl
@[go_sem] theorem ag45 : aggOf Tryd.prog 45 = some false := by kernel_rfl
@[go_sem] theorem ag46 : aggOf Tryd.prog 46 = some false := by kernel_rfl
@[go_sem] theorem ag47 : aggOf Tryd.prog 47 = some false := by kernel_rfl
@[go_sem] theorem ag48 : aggOf Tryd.prog 48 = some false := by kernel_rfl
@[go_sem] theorem ag49 : aggOf Tryd.prog 49 = some false := by kernel_rfl
@[go_sem] theorem ag50 : aggOf Tryd.prog 50 = some false := by kernel_rfl
@[go_sem] theorem ag51 : aggOf Tryd.prog 51 = some false := by kernel_rfl
@[go_sem] theorem ag52 : aggOf Tryd.prog 52 = some false := by kernel_rfl
@[go_sem] theorem ag53 : aggOf Tryd.prog 53 = some false := by kernel_rfl
@[go_sem] theorem ag54 : aggOf Tryd.prog 54 = some false := by kernel_rfl
@[go_sem] theorem ag55 : aggOf Tryd.prog 55 = some false := by kernel_rfl
@[go_sem] theorem ag56 : aggOf Tryd.prog 56 = some false := by kernel_rfl
@[go_sem] theorem ag57 : aggOf Tryd.prog 57 = some false := by kernel_rfl
@[go_sem] theorem ag58 : aggOf Tryd.prog 58 = some false := by kernel_rfl
@[go_sem] theorem ag59 : aggOf Tryd.prog 59 = some false := by kernel_rfl
@[go_sem] theorem ag60 : aggOf Tryd.prog 60 = some false := by kernel_rfl
@[go_sem] theorem ag61 : aggOf Tryd.prog 61 = some false := by kernel_rfl
@[go_sem] theorem ag62 : aggOf Tryd.prog 62 = some false := by kernel_rfl
@[go_sem] theorem ag63 : aggOf Tryd.prog 63 = some false := by kernel_rfl
@[go_sem] theorem ag64 : aggOf Tryd.prog 64 = some false := by kernel_rfl
@[go_sem] theorem ag65 : aggOf Tryd.prog 65 = some false := by kernel_rfl
@[go_sem] theorem ag66 : aggOf Tryd.prog 66 = some false := by kernel_rfl
@[go_sem] theorem ag67 : aggOf Tryd.prog 67 = some false := by kernel_rfl
@[go_sem] theorem ag68 : aggOf Tryd.prog 68 = some false := by kernel_rfl
@[go_sem] theorem ag69 : aggOf Tryd.prog 69 = some false := by kernel_rfl
@[go_sem] theorem ag70 : aggOf Tryd.prog 70 = some false := by kernel_rfl
@[go_sem] theorem ag71 : aggOf Tryd.prog 71 = some false := by kernel_rfl
@[go_sem] theorem ag72 : aggOf Tryd.prog 72 = some false := by kernel_rfl
@[go_sem] theorem ag73 : aggOf Tryd.prog 73 = some false := by kernel_rfl
@[go_sem] theorem ag74 : aggOf Tryd.prog 74 = some false := by kernel_rfl
@[go_sem] theorem ag75 : aggOf Tryd.prog 75 = some true := by kernel_rfl
@[go_sem] theorem ag76 : aggOf Tryd.prog 76 = some true := by kernel_rfl
@[go_sem] theorem ag77 : aggOf Tryd.prog 77 = some false := by kernel_rfl
@[go_sem] theorem ag78 : aggOf Tryd.prog 78 = some true := by kernel_rfl
@[go_sem] theorem ag79 : aggOf Tryd.prog 79 = some true := by kernel_rfl
@[go_sem] theorem ag80 : aggOf Tryd.prog 80 = some true := by kernel_rfl
@[go_sem] theorem ag81 : aggOf Tryd.prog 81 = some true := by kernel_rfl
@[go_sem] theorem ag82 : aggOf Tryd.prog 82 = some true := by kernel_rfl
@[go_sem] theorem ag83 : aggOf Tryd.prog 83 = some false := by kernel_rfl
@[go_sem] theorem ag84 : aggOf Tryd.prog 84 = some false := by kernel_rfl
@[go_sem] theorem ag85 : aggOf Tryd.prog 85 = some false := by kernel_rfl
@[go_sem] theorem ag86 : aggOf Tryd.prog 86 = some false := by kernel_rfl
@[go_sem] theorem ag87 : aggOf Tryd.prog 87 = some false := by kernel_rfl
@[go_sem] theorem ag88 : aggOf Tryd.prog 88 = some false := by kernel_rfl
@[go_sem] theorem ag89 : aggOf Tryd.prog 89 = some false := by kernel_rfl
@[go_sem] theorem ag90 : aggOf Tryd.prog 90 = some true := by kernel_rfl
@[go_sem] theorem ag91 : aggOf Tryd.prog 91 = some true := by kernel_rfl
@[go_sem] theorem ag92 : aggOf Tryd.prog 92 = some false := by kernel_rfl
@[go_sem] theorem es22 : elemSz Tryd.prog 22 = some 1 := by kernel_rfl
@[go_sem] theorem es34 : elemSz Tryd.prog 34 = some 1 := by kernel_rfl
@[go_sem] theorem es37 : elemSz Tryd.prog 37 = some 1 := by kernel_rfl
@[go_sem] theorem es55 : elemSz Tryd.prog 55 = some 1 := by kernel_rfl
@[go_sem] theorem es58 : elemSz Tryd.prog 58 = some 1 := by kernel_rfl
@[go_sem] theorem bo22 : buildOk Tryd.prog 22 = true := by kernel_rfl
@[go_sem] theorem bo34 : buildOk Tryd.prog 34 = true := by kernel_rfl
@[go_sem] theorem bo37 : buildOk Tryd.prog 37 = true := by kernel_rfl
@[go_sem] theorem bo55 : buildOk Tryd.prog 55 = true := by kernel_rfl
@[go_sem] theorem bo58 : buildOk Tryd.prog 58 = true := by kernel_rfl
@[go_sem] theorem ap22 : appOk Tryd.prog 22 22 = some 1 := by kernel_rfl
@[go_sem] theorem ap34 : appOk Tryd.prog 34 34 = some 1 := by kernel_rfl
@[go_sem] theorem ap37 : appOk Tryd.prog 37 37 = some 1 := by kernel_rfl
@[go_sem] theorem ap55 : appOk Tryd.prog 55 55 = some 1 := by kernel_rfl
@[go_sem] theorem ap58 : appOk Tryd.prog 58 58 = some 1 := by kernel_rfl
@[go_sem] theorem ze1 : zeroOf Tryd.prog 1 = some AV.nilF := by kernel_rfl
@[go_sem] theorem ze2 : zeroOf Tryd.prog 2 = some (AV.sc (Value.int IntKind.i64 0)) := by kernel_rfl
@[go_sem] theorem ze3 : zeroOf Tryd.prog 3 = some (AV.sc (Value.int IntKind.i64 0)) := by kernel_rfl
@[go_sem] theorem ze4 : zeroOf Tryd.prog 4 = some (AV.sc (Value.bool false)) := by kernel_rfl
@[go_sem] theorem ze5 : zeroOf Tryd.prog 5 = some (AV.sc (Value.int IntKind.u8 0)) := by kernel_rfl
@[go_sem] theorem ze6 : zeroOf Tryd.prog 6 = some (AV.sc (Value.int IntKind.u8 0)) := by kernel_rfl
@[go_sem] theorem ze7 : zeroOf Tryd.prog 7 = some (AV.agg [AV.sc (Value.int IntKind.i64 0), AV.sc (Value.int IntKind.i64 0), AV.sc (Value.bool false), AV.sc (Value.int IntKind.u8 0)]) := by kernel_rfl
@[go_sem] theorem ze8 : zeroOf Tryd.prog 8 = some (AV.agg [AV.sc (Value.int IntKind.i64 0), AV.sc (Value.int IntKind.i64 0), AV.sc (Value.bool false), AV.sc (Value.int IntKind.u8 0)]) := by kernel_rfl
@[go_sem] theorem ze9 : zeroOf Tryd.prog 9 = some (AV.sc (Value.string { data := { toList := [] } })) := by kernel_rfl
@[go_sem] theorem ze10 : zeroOf Tryd.prog 10 = some (AV.sc (Value.string { data := { toList := [] } })) := by kernel_rfl
@[go_sem] theorem ze11 : zeroOf Tryd.prog 11 = some (AV.sc (Value.string { data := { toList := [] } })) := by kernel_rfl
@[go_sem] theorem ze12 : zeroOf Tryd.prog 12 = some (AV.sc (Value.int IntKind.u64 0)) := by kernel_rfl
@[go_sem] theorem ze13 : zeroOf Tryd.prog 13 = some (AV.agg [AV.sc (Value.string { data := { toList := [] } }), AV.sc (Value.int IntKind.u64 0)]) := by kernel_rfl
@[go_sem] theorem ze14 : zeroOf Tryd.prog 14 = some (AV.agg [AV.sc (Value.string { data := { toList := [] } }), AV.sc (Value.int IntKind.u64 0)]) := by kernel_rfl
@[go_sem] theorem ze15 : zeroOf Tryd.prog 15 = some AV.nilP := by kernel_rfl
@[go_sem] theorem ze16 : zeroOf Tryd.prog 16 = some AV.nilP := by kernel_rfl
@[go_sem] theorem ze17 : zeroOf Tryd.prog 17 = some AV.nilP := by kernel_rfl
@[go_sem] theorem ze18 : zeroOf Tryd.prog 18 = some (AV.agg [AV.nilP]) := by kernel_rfl
@[go_sem] theorem ze19 : zeroOf Tryd.prog 19 = some (AV.agg [AV.nilP]) := by kernel_rfl
@[go_sem] theorem ze20 : zeroOf Tryd.prog 20 = some AV.nilI := by kernel_rfl
@[go_sem] theorem ze21 : zeroOf Tryd.prog 21 = some (AV.sc (Value.int IntKind.i32 0)) := by kernel_rfl
@[go_sem] theorem ze22 : zeroOf Tryd.prog 22 = some AV.nilS := by kernel_rfl
@[go_sem] theorem ze23 : zeroOf Tryd.prog 23 = some AV.nilF := by kernel_rfl
@[go_sem] theorem ze24 : zeroOf Tryd.prog 24 = some (AV.sc (Value.int IntKind.i64 0)) := by kernel_rfl
@[go_sem] theorem ze26 : zeroOf Tryd.prog 26 = some AV.nilF := by kernel_rfl
@[go_sem] theorem ze27 : zeroOf Tryd.prog 27 = some AV.nilF := by kernel_rfl
@[go_sem] theorem ze28 : zeroOf Tryd.prog 28 = some AV.nilF := by kernel_rfl
@[go_sem] theorem ze29 : zeroOf Tryd.prog 29 = some AV.nilF := by kernel_rfl
@[go_sem] theorem ze31 : zeroOf Tryd.prog 31 = some AV.nilF := by kernel_rfl
@[go_sem] theorem ze32 : zeroOf Tryd.prog 32 = some AV.nilF := by kernel_rfl
@[go_sem] theorem ze33 : zeroOf Tryd.prog 33 = some AV.nilF := by kernel_rfl
@[go_sem] theorem ze34 : zeroOf Tryd.prog 34 = some AV.nilS := by kernel_rfl
@[go_sem] theorem ze35 : zeroOf Tryd.prog 35 = some AV.nilF := by kernel_rfl
@[go_sem] theorem ze36 : zeroOf Tryd.prog 36 = some AV.nilF := by kernel_rfl
@[go_sem] theorem ze37 : zeroOf Tryd.prog 37 = some AV.nilS := by kernel_rfl
@[go_sem] theorem ze38 : zeroOf Tryd.prog 38 = some (AV.agg [AV.nilS, AV.nilS]) := by kernel_rfl
@[go_sem] theorem ze39 : zeroOf Tryd.prog 39 = some (AV.agg [AV.nilS, AV.nilS]) := by kernel_rfl
@[go_sem] theorem ze41 : zeroOf Tryd.prog 41 = some AV.nilF := by kernel_rfl
@[go_sem] theorem ze42 : zeroOf Tryd.prog 42 = some AV.nilF := by kernel_rfl
@[go_sem] theorem ze43 : zeroOf Tryd.prog 43 = some AV.nilF := by kernel_rfl
@[go_sem] theorem ze44 : zeroOf Tryd.prog 44 = some AV.nilF := by kernel_rfl
@[go_sem] theorem ze45 : zeroOf Tryd.prog 45 = some AV.nilF := by kernel_rfl
@[go_sem] theorem ze46 : zeroOf Tryd.prog 46 = some AV.nilF := by kernel_rfl
@[go_sem] theorem ze47 : zeroOf Tryd.prog 47 = some (AV.sc (Value.int IntKind.u64 0)) := by kernel_rfl
@[go_sem] theorem ze48 : zeroOf Tryd.prog 48 = some (AV.sc (Value.int IntKind.u64 0)) := by kernel_rfl
@[go_sem] theorem ze49 : zeroOf Tryd.prog 49 = some AV.nilM := by kernel_rfl
@[go_sem] theorem ze50 : zeroOf Tryd.prog 50 = some AV.nilF := by kernel_rfl
@[go_sem] theorem ze52 : zeroOf Tryd.prog 52 = some AV.nilF := by kernel_rfl
@[go_sem] theorem ze53 : zeroOf Tryd.prog 53 = some AV.nilF := by kernel_rfl
@[go_sem] theorem ze54 : zeroOf Tryd.prog 54 = some AV.nilF := by kernel_rfl
@[go_sem] theorem ze55 : zeroOf Tryd.prog 55 = some AV.nilS := by kernel_rfl
@[go_sem] theorem ze56 : zeroOf Tryd.prog 56 = some AV.nilF := by kernel_rfl
@[go_sem] theorem ze57 : zeroOf Tryd.prog 57 = some AV.nilF := by kernel_rfl
@[go_sem] theorem ze58 : zeroOf Tryd.prog 58 = some AV.nilS := by kernel_rfl
@[go_sem] theorem ze60 : zeroOf Tryd.prog 60 = some AV.nilF := by kernel_rfl
@[go_sem] theorem ze61 : zeroOf Tryd.prog 61 = some AV.nilF := by kernel_rfl
@[go_sem] theorem ze62 : zeroOf Tryd.prog 62 = some AV.nilF := by kernel_rfl
@[go_sem] theorem ze63 : zeroOf Tryd.prog 63 = some AV.nilF := by kernel_rfl
@[go_sem] theorem ze64 : zeroOf Tryd.prog 64 = some AV.nilF := by kernel_rfl
@[go_sem] theorem ze65 : zeroOf Tryd.prog 65 = some AV.nilF := by kernel_rfl
@[go_sem] theorem ze66 : zeroOf Tryd.prog 66 = some AV.nilF := by kernel_rfl
@[go_sem] theorem ze67 : zeroOf Tryd.prog 67 = some AV.nilF := by kernel_rfl
@[go_sem] theorem ze68 : zeroOf Tryd.prog 68 = some AV.nilF := by kernel_rfl
@[go_sem] theorem ze69 : zeroOf Tryd.prog 69 = some AV.nilF := by kernel_rfl
@[go_sem] theorem ze70 : zeroOf Tryd.prog 70 = some (AV.sc (Value.int IntKind.u32 0)) := by kernel_rfl
@[go_sem] theorem ze71 : zeroOf Tryd.prog 71 = some AV.nilF := by kernel_rfl
@[go_sem] theorem ze72 : zeroOf Tryd.prog 72 = some (AV.sc (Value.int IntKind.u64 0)) := by kernel_rfl
@[go_sem] theorem ze73 : zeroOf Tryd.prog 73 = some AV.nilF := by kernel_rfl
@[go_sem] theorem ze74 : zeroOf Tryd.prog 74 = some AV.nilF := by kernel_rfl
@[go_sem] theorem ze77 : zeroOf Tryd.prog 77 = some AV.nilF := by kernel_rfl
@[go_sem] theorem ze78 : zeroOf Tryd.prog 78 = some (AV.agg [AV.nilP, AV.nilP, AV.nilP, AV.sc (Value.string { data := { toList := [] } })]) := by kernel_rfl
@[go_sem] theorem ze79 : zeroOf Tryd.prog 79 = some (AV.agg [AV.nilP, AV.nilP, AV.nilP, AV.sc (Value.string { data := { toList := [] } })]) := by kernel_rfl
@[go_sem] theorem ze80 : zeroOf Tryd.prog 80 = some (AV.agg []) := by kernel_rfl
@[go_sem] theorem ze81 : zeroOf Tryd.prog 81 = some (AV.agg []) := by kernel_rfl
@[go_sem] theorem ze82 : zeroOf Tryd.prog 82 = some (AV.agg []) := by kernel_rfl
@[go_sem] theorem ze83 : zeroOf Tryd.prog 83 = some AV.nilF := by kernel_rfl
@[go_sem] theorem ze84 : zeroOf Tryd.prog 84 = some (AV.sc (Value.int IntKind.u8 0)) := by kernel_rfl
@[go_sem] theorem ze85 : zeroOf Tryd.prog 85 = some (AV.sc (Value.int IntKind.u8 0)) := by kernel_rfl
@[go_sem] theorem ze86 : zeroOf Tryd.prog 86 = some AV.nilF := by kernel_rfl
@[go_sem] theorem ze87 : zeroOf Tryd.prog 87 = some AV.nilP := by kernel_rfl
@[go_sem] theorem ze88 : zeroOf Tryd.prog 88 = some (AV.sc (Value.int IntKind.i32 0)) := by kernel_rfl
@[go_sem] theorem ze89 : zeroOf Tryd.prog 89 = some (AV.sc (Value.int IntKind.i32 0)) := by kernel_rfl
@[go_sem] theorem ze92 : zeroOf Tryd.prog 92 = some AV.nilP := by kernel_rfl
@[go_sem] theorem mk22 : mkOk Tryd.prog 22 = some (1, 24, AV.nilS) := by kernel_rfl
@[go_sem] theorem mk34 : mkOk Tryd.prog 34 = some (1, 8, AV.sc (Value.int IntKind.i64 0)) := by kernel_rfl
@[go_sem] theorem mk37 : mkOk Tryd.prog 37 = some (1, 8, AV.sc (Value.int IntKind.u64 0)) := by kernel_rfl
@[go_sem] theorem mk55 : mkOk Tryd.prog 55 = some (1, 24, AV.nilS) := by kernel_rfl
@[go_sem] theorem mk58 : mkOk Tryd.prog 58 = some (1, 1, AV.sc (Value.bool false)) := by kernel_rfl
@[go_sem] theorem pl7 : placesO Tryd.prog 7 = some [(0, 1), (1, 1), (2, 1), (3, 1)] := by kernel_rfl
@[go_sem] theorem pl8 : placesO Tryd.prog 8 = some [(0, 1), (1, 1), (2, 1), (3, 1)] := by kernel_rfl
@[go_sem] theorem pl13 : placesO Tryd.prog 13 = some [(0, 1), (1, 1)] := by kernel_rfl
@[go_sem] theorem pl14 : placesO Tryd.prog 14 = some [(0, 1), (1, 1)] := by kernel_rfl
@[go_sem] theorem pl18 : placesO Tryd.prog 18 = some [(0, 1)] := by kernel_rfl
@[go_sem] theorem pl19 : placesO Tryd.prog 19 = some [(0, 1)] := by kernel_rfl
@[go_sem] theorem pl38 : placesO Tryd.prog 38 = some [(0, 1), (1, 1)] := by kernel_rfl
@[go_sem] theorem pl39 : placesO Tryd.prog 39 = some [(0, 1), (1, 1)] := by kernel_rfl
@[go_sem] theorem pl78 : placesO Tryd.prog 78 = some [(0, 1), (1, 1), (2, 1), (3, 1)] := by kernel_rfl
@[go_sem] theorem pl79 : placesO Tryd.prog 79 = some [(0, 1), (1, 1), (2, 1), (3, 1)] := by kernel_rfl
@[go_sem] theorem pl81 : placesO Tryd.prog 81 = some [(0, 0)] := by kernel_rfl
@[go_sem] theorem pl82 : placesO Tryd.prog 82 = some [(0, 0)] := by kernel_rfl
@[go_sem] theorem pl90 : placesO Tryd.prog 90 = some [(0, 1), (1, 1), (2, 1), (3, 1), (4, 1), (5, 1), (6, 1), (7, 1), (8, 1), (9, 1), (10, 1)] := by kernel_rfl
@[go_sem] theorem pl91 : placesO Tryd.prog 91 = some [(0, 1), (1, 1), (2, 1), (3, 1), (4, 1), (5, 1), (6, 1), (7, 1), (8, 1), (9, 1), (10, 1)] := by kernel_rfl
@[go_sem] theorem fo7_0 : fldO Tryd.prog 7 0 = some (0, 1, false) := by kernel_rfl
@[go_sem] theorem fo7_1 : fldO Tryd.prog 7 1 = some (1, 1, false) := by kernel_rfl
@[go_sem] theorem fo7_2 : fldO Tryd.prog 7 2 = some (2, 1, false) := by kernel_rfl
@[go_sem] theorem fo7_3 : fldO Tryd.prog 7 3 = some (3, 1, false) := by kernel_rfl
@[go_sem] theorem fo8_0 : fldO Tryd.prog 8 0 = some (0, 1, false) := by kernel_rfl
@[go_sem] theorem fo8_1 : fldO Tryd.prog 8 1 = some (1, 1, false) := by kernel_rfl
@[go_sem] theorem fo8_2 : fldO Tryd.prog 8 2 = some (2, 1, false) := by kernel_rfl
@[go_sem] theorem fo8_3 : fldO Tryd.prog 8 3 = some (3, 1, false) := by kernel_rfl
@[go_sem] theorem fo13_0 : fldO Tryd.prog 13 0 = some (0, 1, false) := by kernel_rfl
@[go_sem] theorem fo13_1 : fldO Tryd.prog 13 1 = some (1, 1, false) := by kernel_rfl
@[go_sem] theorem fo14_0 : fldO Tryd.prog 14 0 = some (0, 1, false) := by kernel_rfl
@[go_sem] theorem fo14_1 : fldO Tryd.prog 14 1 = some (1, 1, false) := by kernel_rfl
@[go_sem] theorem fo18_0 : fldO Tryd.prog 18 0 = some (0, 1, false) := by kernel_rfl
@[go_sem] theorem fo19_0 : fldO Tryd.prog 19 0 = some (0, 1, false) := by kernel_rfl
@[go_sem] theorem fo38_0 : fldO Tryd.prog 38 0 = some (0, 1, false) := by kernel_rfl
@[go_sem] theorem fo38_1 : fldO Tryd.prog 38 1 = some (1, 1, false) := by kernel_rfl
@[go_sem] theorem fo39_0 : fldO Tryd.prog 39 0 = some (0, 1, false) := by kernel_rfl
@[go_sem] theorem fo39_1 : fldO Tryd.prog 39 1 = some (1, 1, false) := by kernel_rfl
@[go_sem] theorem fo78_0 : fldO Tryd.prog 78 0 = some (0, 1, false) := by kernel_rfl
@[go_sem] theorem fo78_1 : fldO Tryd.prog 78 1 = some (1, 1, false) := by kernel_rfl
@[go_sem] theorem fo78_2 : fldO Tryd.prog 78 2 = some (2, 1, false) := by kernel_rfl
@[go_sem] theorem fo78_3 : fldO Tryd.prog 78 3 = some (3, 1, false) := by kernel_rfl
@[go_sem] theorem fo79_0 : fldO Tryd.prog 79 0 = some (0, 1, false) := by kernel_rfl
@[go_sem] theorem fo79_1 : fldO Tryd.prog 79 1 = some (1, 1, false) := by kernel_rfl
@[go_sem] theorem fo79_2 : fldO Tryd.prog 79 2 = some (2, 1, false) := by kernel_rfl
@[go_sem] theorem fo79_3 : fldO Tryd.prog 79 3 = some (3, 1, false) := by kernel_rfl
@[go_sem] theorem fo81_0 : fldO Tryd.prog 81 0 = some (0, 0, true) := by kernel_rfl
@[go_sem] theorem fo82_0 : fldO Tryd.prog 82 0 = some (0, 0, true) := by kernel_rfl
@[go_sem] theorem fo90_0 : fldO Tryd.prog 90 0 = some (0, 1, false) := by kernel_rfl
@[go_sem] theorem fo90_1 : fldO Tryd.prog 90 1 = some (1, 1, false) := by kernel_rfl
@[go_sem] theorem fo90_2 : fldO Tryd.prog 90 2 = some (2, 1, false) := by kernel_rfl
@[go_sem] theorem fo90_3 : fldO Tryd.prog 90 3 = some (3, 1, false) := by kernel_rfl
@[go_sem] theorem fo90_4 : fldO Tryd.prog 90 4 = some (4, 1, false) := by kernel_rfl
@[go_sem] theorem fo90_5 : fldO Tryd.prog 90 5 = some (5, 1, false) := by kernel_rfl
@[go_sem] theorem fo90_6 : fldO Tryd.prog 90 6 = some (6, 1, false) := by kernel_rfl
@[go_sem] theorem fo90_7 : fldO Tryd.prog 90 7 = some (7, 1, false) := by kernel_rfl
@[go_sem] theorem fo91_0 : fldO Tryd.prog 91 0 = some (0, 1, false) := by kernel_rfl
@[go_sem] theorem fo91_1 : fldO Tryd.prog 91 1 = some (1, 1, false) := by kernel_rfl
@[go_sem] theorem fo91_2 : fldO Tryd.prog 91 2 = some (2, 1, false) := by kernel_rfl
@[go_sem] theorem fo91_3 : fldO Tryd.prog 91 3 = some (3, 1, false) := by kernel_rfl
@[go_sem] theorem fo91_4 : fldO Tryd.prog 91 4 = some (4, 1, false) := by kernel_rfl
@[go_sem] theorem fo91_5 : fldO Tryd.prog 91 5 = some (5, 1, false) := by kernel_rfl
@[go_sem] theorem fo91_6 : fldO Tryd.prog 91 6 = some (6, 1, false) := by kernel_rfl
@[go_sem] theorem fo91_7 : fldO Tryd.prog 91 7 = some (7, 1, false) := by kernel_rfl
attribute [go_sem] Tryd.underlying0 Tryd.underlying1 Tryd.underlying2 Tryd.underlying3 Tryd.underlying4 Tryd.underlying5 Tryd.underlying6 Tryd.underlying7 Tryd.underlying8 Tryd.underlying9 Tryd.underlying10 Tryd.underlying11 Tryd.underlying12 Tryd.underlying13 Tryd.underlying14 Tryd.underlying15 Tryd.underlying16 Tryd.underlying17 Tryd.underlying18 Tryd.underlying19 Tryd.underlying20 Tryd.underlying21 Tryd.underlying22 Tryd.underlying23 Tryd.underlying24 Tryd.underlying25 Tryd.underlying26 Tryd.underlying27 Tryd.underlying28 Tryd.underlying29 Tryd.underlying30 Tryd.underlying31 Tryd.underlying32 Tryd.underlying33 Tryd.underlying34 Tryd.underlying35 Tryd.underlying36 Tryd.underlying37 Tryd.underlying38 Tryd.underlying39 Tryd.underlying40 Tryd.underlying41 Tryd.underlying42 Tryd.underlying43 Tryd.underlying44 Tryd.underlying45 Tryd.underlying46 Tryd.underlying47 Tryd.underlying48 Tryd.underlying49 Tryd.underlying50 Tryd.underlying51 Tryd.underlying52 Tryd.underlying53 Tryd.underlying54 Tryd.underlying55 Tryd.underlying56 Tryd.underlying57 Tryd.underlying58 Tryd.underlying59 Tryd.underlying60 Tryd.underlying61 Tryd.underlying62 Tryd.underlying63 Tryd.underlying64 Tryd.underlying65 Tryd.underlying66 Tryd.underlying67 Tryd.underlying68 Tryd.underlying69 Tryd.underlying70 Tryd.underlying71 Tryd.underlying72 Tryd.underlying73 Tryd.underlying74 Tryd.underlying75 Tryd.underlying76 Tryd.underlying77 Tryd.underlying78 Tryd.underlying79 Tryd.underlying80 Tryd.underlying81 Tryd.underlying82 Tryd.underlying83 Tryd.underlying84 Tryd.underlying85 Tryd.underlying86 Tryd.underlying87 Tryd.underlying88 Tryd.underlying89 Tryd.underlying90 Tryd.underlying91 Tryd.underlying92
end Go.Proofs.YtfbamjlednbdhaaDoor.V
/- Bits of whole numbers; no condition. -/
namespace Go.Proofs.YtfbamjlednbdhaaDoor.V
open Go
set_option linter.unusedVariables false
theorem ofInt_nat (w n : Nat) : BitVec.ofInt w (n : Int) = BitVec.ofNat w n := by
  apply BitVec.eq_of_toNat_eq
  simp
theorem and_nat (w a b : Nat) : (BitVec.ofInt w (a : Int) &&& BitVec.ofInt w (b : Int)).toNat = (a &&& b) % 2 ^ w := by
  rw [ofInt_nat, ofInt_nat, BitVec.toNat_and, BitVec.toNat_ofNat, BitVec.toNat_ofNat, Nat.and_mod_two_pow]
theorem or_nat (w a b : Nat) : (BitVec.ofInt w (a : Int) ||| BitVec.ofInt w (b : Int)).toNat = (a ||| b) % 2 ^ w := by
  rw [ofInt_nat, ofInt_nat, BitVec.toNat_or, BitVec.toNat_ofNat, BitVec.toNat_ofNat, Nat.or_mod_two_pow]
theorem u64_and {a b : Nat} (ha : a < 2 ^ 64) : andK .u64 (a : Int) (b : Int) = ((a &&& b : Nat) : Int) := by
  have h : a &&& b < 2 ^ 64 := Nat.lt_of_le_of_lt Nat.and_le_left ha
  show IntKind.u64.wrap ((BitVec.ofInt 64 (a : Int) &&& BitVec.ofInt 64 (b : Int)).toNat : Int) = _
  rw [and_nat, Nat.mod_eq_of_lt h]
  exact IntWalk.u64_in _ (by omega)
theorem u64_or {a b : Nat} (ha : a < 2 ^ 64) (hb : b < 2 ^ 64) : orK .u64 (a : Int) (b : Int) = ((a ||| b : Nat) : Int) := by
  have h : a ||| b < 2 ^ 64 := Nat.or_lt_two_pow ha hb
  show IntKind.u64.wrap ((BitVec.ofInt 64 (a : Int) ||| BitVec.ofInt 64 (b : Int)).toNat : Int) = _
  rw [or_nat, Nat.mod_eq_of_lt h]
  exact IntWalk.u64_in _ (by omega)
theorem i64_and {a b : Nat} (ha : a < 2 ^ 63) : andK .i64 (a : Int) (b : Int) = ((a &&& b : Nat) : Int) := by
  have h : a &&& b < 2 ^ 63 := Nat.lt_of_le_of_lt Nat.and_le_left ha
  show IntKind.i64.wrap ((BitVec.ofInt 64 (a : Int) &&& BitVec.ofInt 64 (b : Int)).toNat : Int) = _
  rw [and_nat, Nat.mod_eq_of_lt (by omega)]
  exact IntWalk.i64_in _ (by omega)
theorem i64_or {a b : Nat} (ha : a < 2 ^ 63) (hb : b < 2 ^ 63) : orK .i64 (a : Int) (b : Int) = ((a ||| b : Nat) : Int) := by
  have h : a ||| b < 2 ^ 63 := Nat.or_lt_two_pow ha hb
  show IntKind.i64.wrap ((BitVec.ofInt 64 (a : Int) ||| BitVec.ofInt 64 (b : Int)).toNat : Int) = _
  rw [or_nat, Nat.mod_eq_of_lt (by omega)]
  exact IntWalk.i64_in _ (by omega)
theorem shr_nat (a i : Nat) : (a : Int).fdiv (2 ^ i) = ((a >>> i : Nat) : Int) := by
  have h : (2 : Int) ^ i = ((2 ^ i : Nat) : Int) := by norm_cast
  rw [Nat.shiftRight_eq_div_pow, h, Int.fdiv_eq_ediv_of_nonneg _ (Int.natCast_nonneg _)]
  rfl
theorem shrK_nat (k : IntKind) (a i : Nat) (hi : i ≤ k.bits) : shrK k (a : Int) (i : Int) = ((a >>> i : Nat) : Int) := by
  unfold shrK
  rw [Int.toNat_natCast, Nat.min_eq_left hi, shr_nat]
theorem u64_shl {i : Nat} (hi : i < 64) : shlK .u64 1 (i : Int) = ((2 ^ i : Nat) : Int) := by
  have h : 2 ^ i < 2 ^ 64 := Nat.pow_lt_pow_right (by omega) hi
  show IntKind.u64.wrap ((1 : Int) * 2 ^ (min (i : Int).toNat 64)) = _
  rw [Int.toNat_natCast, Nat.min_eq_left (by omega), Int.one_mul]
  have h2 : (2 : Int) ^ i = ((2 ^ i : Nat) : Int) := by norm_cast
  rw [h2]
  generalize 2 ^ i = c at h ⊢
  exact IntWalk.u64_in _ (by omega)
theorem i64_shl {i : Nat} (hi : i < 63) : shlK .i64 1 (i : Int) = ((2 ^ i : Nat) : Int) := by
  have h : 2 ^ i < 2 ^ 63 := Nat.pow_lt_pow_right (by omega) hi
  show IntKind.i64.wrap ((1 : Int) * 2 ^ (min (i : Int).toNat 64)) = _
  rw [Int.toNat_natCast, Nat.min_eq_left (by omega), Int.one_mul]
  have h2 : (2 : Int) ^ i = ((2 ^ i : Nat) : Int) := by norm_cast
  rw [h2]
  generalize 2 ^ i = c at h ⊢
  exact IntWalk.i64_in _ (by omega)
theorem bit_and_one (s i : Nat) : (s >>> i) &&& 1 = if s.testBit i then 1 else 0 := by
  rw [Nat.and_one_is_mod]
  simp only [Nat.testBit, Nat.one_and_eq_mod_two]
  rcases Nat.mod_two_eq_zero_or_one (s >>> i) with h | h <;> simp [h]
end Go.Proofs.YtfbamjlednbdhaaDoor.V
/- The law's own small functions; no condition. -/
namespace Go.Proofs.YtfbamjlednbdhaaDoor.V
open Go
set_option linter.unusedVariables false
set_option linter.unusedSimpArgs false
noncomputable section
def tab64 : List Int := [0,1,56,2,57,49,28,3,61,58,42,50,38,29,17,4,62,47,59,36,45,43,51,22,53,39,33,30,24,18,12,5,63,55,48,27,60,41,37,16,46,35,44,21,52,32,23,11,54,26,40,15,34,20,31,10,25,14,19,9,13,8,7,6]
/-- What the VM takes the table to be, and how it runs each function. -/
def pol : Pol where
  glob g := if g = 1 then some (tab64.map fun n => .sc (.int .u8 n)) else none
  mode f := if f = 21 ∨ f = 34 ∨ f = 35 ∨ f = 33 ∨ f = 42 then .opn else if f = 25 then .mut else if f = 8 ∨ f = 10 ∨ f = 12 ∨ f = 14 then .cls else .pur
abbrev LL := Sl (Sl Int)
def LL.of (x : LL) : List (List Int) := x.l.map (·.l)
theorem clean_I (a : Int) : Clean (I a) := clean_sc _
theorem clean_LI (a : Sl Int) : Clean (sl I a) := clean_sl clean_I a
abbrev en' (en : Env) (m : Mem) : Env := ⟨m.length :: en.bases, m.length⟩
variable {en : Env} {m : Mem}

def cut16 (a : Sl Int) : Sl Int := if 16 < a.l.length then a.sub 0 16 else a
theorem cut16_l (a : Sl Int) : (cut16 a).l = a.l.take 16 := by
  unfold cut16
  split
  · simp [Sl.sub]
  · rw [List.take_of_length_le (by omega)]
theorem args_sl (x : LL) (m : Mem) : [sl (sl I) x].mapM (frz m 0 frzDepth) = some [sl (sl I) x] := by
  have := clean_frz (clean_sl clean_LI x) m 0 7 (sl_ifc (sl I) x)
  simp only [List.mapM_cons, List.mapM_nil, show frzDepth = 7 + 1 from rfl, this]
  rfl
theorem few_loop (x : LL) (hx : x.l.length ≤ 15) (hf : Fits en m.length) (hb : en.bar ≤ m.length) {Q : X → List AV → Mem → Prop} {ts : List AV}
    (h : ts.length = 31 ∧ tg ts 0 = sl (sl I) x ∧ tg ts 3 = .nilS ∧ tg ts 4 = I 0)
    (hQ : ∀ ts m' v, ts.length = 31 → tg ts 3 = kv v → Row (sl I) m (x.l.map cut16) v m' → Q (.exit 0) ts m') : Wq Tryd.prog pol en (.loop (nthLoop Tryd.f7 0)) ts m Q := by
  refine loopF (fun k ts m' => ∃ (i : Nat) (v : AV), ts.length = 31 ∧ tg ts 0 = sl (sl I) x ∧ tg ts 4 = I i ∧ tg ts 3 = kv v ∧ Row (sl I) m ((x.l.take i).map cut16) v m' ∧ i ≤ x.l.length ∧ k = x.l.length - i) x.l.length ⟨0, .nilS, h.1, h.2.1, h.2.2.2, h.2.2.1, Row.nil, by omega, by omega⟩ ?_
  rintro k ts m' ⟨i, v, hl, h0, h4, h3, hr, hi, hk⟩
  rw [expandT hl]
  simp only [nthLoop, loopsOf, Tryd.f7, Option.getD_some, List.nil_append, List.append_nil, List.cons_append, List.getD_cons_zero]
  simp -implicitDefEqProofs -dsimp only [go_sem, Nat.reduceAdd, Nat.reduceSub, Nat.reduceLT, Nat.reduceLeDiff, Int.reduceToNat, Int.reduceLE, Int.reduceLT, Int.reduceAdd, Int.reduceSub, Int.reduceEq, Int.reduceNe, Int.reduceMul, Nat.reduceMul, Int.reduceNeg, Int.toNat_natCast, Nat.reduceEqDiff, X.exit.injEq, if_true, if_false, reduceIte, Bool.not_true, Bool.not_false, Bool.false_eq_true, Bool.true_eq_false, true_and, h0, h4, h3]
  split
  · rename_i hlt
    have hi' : i < x.l.length := by omega
    refine ⟨⟨by omega, hlt⟩, atQ_get hi' ?_⟩
    simp -implicitDefEqProofs -dsimp only [go_sem, Nat.reduceAdd, Nat.reduceSub, Nat.reduceLT, Nat.reduceLeDiff, Int.reduceToNat, Int.reduceLE, Int.reduceLT, Int.reduceAdd, Int.reduceSub, Int.reduceEq, Int.reduceNe, Int.reduceMul, Nat.reduceMul, Int.reduceNeg, Int.toNat_natCast, Nat.reduceEqDiff, X.exit.injEq, if_true, if_false, reduceIte, Bool.not_true, Bool.not_false, Bool.false_eq_true, Bool.true_eq_false, true_and, ]
    have htake : x.l.take (i + 1) = x.l.take i ++ [x.l[i]] := by rw [List.take_add_one, List.getElem?_eq_getElem hi']; rfl
    have hw : IntKind.i64.wrap ((i : Int) + 1) = ((i + 1 : Nat) : Int) := IntWalk.i64_in _ (by omega)
    split
    · rename_i h16
      refine ⟨by omega, hr.app _ hf hb (by simp; omega) fun r v' m'' hr' => ?_⟩
      simp -implicitDefEqProofs -dsimp only [go_sem, Nat.reduceAdd, Nat.reduceSub, Nat.reduceLT, Nat.reduceLeDiff, Int.reduceToNat, Int.reduceLE, Int.reduceLT, Int.reduceAdd, Int.reduceSub, Int.reduceEq, Int.reduceNe, Int.reduceMul, Nat.reduceMul, Int.reduceNeg, Int.toNat_natCast, Nat.reduceEqDiff, X.exit.injEq, if_true, if_false, reduceIte, Bool.not_true, Bool.not_false, Bool.false_eq_true, Bool.true_eq_false, true_and, hw]
      refine ⟨x.l.length - (i + 1), by omega, i + 1, v', ?_⟩
      and_intros <;> first | trivial | omega | skip
      rw [htake, List.map_append, List.map_cons, List.map_nil, show cut16 x.l[i] = x.l[i].sub 0 16 from if_pos (by omega)]; exact hr'
    · rename_i h16
      refine hr.app _ hf hb (by simp; omega) fun r v' m'' hr' => ?_
      simp -implicitDefEqProofs -dsimp only [go_sem, Nat.reduceAdd, Nat.reduceSub, Nat.reduceLT, Nat.reduceLeDiff, Int.reduceToNat, Int.reduceLE, Int.reduceLT, Int.reduceAdd, Int.reduceSub, Int.reduceEq, Int.reduceNe, Int.reduceMul, Nat.reduceMul, Int.reduceNeg, Int.toNat_natCast, Nat.reduceEqDiff, X.exit.injEq, if_true, if_false, reduceIte, Bool.not_true, Bool.not_false, Bool.false_eq_true, Bool.true_eq_false, true_and, hw]
      refine ⟨x.l.length - (i + 1), by omega, i + 1, v', ?_⟩
      and_intros <;> first | trivial | omega | skip
      rw [htake, List.map_append, List.map_cons, List.map_nil, show cut16 x.l[i] = x.l[i] from if_neg (by omega)]; exact hr'
  · rename_i hlt
    refine hQ _ _ v rfl rfl ?_
    rw [List.take_of_length_le (by omega)] at hr
    exact hr
def fewD (D : List (List Int)) : List (List Int) := (D.take 15).map (·.take 16)
theorem few_ok (x : LL) (hf : Fits en m.length) : WC Tryd.prog pol en (.func 7) [sl (sl I) x] m fun v m' => m' = m ∧ ∃ y : LL, v = sl (sl I) y ∧ y.of = fewD x.of := by
  refine callPur Tryd.func7 rfl rfl Tryd.ntmps7 Tryd.results7 ?_
  simp -implicitDefEqProofs -dsimp only [go_sem, Nat.reduceAdd, Nat.reduceSub, Nat.reduceLT, Nat.reduceLeDiff, Int.reduceToNat, Int.reduceLE, Int.reduceLT, Int.reduceAdd, Int.reduceSub, Int.reduceEq, Int.reduceNe, Int.reduceMul, Nat.reduceMul, Int.reduceNeg, Int.toNat_natCast, Nat.reduceEqDiff, X.exit.injEq, if_true, if_false, reduceIte, Bool.not_true, Bool.not_false, Bool.false_eq_true, Bool.true_eq_false, true_and, ]
  split
  · refine ⟨by omega, few_loop (x.sub 0 15) (by simp [Sl.sub]; omega) hf.pur (Nat.le_refl _) ⟨rfl, rfl, rfl, rfl⟩ fun ts m' v hl h3 hr => ?_⟩
    rw [expandT hl]
    simp -implicitDefEqProofs -dsimp only [go_sem, Nat.reduceAdd, Nat.reduceSub, Nat.reduceLT, Nat.reduceLeDiff, Int.reduceToNat, Int.reduceLE, Int.reduceLT, Int.reduceAdd, Int.reduceSub, Int.reduceEq, Int.reduceNe, Int.reduceMul, Nat.reduceMul, Int.reduceNeg, Int.toNat_natCast, Nat.reduceEqDiff, X.exit.injEq, if_true, if_false, reduceIte, Bool.not_true, Bool.not_false, Bool.false_eq_true, Bool.true_eq_false, true_and, h3]
    refine hr.frz clean_LI (fun a => sl_ifc I a) _ _ fun y hy => ⟨rfl, y, rfl, ?_⟩
    simp only [LL.of, fewD]
    rw [hy, List.map_map, List.map_take, List.map_map]
    simp [Function.comp_def, cut16_l, Sl.sub]
  · refine few_loop x (by omega) hf.pur (Nat.le_refl _) ⟨rfl, rfl, rfl, rfl⟩ fun ts m' v hl h3 hr => ?_
    rw [expandT hl]
    simp -implicitDefEqProofs -dsimp only [go_sem, Nat.reduceAdd, Nat.reduceSub, Nat.reduceLT, Nat.reduceLeDiff, Int.reduceToNat, Int.reduceLE, Int.reduceLT, Int.reduceAdd, Int.reduceSub, Int.reduceEq, Int.reduceNe, Int.reduceMul, Nat.reduceMul, Int.reduceNeg, Int.toNat_natCast, Nat.reduceEqDiff, X.exit.injEq, if_true, if_false, reduceIte, Bool.not_true, Bool.not_false, Bool.false_eq_true, Bool.true_eq_false, true_and, h3]
    refine hr.frz clean_LI (fun a => sl_ifc I a) _ _ fun y hy => ⟨rfl, y, rfl, ?_⟩
    simp only [LL.of, fewD]
    rw [hy, List.map_map, List.map_take, List.map_map, List.take_of_length_le (by simp; omega)]
    simp [Function.comp_def, cut16_l]
theorem little_ok (x : LL) (n : Nat) (hn : n < 2 ^ 31) (hf : Fits en m.length) : WC Tryd.prog pol en (.func 15) [sl (sl I) x, I n] m fun v m' => m' = m ∧ ∃ y : LL, v = sl (sl I) y ∧ y.of = (fewD x.of).take n := by
  refine callPur Tryd.func15 rfl rfl Tryd.ntmps15 Tryd.results15 ?_
  simp -implicitDefEqProofs -dsimp only [go_sem, Nat.reduceAdd, Nat.reduceSub, Nat.reduceLT, Nat.reduceLeDiff, Int.reduceToNat, Int.reduceLE, Int.reduceLT, Int.reduceAdd, Int.reduceSub, Int.reduceEq, Int.reduceNe, Int.reduceMul, Nat.reduceMul, Int.reduceNeg, Int.toNat_natCast, Nat.reduceEqDiff, X.exit.injEq, if_true, if_false, reduceIte, Bool.not_true, Bool.not_false, Bool.false_eq_true, Bool.true_eq_false, true_and, ]
  refine (few_ok x hf.pur).mono ?_
  rintro v m' ⟨rfl, y, rfl, hy⟩
  simp -implicitDefEqProofs -dsimp only [go_sem, Nat.reduceAdd, Nat.reduceSub, Nat.reduceLT, Nat.reduceLeDiff, Int.reduceToNat, Int.reduceLE, Int.reduceLT, Int.reduceAdd, Int.reduceSub, Int.reduceEq, Int.reduceNe, Int.reduceMul, Nat.reduceMul, Int.reduceNeg, Int.toNat_natCast, Nat.reduceEqDiff, X.exit.injEq, if_true, if_false, reduceIte, Bool.not_true, Bool.not_false, Bool.false_eq_true, Bool.true_eq_false, true_and, ]
  split
  · refine ⟨by omega, ?_⟩
    rw [frzQ_sl clean_LI]
    refine ⟨rfl, _, rfl, ?_⟩
    rw [← hy]; simp [LL.of, Sl.sub]
  · rw [frzQ_sl clean_LI]
    refine ⟨rfl, _, rfl, ?_⟩
    rw [← hy, List.take_of_length_le (by simp [LL.of]; omega)]
theorem has_ok (s i : Nat) (hs : s < 2 ^ 64) (hi : i < 64) : WC Tryd.prog pol en (.func 28) [.sc (.int .u64 s), I i] m fun v m' => v = .sc (.bool (s.testBit i)) ∧ m' = m := by
  refine callPur Tryd.func28 rfl rfl Tryd.ntmps28 Tryd.results28 ?_
  have h0 : ¬ (i : Int) < 0 := by omega
  have h1 : andK .u64 ((s >>> i : Nat) : Int) 1 = ((s >>> i &&& 1 : Nat) : Int) := u64_and (b := 1) (Nat.lt_of_le_of_lt (Nat.shiftRight_le _ _) hs)
  simp -implicitDefEqProofs -dsimp only [go_sem, Nat.reduceAdd, Nat.reduceSub, Nat.reduceLT, Nat.reduceLeDiff, Int.reduceToNat, Int.reduceLE, Int.reduceLT, Int.reduceAdd, Int.reduceSub, Int.reduceEq, Int.reduceNe, Int.reduceMul, Nat.reduceMul, Int.reduceNeg, Int.toNat_natCast, Nat.reduceEqDiff, X.exit.injEq, if_true, if_false, reduceIte, Bool.not_true, Bool.not_false, Bool.false_eq_true, Bool.true_eq_false, true_and, h0, shrK_nat .u64 s i (Nat.le_of_lt hi), h1, bit_and_one]
  refine ⟨?_, trivial⟩
  cases s.testBit i <;> simp
end
end Go.Proofs.YtfbamjlednbdhaaDoor.V
/- Whether deps are right; no condition. -/
namespace Go.Proofs.YtfbamjlednbdhaaDoor.V
open Go
set_option linter.unusedVariables false
set_option linter.unusedSimpArgs false
noncomputable section
variable {en : Env} {m : Mem}
/-- 'slices.IndexFunc', of a closure that says 'q' of each element and leaves the store. -/
theorem index_ok (x : Sl Int) (f : FuncId) (cap : List AV) (q : Int → Bool) (hx : x.l.length < 2 ^ 62) (hf : Fits en m.length)
    (hq : ∀ en : Env, Fits en m.length → ∀ d ∈ x.l, WC Tryd.prog pol en (.func f) (I d :: cap) m fun v m' => v = .sc (.bool (q d)) ∧ m' = m) :
    WC Tryd.prog pol en (.func 48) [sl I x, .clo (.func f) [] cap] m fun v m' => m' = m ∧ ∃ n : Int, v = I n ∧ decide (0 ≤ n) = x.l.any q := by
  refine callPur Tryd.func48 rfl rfl Tryd.ntmps48 Tryd.results48 ?_
  simp -implicitDefEqProofs -dsimp only [go_sem, Nat.reduceAdd, Nat.reduceSub, Nat.reduceLT, Nat.reduceLeDiff, Int.reduceToNat, Int.reduceLE, Int.reduceLT, Int.reduceAdd, Int.reduceSub, Int.reduceEq, Int.reduceNe, Int.reduceMul, Nat.reduceMul, Int.reduceNeg, Int.toNat_natCast, Nat.reduceEqDiff, X.exit.injEq, if_true, if_false, reduceIte, Bool.not_true, Bool.not_false, Bool.false_eq_true, Bool.true_eq_false, true_and, ]
  refine loopF (fun k ts m' => ∃ i : Nat, ts.length = 19 ∧ tg ts 0 = sl I x ∧ tg ts 1 = .clo (.func f) [] cap ∧ tg ts 7 = I x.l.length ∧ tg ts 8 = I i ∧ m' = m ∧ i ≤ x.l.length ∧ (x.l.take i).any q = false ∧ k = x.l.length - i) x.l.length ⟨0, rfl, rfl, rfl, rfl, rfl, rfl, by omega, rfl, by omega⟩ ?_
  rintro k ts m' ⟨i, hl, h0, h1, h7, h8, rfl, hi, hany, hk⟩
  rw [expandT hl]
  simp -implicitDefEqProofs -dsimp only [go_sem, Nat.reduceAdd, Nat.reduceSub, Nat.reduceLT, Nat.reduceLeDiff, Int.reduceToNat, Int.reduceLE, Int.reduceLT, Int.reduceAdd, Int.reduceSub, Int.reduceEq, Int.reduceNe, Int.reduceMul, Nat.reduceMul, Int.reduceNeg, Int.toNat_natCast, Nat.reduceEqDiff, X.exit.injEq, if_true, if_false, reduceIte, Bool.not_true, Bool.not_false, Bool.false_eq_true, Bool.true_eq_false, true_and, h0, h1, h7, h8]
  split
  · rename_i hlt
    have hi' : i < x.l.length := by omega
    refine ⟨by omega, atQ_get hi' ?_⟩
    simp -implicitDefEqProofs -dsimp only [go_sem, Nat.reduceAdd, Nat.reduceSub, Nat.reduceLT, Nat.reduceLeDiff, Int.reduceToNat, Int.reduceLE, Int.reduceLT, Int.reduceAdd, Int.reduceSub, Int.reduceEq, Int.reduceNe, Int.reduceMul, Nat.reduceMul, Int.reduceNeg, Int.toNat_natCast, Nat.reduceEqDiff, X.exit.injEq, if_true, if_false, reduceIte, Bool.not_true, Bool.not_false, Bool.false_eq_true, Bool.true_eq_false, true_and, ]
    refine (hq _ hf.pur x.l[i] (List.getElem_mem _)).mono ?_
    rintro v m'' ⟨rfl, rfl⟩
    have hw : IntKind.i64.wrap ((i : Int) + 1) = ((i + 1 : Nat) : Int) := IntWalk.i64_in _ (by omega)
    have htake : x.l.take (i + 1) = x.l.take i ++ [x.l[i]] := by rw [List.take_add_one, List.getElem?_eq_getElem hi']; rfl
    simp -implicitDefEqProofs -dsimp only [go_sem, Nat.reduceAdd, Nat.reduceSub, Nat.reduceLT, Nat.reduceLeDiff, Int.reduceToNat, Int.reduceLE, Int.reduceLT, Int.reduceAdd, Int.reduceSub, Int.reduceEq, Int.reduceNe, Int.reduceMul, Nat.reduceMul, Int.reduceNeg, Int.toNat_natCast, Nat.reduceEqDiff, X.exit.injEq, if_true, if_false, reduceIte, Bool.not_true, Bool.not_false, Bool.false_eq_true, Bool.true_eq_false, true_and, hw]
    split
    · rename_i hqi
      refine ⟨i, rfl, ?_⟩
      have : x.l.any q = true := List.any_eq_true.2 ⟨_, List.getElem_mem hi', hqi⟩
      rw [this]; simp
    · rename_i hqi
      refine ⟨x.l.length - (i + 1), by omega, i + 1, ?_⟩
      and_intros <;> first | trivial | omega | skip
      rw [htake, List.any_append, hany]; simpa using hqi
  · rename_i hlt
    refine ⟨-1, rfl, ?_⟩
    rw [List.take_of_length_le (by omega)] at hany
    rw [hany]; rfl
theorem contains_ok (x : Sl Int) (f : FuncId) (cap : List AV) (q : Int → Bool) (hx : x.l.length < 2 ^ 62) (hf : Fits en m.length)
    (hq : ∀ en : Env, Fits en m.length → ∀ d ∈ x.l, WC Tryd.prog pol en (.func f) (I d :: cap) m fun v m' => v = .sc (.bool (q d)) ∧ m' = m) :
    WC Tryd.prog pol en (.func 40) [sl I x, .clo (.func f) [] cap] m fun v m' => v = .sc (.bool (x.l.any q)) ∧ m' = m := by
  refine callPur Tryd.func40 rfl rfl Tryd.ntmps40 Tryd.results40 ?_
  simp -implicitDefEqProofs -dsimp only [go_sem, Nat.reduceAdd, Nat.reduceSub, Nat.reduceLT, Nat.reduceLeDiff, Int.reduceToNat, Int.reduceLE, Int.reduceLT, Int.reduceAdd, Int.reduceSub, Int.reduceEq, Int.reduceNe, Int.reduceMul, Nat.reduceMul, Int.reduceNeg, Int.toNat_natCast, Nat.reduceEqDiff, X.exit.injEq, if_true, if_false, reduceIte, Bool.not_true, Bool.not_false, Bool.false_eq_true, Bool.true_eq_false, true_and, ]
  refine (index_ok x f cap q hx hf.pur hq).mono ?_
  rintro v m' ⟨rfl, n, rfl, hn⟩
  simp -implicitDefEqProofs -dsimp only [go_sem, Nat.reduceAdd, Nat.reduceSub, Nat.reduceLT, Nat.reduceLeDiff, Int.reduceToNat, Int.reduceLE, Int.reduceLT, Int.reduceAdd, Int.reduceSub, Int.reduceEq, Int.reduceNe, Int.reduceMul, Nat.reduceMul, Int.reduceNeg, Int.toNat_natCast, Nat.reduceEqDiff, X.exit.injEq, if_true, if_false, reduceIte, Bool.not_true, Bool.not_false, Bool.false_eq_true, Bool.true_eq_false, true_and, hn]
/-- Each comes only behind smaller ones. -/
def rowOk (l : List Int) (i : Nat) : Bool := decide (l.length ≤ 256) && l.all fun d => decide (0 ≤ d) && decide (d < i)
def rightB (D : List (List Int)) : Bool := decide (D.length ≤ 256) && D.zipIdx.all fun (l, i) => rowOk l i
theorem r41_ok (dd i : Int) (id ver : Nat) (hm : m[id]? = some (.cells ver [I i])) : WC Tryd.prog pol en (.func 41) [I dd, .ptr id ver 0] m fun v m' => v = .sc (.bool (decide (dd < 0) || decide (i ≤ dd))) ∧ m' = m := by
  refine callPur Tryd.func41 rfl rfl Tryd.ntmps41 Tryd.results41 ?_
  by_cases h : dd < 0
  · simp -implicitDefEqProofs -dsimp only [go_sem, Nat.reduceAdd, Nat.reduceSub, Nat.reduceLT, Nat.reduceLeDiff, Int.reduceToNat, Int.reduceLE, Int.reduceLT, Int.reduceAdd, Int.reduceSub, Int.reduceEq, Int.reduceNe, Int.reduceMul, Nat.reduceMul, Int.reduceNeg, Int.toNat_natCast, Nat.reduceEqDiff, X.exit.injEq, if_true, if_false, reduceIte, Bool.not_true, Bool.not_false, Bool.false_eq_true, Bool.true_eq_false, true_and, hm, h, List.getElem?_cons_zero]
    simp
  · simp -implicitDefEqProofs -dsimp only [go_sem, Nat.reduceAdd, Nat.reduceSub, Nat.reduceLT, Nat.reduceLeDiff, Int.reduceToNat, Int.reduceLE, Int.reduceLT, Int.reduceAdd, Int.reduceSub, Int.reduceEq, Int.reduceNe, Int.reduceMul, Nat.reduceMul, Int.reduceNeg, Int.toNat_natCast, Nat.reduceEqDiff, X.exit.injEq, if_true, if_false, reduceIte, Bool.not_true, Bool.not_false, Bool.false_eq_true, Bool.true_eq_false, true_and, hm, h, List.getElem?_cons_zero]
    simp
theorem zip_take_succ {α : Type} (l : List α) (i : Nat) (h : i < l.length) : (l.take (i + 1)).zipIdx = (l.take i).zipIdx ++ [(l[i], i)] := by
  rw [List.take_add_one, List.getElem?_eq_getElem h, Option.toList_some, List.zipIdx_append]
  simp; omega
theorem right_ok (x : LL) (hx : x.l.length < 2 ^ 62) (hxl : ∀ a ∈ x.l, a.l.length < 2 ^ 62) (hf : Fits en m.length) : WC Tryd.prog pol en (.func 32) [sl (sl I) x] m fun v m' => v = .sc (.bool (rightB x.of)) ∧ m' = m := by
  refine callPur Tryd.func32 rfl rfl Tryd.ntmps32 Tryd.results32 ?_
  simp -implicitDefEqProofs -dsimp only [go_sem, Nat.reduceAdd, Nat.reduceSub, Nat.reduceLT, Nat.reduceLeDiff, Int.reduceToNat, Int.reduceLE, Int.reduceLT, Int.reduceAdd, Int.reduceSub, Int.reduceEq, Int.reduceNe, Int.reduceMul, Nat.reduceMul, Int.reduceNeg, Int.toNat_natCast, Nat.reduceEqDiff, X.exit.injEq, if_true, if_false, reduceIte, Bool.not_true, Bool.not_false, Bool.false_eq_true, Bool.true_eq_false, true_and, ]
  split
  · rename_i h
    have : rightB x.of = false := by simp [rightB, LL.of]; omega
    rw [this]; exact ⟨rfl, trivial⟩
  rename_i h256
  refine loopF (fun k ts m' => ∃ (i : Nat) (L : Mem), ts.length = 24 ∧ tg ts 8 = sl (sl I) x ∧ tg ts 9 = I x.l.length ∧ tg ts 10 = I i ∧ m' = m ++ L ∧ i ≤ x.l.length ∧ ((x.of.take i).zipIdx.all fun (l, i) => rowOk l i) = true ∧ k = x.l.length - i) x.l.length ⟨0, [], rfl, rfl, rfl, rfl, by simp, by omega, rfl, by omega⟩ ?_
  rintro k ts m' ⟨i, L, hl, h8, h9, h10, rfl, hi, hall, hk⟩
  rw [expandT hl]
  simp -implicitDefEqProofs -dsimp only [go_sem, Nat.reduceAdd, Nat.reduceSub, Nat.reduceLT, Nat.reduceLeDiff, Int.reduceToNat, Int.reduceLE, Int.reduceLT, Int.reduceAdd, Int.reduceSub, Int.reduceEq, Int.reduceNe, Int.reduceMul, Nat.reduceMul, Int.reduceNeg, Int.toNat_natCast, Nat.reduceEqDiff, X.exit.injEq, if_true, if_false, reduceIte, Bool.not_true, Bool.not_false, Bool.false_eq_true, Bool.true_eq_false, true_and, h8, h9, h10]
  split
  · rename_i hlt
    have hi' : i < x.l.length := by omega
    have hio : i < x.of.length := by simpa [LL.of] using hi'
    have hg : x.of[i] = x.l[i].l := by simp [LL.of]
    refine ⟨by omega, atQ_get hi' ?_⟩
    simp -implicitDefEqProofs -dsimp only [go_sem, Nat.reduceAdd, Nat.reduceSub, Nat.reduceLT, Nat.reduceLeDiff, Int.reduceToNat, Int.reduceLE, Int.reduceLT, Int.reduceAdd, Int.reduceSub, Int.reduceEq, Int.reduceNe, Int.reduceMul, Nat.reduceMul, Int.reduceNeg, Int.toNat_natCast, Nat.reduceEqDiff, X.exit.injEq, if_true, if_false, reduceIte, Bool.not_true, Bool.not_false, Bool.false_eq_true, Bool.true_eq_false, true_and, ]
    have hwi : IntKind.i64.wrap ((i : Int) + 1) = ((i + 1 : Nat) : Int) := IntWalk.i64_in _ (by omega)
    by_cases h2 : (256 : Int) < x.l[i].l.length
    · simp -implicitDefEqProofs -dsimp only [go_sem, Nat.reduceAdd, Nat.reduceSub, Nat.reduceLT, Nat.reduceLeDiff, Int.reduceToNat, Int.reduceLE, Int.reduceLT, Int.reduceAdd, Int.reduceSub, Int.reduceEq, Int.reduceNe, Int.reduceMul, Nat.reduceMul, Int.reduceNeg, Int.toNat_natCast, Nat.reduceEqDiff, X.exit.injEq, if_true, if_false, reduceIte, Bool.not_true, Bool.not_false, Bool.false_eq_true, Bool.true_eq_false, true_and, okTo_pur hf (Nat.le_add_right _ _), h2]
      have : rightB x.of = false := by
        simp only [rightB, Bool.and_eq_false_iff]; right
        rw [List.all_eq_false]
        refine ⟨(x.of[i], i), List.mk_mem_zipIdx_iff_getElem?.2 (List.getElem?_eq_getElem hio), ?_⟩
        simp [rowOk, hg]; omega
      rw [this]
      trivial
    · simp -implicitDefEqProofs -dsimp only [go_sem, Nat.reduceAdd, Nat.reduceSub, Nat.reduceLT, Nat.reduceLeDiff, Int.reduceToNat, Int.reduceLE, Int.reduceLT, Int.reduceAdd, Int.reduceSub, Int.reduceEq, Int.reduceNe, Int.reduceMul, Nat.reduceMul, Int.reduceNeg, Int.toNat_natCast, Nat.reduceEqDiff, X.exit.injEq, if_true, if_false, reduceIte, Bool.not_true, Bool.not_false, Bool.false_eq_true, Bool.true_eq_false, true_and, okTo_pur hf (Nat.le_add_right _ _), h2]
      refine (contains_ok x.l[i] 41 _ (fun d => decide (d < 0) || decide ((i : Int) ≤ d)) (hxl _ (List.getElem_mem _)) ((hf.pur).mono (by simp)) fun en he d hd => r41_ok d i _ 0 (by simp -implicitDefEqProofs -dsimp only [go_sem, Nat.reduceAdd, Nat.reduceSub, Nat.reduceLT, Nat.reduceLeDiff, Int.reduceToNat, Int.reduceLE, Int.reduceLT, Int.reduceAdd, Int.reduceSub, Int.reduceEq, Int.reduceNe, Int.reduceMul, Nat.reduceMul, Int.reduceNeg, Int.toNat_natCast, Nat.reduceEqDiff, X.exit.injEq, if_true, if_false, reduceIte, Bool.not_true, Bool.not_false, Bool.false_eq_true, Bool.true_eq_false, true_and, ])).mono ?_
      rintro v m'' ⟨rfl, rfl⟩
      have hany : (x.l[i].l.any fun d => decide (d < 0) || decide ((i : Int) ≤ d)) = !(x.l[i].l.all fun d => decide (0 ≤ d) && decide (d < i)) := by
        rw [List.any_eq_not_all_not]
        congr 2; funext d
        by_cases a : 0 ≤ d <;> by_cases b : d < (i : Int) <;> simp [a, b] <;> omega
      simp -implicitDefEqProofs -dsimp only [go_sem, Nat.reduceAdd, Nat.reduceSub, Nat.reduceLT, Nat.reduceLeDiff, Int.reduceToNat, Int.reduceLE, Int.reduceLT, Int.reduceAdd, Int.reduceSub, Int.reduceEq, Int.reduceNe, Int.reduceMul, Nat.reduceMul, Int.reduceNeg, Int.toNat_natCast, Nat.reduceEqDiff, X.exit.injEq, if_true, if_false, reduceIte, Bool.not_true, Bool.not_false, Bool.false_eq_true, Bool.true_eq_false, true_and, hwi]
      split
      · rename_i hbad
        rw [hany] at hbad
        have : rightB x.of = false := by
          simp only [rightB, Bool.and_eq_false_iff]; right
          rw [List.all_eq_false]
          refine ⟨(x.of[i], i), List.mk_mem_zipIdx_iff_getElem?.2 (List.getElem?_eq_getElem hio), ?_⟩
          have hb : (x.l[i].l.all fun d => decide (0 ≤ d) && decide (d < i)) = false := by simpa using hbad
          simp only [rowOk, hg, hb, Bool.and_false]; simp
        rw [this]
        trivial
      · rename_i hgood
        rw [hany] at hgood
        refine ⟨x.l.length - (i + 1), by omega, i + 1, L ++ [.cells 0 [I i]], ?_⟩
        and_intros <;> first | trivial | omega | skip
        · rw [zip_take_succ _ _ hio, List.all_append, hall]
          have hb : (x.l[i].l.all fun d => decide (0 ≤ d) && decide (d < i)) = true := by simpa using hgood
          simp only [List.all_cons, List.all_nil, Bool.and_true, Bool.true_and, rowOk, hg, hb, decide_eq_true_eq]; omega
  · rename_i hlt
    have : rightB x.of = true := by
      rw [List.take_of_length_le (by simp [LL.of]; omega)] at hall
      simp only [rightB, hall, Bool.and_true, decide_eq_true_eq]; simp [LL.of]; omega
    rw [this]; exact ⟨rfl, trivial⟩
theorem zip_all {D : List (List Int)} {i : Nat} (h : i < D.length) (hb : rowOk D[i] i = false) : (D.zipIdx.all fun (l, i) => rowOk l i) = false := by
  rw [List.all_eq_false]
  exact ⟨(D[i], i), List.mk_mem_zipIdx_iff_getElem?.2 (List.getElem?_eq_getElem h), by simp [hb]⟩
theorem refRight_ok (x : LL) (hx : x.l.length < 2 ^ 62) (hxl : ∀ a ∈ x.l, a.l.length < 2 ^ 62) (hf : Fits en m.length) : WC Tryd.prog pol en (.func 36) [sl (sl I) x] m fun v m' => v = .sc (.bool (rightB x.of)) ∧ m' = m := by
  refine callPur Tryd.func36 rfl rfl Tryd.ntmps36 Tryd.results36 ?_
  simp -implicitDefEqProofs -dsimp only [go_sem, Nat.reduceAdd, Nat.reduceSub, Nat.reduceLT, Nat.reduceLeDiff, Int.reduceToNat, Int.reduceLE, Int.reduceLT, Int.reduceAdd, Int.reduceSub, Int.reduceEq, Int.reduceNe, Int.reduceMul, Nat.reduceMul, Int.reduceNeg, Int.toNat_natCast, Nat.reduceEqDiff, X.exit.injEq, if_true, if_false, reduceIte, Bool.not_true, Bool.not_false, Bool.false_eq_true, Bool.true_eq_false, true_and, ]
  split
  · rename_i h
    have : rightB x.of = false := by simp [rightB, LL.of]; omega
    rw [this]; exact ⟨rfl, trivial⟩
  rename_i h256
  refine loopF (fun k ts m' => ∃ (i : Nat), ts.length = 48 ∧ tg ts 0 = sl (sl I) x ∧ tg ts 3 = I i ∧ m' = m ∧ i ≤ x.l.length ∧ ((x.of.take i).zipIdx.all fun (l, i) => rowOk l i) = true ∧ k = x.l.length - i) x.l.length ⟨0, rfl, rfl, rfl, rfl, by omega, rfl, by omega⟩ ?_
  rintro k ts m' ⟨i, hl, h0, h3, rfl, hi, hall, hk⟩
  rw [expandT hl]
  simp -implicitDefEqProofs -dsimp only [go_sem, Nat.reduceAdd, Nat.reduceSub, Nat.reduceLT, Nat.reduceLeDiff, Int.reduceToNat, Int.reduceLE, Int.reduceLT, Int.reduceAdd, Int.reduceSub, Int.reduceEq, Int.reduceNe, Int.reduceMul, Nat.reduceMul, Int.reduceNeg, Int.toNat_natCast, Nat.reduceEqDiff, X.exit.injEq, if_true, if_false, reduceIte, Bool.not_true, Bool.not_false, Bool.false_eq_true, Bool.true_eq_false, true_and, h0, h3]
  split
  · rename_i hlt
    have hi' : i < x.l.length := by omega
    have hio : i < x.of.length := by simpa [LL.of] using hi'
    have hg : x.of[i] = x.l[i].l := by simp [LL.of]
    have hwi : IntKind.i64.wrap ((i : Int) + 1) = ((i + 1 : Nat) : Int) := IntWalk.i64_in _ (by omega)
    have hlen := hxl _ (List.getElem_mem hi')
    refine ⟨by omega, atQ_get hi' ?_⟩
    simp -implicitDefEqProofs -dsimp only [go_sem, Nat.reduceAdd, Nat.reduceSub, Nat.reduceLT, Nat.reduceLeDiff, Int.reduceToNat, Int.reduceLE, Int.reduceLT, Int.reduceAdd, Int.reduceSub, Int.reduceEq, Int.reduceNe, Int.reduceMul, Nat.reduceMul, Int.reduceNeg, Int.toNat_natCast, Nat.reduceEqDiff, X.exit.injEq, if_true, if_false, reduceIte, Bool.not_true, Bool.not_false, Bool.false_eq_true, Bool.true_eq_false, true_and, ]
    split
    · rename_i h2
      have : rightB x.of = false := by
        simp only [rightB, Bool.and_eq_false_iff]; right
        exact zip_all hio (by simp [rowOk, hg]; omega)
      rw [this]; exact ⟨rfl, trivial⟩
    · rename_i h2
      refine loopF (fun k ts m2 => ∃ (j : Nat), ts.length = 48 ∧ tg ts 0 = sl (sl I) x ∧ tg ts 3 = I i ∧ tg ts 4 = I j ∧ m2 = m' ∧ j ≤ x.l[i].l.length ∧ ((x.l[i].l.take j).all fun d => decide (0 ≤ d) && decide (d < i)) = true ∧ k = x.l[i].l.length - j) x.l[i].l.length ⟨0, rfl, rfl, rfl, rfl, rfl, by omega, rfl, by omega⟩ ?_
      rintro k' ts m' ⟨j, hl, h0, h3, h4, rfl, hj, hallj, hk'⟩
      rw [expandT hl]
      have hat : atQ x.l[i]? = fun k => k x.l[i] := by funext k; rw [List.getElem?_eq_getElem hi', atQ_some]
      have h0i : (0 : Int) ≤ (i : Int) ∧ (i : Int) < (x.l.length : Int) := by omega
      simp -implicitDefEqProofs -dsimp only [go_sem, Nat.reduceAdd, Nat.reduceSub, Nat.reduceLT, Nat.reduceLeDiff, Int.reduceToNat, Int.reduceLE, Int.reduceLT, Int.reduceAdd, Int.reduceSub, Int.reduceEq, Int.reduceNe, Int.reduceMul, Nat.reduceMul, Int.reduceNeg, Int.toNat_natCast, Nat.reduceEqDiff, X.exit.injEq, if_true, if_false, reduceIte, Bool.not_true, Bool.not_false, Bool.false_eq_true, Bool.true_eq_false, true_and, h0, h3, h4, hat, h0i]
      split
      · rename_i hltj
        have hj' : j < x.l[i].l.length := by omega
        have hwj : IntKind.i64.wrap ((j : Int) + 1) = ((j + 1 : Nat) : Int) := IntWalk.i64_in _ (by omega)
        have h0j : (0 : Int) ≤ (j : Int) ∧ (j : Int) < (x.l[i].l.length : Int) := by omega
        have hatj : atQ x.l[i].l[j]? = fun k => k x.l[i].l[j] := by funext k; rw [List.getElem?_eq_getElem hj', atQ_some]
        have bad : (x.l[i].l[j] < 0 ∨ (i : Int) ≤ x.l[i].l[j]) → rightB x.of = false := by
          intro hb
          simp only [rightB, Bool.and_eq_false_iff]; right
          refine zip_all hio ?_
          simp only [rowOk, hg, Bool.and_eq_false_iff]; right
          rw [List.all_eq_false]
          refine ⟨_, List.getElem_mem hj', ?_⟩
          simp; omega
        have good : ¬ x.l[i].l[j] < 0 → ¬ (i : Int) ≤ x.l[i].l[j] → ((x.l[i].l.take (j + 1)).all fun d => decide (0 ≤ d) && decide (d < i)) = true := by
          intro h1 h2
          rw [List.take_add_one, List.getElem?_eq_getElem hj', List.all_append, hallj]
          simp; omega
        by_cases hn : x.l[i].l[j] < 0
        · simp -implicitDefEqProofs -dsimp only [go_sem, Nat.reduceAdd, Nat.reduceSub, Nat.reduceLT, Nat.reduceLeDiff, Int.reduceToNat, Int.reduceLE, Int.reduceLT, Int.reduceAdd, Int.reduceSub, Int.reduceEq, Int.reduceNe, Int.reduceMul, Nat.reduceMul, Int.reduceNeg, Int.toNat_natCast, Nat.reduceEqDiff, X.exit.injEq, if_true, if_false, reduceIte, Bool.not_true, Bool.not_false, Bool.false_eq_true, Bool.true_eq_false, true_and, h0j, hatj, hn]
          rw [bad (Or.inl hn)]; exact ⟨rfl, trivial⟩
        · by_cases hn2 : (i : Int) ≤ x.l[i].l[j]
          · simp -implicitDefEqProofs -dsimp only [go_sem, Nat.reduceAdd, Nat.reduceSub, Nat.reduceLT, Nat.reduceLeDiff, Int.reduceToNat, Int.reduceLE, Int.reduceLT, Int.reduceAdd, Int.reduceSub, Int.reduceEq, Int.reduceNe, Int.reduceMul, Nat.reduceMul, Int.reduceNeg, Int.toNat_natCast, Nat.reduceEqDiff, X.exit.injEq, if_true, if_false, reduceIte, Bool.not_true, Bool.not_false, Bool.false_eq_true, Bool.true_eq_false, true_and, h0j, hatj, hn, hn2, h0i, hat]
            rw [bad (Or.inr hn2)]; exact ⟨rfl, trivial⟩
          · simp -implicitDefEqProofs -dsimp only [go_sem, Nat.reduceAdd, Nat.reduceSub, Nat.reduceLT, Nat.reduceLeDiff, Int.reduceToNat, Int.reduceLE, Int.reduceLT, Int.reduceAdd, Int.reduceSub, Int.reduceEq, Int.reduceNe, Int.reduceMul, Nat.reduceMul, Int.reduceNeg, Int.toNat_natCast, Nat.reduceEqDiff, X.exit.injEq, if_true, if_false, reduceIte, Bool.not_true, Bool.not_false, Bool.false_eq_true, Bool.true_eq_false, true_and, h0j, hatj, hn, hn2, h0i, hat, hwj]
            refine ⟨x.l[i].l.length - (j + 1), by omega, j + 1, ?_⟩
            and_intros <;> first | trivial | omega | skip
            exact good hn hn2
      · rename_i hltj
        rw [List.take_of_length_le (by omega)] at hallj
        simp -implicitDefEqProofs -dsimp only [go_sem, Nat.reduceAdd, Nat.reduceSub, Nat.reduceLT, Nat.reduceLeDiff, Int.reduceToNat, Int.reduceLE, Int.reduceLT, Int.reduceAdd, Int.reduceSub, Int.reduceEq, Int.reduceNe, Int.reduceMul, Nat.reduceMul, Int.reduceNeg, Int.toNat_natCast, Nat.reduceEqDiff, X.exit.injEq, if_true, if_false, reduceIte, Bool.not_true, Bool.not_false, Bool.false_eq_true, Bool.true_eq_false, true_and, hwi]
        refine ⟨x.l.length - (i + 1), by omega, i + 1, ?_⟩
        and_intros <;> first | trivial | omega | skip
        rw [zip_take_succ _ _ hio, List.all_append, hall]
        simp only [List.all_cons, List.all_nil, Bool.and_true, Bool.true_and, rowOk, hg, hallj, decide_eq_true_eq]; omega
  · rename_i hlt
    have : rightB x.of = true := by
      rw [List.take_of_length_le (by simp [LL.of]; omega)] at hall
      simp only [rightB, hall, Bool.and_true, decide_eq_true_eq]; simp [LL.of]; omega
    rw [this]; exact ⟨rfl, trivial⟩
end
end Go.Proofs.YtfbamjlednbdhaaDoor.V
/- A set's bits: how many, which; no condition. -/
namespace Go.Proofs.YtfbamjlednbdhaaDoor.V
open Go
set_option linter.unusedVariables false
set_option linter.unusedSimpArgs false
noncomputable section
variable {en : Env} {m : Mem}
theorem and127 (a : Int) : ∃ c : Nat, andK .i64 a 127 = (c : Int) ∧ c ≤ 127 := by
  have h : (BitVec.ofInt 64 a &&& BitVec.ofInt 64 127).toNat ≤ 127 := by
    rw [BitVec.toNat_and]
    exact Nat.and_le_right
  refine ⟨(BitVec.ofInt 64 a &&& BitVec.ofInt 64 127).toNat, ?_, h⟩
  show IntKind.i64.wrap ((BitVec.ofInt 64 a &&& BitVec.ofInt 64 127).toNat : Int) = _
  exact IntWalk.i64_in _ (by omega)
theorem ones64_ok (s : Int) : WC Tryd.prog pol en (.func 44) [.sc (.int .u64 s)] m fun v m' => m' = m ∧ ∃ c : Nat, v = I c ∧ c ≤ 127 := by
  refine callPur Tryd.func44 rfl rfl Tryd.ntmps44 Tryd.results44 ?_
  simp -implicitDefEqProofs -dsimp only [go_sem, Nat.reduceAdd, Nat.reduceSub, Nat.reduceLT, Nat.reduceLeDiff, Int.reduceToNat, Int.reduceLE, Int.reduceLT, Int.reduceAdd, Int.reduceSub, Int.reduceEq, Int.reduceNe, Int.reduceMul, Nat.reduceMul, Int.reduceNeg, Int.toNat_natCast, Nat.reduceEqDiff, X.exit.injEq, if_true, if_false, reduceIte, Bool.not_true, Bool.not_false, Bool.false_eq_true, Bool.true_eq_false, true_and, ]
  obtain ⟨c, hc, hc2⟩ := and127 _
  exact ⟨c, by rw [hc], hc2⟩
theorem ones_ok (s : Int) : WC Tryd.prog pol en (.func 37) [.sc (.int .u64 s)] m fun v m' => m' = m ∧ ∃ c : Nat, v = I c ∧ c ≤ 127 := by
  refine callPur Tryd.func37 rfl rfl Tryd.ntmps37 Tryd.results37 ?_
  simp -implicitDefEqProofs -dsimp only [go_sem, Nat.reduceAdd, Nat.reduceSub, Nat.reduceLT, Nat.reduceLeDiff, Int.reduceToNat, Int.reduceLE, Int.reduceLT, Int.reduceAdd, Int.reduceSub, Int.reduceEq, Int.reduceNe, Int.reduceMul, Nat.reduceMul, Int.reduceNeg, Int.toNat_natCast, Nat.reduceEqDiff, X.exit.injEq, if_true, if_false, reduceIte, Bool.not_true, Bool.not_false, Bool.false_eq_true, Bool.true_eq_false, true_and, ]
  refine (ones64_ok s).mono ?_
  rintro v m' ⟨rfl, c, rfl, hc⟩
  simp -implicitDefEqProofs -dsimp only [go_sem, Nat.reduceAdd, Nat.reduceSub, Nat.reduceLT, Nat.reduceLeDiff, Int.reduceToNat, Int.reduceLE, Int.reduceLT, Int.reduceAdd, Int.reduceSub, Int.reduceEq, Int.reduceNe, Int.reduceMul, Nat.reduceMul, Int.reduceNeg, Int.toNat_natCast, Nat.reduceEqDiff, X.exit.injEq, if_true, if_false, reduceIte, Bool.not_true, Bool.not_false, Bool.false_eq_true, Bool.true_eq_false, true_and, ]
  exact ⟨c, rfl, hc⟩
/-! A number by its lowest bit: 2^(k+1) q + 2^k. -/
theorem lowest : ∀ n : Nat, n ≠ 0 → ∃ k q, n = 2 ^ (k + 1) * q + 2 ^ k := by
  intro n
  induction n using Nat.strongRecOn with
  | ind n ih =>
    intro hn
    rcases Nat.mod_two_eq_zero_or_one n with h | h
    · obtain ⟨k, q, hk⟩ := ih (n / 2) (by omega) (by omega)
      refine ⟨k + 1, q, ?_⟩
      have : n = 2 * (n / 2) := by omega
      rw [this, hk, Nat.pow_succ 2 (k + 1), Nat.pow_succ 2 k]
      rw [Nat.mul_add]
      congr 1
      · simp only [Nat.mul_assoc, Nat.mul_comm, Nat.mul_left_comm]
      · rw [Nat.mul_comm]
    · exact ⟨0, n / 2, by simp; omega⟩
theorem low_bit (k q j : Nat) : (2 ^ (k + 1) * q + 2 ^ k).testBit j = if j < k + 1 then decide (j = k) else q.testBit (j - (k + 1)) := by
  rw [Nat.testBit_two_pow_mul_add _ (Nat.pow_lt_pow_right (by omega) (by omega))]
  split
  · rw [Nat.testBit_two_pow]; simp only [decide_eq_decide]; exact eq_comm
  · rfl
theorem pre_bit (k q j : Nat) : (2 ^ (k + 1) * q + 2 ^ k - 1).testBit j = if j < k + 1 then decide (j < k) else q.testBit (j - (k + 1)) := by
  have hp : 0 < 2 ^ k := Nat.pow_pos (by omega)
  rw [Nat.add_sub_assoc (by omega), Nat.testBit_two_pow_mul_add _ (Nat.lt_of_le_of_lt (Nat.sub_le _ _) (Nat.pow_lt_pow_right (by omega) (by omega)))]
  split
  · rw [Nat.testBit_two_pow_sub_one]
  · rfl
theorem mul_bit (k q j : Nat) : (2 ^ (k + 1) * q).testBit j = if j < k + 1 then false else q.testBit (j - (k + 1)) := by
  have := Nat.testBit_two_pow_mul_add (i := k + 1) q (b := 0) (Nat.pow_pos (by omega)) j
  simpa using this
theorem low_clear (k q : Nat) : (2 ^ (k + 1) * q + 2 ^ k) &&& (2 ^ (k + 1) * q + 2 ^ k - 1) = 2 ^ (k + 1) * q := by
  apply Nat.eq_of_testBit_eq
  intro j
  rw [Nat.testBit_and, low_bit, pre_bit, mul_bit]
  by_cases h : j < k + 1
  · simp only [if_pos h]
    by_cases h2 : j = k <;> simp [h2]
  · simp only [if_neg h, Bool.and_self]
theorem low_only (k q : Nat) (hs : 2 ^ (k + 1) * q + 2 ^ k < 2 ^ 64) : (2 ^ (k + 1) * q + 2 ^ k) &&& (2 ^ 64 - (2 ^ (k + 1) * q + 2 ^ k)) = 2 ^ k := by
  have hp : 0 < 2 ^ k := Nat.pow_pos (by omega)
  have e : 2 ^ 64 - (2 ^ (k + 1) * q + 2 ^ k) = 2 ^ 64 - ((2 ^ (k + 1) * q + 2 ^ k - 1) + 1) := by congr 1; omega
  apply Nat.eq_of_testBit_eq
  intro j
  rw [Nat.testBit_and, e, Nat.testBit_two_pow_sub_succ (by omega), low_bit, pre_bit, Nat.testBit_two_pow]
  by_cases hj : j < 64
  · by_cases h : j < k + 1
    · simp only [if_pos h, hj, decide_true, Bool.true_and]
      by_cases h2 : j = k
      · simp [h2]
      · have h3 : ¬ k = j := fun h => h2 h.symm
        simp [h2, h3]
    · simp only [if_neg h]
      have h3 : ¬ k = j := by omega
      cases q.testBit (j - (k + 1)) <;> simp [h3]
  · have hb : (2 ^ (k + 1) * q + 2 ^ k).testBit j = false := Nat.testBit_lt_two_pow (Nat.lt_of_lt_of_le hs (Nat.pow_le_pow_right (by omega) (by omega)))
    rw [low_bit] at hb
    have h3 : ¬ k = j := by
      rintro rfl; simp at hb
    rw [hb]; simp [h3]
theorem low_lt {k q : Nat} (hs : 2 ^ (k + 1) * q + 2 ^ k < 2 ^ 64) : k < 64 := by
  have : 2 ^ k < 2 ^ 64 := by omega
  exact (Nat.pow_lt_pow_iff_right (by omega)).1 this
def bitsOf (s : Nat) : List Nat := (List.range 64).filter s.testBit
theorem bits_low {k q : Nat} (hk : k < 64) : bitsOf (2 ^ (k + 1) * q + 2 ^ k) = k :: bitsOf (2 ^ (k + 1) * q) := by
  have hr : List.range 64 = List.range k ++ k :: List.range' (k + 1) (63 - k) := by
    have h1 := List.range'_append_1 (s := 0) (m := k) (n := (63 - k) + 1)
    rw [List.range'_succ, Nat.zero_add, show k + (63 - k + 1) = 64 by omega] at h1
    rw [List.range_eq_range', List.range_eq_range', ← h1]
  unfold bitsOf
  rw [hr, List.filter_append, List.filter_append, List.filter_cons, List.filter_cons]
  have a1 : (List.range k).filter (2 ^ (k + 1) * q + 2 ^ k).testBit = [] := by
    rw [List.filter_eq_nil_iff]; intro j hj
    have : j < k := by simpa using hj
    rw [low_bit, if_pos (by omega)]; simp; omega
  have a2 : (List.range k).filter (2 ^ (k + 1) * q).testBit = [] := by
    rw [List.filter_eq_nil_iff]; intro j hj
    have : j < k := by simpa using hj
    rw [mul_bit, if_pos (by omega)]; simp
  have a3 : (2 ^ (k + 1) * q + 2 ^ k).testBit k = true := by rw [low_bit]; simp
  have a4 : (2 ^ (k + 1) * q).testBit k = false := by rw [mul_bit]; simp
  rw [a1, a2, a3, a4]
  simp only [List.nil_append, if_true, Bool.false_eq_true, if_false]
  congr 1
  apply List.filter_congr
  intro j hj
  rw [List.mem_range'_1] at hj
  rw [low_bit, mul_bit, if_neg (by omega), if_neg (by omega)]
theorem u64_neg {s : Nat} (h0 : 0 < s) (hs : s < 2 ^ 64) : IntKind.u64.wrap (0 - (s : Int)) = ((2 ^ 64 - s : Nat) : Int) := by
  simp only [IntKind.wrap, IntKind.bits, IntKind.signed]; simp; omega
theorem u64_mul (a b : Nat) : IntKind.u64.wrap ((a : Int) * (b : Int)) = ((a * b % 2 ^ 64 : Nat) : Int) := by
  simp only [IntKind.wrap, IntKind.bits, IntKind.signed]; simp
theorem tab_at : ∀ k, k < 64 → tab64[(2 ^ k * 285870213051353865 % 2 ^ 64) >>> 58]? = some ((k : Nat) : Int) := by decide +kernel
abbrev U8 (n : Int) : AV := .sc (.int .u8 n)
@[go_sem high] theorem opnd_tab (ts : List AV) : opnd pol ts (.global 1) = some (slp U8 tab64 0) := rfl
theorem tz64_ok {k q : Nat} (hs : 2 ^ (k + 1) * q + 2 ^ k < 2 ^ 64) : WC Tryd.prog pol en (.func 46) [.sc (.int .u64 ((2 ^ (k + 1) * q + 2 ^ k : Nat) : Int))] m fun v m' => v = I k ∧ m' = m := by
  have hk := low_lt hs
  have hp : 0 < 2 ^ k := Nat.pow_pos (by omega)
  have h1 := low_only k q hs
  generalize hn : 2 ^ (k + 1) * q + 2 ^ k = n at hs h1
  have hn0 : ¬ (n : Int) = 0 := by omega
  refine callPur Tryd.func46 rfl rfl Tryd.ntmps46 Tryd.results46 ?_
  have e1 : IntKind.u64.wrap (0 - (n : Int)) = ((2 ^ 64 - n : Nat) : Int) := u64_neg (by omega) hs
  have e2 : andK .u64 (n : Int) ((2 ^ 64 - n : Nat) : Int) = ((2 ^ k : Nat) : Int) := by rw [u64_and hs, h1]
  have e3 : IntKind.u64.wrap (((2 ^ k : Nat) : Int) * 285870213051353865) = ((2 ^ k * 285870213051353865 % 2 ^ 64 : Nat) : Int) := u64_mul (2 ^ k) 285870213051353865
  have e4 : shrK .u64 ((2 ^ k * 285870213051353865 % 2 ^ 64 : Nat) : Int) 58 = (((2 ^ k * 285870213051353865 % 2 ^ 64) >>> 58 : Nat) : Int) := shrK_nat .u64 _ 58 (by decide)
  have e5 := tab_at k hk
  generalize 2 ^ k * 285870213051353865 % 2 ^ 64 = y at e3 e4 e5
  have e6 : y >>> 58 < 64 := by
    have := (List.getElem?_eq_some_iff.1 e5).1
    exact this
  have e7 : (0 : Int) ≤ ((y >>> 58 : Nat) : Int) ∧ ((y >>> 58 : Nat) : Int) < 64 := by omega
  have e8 : IntKind.i64.wrap (k : Int) = (k : Int) := IntWalk.i64_in _ (by omega)
  have e9 : (64 : Nat) ≤ tab64.length := by decide
  generalize 2 ^ 64 - n = nn at e1 e2
  simp -implicitDefEqProofs -dsimp only [go_sem, Nat.reduceAdd, Nat.reduceSub, Nat.reduceLT, Nat.reduceLeDiff, Int.reduceToNat, Int.reduceLE, Int.reduceLT, Int.reduceAdd, Int.reduceSub, Int.reduceEq, Int.reduceNe, Int.reduceMul, Nat.reduceMul, Int.reduceNeg, Int.toNat_natCast, Nat.reduceEqDiff, X.exit.injEq, if_true, if_false, reduceIte, Bool.not_true, Bool.not_false, Bool.false_eq_true, Bool.true_eq_false, true_and, hn0, e1, e2, e3, e4, e7, e5, e8, e9]
  exact ⟨by omega, trivial⟩
theorem tz_ok {k q : Nat} (hs : 2 ^ (k + 1) * q + 2 ^ k < 2 ^ 64) : WC Tryd.prog pol en (.func 38) [.sc (.int .u64 ((2 ^ (k + 1) * q + 2 ^ k : Nat) : Int))] m fun v m' => v = I k ∧ m' = m := by
  refine callPur Tryd.func38 rfl rfl Tryd.ntmps38 Tryd.results38 ?_
  simp -implicitDefEqProofs -dsimp only [go_sem, Nat.reduceAdd, Nat.reduceSub, Nat.reduceLT, Nat.reduceLeDiff, Int.reduceToNat, Int.reduceLE, Int.reduceLT, Int.reduceAdd, Int.reduceSub, Int.reduceEq, Int.reduceNe, Int.reduceMul, Nat.reduceMul, Int.reduceNeg, Int.toNat_natCast, Nat.reduceEqDiff, X.exit.injEq, if_true, if_false, reduceIte, Bool.not_true, Bool.not_false, Bool.false_eq_true, Bool.true_eq_false, true_and, ]
  refine (tz64_ok hs).mono ?_
  rintro v m' ⟨rfl, rfl⟩
  simp -implicitDefEqProofs -dsimp only [go_sem, Nat.reduceAdd, Nat.reduceSub, Nat.reduceLT, Nat.reduceLeDiff, Int.reduceToNat, Int.reduceLE, Int.reduceLT, Int.reduceAdd, Int.reduceSub, Int.reduceEq, Int.reduceNe, Int.reduceMul, Nat.reduceMul, Int.reduceNeg, Int.toNat_natCast, Nat.reduceEqDiff, X.exit.injEq, if_true, if_false, reduceIte, Bool.not_true, Bool.not_false, Bool.false_eq_true, Bool.true_eq_false, true_and, ]
theorem bits_len (s : Nat) : (bitsOf s).length ≤ 64 := by
  have := List.length_filter_le s.testBit (List.range 64)
  simpa [bitsOf] using this
theorem numbers_ok (s : Nat) (hs : s < 2 ^ 64) (hf : Fits en m.length) : WC Tryd.prog pol en (.func 26) [.sc (.int .u64 s)] m fun v m' => m' = m ∧ ∃ y : Sl Int, v = sl I y ∧ y.l = (bitsOf s).map Int.ofNat := by
  refine callPur Tryd.func26 rfl rfl Tryd.ntmps26 Tryd.results26 ?_
  simp -implicitDefEqProofs -dsimp only [go_sem, Nat.reduceAdd, Nat.reduceSub, Nat.reduceLT, Nat.reduceLeDiff, Int.reduceToNat, Int.reduceLE, Int.reduceLT, Int.reduceAdd, Int.reduceSub, Int.reduceEq, Int.reduceNe, Int.reduceMul, Nat.reduceMul, Int.reduceNeg, Int.toNat_natCast, Nat.reduceEqDiff, X.exit.injEq, if_true, if_false, reduceIte, Bool.not_true, Bool.not_false, Bool.false_eq_true, Bool.true_eq_false, true_and, ]
  refine (ones_ok s).mono ?_
  rintro v m' ⟨rfl, c, rfl, hc⟩
  simp -implicitDefEqProofs -dsimp only [go_sem, Nat.reduceAdd, Nat.reduceSub, Nat.reduceLT, Nat.reduceLeDiff, Int.reduceToNat, Int.reduceLE, Int.reduceLT, Int.reduceAdd, Int.reduceSub, Int.reduceEq, Int.reduceNe, Int.reduceMul, Nat.reduceMul, Int.reduceNeg, Int.toNat_natCast, Nat.reduceEqDiff, X.exit.injEq, if_true, if_false, reduceIte, Bool.not_true, Bool.not_false, Bool.false_eq_true, Bool.true_eq_false, true_and, List.replicate, List.flatten_nil]
  refine ⟨by omega, ?_⟩
  refine loopF (fun k ts m2 => ∃ (t : Nat) (l : List Int) (v : AV), ts.length = 19 ∧ tg ts 0 = .sc (.int .u64 t) ∧ tg ts 3 = kv v ∧ Row I m' l v m2 ∧ (bitsOf s).map Int.ofNat = l ++ (bitsOf t).map Int.ofNat ∧ t < 2 ^ 64 ∧ k = t) s ⟨s, [], _, rfl, rfl, rfl, Or.inr ⟨0, rfl, rfl⟩, rfl, hs, rfl⟩ ?_
  rintro k ts m2 ⟨t, l, v, hl, h0, h3, hr, hbits, ht, rfl⟩
  have hlen : l.length + (bitsOf k).length ≤ 64 := by
    have := congrArg List.length hbits
    simp at this
    have := bits_len s
    omega
  rw [expandT hl]
  simp -implicitDefEqProofs -dsimp only [go_sem, Nat.reduceAdd, Nat.reduceSub, Nat.reduceLT, Nat.reduceLeDiff, Int.reduceToNat, Int.reduceLE, Int.reduceLT, Int.reduceAdd, Int.reduceSub, Int.reduceEq, Int.reduceNe, Int.reduceMul, Nat.reduceMul, Int.reduceNeg, Int.toNat_natCast, Nat.reduceEqDiff, X.exit.injEq, if_true, if_false, reduceIte, Bool.not_true, Bool.not_false, Bool.false_eq_true, Bool.true_eq_false, true_and, h0, h3]
  split
  · rename_i hne
    obtain ⟨j, q, rfl⟩ := lowest k (by omega)
    have hj := low_lt ht
    have hp : 0 < 2 ^ j := Nat.pow_pos (by omega)
    refine (tz_ok ht).mono ?_
    rintro v1 m3 ⟨rfl, rfl⟩
    simp -implicitDefEqProofs -dsimp only [go_sem, Nat.reduceAdd, Nat.reduceSub, Nat.reduceLT, Nat.reduceLeDiff, Int.reduceToNat, Int.reduceLE, Int.reduceLT, Int.reduceAdd, Int.reduceSub, Int.reduceEq, Int.reduceNe, Int.reduceMul, Nat.reduceMul, Int.reduceNeg, Int.toNat_natCast, Nat.reduceEqDiff, X.exit.injEq, if_true, if_false, reduceIte, Bool.not_true, Bool.not_false, Bool.false_eq_true, Bool.true_eq_false, true_and, ]
    refine hr.app _ hf.pur (Nat.le_refl _) (by omega) fun r v' m'' hr' => ?_
    have hcl := low_clear j q
    have hbl := bits_low (q := q) hj
    generalize hnn : 2 ^ (j + 1) * q + 2 ^ j = n at *
    have e1 : IntKind.u64.wrap ((n : Int) - 1) = ((n - 1 : Nat) : Int) := by
      rw [IntWalk.u64_in _ (by omega)]; omega
    have e2 : andK .u64 (n : Int) ((n - 1 : Nat) : Int) = ((2 ^ (j + 1) * q : Nat) : Int) := by rw [u64_and ht, hcl]
    generalize n - 1 = n1 at e1 e2
    simp -implicitDefEqProofs -dsimp only [go_sem, Nat.reduceAdd, Nat.reduceSub, Nat.reduceLT, Nat.reduceLeDiff, Int.reduceToNat, Int.reduceLE, Int.reduceLT, Int.reduceAdd, Int.reduceSub, Int.reduceEq, Int.reduceNe, Int.reduceMul, Nat.reduceMul, Int.reduceNeg, Int.toNat_natCast, Nat.reduceEqDiff, X.exit.injEq, if_true, if_false, reduceIte, Bool.not_true, Bool.not_false, Bool.false_eq_true, Bool.true_eq_false, true_and, e1, e2]
    refine ⟨2 ^ (j + 1) * q, by omega, 2 ^ (j + 1) * q, l ++ [(j : Int)], v', ?_⟩
    and_intros <;> first | trivial | omega | skip
    rw [hbits, hbl]; simp
  · rename_i hne
    have : k = 0 := by omega
    subst this
    refine hr.frz clean_I (fun a t u => by simp) _ _ fun y hy => ⟨rfl, y, rfl, ?_⟩
    rw [hy, hbits]
    simp [bitsOf]
end
end Go.Proofs.YtfbamjlednbdhaaDoor.V
/- 'read': deps as sets; no condition. -/
namespace Go.Proofs.YtfbamjlednbdhaaDoor.V
open Go
set_option linter.unusedVariables false
set_option linter.unusedSimpArgs false
noncomputable section
variable {en : Env} {m : Mem}
abbrev U (n : Nat) : AV := .sc (.int .u64 n)
/-- What a row needs at once, and in all (with what those ahead need). -/
def maskR (l : List Int) : Nat := l.foldl (fun s d => s ||| 2 ^ d.toNat) 0
def allR (a : List Nat) (l : List Int) : Nat := l.foldl (fun s d => s ||| (2 ^ d.toNat ||| a.getD d.toNat 0)) 0
def needD (D : List (List Int)) : List Nat := D.map maskR
def aheadD (D : List (List Int)) : List Nat := D.foldl (fun a l => a ++ [allR a l]) []
def fitsD (D : List (List Int)) : Bool := decide (D.length ≤ 14) && rightB D
theorem fold_or_lt {α : Type} {f : α → Nat} {n : Nat} : ∀ (l : List α) (s : Nat), s < 2 ^ n → (∀ d ∈ l, f d < 2 ^ n) → l.foldl (fun s d => s ||| f d) s < 2 ^ n
  | [], s, hs, _ => hs
  | d :: l, s, hs, h => fold_or_lt l _ (Nat.or_lt_two_pow hs (h d (by simp))) fun e he => h e (by simp [he])
theorem fold_or_take {α : Type} {f : α → Nat} (l : List α) (j : Nat) (hj : j < l.length) : (l.take (j + 1)).foldl (fun s d => s ||| f d) 0 = (l.take j).foldl (fun s d => s ||| f d) 0 ||| f l[j] := by
  rw [List.take_add_one, List.getElem?_eq_getElem hj, List.foldl_append]; rfl
def St20 (m : Mem) (D : List (List Int)) (i : Nat) (m' : Mem) : Prop :=
  (i = 0 ∧ m' = m ++ [.cells 0 [.nilS, .nilS]]) ∨
  (∃ v1 v2, m' = m ++ [.cells 0 [.own (m.length + 1) v1 0 i 1, .own (m.length + 2) v2 0 i 1], .cells v1 (((needD D).take i).map U), .cells v2 (((aheadD D).take i).map U)])
theorem ahead_fold : ∀ (D : List (List Int)) (a : List Nat), (D.foldl (fun a l => a ++ [allR a l]) a).length = a.length + D.length ∧ (D.foldl (fun a l => a ++ [allR a l]) a).take a.length = a
  | [], a => by simp
  | l :: D, a => by
    obtain ⟨h1, h2⟩ := ahead_fold D (a ++ [allR a l])
    rw [List.foldl_cons]
    refine ⟨by rw [h1]; simp; omega, ?_⟩
    have := congrArg (List.take a.length) h2
    rw [List.take_take] at this
    simpa using this
theorem ahead_len (D : List (List Int)) : (aheadD D).length = D.length := by
  have := (ahead_fold D []).1; simpa [aheadD] using this
theorem ahead_take (D : List (List Int)) (i : Nat) (hi : i < D.length) : (aheadD D).take (i + 1) = (aheadD D).take i ++ [allR ((aheadD D).take i) D[i]] := by
  have key : ∀ (j : Nat), j ≤ D.length → (aheadD D).take j = aheadD (D.take j) := by
    intro j hj
    have h := (ahead_fold (D.drop j) (aheadD (D.take j))).2
    rw [ahead_len, List.length_take, Nat.min_eq_left hj] at h
    unfold aheadD at h ⊢
    rw [← List.foldl_append, List.take_append_drop] at h
    exact h
  have ht : D.take (i + 1) = D.take i ++ [D[i]] := by rw [List.take_add_one, List.getElem?_eq_getElem hi]; rfl
  rw [key _ (by omega), key _ (by omega), ht]
  unfold aheadD
  rw [List.foldl_append]; rfl
theorem row_ok {D : List (List Int)} (h : rightB D = true) {i : Nat} (hi : i < D.length) : ∀ d ∈ D[i], 0 ≤ d ∧ d < i := by
  intro d hd
  simp only [rightB, Bool.and_eq_true, List.all_eq_true] at h
  have := h.2 (D[i], i) (List.mk_mem_zipIdx_iff_getElem?.2 (List.getElem?_eq_getElem hi))
  simp only [rowOk, Bool.and_eq_true, List.all_eq_true] at this
  have := this.2 d hd
  simpa using this
theorem getD_lt {l : List Nat} {b : Nat} (h : ∀ a ∈ l, a < 2 ^ b) (i : Nat) : l.getD i 0 < 2 ^ b := by
  rw [List.getD_eq_getElem?_getD]
  cases hi : l[i]? with
  | none => exact Nat.pow_pos (by omega)
  | some a => exact h a (List.mem_of_getElem? hi)
theorem ahead_lt {D : List (List Int)} (hR : rightB D = true) (hD : D.length ≤ 14) : ∀ i, ∀ a ∈ (aheadD D).take i, a < 2 ^ 64 := by
  intro i
  induction i with
  | zero => simp
  | succ i ih =>
    by_cases hi : i < D.length
    · rw [ahead_take D i hi]
      intro a ha
      rcases List.mem_append.1 ha with ha | ha
      · exact ih a ha
      · simp only [List.mem_singleton] at ha
        subst ha
        refine fold_or_lt _ _ (by decide) fun e he => Nat.or_lt_two_pow (Nat.pow_lt_pow_right (by omega) ?_) (getD_lt ih _)
        have := row_ok hR hi e he; omega
    · have h1 := ahead_len D
      rw [List.take_of_length_le (by omega)] at ih ⊢
      exact ih
theorem read_ok (x : LL) (hx : x.l.length < 2 ^ 62) (hxl : ∀ a ∈ x.l, a.l.length < 2 ^ 62) (hf : Fits en m.length) : WC Tryd.prog pol en (.func 20) [sl (sl I) x] m fun v m' => m' = m ∧ ∃ n a : Sl Nat, v = .tup [.agg [sl U n, sl U a], .sc (.bool (fitsD x.of))] ∧ (fitsD x.of = true → n.l = needD x.of ∧ a.l = aheadD x.of) := by
  refine callPur Tryd.func20 rfl rfl Tryd.ntmps20 Tryd.results20 ?_
  by_cases h14 : (14 : Int) < x.l.length
  · have hfd : fitsD x.of = false := by simp [fitsD, LL.of]; omega
    simp -implicitDefEqProofs -dsimp only [go_sem, Nat.reduceAdd, Nat.reduceSub, Nat.reduceLT, Nat.reduceLeDiff, Int.reduceToNat, Int.reduceLE, Int.reduceLT, Int.reduceAdd, Int.reduceSub, Int.reduceEq, Int.reduceNe, Int.reduceMul, Nat.reduceMul, Int.reduceNeg, Int.toNat_natCast, Nat.reduceEqDiff, X.exit.injEq, if_true, if_false, reduceIte, Bool.not_true, Bool.not_false, Bool.false_eq_true, Bool.true_eq_false, true_and, h14, hfd, okTo_pur hf (Nat.le_refl _)]
    exact ⟨⟨true, false, []⟩, ⟨true, false, []⟩, rfl, fun h => by cases h⟩
  simp -implicitDefEqProofs -dsimp only [go_sem, Nat.reduceAdd, Nat.reduceSub, Nat.reduceLT, Nat.reduceLeDiff, Int.reduceToNat, Int.reduceLE, Int.reduceLT, Int.reduceAdd, Int.reduceSub, Int.reduceEq, Int.reduceNe, Int.reduceMul, Nat.reduceMul, Int.reduceNeg, Int.toNat_natCast, Nat.reduceEqDiff, X.exit.injEq, if_true, if_false, reduceIte, Bool.not_true, Bool.not_false, Bool.false_eq_true, Bool.true_eq_false, true_and, h14]
  refine (right_ok x hx hxl (hf.pur.mono (by simp))).mono ?_
  rintro v m1 ⟨rfl, rfl⟩
  by_cases hR : rightB x.of = false
  · have hfd : fitsD x.of = false := by simp [fitsD, hR]
    simp -implicitDefEqProofs -dsimp only [go_sem, Nat.reduceAdd, Nat.reduceSub, Nat.reduceLT, Nat.reduceLeDiff, Int.reduceToNat, Int.reduceLE, Int.reduceLT, Int.reduceAdd, Int.reduceSub, Int.reduceEq, Int.reduceNe, Int.reduceMul, Nat.reduceMul, Int.reduceNeg, Int.toNat_natCast, Nat.reduceEqDiff, X.exit.injEq, if_true, if_false, reduceIte, Bool.not_true, Bool.not_false, Bool.false_eq_true, Bool.true_eq_false, true_and, hR, hfd, okTo_pur hf (Nat.le_refl _)]
    exact ⟨⟨true, false, []⟩, ⟨true, false, []⟩, rfl, fun h => by cases h⟩
  have hR : rightB x.of = true := by simpa using hR
  have hlen : x.of.length = x.l.length := by simp [LL.of]
  have hfd : fitsD x.of = true := by simp only [fitsD, hR, Bool.and_true, decide_eq_true_eq]; omega
  simp -implicitDefEqProofs -dsimp only [go_sem, Nat.reduceAdd, Nat.reduceSub, Nat.reduceLT, Nat.reduceLeDiff, Int.reduceToNat, Int.reduceLE, Int.reduceLT, Int.reduceAdd, Int.reduceSub, Int.reduceEq, Int.reduceNe, Int.reduceMul, Nat.reduceMul, Int.reduceNeg, Int.toNat_natCast, Nat.reduceEqDiff, X.exit.injEq, if_true, if_false, reduceIte, Bool.not_true, Bool.not_false, Bool.false_eq_true, Bool.true_eq_false, true_and, hR, hfd]
  refine loopF (fun k ts m' => ∃ i : Nat, ts.length = 60 ∧ tg ts 2 = .ptr m.length 0 0 ∧ tg ts 19 = sl (sl I) x ∧ tg ts 20 = I x.l.length ∧ tg ts 21 = I i ∧ i ≤ x.l.length ∧ St20 m x.of i m' ∧ k = x.l.length - i) x.l.length ⟨0, rfl, rfl, rfl, rfl, rfl, by omega, Or.inl ⟨rfl, rfl⟩, by omega⟩ ?_
  rintro k ts m' ⟨i, hl, h2, h19, h20, h21, hi, hst, hk⟩
  rw [expandT hl]
  simp -implicitDefEqProofs -dsimp only [go_sem, Nat.reduceAdd, Nat.reduceSub, Nat.reduceLT, Nat.reduceLeDiff, Int.reduceToNat, Int.reduceLE, Int.reduceLT, Int.reduceAdd, Int.reduceSub, Int.reduceEq, Int.reduceNe, Int.reduceMul, Nat.reduceMul, Int.reduceNeg, Int.toNat_natCast, Nat.reduceEqDiff, X.exit.injEq, if_true, if_false, reduceIte, Bool.not_true, Bool.not_false, Bool.false_eq_true, Bool.true_eq_false, true_and, h2, h19, h20, h21]
  split
  · rename_i hlt
    have hi' : i < x.l.length := by omega
    have hio : i < x.of.length := by omega
    have hg : x.of[i] = x.l[i].l := by simp [LL.of]
    have hrow := row_ok hR hio
    rw [hg] at hrow
    refine ⟨by omega, atQ_get hi' ?_⟩
    simp -implicitDefEqProofs -dsimp only [go_sem, Nat.reduceAdd, Nat.reduceSub, Nat.reduceLT, Nat.reduceLeDiff, Int.reduceToNat, Int.reduceLE, Int.reduceLT, Int.reduceAdd, Int.reduceSub, Int.reduceEq, Int.reduceNe, Int.reduceMul, Nat.reduceMul, Int.reduceNeg, Int.toNat_natCast, Nat.reduceEqDiff, X.exit.injEq, if_true, if_false, reduceIte, Bool.not_true, Bool.not_false, Bool.false_eq_true, Bool.true_eq_false, true_and, ]
    -- the sets of the row
    refine loopF (fun k ts m2 => ∃ j : Nat, ts.length = 60 ∧ tg ts 2 = .ptr m.length 0 0 ∧ tg ts 19 = sl (sl I) x ∧ tg ts 20 = I x.l.length ∧ tg ts 21 = I i ∧ tg ts 25 = sl I x.l[i] ∧ tg ts 26 = I x.l[i].l.length ∧ tg ts 27 = I j ∧ j ≤ x.l[i].l.length ∧ m2 = m' ∧ tg ts 6 = U (maskR (x.l[i].l.take j)) ∧ tg ts 7 = U (allR ((aheadD x.of).take i) (x.l[i].l.take j)) ∧ k = x.l[i].l.length - j) x.l[i].l.length ⟨0, rfl, rfl, rfl, rfl, rfl, rfl, rfl, rfl, by omega, rfl, rfl, rfl, by omega⟩ ?_
    rintro k2 ts m2 ⟨j, hl, h2, h19, h20, h21, h25, h26, h27, hj, rfl, h6, h7, hk2⟩
    rw [expandT hl]
    simp -implicitDefEqProofs -dsimp only [go_sem, Nat.reduceAdd, Nat.reduceSub, Nat.reduceLT, Nat.reduceLeDiff, Int.reduceToNat, Int.reduceLE, Int.reduceLT, Int.reduceAdd, Int.reduceSub, Int.reduceEq, Int.reduceNe, Int.reduceMul, Nat.reduceMul, Int.reduceNeg, Int.toNat_natCast, Nat.reduceEqDiff, X.exit.injEq, if_true, if_false, reduceIte, Bool.not_true, Bool.not_false, Bool.false_eq_true, Bool.true_eq_false, true_and, h2, h19, h20, h21, h25, h26, h27, h6, h7]
    split
    · rename_i hltj
      have hj' : j < x.l[i].l.length := by omega
      have hd := hrow _ (List.getElem_mem hj')
      obtain ⟨dn, hdn⟩ : ∃ dn : Nat, x.l[i].l[j] = (dn : Int) := ⟨x.l[i].l[j].toNat, by omega⟩
      have hdi : dn < i := by omega
      have hi14 : i ≤ 13 := by omega
      have hA : ((aheadD x.of).take i).length = i := by rw [List.length_take, ahead_len]; omega
      have hAb := ahead_lt hR (by omega) i
      rcases hst with ⟨rfl, _⟩ | ⟨v1, v2, rfl⟩
      · omega
      have hdA : dn < ((aheadD x.of).take i).length := by omega
      have hshl : shlK .u64 1 (dn : Int) = ((2 ^ dn : Nat) : Int) := u64_shl (by omega)
      have hp14 : ∀ e, e < 14 → 2 ^ e < 2 ^ 64 := fun e he => Nat.pow_lt_pow_right (by omega) (by omega)
      have hm1 : maskR (x.l[i].l.take j) < 2 ^ 64 := by
        refine fold_or_lt _ _ (by decide) fun e he => hp14 _ ?_
        have := hrow e (List.mem_of_mem_take he); omega
      have ha1 : allR ((aheadD x.of).take i) (x.l[i].l.take j) < 2 ^ 64 := by
        refine fold_or_lt _ _ (by decide) fun e he => Nat.or_lt_two_pow (hp14 _ ?_) ?_
        · have := hrow e (List.mem_of_mem_take he); omega
        · exact getD_lt hAb _
      have ho1 : orK .u64 (maskR (x.l[i].l.take j) : Int) ((2 ^ dn : Nat) : Int) = (maskR (x.l[i].l.take (j + 1)) : Int) := by
        rw [u64_or hm1 (hp14 _ (by omega))]
        unfold maskR
        rw [fold_or_take _ _ hj', hdn]; rfl
      have hgA : ((aheadD x.of).take i).getD dn 0 = ((aheadD x.of).take i)[dn] := by rw [List.getD_eq_getElem?_getD, List.getElem?_eq_getElem hdA]; rfl
      have hAe : ((aheadD x.of).take i)[dn] < 2 ^ 64 := hAb _ (List.getElem_mem _)
      have ho2 : orK .u64 ((2 ^ dn : Nat) : Int) (((aheadD x.of).take i)[dn] : Int) = ((2 ^ dn ||| ((aheadD x.of).take i)[dn] : Nat) : Int) := u64_or (hp14 _ (by omega)) hAe
      have ho3 : orK .u64 (allR ((aheadD x.of).take i) (x.l[i].l.take j) : Int) ((2 ^ dn ||| ((aheadD x.of).take i)[dn] : Nat) : Int) = (allR ((aheadD x.of).take i) (x.l[i].l.take (j + 1)) : Int) := by
        rw [u64_or ha1 (Nat.or_lt_two_pow (hp14 _ (by omega)) hAe)]
        unfold allR
        rw [fold_or_take _ _ hj', hdn, Int.toNat_natCast, hgA]
      have hll := hxl _ (List.getElem_mem hi')
      have hwj : IntKind.i64.wrap ((j : Int) + 1) = ((j + 1 : Nat) : Int) := IntWalk.i64_in _ (by omega)
      have hn0 : ¬ (dn : Int) < 0 := by omega
      have hbd : (0 : Int) ≤ (dn : Int) ∧ (dn : Int) < (i : Int) := by omega
      have hgm : (((aheadD x.of).take i).map U)[dn]? = some (U ((aheadD x.of).take i)[dn]) := by rw [List.getElem?_map, List.getElem?_eq_getElem hdA]; rfl
      refine ⟨by omega, atQ_get hj' ?_⟩
      rw [hdn]
      simp -implicitDefEqProofs -dsimp only [go_sem, Nat.reduceAdd, Nat.reduceSub, Nat.reduceLT, Nat.reduceLeDiff, Int.reduceToNat, Int.reduceLE, Int.reduceLT, Int.reduceAdd, Int.reduceSub, Int.reduceEq, Int.reduceNe, Int.reduceMul, Nat.reduceMul, Int.reduceNeg, Int.toNat_natCast, Nat.reduceEqDiff, X.exit.injEq, if_true, if_false, reduceIte, Bool.not_true, Bool.not_false, Bool.false_eq_true, Bool.true_eq_false, true_and, hn0, hshl, ho1, ho2, ho3, hbd, hgm, hwj, Nat.mul_one, Nat.zero_add, Nat.add_zero]
      refine ⟨by kernel_rfl, by kernel_rfl, x.l[i].l.length - (j + 1), by omega, j + 1, ?_⟩
      and_intros <;> first | trivial | omega | exact Or.inr ⟨_, _, rfl⟩ | skip
    · rename_i hltj
      have hjl : j = x.l[i].l.length := by omega
      subst hjl
      have hwi : IntKind.i64.wrap ((i : Int) + 1) = ((i + 1 : Nat) : Int) := IntWalk.i64_in _ (by omega)
      have ht1 := List.take_of_length_le (Nat.le_refl x.l[i].l.length)
      rcases hst with ⟨rfl, rfl⟩ | ⟨v1, v2, rfl⟩
      · simp -implicitDefEqProofs -dsimp only [go_sem, Nat.reduceAdd, Nat.reduceSub, Nat.reduceLT, Nat.reduceLeDiff, Int.reduceToNat, Int.reduceLE, Int.reduceLT, Int.reduceAdd, Int.reduceSub, Int.reduceEq, Int.reduceNe, Int.reduceMul, Nat.reduceMul, Int.reduceNeg, Int.toNat_natCast, Nat.reduceEqDiff, X.exit.injEq, if_true, if_false, reduceIte, Bool.not_true, Bool.not_false, Bool.false_eq_true, Bool.true_eq_false, true_and, hwi, ht1, okTo_pur hf (Nat.le_add_right _ _), okTo_pur hf (Nat.le_refl _), Nat.mul_one, Nat.zero_add, Nat.add_zero]
        refine ⟨by kernel_rfl, ⟨by decide, trivial⟩, ⟨by decide, trivial⟩, peace_of (L := [(⟨[m.length], [], false, false, false⟩, ⟨[m.length], [], false, false, false⟩), (⟨[], [], true, false, false⟩, ⟨[m.length], [], false, false, false⟩)]) (by kernel_rfl) (by simp [confl, Foot.loud, Foot.writes]), x.l.length - 1, by omega, 1, ?_⟩
        have hn1 : (needD x.of).take 1 = [maskR x.l[0].l] := by
          unfold needD
          rw [← List.map_take, List.take_add_one, List.getElem?_eq_getElem hio, hg]; rfl
        have ha1 := ahead_take x.of 0 hio
        and_intros <;> first | trivial | omega | skip
        refine Or.inr ⟨0, 0, ?_⟩
        rw [hn1, ha1, hg]; rfl
      · simp -implicitDefEqProofs -dsimp only [go_sem, Nat.reduceAdd, Nat.reduceSub, Nat.reduceLT, Nat.reduceLeDiff, Int.reduceToNat, Int.reduceLE, Int.reduceLT, Int.reduceAdd, Int.reduceSub, Int.reduceEq, Int.reduceNe, Int.reduceMul, Nat.reduceMul, Int.reduceNeg, Int.toNat_natCast, Nat.reduceEqDiff, X.exit.injEq, if_true, if_false, reduceIte, Bool.not_true, Bool.not_false, Bool.false_eq_true, Bool.true_eq_false, true_and, hwi, ht1, okTo_pur hf (Nat.le_add_right _ _), okTo_pur hf (Nat.le_refl _), Nat.mul_one, Nat.zero_add, Nat.add_zero]
        have hn1 : (needD x.of).take (i + 1) = (needD x.of).take i ++ [maskR x.l[i].l] := by
          unfold needD
          rw [← List.map_take, ← List.map_take, List.take_add_one, List.getElem?_eq_getElem hio, hg]; simp
        have ha1 := ahead_take x.of i hio
        have hnl : ((needD x.of).take i).length = i := by simp [needD]; omega
        have hal : ((aheadD x.of).take i).length = i := by rw [List.length_take, ahead_len]; omega
        have hroom : roomOk (i + 1) 1 = true := by simp [roomOk]; omega
        refine ⟨by kernel_rfl, ⟨by rw [List.length_map, hnl]; exact Nat.le_refl _, hroom, trivial⟩, ⟨by rw [List.length_map, hal]; exact Nat.le_refl _, hroom, trivial⟩, peace_of (L := [(⟨[m.length], [], false, false, false⟩, ⟨[m.length], [], false, false, false⟩), (⟨[m.length + 1], [m.length + 1], false, false, false⟩, ⟨[m.length], [], false, false, false⟩)]) (by kernel_rfl) (by simp [confl, Foot.loud, Foot.writes]), x.l.length - (i + 1), by omega, i + 1, ?_⟩
        and_intros <;> first | trivial | omega | skip
        refine Or.inr ⟨v1 + 1, v2 + 1, ?_⟩
        have t1 : (((needD x.of).take i).map U).take i = ((needD x.of).take i).map U := List.take_of_length_le (by rw [List.length_map, hnl]; exact Nat.le_refl _)
        have t2 : (((aheadD x.of).take i).map U).take i = ((aheadD x.of).take i).map U := List.take_of_length_le (by rw [List.length_map, hal]; exact Nat.le_refl _)
        rw [hn1, ha1, hg, t1, t2, List.map_append, List.map_append]; rfl
  · have hie : i = x.l.length := by omega
    have hnl : (needD x.of).length = i := by simp [needD]; omega
    have hal : (aheadD x.of).length = i := by rw [ahead_len]; omega
    rcases hst with ⟨rfl, rfl⟩ | ⟨v1, v2, rfl⟩
    · simp -implicitDefEqProofs -dsimp only [go_sem, Nat.reduceAdd, Nat.reduceSub, Nat.reduceLT, Nat.reduceLeDiff, Int.reduceToNat, Int.reduceLE, Int.reduceLT, Int.reduceAdd, Int.reduceSub, Int.reduceEq, Int.reduceNe, Int.reduceMul, Nat.reduceMul, Int.reduceNeg, Int.toNat_natCast, Nat.reduceEqDiff, X.exit.injEq, if_true, if_false, reduceIte, Bool.not_true, Bool.not_false, Bool.false_eq_true, Bool.true_eq_false, true_and, okTo_pur hf (Nat.le_refl _), hfd]
      refine ⟨⟨true, false, []⟩, ⟨true, false, []⟩, rfl, fun _ => ⟨?_, ?_⟩⟩
      · exact (List.eq_nil_of_length_eq_zero hnl).symm
      · exact (List.eq_nil_of_length_eq_zero hal).symm
    · simp -implicitDefEqProofs -dsimp only [go_sem, Nat.reduceAdd, Nat.reduceSub, Nat.reduceLT, Nat.reduceLeDiff, Int.reduceToNat, Int.reduceLE, Int.reduceLT, Int.reduceAdd, Int.reduceSub, Int.reduceEq, Int.reduceNe, Int.reduceMul, Nat.reduceMul, Int.reduceNeg, Int.toNat_natCast, Nat.reduceEqDiff, X.exit.injEq, if_true, if_false, reduceIte, Bool.not_true, Bool.not_false, Bool.false_eq_true, Bool.true_eq_false, true_and, okTo_pur hf (Nat.le_refl _)]
      rw [List.take_of_length_le (by omega), List.take_of_length_le (by omega)]
      have e1 := frzQ_own (f := U) (fun a => clean_sc _) (fun a t u => by simp) (m := m ++ [.cells 0 [.own (m.length + 1) v1 0 i 1, .own (m.length + 2) v2 0 i 1], .cells v1 ((needD x.of).map U), .cells v2 ((aheadD x.of).map U)]) (b := m.length) (d := 4) (id := m.length + 1) (ver := v1) (needD x.of) (by rw [getM]; rfl) (by omega)
      have e2 := frzQ_own (f := U) (fun a => clean_sc _) (fun a t u => by simp) (m := m ++ [.cells 0 [.own (m.length + 1) v1 0 i 1, .own (m.length + 2) v2 0 i 1], .cells v1 ((needD x.of).map U), .cells v2 ((aheadD x.of).map U)]) (b := m.length) (d := 4) (id := m.length + 2) (ver := v2) (aheadD x.of) (by rw [getM]; rfl) (by omega)
      rw [hnl] at e1
      rw [hal] at e2
      rw [e1]
      simp -implicitDefEqProofs -dsimp only [go_sem, Nat.reduceAdd, Nat.reduceSub, Nat.reduceLT, Nat.reduceLeDiff, Int.reduceToNat, Int.reduceLE, Int.reduceLT, Int.reduceAdd, Int.reduceSub, Int.reduceEq, Int.reduceNe, Int.reduceMul, Nat.reduceMul, Int.reduceNeg, Int.toNat_natCast, Nat.reduceEqDiff, X.exit.injEq, if_true, if_false, reduceIte, Bool.not_true, Bool.not_false, Bool.false_eq_true, Bool.true_eq_false, true_and, ]
      rw [e2]
      simp -implicitDefEqProofs -dsimp only [go_sem, Nat.reduceAdd, Nat.reduceSub, Nat.reduceLT, Nat.reduceLeDiff, Int.reduceToNat, Int.reduceLE, Int.reduceLT, Int.reduceAdd, Int.reduceSub, Int.reduceEq, Int.reduceNe, Int.reduceMul, Nat.reduceMul, Int.reduceNeg, Int.toNat_natCast, Nat.reduceEqDiff, X.exit.injEq, if_true, if_false, reduceIte, Bool.not_true, Bool.not_false, Bool.false_eq_true, Bool.true_eq_false, true_and, hfd]
      exact ⟨_, _, rfl, fun _ => ⟨rfl, rfl⟩⟩
end
end Go.Proofs.YtfbamjlednbdhaaDoor.V
/- 'descend': all closed sets, whatever is done with each; no condition. -/
namespace Go.Proofs.YtfbamjlednbdhaaDoor.V
open Go
set_option linter.unusedVariables false
set_option linter.unusedSimpArgs false
noncomputable section
variable {en : Env} {m : Mem}
/-- The sets, in order. -/
def desc (needs : List Nat) : Nat → Nat → Nat → List Nat
  | 0, inn, must => [inn]
  | i + 1, inn, must => (if must.testBit i then [] else desc needs i inn must) ++ desc needs i (inn ||| 2 ^ i) (must ||| needs.getD i 0)
abbrev encU (s : Nat) : List AV := [U s]
abbrev okU (s : Nat) : Prop := s < 2 ^ 64
theorem desc_ok (n a : Sl Nat) {yid base : Nat} {σ : Type} {Live : σ → Prop} {Inv : σ → List Nat → Mem → Prop} {F : σ → Nat → σ × Bool} (hT : Told Tryd.prog pol en encU okU yid base Live Inv F) (hb : en.bar ≤ base) (hf : Fits en base) (hn : n.l.length ≤ 14) (hnb : ∀ x ∈ n.l, x < 2 ^ 64) :
    ∀ (k inn must : Nat) (st : σ) (own : List Nat) (m : Mem), k ≤ n.l.length → inn < 2 ^ 64 → must < 2 ^ 64 → base ≤ m.length → Live st → Inv st own m →
    WC Tryd.prog pol en (.func 35) [.agg [sl U n, sl U a], I ((k : Int) - 1), U inn, U must, .clo (.yield yid) [] []] m fun v m' => v = .sc (.bool (runY F (desc n.l k inn must) st).2) ∧ Stays own base m m' ∧ ∃ own', Inv (runY F (desc n.l k inn must) st).1 own' m' ∧ Newer own own' m.length := by
  intro k
  induction k with
  | zero =>
    intro inn must st own m hk hinn hmust hbm hLv hI
    refine callOpn Tryd.func35 rfl rfl Tryd.ntmps35 Tryd.results35 ?_
    have h0 : ((0 : Nat) : Int) - 1 < 0 := by decide
    simp -implicitDefEqProofs -dsimp only [go_sem, Nat.reduceAdd, Nat.reduceSub, Nat.reduceLT, Nat.reduceLeDiff, Int.reduceToNat, Int.reduceLE, Int.reduceLT, Int.reduceAdd, Int.reduceSub, Int.reduceEq, Int.reduceNe, Int.reduceMul, Nat.reduceMul, Int.reduceNeg, Int.toNat_natCast, Nat.reduceEqDiff, X.exit.injEq, if_true, if_false, reduceIte, Bool.not_true, Bool.not_false, Bool.false_eq_true, Bool.true_eq_false, true_and, h0]
    refine (hT.call st own inn _ hinn (by simp; omega) hLv (hT.mono _ _ _ _ hbm hI)).mono ?_
    rintro v m' ⟨rfl, hS, own', hI', hN⟩
    simp -implicitDefEqProofs -dsimp only [go_sem, Nat.reduceAdd, Nat.reduceSub, Nat.reduceLT, Nat.reduceLeDiff, Int.reduceToNat, Int.reduceLE, Int.reduceLT, Int.reduceAdd, Int.reduceSub, Int.reduceEq, Int.reduceNe, Int.reduceMul, Nat.reduceMul, Int.reduceNeg, Int.toNat_natCast, Nat.reduceEqDiff, X.exit.injEq, if_true, if_false, reduceIte, Bool.not_true, Bool.not_false, Bool.false_eq_true, Bool.true_eq_false, true_and, ]
    have hr : runY F (desc n.l 0 inn must) st = F st inn := runY_one F inn st
    rw [hr]
    exact ⟨rfl, (Stays.push _ _ _ _).trans hS (Newer.refl _ _), own', hI', (Newer.refl own m.length).trans hN (by simp)⟩
  | succ k ih =>
    intro inn must st own m hk hinn hmust hbm hLv hI
    have hk1 : ((k + 1 : Nat) : Int) - 1 = (k : Int) := by omega
    rw [hk1]
    refine callOpn Tryd.func35 rfl rfl Tryd.ntmps35 Tryd.results35 ?_
    have h0 : ¬ (k : Int) < 0 := by omega
    simp -implicitDefEqProofs -dsimp only [go_sem, Nat.reduceAdd, Nat.reduceSub, Nat.reduceLT, Nat.reduceLeDiff, Int.reduceToNat, Int.reduceLE, Int.reduceLT, Int.reduceAdd, Int.reduceSub, Int.reduceEq, Int.reduceNe, Int.reduceMul, Nat.reduceMul, Int.reduceNeg, Int.toNat_natCast, Nat.reduceEqDiff, X.exit.injEq, if_true, if_false, reduceIte, Bool.not_true, Bool.not_false, Bool.false_eq_true, Bool.true_eq_false, true_and, h0]
    refine (has_ok must k hmust (by omega)).mono ?_
    rintro v m1 ⟨rfl, rfl⟩
    have hw : IntKind.i64.wrap ((k : Int) - 1) = (k : Int) - 1 := IntWalk.i64_in _ (by omega)
    have hk' : k < n.l.length := by omega
    have hp : 2 ^ k < 2 ^ 64 := Nat.pow_lt_pow_right (by omega) (by omega)
    have hshl : shlK .u64 1 (k : Int) = ((2 ^ k : Nat) : Int) := u64_shl (by omega)
    have hor1 : orK .u64 (inn : Int) ((2 ^ k : Nat) : Int) = ((inn ||| 2 ^ k : Nat) : Int) := u64_or hinn hp
    have hnk : n.l[k] < 2 ^ 64 := hnb _ (List.getElem_mem _)
    have hor2 : orK .u64 (must : Int) (n.l[k] : Int) = ((must ||| n.l[k] : Nat) : Int) := u64_or hmust hnk
    have hgd : n.l.getD k 0 = n.l[k] := by rw [List.getD_eq_getElem?_getD, List.getElem?_eq_getElem hk']; rfl
    have hat : atQ n.l[k]? = fun q => q n.l[k] := by funext q; rw [List.getElem?_eq_getElem hk', atQ_some]
    have hbd : (0 : Int) ≤ (k : Int) ∧ (k : Int) < (n.l.length : Int) := by omega
    generalize hpk : 2 ^ k = pk at *
    cases hbit : must.testBit k with
    | true =>
      simp -implicitDefEqProofs -dsimp only [go_sem, Nat.reduceAdd, Nat.reduceSub, Nat.reduceLT, Nat.reduceLeDiff, Int.reduceToNat, Int.reduceLE, Int.reduceLT, Int.reduceAdd, Int.reduceSub, Int.reduceEq, Int.reduceNe, Int.reduceMul, Nat.reduceMul, Int.reduceNeg, Int.toNat_natCast, Nat.reduceEqDiff, X.exit.injEq, if_true, if_false, reduceIte, Bool.not_true, Bool.not_false, Bool.false_eq_true, Bool.true_eq_false, true_and, hw, hshl, hor1, hor2, hat, hbd, h0]
      refine ⟨by kernel_rfl, ?_⟩
      refine (ih (inn ||| pk) (must ||| n.l[k]) st own _ (by omega) (Nat.or_lt_two_pow hinn hp) (Nat.or_lt_two_pow hmust hnk) (by simp; omega) hLv (hT.mono _ _ _ _ hbm hI)).mono ?_
      rintro v m' ⟨rfl, hS, own', hI', hN⟩
      simp -implicitDefEqProofs -dsimp only [go_sem, Nat.reduceAdd, Nat.reduceSub, Nat.reduceLT, Nat.reduceLeDiff, Int.reduceToNat, Int.reduceLE, Int.reduceLT, Int.reduceAdd, Int.reduceSub, Int.reduceEq, Int.reduceNe, Int.reduceMul, Nat.reduceMul, Int.reduceNeg, Int.toNat_natCast, Nat.reduceEqDiff, X.exit.injEq, if_true, if_false, reduceIte, Bool.not_true, Bool.not_false, Bool.false_eq_true, Bool.true_eq_false, true_and, ]
      have hd : desc n.l (k + 1) inn must = desc n.l k (inn ||| pk) (must ||| n.l[k]) := by simp only [desc, hbit, if_true, hgd, hpk, List.nil_append]
      rw [hd]
      exact ⟨by kernel_rfl, rfl, (Stays.push _ _ _ _).trans hS (Newer.refl _ _), own', hI', (Newer.refl own m.length).trans hN (by simp)⟩
    | false =>
      simp -implicitDefEqProofs -dsimp only [go_sem, Nat.reduceAdd, Nat.reduceSub, Nat.reduceLT, Nat.reduceLeDiff, Int.reduceToNat, Int.reduceLE, Int.reduceLT, Int.reduceAdd, Int.reduceSub, Int.reduceEq, Int.reduceNe, Int.reduceMul, Nat.reduceMul, Int.reduceNeg, Int.toNat_natCast, Nat.reduceEqDiff, X.exit.injEq, if_true, if_false, reduceIte, Bool.not_true, Bool.not_false, Bool.false_eq_true, Bool.true_eq_false, true_and, hw]
      refine (ih inn must st own _ (by omega) hinn hmust (by simp; omega) hLv (hT.mono _ _ _ _ hbm hI)).mono ?_
      rintro v m' ⟨rfl, hS, own', hI', hN⟩
      have hN' : Newer own own' m.length := (Newer.refl own m.length).trans hN (by simp)
      have hcell : m'[m.length]? = some (.cells 0 [sl U n, sl U a]) := (hS.2 m.length hbm (by simp) fun h => by have := hT.lt _ _ _ hI _ h; omega).trans (by rw [getM0]; rfl)
      have hlen : base ≤ m'.length := Nat.le_trans (by simp; omega) hS.1
      have hd : desc n.l (k + 1) inn must = desc n.l k inn must ++ desc n.l k (inn ||| pk) (must ||| n.l[k]) := by
        simp only [desc, hbit, Bool.false_eq_true, if_false, hgd, hpk]
      rw [hd, runY_append]
      have hlv := runY_live hT.live (desc n.l k inn must) st hLv
      generalize runY F (desc n.l k inn must) st = R at *
      cases hb1 : R.2 with
      | false =>
        simp -implicitDefEqProofs -dsimp only [go_sem, Nat.reduceAdd, Nat.reduceSub, Nat.reduceLT, Nat.reduceLeDiff, Int.reduceToNat, Int.reduceLE, Int.reduceLT, Int.reduceAdd, Int.reduceSub, Int.reduceEq, Int.reduceNe, Int.reduceMul, Nat.reduceMul, Int.reduceNeg, Int.toNat_natCast, Nat.reduceEqDiff, X.exit.injEq, if_true, if_false, reduceIte, Bool.not_true, Bool.not_false, Bool.false_eq_true, Bool.true_eq_false, true_and, hb1]
        exact ⟨(Stays.push _ _ _ _).trans hS (Newer.refl _ _), own', hI', hN'⟩
      | true =>
        simp -implicitDefEqProofs -dsimp only [go_sem, Nat.reduceAdd, Nat.reduceSub, Nat.reduceLT, Nat.reduceLeDiff, Int.reduceToNat, Int.reduceLE, Int.reduceLT, Int.reduceAdd, Int.reduceSub, Int.reduceEq, Int.reduceNe, Int.reduceMul, Nat.reduceMul, Int.reduceNeg, Int.toNat_natCast, Nat.reduceEqDiff, X.exit.injEq, if_true, if_false, reduceIte, Bool.not_true, Bool.not_false, Bool.false_eq_true, Bool.true_eq_false, true_and, hb1, hw, hcell, hshl, hor1, hor2, hat, hbd, h0]
        refine ⟨by kernel_rfl, ?_⟩
        refine (ih (inn ||| pk) (must ||| n.l[k]) R.1 own' _ (by omega) (Nat.or_lt_two_pow hinn hp) (Nat.or_lt_two_pow hmust hnk) hlen (hlv hb1) hI').mono ?_
        rintro v m2 ⟨rfl, hS2, own2, hI2, hN2⟩
        simp -implicitDefEqProofs -dsimp only [go_sem, Nat.reduceAdd, Nat.reduceSub, Nat.reduceLT, Nat.reduceLeDiff, Int.reduceToNat, Int.reduceLE, Int.reduceLT, Int.reduceAdd, Int.reduceSub, Int.reduceEq, Int.reduceNe, Int.reduceMul, Nat.reduceMul, Int.reduceNeg, Int.toNat_natCast, Nat.reduceEqDiff, X.exit.injEq, if_true, if_false, reduceIte, Bool.not_true, Bool.not_false, Bool.false_eq_true, Bool.true_eq_false, true_and, ]
        have hle : m.length ≤ m'.length := Nat.le_trans (by simp) hS.1
        exact ⟨by kernel_rfl, ((Stays.push _ _ _ _).trans hS (Newer.refl _ _)).trans hS2 hN', own2, hI2, hN'.trans hN2 hle⟩
end
end Go.Proofs.YtfbamjlednbdhaaDoor.V
/- 'closed' as an iterator; no condition. -/
namespace Go.Proofs.YtfbamjlednbdhaaDoor.V
open Go
set_option linter.unusedVariables false
set_option linter.unusedSimpArgs false
noncomputable section
variable {en : Env} {m : Mem}
theorem closed_ok (n a : Sl Nat) : WC Tryd.prog pol en (.func 21) [.agg [sl U n, sl U a]] m fun v m' => v = .clo (.func 34) [] [.ptr m.length 0 0] ∧ m' = m ++ [.cells 0 [sl U n, sl U a]] := by
  refine callOpn Tryd.func21 rfl rfl Tryd.ntmps21 Tryd.results21 ?_
  simp -implicitDefEqProofs -dsimp only [go_sem, Nat.reduceAdd, Nat.reduceSub, Nat.reduceLT, Nat.reduceLeDiff, Int.reduceToNat, Int.reduceLE, Int.reduceLT, Int.reduceAdd, Int.reduceSub, Int.reduceEq, Int.reduceNe, Int.reduceMul, Nat.reduceMul, Int.reduceNeg, Int.toNat_natCast, Nat.reduceEqDiff, X.exit.injEq, if_true, if_false, reduceIte, Bool.not_true, Bool.not_false, Bool.false_eq_true, Bool.true_eq_false, true_and, ]
theorem iter_ok (n a : Sl Nat) (id : Nat) (hn : n.l.length ≤ 14) (hnb : ∀ x ∈ n.l, x < 2 ^ 64) : Iter Tryd.prog pol encU okU 34 [] [.ptr id 0 0] (fun m => m[id]? = some (.cells 0 [sl U n, sl U a])) (desc n.l n.l.length 0 0) := by
  intro en yid base σ Live Inv F st own m hT hb hf hbm hLv hI hk
  have hm := hk _ _ _ hI
  refine callOpn Tryd.func34 rfl rfl Tryd.ntmps34 Tryd.results34 ?_
  have hw : IntKind.i64.wrap ((n.l.length : Int) - 1) = (n.l.length : Int) - 1 := IntWalk.i64_in _ (by omega)
  simp -implicitDefEqProofs -dsimp only [go_sem, Nat.reduceAdd, Nat.reduceSub, Nat.reduceLT, Nat.reduceLeDiff, Int.reduceToNat, Int.reduceLE, Int.reduceLT, Int.reduceAdd, Int.reduceSub, Int.reduceEq, Int.reduceNe, Int.reduceMul, Nat.reduceMul, Int.reduceNeg, Int.toNat_natCast, Nat.reduceEqDiff, X.exit.injEq, if_true, if_false, reduceIte, Bool.not_true, Bool.not_false, Bool.false_eq_true, Bool.true_eq_false, true_and, hm, hw]
  refine (desc_ok n a hT hb hf hn hnb n.l.length 0 0 st own m (Nat.le_refl _) (by decide) (by decide) hbm hLv hI).mono ?_
  rintro v m' ⟨rfl, hS, own', hI', hN⟩
  simp -implicitDefEqProofs -dsimp only [go_sem, Nat.reduceAdd, Nat.reduceSub, Nat.reduceLT, Nat.reduceLeDiff, Int.reduceToNat, Int.reduceLE, Int.reduceLT, Int.reduceAdd, Int.reduceSub, Int.reduceEq, Int.reduceNe, Int.reduceMul, Nat.reduceMul, Int.reduceNeg, Int.toNat_natCast, Nat.reduceEqDiff, X.exit.injEq, if_true, if_false, reduceIte, Bool.not_true, Bool.not_false, Bool.false_eq_true, Bool.true_eq_false, true_and, ]
  exact ⟨own', hI'⟩
end
end Go.Proofs.YtfbamjlednbdhaaDoor.V
/- 'Count'; no condition. -/
namespace Go.Proofs.YtfbamjlednbdhaaDoor.V
open Go
set_option linter.unusedVariables false
set_option linter.unusedSimpArgs false
noncomputable section
variable {en : Env} {m : Mem}
theorem need_lt {D : List (List Int)} (h : fitsD D = true) : ∀ a ∈ needD D, a < 2 ^ 64 := by
  simp only [fitsD, Bool.and_eq_true, decide_eq_true_eq] at h
  intro a ha
  simp only [needD, List.mem_map] at ha
  obtain ⟨l, hl, rfl⟩ := ha
  obtain ⟨i, hi, rfl⟩ := List.getElem_of_mem hl
  refine fold_or_lt _ _ (by decide) fun e he => Nat.pow_lt_pow_right (by omega) ?_
  have := row_ok h.2 hi e he; omega
theorem runY_count : ∀ (l : List Nat) (c : Int), 0 ≤ c → c + l.length < 2 ^ 62 → (runY (fun (c : Int) _ => (IntKind.i64.wrap (c + 1), true)) l c).1 = c + l.length
  | [], c, _, _ => by simp [runY]
  | s :: l, c, h0, h => by
    have h' : c + ((l.length : Int) + 1) < 2 ^ 62 := by simpa using h
    have e : IntKind.i64.wrap (c + 1) = c + 1 := IntWalk.i64_in _ (by omega)
    simp only [runY, if_true, e, List.length_cons]
    rw [runY_count l _ (by omega) (by omega)]; omega
theorem runY_count' (l : List Nat) (c : Int) (h0 : 0 ≤ c) (h : c + l.length < 2 ^ 62) : (runY (fun (c : Int) (_ : Nat) => (IntKind.i64.wrap (c + 1), (none : Option Code).isNone)) l c).1 = c + l.length := runY_count l c h0 h
theorem desc_len (needs : List Nat) : ∀ k inn must, (desc needs k inn must).length ≤ 2 ^ k
  | 0, _, _ => by simp [desc]
  | k + 1, inn, must => by
    have h1 := desc_len needs k inn must
    have h2 := desc_len needs k (inn ||| 2 ^ k) (must ||| needs.getD k 0)
    rw [desc, List.length_append, Nat.pow_succ]
    split
    · simp only [List.length_nil]; omega
    · omega
theorem countA (x : LL) (hx : x.l.length < 2 ^ 62) (hxl : ∀ a ∈ x.l, a.l.length < 2 ^ 62) {args : List AV} (ha : args.mapM (frz m 0 frzDepth) = some [sl (sl I) x]) : WC Tryd.prog pol en (.func 8) args m fun v m' => m' = m ∧
    v = if fitsD x.of = true then .tup [I ((desc (needD x.of) x.of.length 0 0).length : Nat), I 0] else .tup [I 0, I 3] := by
  refine callCls Tryd.func8 rfl rfl Tryd.ntmps8 Tryd.results8 ha ?_
  clear ha
  intro en m1 hf
  have hf : Fits en m1.length := hf
  simp -implicitDefEqProofs -dsimp only [go_sem, Nat.reduceAdd, Nat.reduceSub, Nat.reduceLT, Nat.reduceLeDiff, Int.reduceToNat, Int.reduceLE, Int.reduceLT, Int.reduceAdd, Int.reduceSub, Int.reduceEq, Int.reduceNe, Int.reduceMul, Nat.reduceMul, Int.reduceNeg, Int.toNat_natCast, Nat.reduceEqDiff, X.exit.injEq, if_true, if_false, reduceIte, Bool.not_true, Bool.not_false, Bool.false_eq_true, Bool.true_eq_false, true_and, ]
  refine (read_ok x hx hxl hf.pur).mono ?_
  rintro v m' ⟨rfl, n, a, rfl, ho⟩
  cases hfit : fitsD x.of with
  | false =>
    simp -implicitDefEqProofs -dsimp only [go_sem, Nat.reduceAdd, Nat.reduceSub, Nat.reduceLT, Nat.reduceLeDiff, Int.reduceToNat, Int.reduceLE, Int.reduceLT, Int.reduceAdd, Int.reduceSub, Int.reduceEq, Int.reduceNe, Int.reduceMul, Nat.reduceMul, Int.reduceNeg, Int.toNat_natCast, Nat.reduceEqDiff, X.exit.injEq, if_true, if_false, reduceIte, Bool.not_true, Bool.not_false, Bool.false_eq_true, Bool.true_eq_false, true_and, hfit, okTo_pur hf (Nat.le_refl _)]
  | true =>
    obtain ⟨hn, ha⟩ := ho hfit
    have hnl : n.l.length = x.of.length := by rw [hn]; simp [needD]
    have hn14 : n.l.length ≤ 14 := by
      have := hfit
      simp only [fitsD, Bool.and_eq_true, decide_eq_true_eq] at this
      omega
    simp -implicitDefEqProofs -dsimp only [go_sem, Nat.reduceAdd, Nat.reduceSub, Nat.reduceLT, Nat.reduceLeDiff, Int.reduceToNat, Int.reduceLE, Int.reduceLT, Int.reduceAdd, Int.reduceSub, Int.reduceEq, Int.reduceNe, Int.reduceMul, Nat.reduceMul, Int.reduceNeg, Int.toNat_natCast, Nat.reduceEqDiff, X.exit.injEq, if_true, if_false, reduceIte, Bool.not_true, Bool.not_false, Bool.false_eq_true, Bool.true_eq_false, true_and, hfit, okTo_pur hf (Nat.le_refl _), okTo_pur hf (Nat.le_add_right _ _)]
    refine (closed_ok n a).mono ?_
    rintro v m1 ⟨rfl, rfl⟩
    simp -implicitDefEqProofs -dsimp only [go_sem, Nat.reduceAdd, Nat.reduceSub, Nat.reduceLT, Nat.reduceLeDiff, Int.reduceToNat, Int.reduceLE, Int.reduceLT, Int.reduceAdd, Int.reduceSub, Int.reduceEq, Int.reduceNe, Int.reduceMul, Nat.reduceMul, Int.reduceNeg, Int.toNat_natCast, Nat.reduceEqDiff, X.exit.injEq, if_true, if_false, reduceIte, Bool.not_true, Bool.not_false, Bool.false_eq_true, Bool.true_eq_false, true_and, ]
    refine rangeT (iter_ok n a (m'.length + 2) hn14 (by rw [hn]; exact need_lt hfit)) (by simp -implicitDefEqProofs -dsimp only [go_sem, Nat.reduceAdd, Nat.reduceSub, Nat.reduceLT, Nat.reduceLeDiff, Int.reduceToNat, Int.reduceLE, Int.reduceLT, Int.reduceAdd, Int.reduceSub, Int.reduceEq, Int.reduceNe, Int.reduceMul, Nat.reduceMul, Int.reduceNeg, Int.toNat_natCast, Nat.reduceEqDiff, X.exit.injEq, if_true, if_false, reduceIte, Bool.not_true, Bool.not_false, Bool.false_eq_true, Bool.true_eq_false, true_and, ]) (fun _ => rfl) (by simp) (hf.pur.mono (by simp)) (fun _ => none)
      (fun (c : Int) own mm => own = [] ∧ m'.length + 3 ≤ mm.length ∧ mm[m'.length + 1]? = some (.cells 0 [I c]) ∧ mm[m'.length + 2]? = some (.cells 0 [sl U n, sl U a]))
      (fun c _ => IntKind.i64.wrap (c + 1)) 0 [] rfl ?_ ?_ ?_ ?_ ?_ ?_ ?_
    · rintro c _ mm ⟨rfl, _⟩; simp
    · rintro c own mm l hl ⟨rfl, h1, h2, h3⟩
      simp -implicitDefEqProofs -dsimp (disch := (first | omega | (simp only [List.length_set, List.length_append, List.length_cons, List.length_nil]; omega))) only [go_sem, Nat.reduceAdd, Nat.reduceSub, Nat.reduceLT, Nat.reduceLeDiff, Int.reduceToNat, Int.reduceLE, Int.reduceLT, Int.reduceAdd, Int.reduceSub, Int.reduceEq, Int.reduceNe, Int.reduceMul, Nat.reduceMul, Int.reduceNeg, Int.toNat_natCast, Nat.reduceEqDiff, X.exit.injEq, if_true, if_false, reduceIte, Bool.not_true, Bool.not_false, Bool.false_eq_true, Bool.true_eq_false, true_and,  need_of, need_true, need_and, WOf_need, i64w, u64w, at_getD, idxR_slD, and_true, Nat.zero_add, Nat.mul_one, Nat.add_zero, idxS_one, get_setN, get_setS, get_appL, List.length_set, ↓ibin_shlD, ↓ibin_shrD, bld1_true, plan_buildD, natSucc, h2, h3]
      omega
    · rintro c own mm o ⟨rfl, h1, h2, h3⟩
      simp -implicitDefEqProofs -dsimp (disch := (first | omega | (simp only [List.length_set, List.length_append, List.length_cons, List.length_nil]; omega))) only [go_sem, Nat.reduceAdd, Nat.reduceSub, Nat.reduceLT, Nat.reduceLeDiff, Int.reduceToNat, Int.reduceLE, Int.reduceLT, Int.reduceAdd, Int.reduceSub, Int.reduceEq, Int.reduceNe, Int.reduceMul, Nat.reduceMul, Int.reduceNeg, Int.toNat_natCast, Nat.reduceEqDiff, X.exit.injEq, if_true, if_false, reduceIte, Bool.not_true, Bool.not_false, Bool.false_eq_true, Bool.true_eq_false, true_and,  need_of, need_true, need_and, WOf_need, i64w, u64w, at_getD, idxR_slD, and_true, Nat.zero_add, Nat.mul_one, Nat.add_zero, idxS_one, get_setN, get_setS, get_appL, List.length_set, ↓ibin_shlD, ↓ibin_shrD, bld1_true, plan_buildD, natSucc, h2, h3]
      omega
    · rintro c own mm ⟨rfl, h1, h2, h3⟩
      exact h3
    · intro o
      simp -implicitDefEqProofs -dsimp (disch := (first | omega | (simp only [List.length_set, List.length_append, List.length_cons, List.length_nil]; omega))) only [go_sem, Nat.reduceAdd, Nat.reduceSub, Nat.reduceLT, Nat.reduceLeDiff, Int.reduceToNat, Int.reduceLE, Int.reduceLT, Int.reduceAdd, Int.reduceSub, Int.reduceEq, Int.reduceNe, Int.reduceMul, Nat.reduceMul, Int.reduceNeg, Int.toNat_natCast, Nat.reduceEqDiff, X.exit.injEq, if_true, if_false, reduceIte, Bool.not_true, Bool.not_false, Bool.false_eq_true, Bool.true_eq_false, true_and,  need_of, need_true, need_and, WOf_need, i64w, u64w, at_getD, idxR_slD, and_true, Nat.zero_add, Nat.mul_one, Nat.add_zero, idxS_one, get_setN, get_setS, get_appL, List.length_set, ↓ibin_shlD, ↓ibin_shrD, bld1_true, plan_buildD, natSucc, ]
      omega
    · rintro c own s mm hs _ hl ⟨rfl, h1, h2, h3⟩
      simp -implicitDefEqProofs -dsimp (disch := (first | omega | (simp only [List.length_set, List.length_append, List.length_cons, List.length_nil]; omega))) only [go_sem, Nat.reduceAdd, Nat.reduceSub, Nat.reduceLT, Nat.reduceLeDiff, Int.reduceToNat, Int.reduceLE, Int.reduceLT, Int.reduceAdd, Int.reduceSub, Int.reduceEq, Int.reduceNe, Int.reduceMul, Nat.reduceMul, Int.reduceNeg, Int.toNat_natCast, Nat.reduceEqDiff, X.exit.injEq, if_true, if_false, reduceIte, Bool.not_true, Bool.not_false, Bool.false_eq_true, Bool.true_eq_false, true_and,  need_of, need_true, need_and, WOf_need, i64w, u64w, at_getD, idxR_slD, and_true, Nat.zero_add, Nat.mul_one, Nat.add_zero, idxS_one, get_setN, get_setS, get_appL, List.length_set, ↓ibin_shlD, ↓ibin_shrD, bld1_true, plan_buildD, natSucc, setMany, List.zip, List.zipWith]
      rintro mm o hl ⟨h1, h2, h3⟩ h4
      simp -implicitDefEqProofs -dsimp (disch := (first | omega | (simp only [List.length_set, List.length_append, List.length_cons, List.length_nil]; omega))) only [go_sem, Nat.reduceAdd, Nat.reduceSub, Nat.reduceLT, Nat.reduceLeDiff, Int.reduceToNat, Int.reduceLE, Int.reduceLT, Int.reduceAdd, Int.reduceSub, Int.reduceEq, Int.reduceNe, Int.reduceMul, Nat.reduceMul, Int.reduceNeg, Int.toNat_natCast, Nat.reduceEqDiff, X.exit.injEq, if_true, if_false, reduceIte, Bool.not_true, Bool.not_false, Bool.false_eq_true, Bool.true_eq_false, true_and,  need_of, need_true, need_and, WOf_need, i64w, u64w, at_getD, idxR_slD, and_true, Nat.zero_add, Nat.mul_one, Nat.add_zero, idxS_one, get_setN, get_setS, get_appL, List.length_set, ↓ibin_shlD, ↓ibin_shrD, bld1_true, plan_buildD, natSucc, h2, okTo_purT hf]
      exact ⟨rfl, h4, Stays.set (Or.inr (by omega)), [], ⟨rfl, h1, h3⟩, Newer.refl _ _⟩
    · rintro st own m2 rfl ⟨rfl, h1, h2, h3⟩ hl
      have hdl := desc_len n.l n.l.length 0 0
      have hpow : 2 ^ n.l.length ≤ 2 ^ 14 := Nat.pow_le_pow_right (by omega) hn14
      rw [runY_count' _ _ (by omega) (by omega)] at h2
      simp -implicitDefEqProofs -dsimp (disch := (first | omega | (simp only [List.length_set, List.length_append, List.length_cons, List.length_nil]; omega))) only [go_sem, Nat.reduceAdd, Nat.reduceSub, Nat.reduceLT, Nat.reduceLeDiff, Int.reduceToNat, Int.reduceLE, Int.reduceLT, Int.reduceAdd, Int.reduceSub, Int.reduceEq, Int.reduceNe, Int.reduceMul, Nat.reduceMul, Int.reduceNeg, Int.toNat_natCast, Nat.reduceEqDiff, X.exit.injEq, if_true, if_false, reduceIte, Bool.not_true, Bool.not_false, Bool.false_eq_true, Bool.true_eq_false, true_and,  need_of, need_true, need_and, WOf_need, i64w, u64w, at_getD, idxR_slD, and_true, Nat.zero_add, Nat.mul_one, Nat.add_zero, idxS_one, get_setN, get_setS, get_appL, List.length_set, ↓ibin_shlD, ↓ibin_shrD, bld1_true, plan_buildD, natSucc, h2]
      rw [Int.zero_add, hnl, hn]
theorem count_ok (x : LL) (hx : x.l.length < 2 ^ 62) (hxl : ∀ a ∈ x.l, a.l.length < 2 ^ 62) (hf : Fits en m.length) : WC Tryd.prog pol en (.func 8) [sl (sl I) x] m fun v m' => m' = m ∧
    v = if fitsD x.of = true then .tup [I ((desc (needD x.of) x.of.length 0 0).length : Nat), I 0] else .tup [I 0, I 3] := countA x hx hxl (args_sl x m)
end
end Go.Proofs.YtfbamjlednbdhaaDoor.V
/- The reference's small functions; no condition. -/
namespace Go.Proofs.YtfbamjlednbdhaaDoor.V
open Go
set_option linter.unusedVariables false
set_option linter.unusedSimpArgs false
noncomputable section
variable {en : Env} {m : Mem}
theorem fits_ok (x : LL) (hx : x.l.length < 2 ^ 62) (hxl : ∀ a ∈ x.l, a.l.length < 2 ^ 62) (hf : Fits en m.length) : WC Tryd.prog pol en (.func 22) [sl (sl I) x] m fun v m' => v = .sc (.bool (fitsD x.of)) ∧ m' = m := by
  refine callPur Tryd.func22 rfl rfl Tryd.ntmps22 Tryd.results22 ?_
  have hl : x.of.length = x.l.length := by simp [LL.of]
  by_cases h : (x.l.length : Int) ≤ 14
  · simp -implicitDefEqProofs -dsimp only [go_sem, Nat.reduceAdd, Nat.reduceSub, Nat.reduceLT, Nat.reduceLeDiff, Int.reduceToNat, Int.reduceLE, Int.reduceLT, Int.reduceAdd, Int.reduceSub, Int.reduceEq, Int.reduceNe, Int.reduceMul, Nat.reduceMul, Int.reduceNeg, Int.toNat_natCast, Nat.reduceEqDiff, X.exit.injEq, if_true, if_false, reduceIte, Bool.not_true, Bool.not_false, Bool.false_eq_true, Bool.true_eq_false, true_and, h]
    refine (refRight_ok x hx hxl hf.pur).mono ?_
    rintro v m' ⟨rfl, rfl⟩
    simp -implicitDefEqProofs -dsimp only [go_sem, Nat.reduceAdd, Nat.reduceSub, Nat.reduceLT, Nat.reduceLeDiff, Int.reduceToNat, Int.reduceLE, Int.reduceLT, Int.reduceAdd, Int.reduceSub, Int.reduceEq, Int.reduceNe, Int.reduceMul, Nat.reduceMul, Int.reduceNeg, Int.toNat_natCast, Nat.reduceEqDiff, X.exit.injEq, if_true, if_false, reduceIte, Bool.not_true, Bool.not_false, Bool.false_eq_true, Bool.true_eq_false, true_and, ]
    have : fitsD x.of = rightB x.of := by simp only [fitsD]; rw [decide_eq_true (by omega), Bool.true_and]
    rw [this]; exact ⟨rfl, trivial⟩
  · simp -implicitDefEqProofs -dsimp only [go_sem, Nat.reduceAdd, Nat.reduceSub, Nat.reduceLT, Nat.reduceLeDiff, Int.reduceToNat, Int.reduceLE, Int.reduceLT, Int.reduceAdd, Int.reduceSub, Int.reduceEq, Int.reduceNe, Int.reduceMul, Nat.reduceMul, Int.reduceNeg, Int.toNat_natCast, Nat.reduceEqDiff, X.exit.injEq, if_true, if_false, reduceIte, Bool.not_true, Bool.not_false, Bool.false_eq_true, Bool.true_eq_false, true_and, h]
    have : fitsD x.of = false := by simp only [fitsD]; rw [decide_eq_false (by omega), Bool.false_and]
    rw [this]; exact ⟨rfl, trivial⟩
/-- Of right deps each row's mask. -/
theorem needs_ok (x : LL) (h : fitsD x.of = true) (hxl : ∀ a ∈ x.l, a.l.length < 2 ^ 62) (hf : Fits en m.length) : WC Tryd.prog pol en (.func 23) [sl (sl I) x] m fun v m' => m' = m ∧ ∃ y : Sl Int, v = sl I y ∧ y.l = (needD x.of).map Int.ofNat := by
  have hlen : x.of.length = x.l.length := by simp [LL.of]
  have h2 := h
  simp only [fitsD, Bool.and_eq_true, decide_eq_true_eq] at h2
  refine callPur Tryd.func23 rfl rfl Tryd.ntmps23 Tryd.results23 ?_
  simp -implicitDefEqProofs -dsimp only [go_sem, Nat.reduceAdd, Nat.reduceSub, Nat.reduceLT, Nat.reduceLeDiff, Int.reduceToNat, Int.reduceLE, Int.reduceLT, Int.reduceAdd, Int.reduceSub, Int.reduceEq, Int.reduceNe, Int.reduceMul, Nat.reduceMul, Int.reduceNeg, Int.toNat_natCast, Nat.reduceEqDiff, X.exit.injEq, if_true, if_false, reduceIte, Bool.not_true, Bool.not_false, Bool.false_eq_true, Bool.true_eq_false, true_and, ]
  refine loopF (fun k ts m' => ∃ (i : Nat) (v : AV), ts.length = 37 ∧ tg ts 0 = sl (sl I) x ∧ tg ts 3 = kv v ∧ tg ts 4 = I i ∧ i ≤ x.l.length ∧ Row I m (((needD x.of).take i).map Int.ofNat) v m' ∧ k = x.l.length - i) x.l.length ⟨0, _, rfl, rfl, rfl, rfl, by omega, Row.nil, by omega⟩ ?_
  rintro k ts m' ⟨i, v, hl, h0, h3, h4, hi, hr, hk⟩
  rw [expandT hl]
  simp -implicitDefEqProofs -dsimp (disch := (first | omega | (simp only [List.length_set, List.length_append, List.length_cons, List.length_nil]; omega))) only [go_sem, Nat.reduceAdd, Nat.reduceSub, Nat.reduceLT, Nat.reduceLeDiff, Int.reduceToNat, Int.reduceLE, Int.reduceLT, Int.reduceAdd, Int.reduceSub, Int.reduceEq, Int.reduceNe, Int.reduceMul, Nat.reduceMul, Int.reduceNeg, Int.toNat_natCast, Nat.reduceEqDiff, X.exit.injEq, if_true, if_false, reduceIte, Bool.not_true, Bool.not_false, Bool.false_eq_true, Bool.true_eq_false, true_and,  need_of, need_true, need_and, WOf_need, i64w, u64w, at_getD, idxR_slD, and_true, Nat.zero_add, Nat.mul_one, Nat.add_zero, idxS_one, get_setN, get_setS, get_appL, List.length_set, ↓ibin_shlD, ↓ibin_shrD, bld1_true, plan_buildD, natSucc, h0, h3, h4]
  split
  · rename_i hlt
    have hi' : i < x.l.length := by omega
    have hio : i < x.of.length := by omega
    have hg : x.of[i] = x.l[i].l := by simp [LL.of]
    have hrow := row_ok h2.2 hio
    rw [hg] at hrow
    have hn1 : (needD x.of).take (i + 1) = (needD x.of).take i ++ [maskR x.l[i].l] := by
      unfold needD
      rw [← List.map_take, ← List.map_take, List.take_add_one, List.getElem?_eq_getElem hio, hg]; simp
    refine loopF (fun k ts m2 => ∃ j : Nat, ts.length = 37 ∧ tg ts 0 = sl (sl I) x ∧ tg ts 3 = kv v ∧ tg ts 4 = I i ∧ tg ts 6 = I j ∧ tg ts 5 = I (maskR (x.l[i].l.take j) : Nat) ∧ m2 = m' ∧ j ≤ x.l[i].l.length ∧ k = x.l[i].l.length - j) x.l[i].l.length ⟨0, rfl, rfl, rfl, rfl, rfl, rfl, rfl, by omega, by omega⟩ ?_
    rintro k2 ts m2 ⟨j, hl, h0, h3, h4, h6, h5, rfl, hj, hk2⟩
    have hll := hxl _ (List.getElem_mem hi')
    rw [expandT hl]
    simp -implicitDefEqProofs -dsimp (disch := (first | omega | (simp only [List.length_set, List.length_append, List.length_cons, List.length_nil]; omega))) only [go_sem, Nat.reduceAdd, Nat.reduceSub, Nat.reduceLT, Nat.reduceLeDiff, Int.reduceToNat, Int.reduceLE, Int.reduceLT, Int.reduceAdd, Int.reduceSub, Int.reduceEq, Int.reduceNe, Int.reduceMul, Nat.reduceMul, Int.reduceNeg, Int.toNat_natCast, Nat.reduceEqDiff, X.exit.injEq, if_true, if_false, reduceIte, Bool.not_true, Bool.not_false, Bool.false_eq_true, Bool.true_eq_false, true_and,  need_of, need_true, need_and, WOf_need, i64w, u64w, at_getD, idxR_slD, and_true, Nat.zero_add, Nat.mul_one, Nat.add_zero, idxS_one, get_setN, get_setS, get_appL, List.length_set, ↓ibin_shlD, ↓ibin_shrD, bld1_true, plan_buildD, natSucc, h0, h3, h4, h5, h6]
    split
    · rename_i hltj
      have hj' : j < x.l[i].l.length := by omega
      have hd := hrow _ (List.getElem_mem hj')
      obtain ⟨dn, hdn⟩ : ∃ dn : Nat, x.l[i].l[j] = (dn : Int) := ⟨x.l[i].l[j].toNat, by omega⟩
      have hp14 : ∀ e, e < 14 → 2 ^ e < 2 ^ 63 := fun e he => Nat.pow_lt_pow_right (by omega) (by omega)
      have hm1 : maskR (x.l[i].l.take j) < 2 ^ 63 := by
        refine fold_or_lt _ _ (by decide) fun e he => hp14 _ ?_
        have := hrow e (List.mem_of_mem_take he); omega
      have hshl : shlK .i64 1 (dn : Int) = ((2 ^ dn : Nat) : Int) := i64_shl (by omega)
      have ho1 : orK .i64 (maskR (x.l[i].l.take j) : Int) ((2 ^ dn : Nat) : Int) = (maskR (x.l[i].l.take (j + 1)) : Int) := by
        rw [i64_or hm1 (hp14 _ (by omega))]
        unfold maskR
        rw [fold_or_take _ _ hj', hdn]; rfl
      simp -implicitDefEqProofs -dsimp (disch := (first | omega | (simp only [List.length_set, List.length_append, List.length_cons, List.length_nil]; omega))) only [go_sem, Nat.reduceAdd, Nat.reduceSub, Nat.reduceLT, Nat.reduceLeDiff, Int.reduceToNat, Int.reduceLE, Int.reduceLT, Int.reduceAdd, Int.reduceSub, Int.reduceEq, Int.reduceNe, Int.reduceMul, Nat.reduceMul, Int.reduceNeg, Int.toNat_natCast, Nat.reduceEqDiff, X.exit.injEq, if_true, if_false, reduceIte, Bool.not_true, Bool.not_false, Bool.false_eq_true, Bool.true_eq_false, true_and,  need_of, need_true, need_and, WOf_need, i64w, u64w, at_getD, idxR_slD, and_true, Nat.zero_add, Nat.mul_one, Nat.add_zero, idxS_one, get_setN, get_setS, get_appL, List.length_set, ↓ibin_shlD, ↓ibin_shrD, bld1_true, plan_buildD, natSucc, hdn, hshl, ho1]
      refine ⟨x.l[i].l.length - (j + 1), by omega, j + 1, ?_⟩
      and_intros <;> (first | with_reducible rfl | omega | with_reducible assumption | exact True.intro | skip)
    · rename_i hltj
      have hjl : j = x.l[i].l.length := by omega
      subst hjl
      have ht1 := List.take_of_length_le (Nat.le_refl x.l[i].l.length)
      simp -implicitDefEqProofs -dsimp (disch := (first | omega | (simp only [List.length_set, List.length_append, List.length_cons, List.length_nil]; omega))) only [go_sem, Nat.reduceAdd, Nat.reduceSub, Nat.reduceLT, Nat.reduceLeDiff, Int.reduceToNat, Int.reduceLE, Int.reduceLT, Int.reduceAdd, Int.reduceSub, Int.reduceEq, Int.reduceNe, Int.reduceMul, Nat.reduceMul, Int.reduceNeg, Int.toNat_natCast, Nat.reduceEqDiff, X.exit.injEq, if_true, if_false, reduceIte, Bool.not_true, Bool.not_false, Bool.false_eq_true, Bool.true_eq_false, true_and,  need_of, need_true, need_and, WOf_need, i64w, u64w, at_getD, idxR_slD, and_true, Nat.zero_add, Nat.mul_one, Nat.add_zero, idxS_one, get_setN, get_setS, get_appL, List.length_set, ↓ibin_shlD, ↓ibin_shrD, bld1_true, plan_buildD, natSucc, ht1]
      refine hr.app _ hf.pur (Nat.le_refl _) (by simp; omega) fun r v' m'' hr' => ?_
      simp -implicitDefEqProofs -dsimp (disch := (first | omega | (simp only [List.length_set, List.length_append, List.length_cons, List.length_nil]; omega))) only [go_sem, Nat.reduceAdd, Nat.reduceSub, Nat.reduceLT, Nat.reduceLeDiff, Int.reduceToNat, Int.reduceLE, Int.reduceLT, Int.reduceAdd, Int.reduceSub, Int.reduceEq, Int.reduceNe, Int.reduceMul, Nat.reduceMul, Int.reduceNeg, Int.toNat_natCast, Nat.reduceEqDiff, X.exit.injEq, if_true, if_false, reduceIte, Bool.not_true, Bool.not_false, Bool.false_eq_true, Bool.true_eq_false, true_and,  need_of, need_true, need_and, WOf_need, i64w, u64w, at_getD, idxR_slD, and_true, Nat.zero_add, Nat.mul_one, Nat.add_zero, idxS_one, get_setN, get_setS, get_appL, List.length_set, ↓ibin_shlD, ↓ibin_shrD, bld1_true, plan_buildD, natSucc, ]
      refine ⟨x.l.length - (i + 1), by omega, i + 1, v', ?_⟩
      and_intros <;> (first | with_reducible rfl | omega | with_reducible assumption | exact True.intro | skip)
      rw [hn1, List.map_append]; exact hr'
  · rename_i hlt
    refine hr.frz clean_I (fun a t u => by simp) _ _ fun y hy => ⟨rfl, y, rfl, ?_⟩
    rw [hy, List.take_of_length_le (by simp [needD]; omega)]
end
end Go.Proofs.YtfbamjlednbdhaaDoor.V
/- The reference's closed, list, Count, All; no condition. -/
namespace Go.Proofs.YtfbamjlednbdhaaDoor.V
open Go
set_option linter.unusedVariables false
set_option linter.unusedSimpArgs false
set_option maxHeartbeats 2000000
noncomputable section
variable {en : Env} {m : Mem}
theorem bitI (s i : Nat) (hs : s < 2 ^ 63) (hi : i < 64) : andK .i64 (shrK .i64 (s : Int) (i : Int)) 1 = if s.testBit i then 1 else 0 := by
  rw [shrK_nat .i64 s i (Nat.le_of_lt hi), show (1 : Int) = ((1 : Nat) : Int) from rfl, i64_and (Nat.lt_of_le_of_lt (Nat.shiftRight_le _ _) hs), bit_and_one]
  split <;> rfl
def closedAt (L : List Nat) (s i : Nat) : Bool := !s.testBit i || decide (L.getD i 0 &&& s = L.getD i 0)
def closedB (L : List Nat) (s : Nat) : Bool := (List.range L.length).all (closedAt L s)
theorem all_range_succ (n : Nat) (q : Nat → Bool) : (List.range (n + 1)).all q = ((List.range n).all q && q n) := by
  rw [List.range_succ, List.all_append]; simp
theorem all_range_false {n i : Nat} {q : Nat → Bool} (hi : i < n) (h : q i = false) : (List.range n).all q = false := by
  rw [List.all_eq_false]; exact ⟨i, List.mem_range.2 hi, by simp [h]⟩
theorem getI {x : Sl Int} {L : List Nat} (hx : x.l = L.map Int.ofNat) {i : Nat} (h : i < x.l.length) : x.l[i] = (L.getD i 0 : Int) := by
  have h2 : i < L.length := by rw [hx] at h; simpa using h
  simp only [hx, List.getElem_map, List.getD_eq_getElem?_getD, List.getElem?_eq_getElem h2]; rfl
theorem closed24_ok (x : Sl Int) (L : List Nat) (hx : x.l = L.map Int.ofNat) (hL : ∀ a ∈ L, a < 2 ^ 63) (hn : L.length ≤ 14) (s : Nat) (hs : s < 2 ^ 63) : WC Tryd.prog pol en (.func 24) [sl I x, I s] m fun v m' => v = .sc (.bool (closedB L s)) ∧ m' = m := by
  have hlen : x.l.length = L.length := by rw [hx]; simp
  refine callPur Tryd.func24 rfl rfl Tryd.ntmps24 Tryd.results24 ?_
  simp -implicitDefEqProofs -dsimp (disch := (first | omega | (simp only [List.length_set, List.length_append, List.length_cons, List.length_nil]; omega))) only [go_sem, Nat.reduceAdd, Nat.reduceSub, Nat.reduceLT, Nat.reduceLeDiff, Int.reduceToNat, Int.reduceLE, Int.reduceLT, Int.reduceAdd, Int.reduceSub, Int.reduceEq, Int.reduceNe, Int.reduceMul, Nat.reduceMul, Int.reduceNeg, Int.toNat_natCast, Nat.reduceEqDiff, X.exit.injEq, if_true, if_false, reduceIte, Bool.not_true, Bool.not_false, Bool.false_eq_true, Bool.true_eq_false, true_and,  need_of, need_true, need_and, WOf_need, i64w, u64w, at_getD, idxR_slD, and_true, Nat.zero_add, Nat.mul_one, Nat.add_zero, idxS_one, get_setN, get_setS, get_appL, List.length_set, ↓ibin_shlD, ↓ibin_shrD, bld1_true, plan_buildD, natSucc, ]
  refine loopF (fun k ts m' => ∃ (i : Nat), ts.length = 30 ∧ tg ts 0 = sl I x ∧ tg ts 1 = I s ∧ tg ts 5 = I i ∧ i ≤ x.l.length ∧ m' = m ∧ (List.range i).all (closedAt L s) = true ∧ k = x.l.length - i) x.l.length ⟨0, rfl, rfl, rfl, rfl, by omega, rfl, rfl, by omega⟩ ?_
  rintro k ts m' ⟨i, hl, h0, h1, h5, hi, rfl, hall, hk⟩
  rw [expandT hl]
  simp -implicitDefEqProofs -dsimp (disch := (first | omega | (simp only [List.length_set, List.length_append, List.length_cons, List.length_nil]; omega))) only [go_sem, Nat.reduceAdd, Nat.reduceSub, Nat.reduceLT, Nat.reduceLeDiff, Int.reduceToNat, Int.reduceLE, Int.reduceLT, Int.reduceAdd, Int.reduceSub, Int.reduceEq, Int.reduceNe, Int.reduceMul, Nat.reduceMul, Int.reduceNeg, Int.toNat_natCast, Nat.reduceEqDiff, X.exit.injEq, if_true, if_false, reduceIte, Bool.not_true, Bool.not_false, Bool.false_eq_true, Bool.true_eq_false, true_and,  need_of, need_true, need_and, WOf_need, i64w, u64w, at_getD, idxR_slD, and_true, Nat.zero_add, Nat.mul_one, Nat.add_zero, idxS_one, get_setN, get_setS, get_appL, List.length_set, ↓ibin_shlD, ↓ibin_shrD, bld1_true, plan_buildD, natSucc, h0, h1, h5]
  split
  · rename_i hlt
    have hi' : i < x.l.length := by omega
    have hb := bitI s i hs (by omega)
    have hg := getI hx hi'
    have hgb : L.getD i 0 < 2 ^ 63 := getD_lt hL i
    have ha : andK .i64 (L.getD i 0 : Int) (s : Int) = ((L.getD i 0 &&& s : Nat) : Int) := i64_and hgb
    have hq : closedAt L s i = (!s.testBit i || decide (L.getD i 0 &&& s = L.getD i 0)) := rfl
    generalize L.getD i 0 = e at *
    cases hbit : s.testBit i with
    | true =>
      have hc : ((e &&& s : Nat) : Int) ≠ (e : Int) ↔ ¬ (e &&& s = e) := by omega
      simp -implicitDefEqProofs -dsimp (disch := (first | omega | (simp only [List.length_set, List.length_append, List.length_cons, List.length_nil]; omega))) only [go_sem, Nat.reduceAdd, Nat.reduceSub, Nat.reduceLT, Nat.reduceLeDiff, Int.reduceToNat, Int.reduceLE, Int.reduceLT, Int.reduceAdd, Int.reduceSub, Int.reduceEq, Int.reduceNe, Int.reduceMul, Nat.reduceMul, Int.reduceNeg, Int.toNat_natCast, Nat.reduceEqDiff, X.exit.injEq, if_true, if_false, reduceIte, Bool.not_true, Bool.not_false, Bool.false_eq_true, Bool.true_eq_false, true_and,  need_of, need_true, need_and, WOf_need, i64w, u64w, at_getD, idxR_slD, and_true, Nat.zero_add, Nat.mul_one, Nat.add_zero, idxS_one, get_setN, get_setS, get_appL, List.length_set, ↓ibin_shlD, ↓ibin_shrD, bld1_true, plan_buildD, natSucc, hb, hbit, hg, ha, hc]
      refine ⟨by kernel_rfl, by kernel_rfl, ?_⟩
      rw [hbit] at hq
      split
      · rename_i hne
        rw [decide_eq_false hne] at hq
        have : closedB L s = false := all_range_false (by omega) hq
        simp [this]
      · rename_i hne
        have heq : e &&& s = e := Decidable.not_not.1 hne
        rw [decide_eq_true heq] at hq
        refine ⟨x.l.length - (i + 1), by omega, i + 1, ?_⟩
        and_intros <;> (first | with_reducible rfl | omega | with_reducible assumption | exact True.intro | skip)
        rw [all_range_succ, hall, hq]; rfl
    | false =>
      simp -implicitDefEqProofs -dsimp (disch := (first | omega | (simp only [List.length_set, List.length_append, List.length_cons, List.length_nil]; omega))) only [go_sem, Nat.reduceAdd, Nat.reduceSub, Nat.reduceLT, Nat.reduceLeDiff, Int.reduceToNat, Int.reduceLE, Int.reduceLT, Int.reduceAdd, Int.reduceSub, Int.reduceEq, Int.reduceNe, Int.reduceMul, Nat.reduceMul, Int.reduceNeg, Int.toNat_natCast, Nat.reduceEqDiff, X.exit.injEq, if_true, if_false, reduceIte, Bool.not_true, Bool.not_false, Bool.false_eq_true, Bool.true_eq_false, true_and,  need_of, need_true, need_and, WOf_need, i64w, u64w, at_getD, idxR_slD, and_true, Nat.zero_add, Nat.mul_one, Nat.add_zero, idxS_one, get_setN, get_setS, get_appL, List.length_set, ↓ibin_shlD, ↓ibin_shrD, bld1_true, plan_buildD, natSucc, hb, hbit, hg, ha]
      refine ⟨by kernel_rfl, by kernel_rfl, ?_⟩
      rw [hbit] at hq
      refine ⟨x.l.length - (i + 1), by omega, i + 1, ?_⟩
      and_intros <;> (first | with_reducible rfl | omega | with_reducible assumption | exact True.intro | skip)
      rw [all_range_succ, hall, hq]; rfl
  · rename_i hlt
    have : closedB L s = true := by
      unfold closedB; rw [show L.length = i by omega]; exact hall
    simp [this]
def listB (s : Nat) : List Nat := (List.range 14).filter s.testBit
theorem filter_range_succ (n : Nat) (q : Nat → Bool) : (List.range (n + 1)).filter q = (List.range n).filter q ++ if q n then [n] else [] := by
  rw [List.range_succ, List.filter_append]; simp [List.filter_cons]
theorem list30_ok (s : Nat) (hs : s < 2 ^ 63) (hf : Fits en m.length) : WC Tryd.prog pol en (.func 30) [I s] m fun v m' => m' = m ∧ ∃ y : Sl Int, v = sl I y ∧ y.l = (listB s).map Int.ofNat := by
  refine callPur Tryd.func30 rfl rfl Tryd.ntmps30 Tryd.results30 ?_
  simp -implicitDefEqProofs -dsimp (disch := (first | omega | (simp only [List.length_set, List.length_append, List.length_cons, List.length_nil]; omega))) only [go_sem, Nat.reduceAdd, Nat.reduceSub, Nat.reduceLT, Nat.reduceLeDiff, Int.reduceToNat, Int.reduceLE, Int.reduceLT, Int.reduceAdd, Int.reduceSub, Int.reduceEq, Int.reduceNe, Int.reduceMul, Nat.reduceMul, Int.reduceNeg, Int.toNat_natCast, Nat.reduceEqDiff, X.exit.injEq, if_true, if_false, reduceIte, Bool.not_true, Bool.not_false, Bool.false_eq_true, Bool.true_eq_false, true_and,  need_of, need_true, need_and, WOf_need, i64w, u64w, at_getD, idxR_slD, and_true, Nat.zero_add, Nat.mul_one, Nat.add_zero, idxS_one, get_setN, get_setS, get_appL, List.length_set, ↓ibin_shlD, ↓ibin_shrD, bld1_true, plan_buildD, natSucc, ]
  refine loopF (fun k ts m' => ∃ (i : Nat) (v : AV), ts.length = 19 ∧ tg ts 0 = I s ∧ tg ts 3 = kv v ∧ tg ts 4 = I i ∧ i ≤ 14 ∧ Row I m (((List.range i).filter s.testBit).map Int.ofNat) v m' ∧ k = 14 - i) 14 ⟨0, _, rfl, rfl, rfl, rfl, by omega, Row.nil, by omega⟩ ?_
  rintro k ts m' ⟨i, v, hl, h0, h3, h4, hi, hr, hk⟩
  have hfl := List.length_filter_le s.testBit (List.range i)
  rw [List.length_range] at hfl
  rw [expandT hl]
  simp -implicitDefEqProofs -dsimp (disch := (first | omega | (simp only [List.length_set, List.length_append, List.length_cons, List.length_nil]; omega))) only [go_sem, Nat.reduceAdd, Nat.reduceSub, Nat.reduceLT, Nat.reduceLeDiff, Int.reduceToNat, Int.reduceLE, Int.reduceLT, Int.reduceAdd, Int.reduceSub, Int.reduceEq, Int.reduceNe, Int.reduceMul, Nat.reduceMul, Int.reduceNeg, Int.toNat_natCast, Nat.reduceEqDiff, X.exit.injEq, if_true, if_false, reduceIte, Bool.not_true, Bool.not_false, Bool.false_eq_true, Bool.true_eq_false, true_and,  need_of, need_true, need_and, WOf_need, i64w, u64w, at_getD, idxR_slD, and_true, Nat.zero_add, Nat.mul_one, Nat.add_zero, idxS_one, get_setN, get_setS, get_appL, List.length_set, ↓ibin_shlD, ↓ibin_shrD, bld1_true, plan_buildD, natSucc, h0, h3, h4]
  split
  · rename_i hlt
    have hb := bitI s i hs (by omega)
    cases hbit : s.testBit i with
    | true =>
      simp -implicitDefEqProofs -dsimp (disch := (first | omega | (simp only [List.length_set, List.length_append, List.length_cons, List.length_nil]; omega))) only [go_sem, Nat.reduceAdd, Nat.reduceSub, Nat.reduceLT, Nat.reduceLeDiff, Int.reduceToNat, Int.reduceLE, Int.reduceLT, Int.reduceAdd, Int.reduceSub, Int.reduceEq, Int.reduceNe, Int.reduceMul, Nat.reduceMul, Int.reduceNeg, Int.toNat_natCast, Nat.reduceEqDiff, X.exit.injEq, if_true, if_false, reduceIte, Bool.not_true, Bool.not_false, Bool.false_eq_true, Bool.true_eq_false, true_and,  need_of, need_true, need_and, WOf_need, i64w, u64w, at_getD, idxR_slD, and_true, Nat.zero_add, Nat.mul_one, Nat.add_zero, idxS_one, get_setN, get_setS, get_appL, List.length_set, ↓ibin_shlD, ↓ibin_shrD, bld1_true, plan_buildD, natSucc, hb, hbit]
      refine hr.app _ hf.pur (Nat.le_refl _) (by simp; omega) fun r v' m'' hr' => ?_
      simp -implicitDefEqProofs -dsimp (disch := (first | omega | (simp only [List.length_set, List.length_append, List.length_cons, List.length_nil]; omega))) only [go_sem, Nat.reduceAdd, Nat.reduceSub, Nat.reduceLT, Nat.reduceLeDiff, Int.reduceToNat, Int.reduceLE, Int.reduceLT, Int.reduceAdd, Int.reduceSub, Int.reduceEq, Int.reduceNe, Int.reduceMul, Nat.reduceMul, Int.reduceNeg, Int.toNat_natCast, Nat.reduceEqDiff, X.exit.injEq, if_true, if_false, reduceIte, Bool.not_true, Bool.not_false, Bool.false_eq_true, Bool.true_eq_false, true_and,  need_of, need_true, need_and, WOf_need, i64w, u64w, at_getD, idxR_slD, and_true, Nat.zero_add, Nat.mul_one, Nat.add_zero, idxS_one, get_setN, get_setS, get_appL, List.length_set, ↓ibin_shlD, ↓ibin_shrD, bld1_true, plan_buildD, natSucc, ]
      refine ⟨14 - (i + 1), by omega, i + 1, v', ?_⟩
      and_intros <;> (first | with_reducible rfl | omega | with_reducible assumption | exact True.intro | skip)
      rw [filter_range_succ, hbit, if_pos rfl, List.map_append]; exact hr'
    | false =>
      simp -implicitDefEqProofs -dsimp (disch := (first | omega | (simp only [List.length_set, List.length_append, List.length_cons, List.length_nil]; omega))) only [go_sem, Nat.reduceAdd, Nat.reduceSub, Nat.reduceLT, Nat.reduceLeDiff, Int.reduceToNat, Int.reduceLE, Int.reduceLT, Int.reduceAdd, Int.reduceSub, Int.reduceEq, Int.reduceNe, Int.reduceMul, Nat.reduceMul, Int.reduceNeg, Int.toNat_natCast, Nat.reduceEqDiff, X.exit.injEq, if_true, if_false, reduceIte, Bool.not_true, Bool.not_false, Bool.false_eq_true, Bool.true_eq_false, true_and,  need_of, need_true, need_and, WOf_need, i64w, u64w, at_getD, idxR_slD, and_true, Nat.zero_add, Nat.mul_one, Nat.add_zero, idxS_one, get_setN, get_setS, get_appL, List.length_set, ↓ibin_shlD, ↓ibin_shrD, bld1_true, plan_buildD, natSucc, hb, hbit]
      refine ⟨14 - (i + 1), by omega, i + 1, v, ?_⟩
      and_intros <;> (first | with_reducible rfl | omega | with_reducible assumption | exact True.intro | skip)
      rw [filter_range_succ, hbit, if_neg (by simp), List.append_nil]; exact hr
  · rename_i hlt
    refine hr.frz clean_I (fun a t u => by simp) _ _ fun y hy => ⟨rfl, y, rfl, ?_⟩
    rw [hy, listB, show i = 14 by omega]
end
end Go.Proofs.YtfbamjlednbdhaaDoor.V
/- The reference's Count and All, Same; no condition. -/
namespace Go.Proofs.YtfbamjlednbdhaaDoor.V
open Go
set_option linter.unusedVariables false
set_option linter.unusedSimpArgs false
set_option maxHeartbeats 2000000
noncomputable section
variable {en : Env} {m : Mem}
theorem need_lt14 {D : List (List Int)} (h : fitsD D = true) : ∀ a ∈ needD D, a < 2 ^ 14 := by
  simp only [fitsD, Bool.and_eq_true, decide_eq_true_eq] at h
  intro a ha
  simp only [needD, List.mem_map] at ha
  obtain ⟨l, hl, rfl⟩ := ha
  obtain ⟨i, hi, rfl⟩ := List.getElem_of_mem hl
  refine fold_or_lt _ _ (by decide) fun e he => Nat.pow_lt_pow_right (by omega) ?_
  have := row_ok h.2 hi e he; omega
theorem need_lt63 {D : List (List Int)} (h : fitsD D = true) : ∀ a ∈ needD D, a < 2 ^ 63 := fun a ha => Nat.lt_of_lt_of_le (need_lt14 h a ha) (by decide)
theorem fits_len {D : List (List Int)} (h : fitsD D = true) : D.length ≤ 14 := by
  simp only [fitsD, Bool.and_eq_true, decide_eq_true_eq] at h; exact h.1
def closedSets (D : List (List Int)) : List Nat := (List.range (2 ^ D.length)).filter (closedB (needD D))
theorem count9_ok (x : LL) (hx : x.l.length < 2 ^ 62) (hxl : ∀ a ∈ x.l, a.l.length < 2 ^ 62) (hf : Fits en m.length) : WC Tryd.prog pol en (.func 9) [sl (sl I) x] m fun v m' => m' = m ∧
    v = if fitsD x.of = true then .tup [I ((closedSets x.of).length : Nat), I 0] else .tup [I 0, I 3] := by
  refine callPur Tryd.func9 rfl rfl Tryd.ntmps9 Tryd.results9 ?_
  simp -implicitDefEqProofs -dsimp (disch := (first | omega | (simp only [List.length_set, List.length_append, List.length_cons, List.length_nil]; omega))) only [go_sem, Nat.reduceAdd, Nat.reduceSub, Nat.reduceLT, Nat.reduceLeDiff, Int.reduceToNat, Int.reduceLE, Int.reduceLT, Int.reduceAdd, Int.reduceSub, Int.reduceEq, Int.reduceNe, Int.reduceMul, Nat.reduceMul, Int.reduceNeg, Int.toNat_natCast, Nat.reduceEqDiff, X.exit.injEq, if_true, if_false, reduceIte, Bool.not_true, Bool.not_false, Bool.false_eq_true, Bool.true_eq_false, true_and,  need_of, need_true, need_and, WOf_need, i64w, u64w, at_getD, idxR_slD, and_true, Nat.zero_add, Nat.mul_one, Nat.add_zero, idxS_one, get_setN, get_setS, get_appL, List.length_set, ↓ibin_shlD, ↓ibin_shrD, bld1_true, plan_buildD, natSucc, ]
  refine (fits_ok x hx hxl hf.pur).mono ?_
  rintro v m' ⟨rfl, rfl⟩
  cases hfit : fitsD x.of with
  | false => simp -implicitDefEqProofs -dsimp (disch := (first | omega | (simp only [List.length_set, List.length_append, List.length_cons, List.length_nil]; omega))) only [go_sem, Nat.reduceAdd, Nat.reduceSub, Nat.reduceLT, Nat.reduceLeDiff, Int.reduceToNat, Int.reduceLE, Int.reduceLT, Int.reduceAdd, Int.reduceSub, Int.reduceEq, Int.reduceNe, Int.reduceMul, Nat.reduceMul, Int.reduceNeg, Int.toNat_natCast, Nat.reduceEqDiff, X.exit.injEq, if_true, if_false, reduceIte, Bool.not_true, Bool.not_false, Bool.false_eq_true, Bool.true_eq_false, true_and,  need_of, need_true, need_and, WOf_need, i64w, u64w, at_getD, idxR_slD, and_true, Nat.zero_add, Nat.mul_one, Nat.add_zero, idxS_one, get_setN, get_setS, get_appL, List.length_set, ↓ibin_shlD, ↓ibin_shrD, bld1_true, plan_buildD, natSucc, ]
  | true =>
    simp -implicitDefEqProofs -dsimp (disch := (first | omega | (simp only [List.length_set, List.length_append, List.length_cons, List.length_nil]; omega))) only [go_sem, Nat.reduceAdd, Nat.reduceSub, Nat.reduceLT, Nat.reduceLeDiff, Int.reduceToNat, Int.reduceLE, Int.reduceLT, Int.reduceAdd, Int.reduceSub, Int.reduceEq, Int.reduceNe, Int.reduceMul, Nat.reduceMul, Int.reduceNeg, Int.toNat_natCast, Nat.reduceEqDiff, X.exit.injEq, if_true, if_false, reduceIte, Bool.not_true, Bool.not_false, Bool.false_eq_true, Bool.true_eq_false, true_and,  need_of, need_true, need_and, WOf_need, i64w, u64w, at_getD, idxR_slD, and_true, Nat.zero_add, Nat.mul_one, Nat.add_zero, idxS_one, get_setN, get_setS, get_appL, List.length_set, ↓ibin_shlD, ↓ibin_shrD, bld1_true, plan_buildD, natSucc, ]
    refine (needs_ok x hfit hxl hf.pur).mono ?_
    rintro v m' ⟨rfl, y, rfl, hy⟩
    have hlen : x.of.length = x.l.length := by simp [LL.of]
    have h14 := fits_len hfit
    have hp : 2 ^ x.of.length ≤ 2 ^ 14 := Nat.pow_le_pow_right (by omega) h14
    have hcs : closedSets x.of = (List.range (2 ^ x.of.length)).filter (closedB (needD x.of)) := rfl
    have hsh : shlK .i64 1 (x.l.length : Int) = ((2 ^ x.of.length : Nat) : Int) := by rw [← hlen]; exact i64_shl (by omega)
    generalize 2 ^ x.of.length = N at *
    simp -implicitDefEqProofs -dsimp (disch := (first | omega | (simp only [List.length_set, List.length_append, List.length_cons, List.length_nil]; omega))) only [go_sem, Nat.reduceAdd, Nat.reduceSub, Nat.reduceLT, Nat.reduceLeDiff, Int.reduceToNat, Int.reduceLE, Int.reduceLT, Int.reduceAdd, Int.reduceSub, Int.reduceEq, Int.reduceNe, Int.reduceMul, Nat.reduceMul, Int.reduceNeg, Int.toNat_natCast, Nat.reduceEqDiff, X.exit.injEq, if_true, if_false, reduceIte, Bool.not_true, Bool.not_false, Bool.false_eq_true, Bool.true_eq_false, true_and,  need_of, need_true, need_and, WOf_need, i64w, u64w, at_getD, idxR_slD, and_true, Nat.zero_add, Nat.mul_one, Nat.add_zero, idxS_one, get_setN, get_setS, get_appL, List.length_set, ↓ibin_shlD, ↓ibin_shrD, bld1_true, plan_buildD, natSucc, ]
    refine loopF (fun k ts m2 => ∃ (i : Nat), ts.length = 25 ∧ tg ts 0 = sl (sl I) x ∧ tg ts 5 = sl I y ∧ tg ts 6 = I i ∧ tg ts 4 = I (((List.range i).filter (closedB (needD x.of))).length : Nat) ∧ i ≤ N ∧ m2 = m' ∧ k = N - i) (N) ⟨0, rfl, rfl, rfl, rfl, rfl, by omega, rfl, by omega⟩ ?_
    rintro k ts m2 ⟨i, hl, h0, h5, h6, h4, hi, rfl, hk⟩
    have hfl := List.length_filter_le (closedB (needD x.of)) (List.range i)
    rw [List.length_range] at hfl
    rw [expandT hl]
    simp -implicitDefEqProofs -dsimp (disch := (first | omega | (simp only [List.length_set, List.length_append, List.length_cons, List.length_nil]; omega))) only [go_sem, Nat.reduceAdd, Nat.reduceSub, Nat.reduceLT, Nat.reduceLeDiff, Int.reduceToNat, Int.reduceLE, Int.reduceLT, Int.reduceAdd, Int.reduceSub, Int.reduceEq, Int.reduceNe, Int.reduceMul, Nat.reduceMul, Int.reduceNeg, Int.toNat_natCast, Nat.reduceEqDiff, X.exit.injEq, if_true, if_false, reduceIte, Bool.not_true, Bool.not_false, Bool.false_eq_true, Bool.true_eq_false, true_and,  need_of, need_true, need_and, WOf_need, i64w, u64w, at_getD, idxR_slD, and_true, Nat.zero_add, Nat.mul_one, Nat.add_zero, idxS_one, get_setN, get_setS, get_appL, List.length_set, ↓ibin_shlD, ↓ibin_shrD, bld1_true, plan_buildD, natSucc, h0, h4, h5, h6, hsh]
    split
    · rename_i hlt
      refine (closed24_ok y (needD x.of) hy (need_lt63 hfit) (by simp [needD]; omega) i (by omega)).mono ?_
      rintro v m3 ⟨rfl, rfl⟩
      have hfs := filter_range_succ i (closedB (needD x.of))
      cases hc : closedB (needD x.of) i with
      | true =>
        simp -implicitDefEqProofs -dsimp (disch := (first | omega | (simp only [List.length_set, List.length_append, List.length_cons, List.length_nil]; omega))) only [go_sem, Nat.reduceAdd, Nat.reduceSub, Nat.reduceLT, Nat.reduceLeDiff, Int.reduceToNat, Int.reduceLE, Int.reduceLT, Int.reduceAdd, Int.reduceSub, Int.reduceEq, Int.reduceNe, Int.reduceMul, Nat.reduceMul, Int.reduceNeg, Int.toNat_natCast, Nat.reduceEqDiff, X.exit.injEq, if_true, if_false, reduceIte, Bool.not_true, Bool.not_false, Bool.false_eq_true, Bool.true_eq_false, true_and,  need_of, need_true, need_and, WOf_need, i64w, u64w, at_getD, idxR_slD, and_true, Nat.zero_add, Nat.mul_one, Nat.add_zero, idxS_one, get_setN, get_setS, get_appL, List.length_set, ↓ibin_shlD, ↓ibin_shrD, bld1_true, plan_buildD, natSucc, ]
        refine ⟨N - (i + 1), by omega, i + 1, ?_⟩
        rw [hfs, hc, if_pos rfl, List.length_append, List.length_singleton]
        and_intros <;> (first | with_reducible rfl | omega | with_reducible assumption | exact True.intro | skip)
      | false =>
        simp -implicitDefEqProofs -dsimp (disch := (first | omega | (simp only [List.length_set, List.length_append, List.length_cons, List.length_nil]; omega))) only [go_sem, Nat.reduceAdd, Nat.reduceSub, Nat.reduceLT, Nat.reduceLeDiff, Int.reduceToNat, Int.reduceLE, Int.reduceLT, Int.reduceAdd, Int.reduceSub, Int.reduceEq, Int.reduceNe, Int.reduceMul, Nat.reduceMul, Int.reduceNeg, Int.toNat_natCast, Nat.reduceEqDiff, X.exit.injEq, if_true, if_false, reduceIte, Bool.not_true, Bool.not_false, Bool.false_eq_true, Bool.true_eq_false, true_and,  need_of, need_true, need_and, WOf_need, i64w, u64w, at_getD, idxR_slD, and_true, Nat.zero_add, Nat.mul_one, Nat.add_zero, idxS_one, get_setN, get_setS, get_appL, List.length_set, ↓ibin_shlD, ↓ibin_shrD, bld1_true, plan_buildD, natSucc, ]
        refine ⟨N - (i + 1), by omega, i + 1, ?_⟩
        rw [hfs, hc, if_neg (by simp), List.append_nil]
        and_intros <;> (first | with_reducible rfl | omega | with_reducible assumption | exact True.intro | skip)
    · rename_i hlt
      have : i = N := by omega
      subst this
      simp only [if_true, hcs]
/-- What 'All' answers. -/
def allE (D : List (List Int)) (most : Int) : Int := if fitsD D = true then (if most < 1 ∨ 4096 < most then 2 else if most < (closedSets D).length then 11 else 0) else 3
def allL (D : List (List Int)) (most : Int) : List (List Int) := if allE D most = 0 then (closedSets D).map fun s => (listB s).map Int.ofNat else []
theorem of_app (l : List (Sl Int)) (y : Sl Int) : (l ++ [y]).map (·.l) = l.map (·.l) ++ [y.l] := by simp
theorem all17_ok (x : LL) (most : Int) (hx : x.l.length < 2 ^ 62) (hxl : ∀ a ∈ x.l, a.l.length < 2 ^ 62) (hf : Fits en m.length) : WC Tryd.prog pol en (.func 17) [sl (sl I) x, I most] m fun v m' => m' = m ∧
    ∃ y : LL, v = .tup [sl (sl I) y, I (allE x.of most)] ∧ y.of = allL x.of most := by
  refine callPur Tryd.func17 rfl rfl Tryd.ntmps17 Tryd.results17 ?_
  simp -implicitDefEqProofs -dsimp (disch := (first | omega | (simp only [List.length_set, List.length_append, List.length_cons, List.length_nil]; omega))) only [go_sem, Nat.reduceAdd, Nat.reduceSub, Nat.reduceLT, Nat.reduceLeDiff, Int.reduceToNat, Int.reduceLE, Int.reduceLT, Int.reduceAdd, Int.reduceSub, Int.reduceEq, Int.reduceNe, Int.reduceMul, Nat.reduceMul, Int.reduceNeg, Int.toNat_natCast, Nat.reduceEqDiff, X.exit.injEq, if_true, if_false, reduceIte, Bool.not_true, Bool.not_false, Bool.false_eq_true, Bool.true_eq_false, true_and,  need_of, need_true, need_and, WOf_need, i64w, u64w, at_getD, idxR_slD, and_true, Nat.zero_add, Nat.mul_one, Nat.add_zero, idxS_one, get_setN, get_setS, get_appL, List.length_set, ↓ibin_shlD, ↓ibin_shrD, bld1_true, plan_buildD, natSucc, ]
  refine (count9_ok x hx hxl hf.pur).mono ?_
  rintro v m' ⟨rfl, rfl⟩
  have hnil : ∀ e : Int, e ≠ 0 → allE x.of most = e → ∃ y : LL, AV.tup [AV.nilS, I e] = .tup [sl (sl I) y, I (allE x.of most)] ∧ y.of = allL x.of most := by
    intro e he h
    exact ⟨⟨true, false, []⟩, by rw [h]; rfl, by rw [allL, h, if_neg he]; rfl⟩
  cases hfit : fitsD x.of with
  | false =>
    have hE : allE x.of most = 3 := by simp [allE, hfit]
    simp -implicitDefEqProofs -dsimp (disch := (first | omega | (simp only [List.length_set, List.length_append, List.length_cons, List.length_nil]; omega))) only [go_sem, Nat.reduceAdd, Nat.reduceSub, Nat.reduceLT, Nat.reduceLeDiff, Int.reduceToNat, Int.reduceLE, Int.reduceLT, Int.reduceAdd, Int.reduceSub, Int.reduceEq, Int.reduceNe, Int.reduceMul, Nat.reduceMul, Int.reduceNeg, Int.toNat_natCast, Nat.reduceEqDiff, X.exit.injEq, if_true, if_false, reduceIte, Bool.not_true, Bool.not_false, Bool.false_eq_true, Bool.true_eq_false, true_and,  need_of, need_true, need_and, WOf_need, i64w, u64w, at_getD, idxR_slD, and_true, Nat.zero_add, Nat.mul_one, Nat.add_zero, idxS_one, get_setN, get_setS, get_appL, List.length_set, ↓ibin_shlD, ↓ibin_shrD, bld1_true, plan_buildD, natSucc, ]
    exact hnil 3 (by decide) hE
  | true =>
    have hlen : x.of.length = x.l.length := by simp [LL.of]
    have h14 := fits_len hfit
    have hp : 2 ^ x.of.length ≤ 2 ^ 14 := Nat.pow_le_pow_right (by omega) h14
    have hcs : closedSets x.of = (List.range (2 ^ x.of.length)).filter (closedB (needD x.of)) := rfl
    have hsh : shlK .i64 1 (x.l.length : Int) = ((2 ^ x.of.length : Nat) : Int) := by rw [← hlen]; exact i64_shl (by omega)
    generalize 2 ^ x.of.length = N at *
    by_cases h1 : most < 1
    · have hE : allE x.of most = 2 := by simp [allE, hfit, h1]
      simp -implicitDefEqProofs -dsimp (disch := (first | omega | (simp only [List.length_set, List.length_append, List.length_cons, List.length_nil]; omega))) only [go_sem, Nat.reduceAdd, Nat.reduceSub, Nat.reduceLT, Nat.reduceLeDiff, Int.reduceToNat, Int.reduceLE, Int.reduceLT, Int.reduceAdd, Int.reduceSub, Int.reduceEq, Int.reduceNe, Int.reduceMul, Nat.reduceMul, Int.reduceNeg, Int.toNat_natCast, Nat.reduceEqDiff, X.exit.injEq, if_true, if_false, reduceIte, Bool.not_true, Bool.not_false, Bool.false_eq_true, Bool.true_eq_false, true_and,  need_of, need_true, need_and, WOf_need, i64w, u64w, at_getD, idxR_slD, and_true, Nat.zero_add, Nat.mul_one, Nat.add_zero, idxS_one, get_setN, get_setS, get_appL, List.length_set, ↓ibin_shlD, ↓ibin_shrD, bld1_true, plan_buildD, natSucc, h1]
      exact hnil 2 (by decide) hE
    by_cases h2 : 4096 < most
    · have hE : allE x.of most = 2 := by simp [allE, hfit, h2]
      simp -implicitDefEqProofs -dsimp (disch := (first | omega | (simp only [List.length_set, List.length_append, List.length_cons, List.length_nil]; omega))) only [go_sem, Nat.reduceAdd, Nat.reduceSub, Nat.reduceLT, Nat.reduceLeDiff, Int.reduceToNat, Int.reduceLE, Int.reduceLT, Int.reduceAdd, Int.reduceSub, Int.reduceEq, Int.reduceNe, Int.reduceMul, Nat.reduceMul, Int.reduceNeg, Int.toNat_natCast, Nat.reduceEqDiff, X.exit.injEq, if_true, if_false, reduceIte, Bool.not_true, Bool.not_false, Bool.false_eq_true, Bool.true_eq_false, true_and,  need_of, need_true, need_and, WOf_need, i64w, u64w, at_getD, idxR_slD, and_true, Nat.zero_add, Nat.mul_one, Nat.add_zero, idxS_one, get_setN, get_setS, get_appL, List.length_set, ↓ibin_shlD, ↓ibin_shrD, bld1_true, plan_buildD, natSucc, h1, h2]
      exact hnil 2 (by decide) hE
    by_cases h3 : most < (closedSets x.of).length
    · have hE : allE x.of most = 11 := by simp [allE, hfit, h1, h2, h3]
      simp -implicitDefEqProofs -dsimp (disch := (first | omega | (simp only [List.length_set, List.length_append, List.length_cons, List.length_nil]; omega))) only [go_sem, Nat.reduceAdd, Nat.reduceSub, Nat.reduceLT, Nat.reduceLeDiff, Int.reduceToNat, Int.reduceLE, Int.reduceLT, Int.reduceAdd, Int.reduceSub, Int.reduceEq, Int.reduceNe, Int.reduceMul, Nat.reduceMul, Int.reduceNeg, Int.toNat_natCast, Nat.reduceEqDiff, X.exit.injEq, if_true, if_false, reduceIte, Bool.not_true, Bool.not_false, Bool.false_eq_true, Bool.true_eq_false, true_and,  need_of, need_true, need_and, WOf_need, i64w, u64w, at_getD, idxR_slD, and_true, Nat.zero_add, Nat.mul_one, Nat.add_zero, idxS_one, get_setN, get_setS, get_appL, List.length_set, ↓ibin_shlD, ↓ibin_shrD, bld1_true, plan_buildD, natSucc, h1, h2, h3]
      exact hnil 11 (by decide) hE
    have hE : allE x.of most = 0 := by simp [allE, hfit, h1, h2, h3]
    have hL : allL x.of most = (closedSets x.of).map fun s => (listB s).map Int.ofNat := by rw [allL, if_pos hE]
    simp -implicitDefEqProofs -dsimp (disch := (first | omega | (simp only [List.length_set, List.length_append, List.length_cons, List.length_nil]; omega))) only [go_sem, Nat.reduceAdd, Nat.reduceSub, Nat.reduceLT, Nat.reduceLeDiff, Int.reduceToNat, Int.reduceLE, Int.reduceLT, Int.reduceAdd, Int.reduceSub, Int.reduceEq, Int.reduceNe, Int.reduceMul, Nat.reduceMul, Int.reduceNeg, Int.toNat_natCast, Nat.reduceEqDiff, X.exit.injEq, if_true, if_false, reduceIte, Bool.not_true, Bool.not_false, Bool.false_eq_true, Bool.true_eq_false, true_and,  need_of, need_true, need_and, WOf_need, i64w, u64w, at_getD, idxR_slD, and_true, Nat.zero_add, Nat.mul_one, Nat.add_zero, idxS_one, get_setN, get_setS, get_appL, List.length_set, ↓ibin_shlD, ↓ibin_shrD, bld1_true, plan_buildD, natSucc, h1, h2, h3]
    refine (needs_ok x hfit hxl hf.pur).mono ?_
    rintro v m' ⟨rfl, y, rfl, hy⟩
    simp -implicitDefEqProofs -dsimp (disch := (first | omega | (simp only [List.length_set, List.length_append, List.length_cons, List.length_nil]; omega))) only [go_sem, Nat.reduceAdd, Nat.reduceSub, Nat.reduceLT, Nat.reduceLeDiff, Int.reduceToNat, Int.reduceLE, Int.reduceLT, Int.reduceAdd, Int.reduceSub, Int.reduceEq, Int.reduceNe, Int.reduceMul, Nat.reduceMul, Int.reduceNeg, Int.toNat_natCast, Nat.reduceEqDiff, X.exit.injEq, if_true, if_false, reduceIte, Bool.not_true, Bool.not_false, Bool.false_eq_true, Bool.true_eq_false, true_and,  need_of, need_true, need_and, WOf_need, i64w, u64w, at_getD, idxR_slD, and_true, Nat.zero_add, Nat.mul_one, Nat.add_zero, idxS_one, get_setN, get_setS, get_appL, List.length_set, ↓ibin_shlD, ↓ibin_shrD, bld1_true, plan_buildD, natSucc, ]
    refine loopF (fun k ts m2 => ∃ (i : Nat) (v : AV) (l : List (Sl Int)), ts.length = 49 ∧ tg ts 0 = sl (sl I) x ∧ tg ts 9 = sl I y ∧ tg ts 10 = I i ∧ tg ts 8 = kv v ∧ Row (sl I) m' l v m2 ∧ l.map (·.l) = ((List.range i).filter (closedB (needD x.of))).map (fun s => (listB s).map Int.ofNat) ∧ i ≤ N ∧ k = N - i) N ⟨0, _, [], rfl, rfl, rfl, rfl, rfl, Row.nil, rfl, by omega, by omega⟩ ?_
    rintro k ts m2 ⟨i, v, l, hl, h0, h9, h10, h8, hr, hll, hi, hk⟩
    have hfl := List.length_filter_le (closedB (needD x.of)) (List.range i)
    have hln := congrArg List.length hll
    rw [List.length_range] at hfl
    rw [List.length_map, List.length_map] at hln
    rw [expandT hl]
    simp -implicitDefEqProofs -dsimp (disch := (first | omega | (simp only [List.length_set, List.length_append, List.length_cons, List.length_nil]; omega))) only [go_sem, Nat.reduceAdd, Nat.reduceSub, Nat.reduceLT, Nat.reduceLeDiff, Int.reduceToNat, Int.reduceLE, Int.reduceLT, Int.reduceAdd, Int.reduceSub, Int.reduceEq, Int.reduceNe, Int.reduceMul, Nat.reduceMul, Int.reduceNeg, Int.toNat_natCast, Nat.reduceEqDiff, X.exit.injEq, if_true, if_false, reduceIte, Bool.not_true, Bool.not_false, Bool.false_eq_true, Bool.true_eq_false, true_and,  need_of, need_true, need_and, WOf_need, i64w, u64w, at_getD, idxR_slD, and_true, Nat.zero_add, Nat.mul_one, Nat.add_zero, idxS_one, get_setN, get_setS, get_appL, List.length_set, ↓ibin_shlD, ↓ibin_shrD, bld1_true, plan_buildD, natSucc, h0, h8, h9, h10, hsh]
    split
    · rename_i hlt
      refine (closed24_ok y (needD x.of) hy (need_lt63 hfit) (by simp [needD]; omega) i (by omega)).mono ?_
      rintro v m3 ⟨rfl, rfl⟩
      have hfs := filter_range_succ i (closedB (needD x.of))
      cases hc : closedB (needD x.of) i with
      | true =>
        simp -implicitDefEqProofs -dsimp (disch := (first | omega | (simp only [List.length_set, List.length_append, List.length_cons, List.length_nil]; omega))) only [go_sem, Nat.reduceAdd, Nat.reduceSub, Nat.reduceLT, Nat.reduceLeDiff, Int.reduceToNat, Int.reduceLE, Int.reduceLT, Int.reduceAdd, Int.reduceSub, Int.reduceEq, Int.reduceNe, Int.reduceMul, Nat.reduceMul, Int.reduceNeg, Int.toNat_natCast, Nat.reduceEqDiff, X.exit.injEq, if_true, if_false, reduceIte, Bool.not_true, Bool.not_false, Bool.false_eq_true, Bool.true_eq_false, true_and,  need_of, need_true, need_and, WOf_need, i64w, u64w, at_getD, idxR_slD, and_true, Nat.zero_add, Nat.mul_one, Nat.add_zero, idxS_one, get_setN, get_setS, get_appL, List.length_set, ↓ibin_shlD, ↓ibin_shrD, bld1_true, plan_buildD, natSucc, ]
        refine (list30_ok i (by omega) (by rcases hr with ⟨_, _, rfl⟩ | ⟨_, _, rfl⟩ <;> first | exact hf.pur | exact hf.pur.mono (by simp))).mono ?_
        rintro v m3 ⟨rfl, z, rfl, hz⟩
        simp -implicitDefEqProofs -dsimp (disch := (first | omega | (simp only [List.length_set, List.length_append, List.length_cons, List.length_nil]; omega))) only [go_sem, Nat.reduceAdd, Nat.reduceSub, Nat.reduceLT, Nat.reduceLeDiff, Int.reduceToNat, Int.reduceLE, Int.reduceLT, Int.reduceAdd, Int.reduceSub, Int.reduceEq, Int.reduceNe, Int.reduceMul, Nat.reduceMul, Int.reduceNeg, Int.toNat_natCast, Nat.reduceEqDiff, X.exit.injEq, if_true, if_false, reduceIte, Bool.not_true, Bool.not_false, Bool.false_eq_true, Bool.true_eq_false, true_and,  need_of, need_true, need_and, WOf_need, i64w, u64w, at_getD, idxR_slD, and_true, Nat.zero_add, Nat.mul_one, Nat.add_zero, idxS_one, get_setN, get_setS, get_appL, List.length_set, ↓ibin_shlD, ↓ibin_shrD, bld1_true, plan_buildD, natSucc, ]
        refine hr.app z hf.pur (Nat.le_refl _) (by omega) fun r v' m'' hr' => ?_
        simp -implicitDefEqProofs -dsimp (disch := (first | omega | (simp only [List.length_set, List.length_append, List.length_cons, List.length_nil]; omega))) only [go_sem, Nat.reduceAdd, Nat.reduceSub, Nat.reduceLT, Nat.reduceLeDiff, Int.reduceToNat, Int.reduceLE, Int.reduceLT, Int.reduceAdd, Int.reduceSub, Int.reduceEq, Int.reduceNe, Int.reduceMul, Nat.reduceMul, Int.reduceNeg, Int.toNat_natCast, Nat.reduceEqDiff, X.exit.injEq, if_true, if_false, reduceIte, Bool.not_true, Bool.not_false, Bool.false_eq_true, Bool.true_eq_false, true_and,  need_of, need_true, need_and, WOf_need, i64w, u64w, at_getD, idxR_slD, and_true, Nat.zero_add, Nat.mul_one, Nat.add_zero, idxS_one, get_setN, get_setS, get_appL, List.length_set, ↓ibin_shlD, ↓ibin_shrD, bld1_true, plan_buildD, natSucc, ]
        refine ⟨N - (i + 1), by omega, i + 1, v', l ++ [z], ?_⟩
        rw [hfs, hc, if_pos rfl, List.map_append, List.map_append, hll, List.map_singleton, List.map_singleton, hz]
        and_intros <;> (first | with_reducible rfl | omega | with_reducible assumption | exact True.intro | skip)
      | false =>
        simp -implicitDefEqProofs -dsimp (disch := (first | omega | (simp only [List.length_set, List.length_append, List.length_cons, List.length_nil]; omega))) only [go_sem, Nat.reduceAdd, Nat.reduceSub, Nat.reduceLT, Nat.reduceLeDiff, Int.reduceToNat, Int.reduceLE, Int.reduceLT, Int.reduceAdd, Int.reduceSub, Int.reduceEq, Int.reduceNe, Int.reduceMul, Nat.reduceMul, Int.reduceNeg, Int.toNat_natCast, Nat.reduceEqDiff, X.exit.injEq, if_true, if_false, reduceIte, Bool.not_true, Bool.not_false, Bool.false_eq_true, Bool.true_eq_false, true_and,  need_of, need_true, need_and, WOf_need, i64w, u64w, at_getD, idxR_slD, and_true, Nat.zero_add, Nat.mul_one, Nat.add_zero, idxS_one, get_setN, get_setS, get_appL, List.length_set, ↓ibin_shlD, ↓ibin_shrD, bld1_true, plan_buildD, natSucc, ]
        refine ⟨N - (i + 1), by omega, i + 1, v, l, ?_⟩
        rw [hfs, hc, if_neg (by simp), List.append_nil]
        and_intros <;> (first | with_reducible rfl | omega | with_reducible assumption | exact True.intro | skip)
    · rename_i hlt
      have : i = N := by omega
      subst this
      refine hr.frz clean_LI (fun a t u => sl_ifc I a t u) _ _ fun z hz => ?_
      simp -implicitDefEqProofs -dsimp (disch := (first | omega | (simp only [List.length_set, List.length_append, List.length_cons, List.length_nil]; omega))) only [go_sem, Nat.reduceAdd, Nat.reduceSub, Nat.reduceLT, Nat.reduceLeDiff, Int.reduceToNat, Int.reduceLE, Int.reduceLT, Int.reduceAdd, Int.reduceSub, Int.reduceEq, Int.reduceNe, Int.reduceMul, Nat.reduceMul, Int.reduceNeg, Int.toNat_natCast, Nat.reduceEqDiff, X.exit.injEq, if_true, if_false, reduceIte, Bool.not_true, Bool.not_false, Bool.false_eq_true, Bool.true_eq_false, true_and,  need_of, need_true, need_and, WOf_need, i64w, u64w, at_getD, idxR_slD, and_true, Nat.zero_add, Nat.mul_one, Nat.add_zero, idxS_one, get_setN, get_setS, get_appL, List.length_set, ↓ibin_shlD, ↓ibin_shrD, bld1_true, plan_buildD, natSucc, ]
      refine ⟨z, ?_, ?_⟩
      · rw [hE]
      · rw [hL, hcs, ← hll, ← hz]; rfl
end
end Go.Proofs.YtfbamjlednbdhaaDoor.V
/- 'All'; no condition. -/
namespace Go.Proofs.YtfbamjlednbdhaaDoor.V
open Go
set_option linter.unusedVariables false
set_option linter.unusedSimpArgs false
set_option maxHeartbeats 4000000
noncomputable section
variable {en : Env} {m : Mem}
def descD (D : List (List Int)) : List Nat := desc (needD D) D.length 0 0
def takeF (M : Nat) (st : List Nat × Bool) (s : Nat) : List Nat × Bool := if st.1.length = M then (st.1, true) else (st.1 ++ [s], false)
def takeJ (st : List Nat × Bool) : Option Code := if st.2 = true then some .ret else none
theorem runY_take (M : Nat) : ∀ (l acc : List Nat), acc.length ≤ M →
    if acc.length + l.length ≤ M then (runY (fun st s => (takeF M st s, (takeJ (takeF M st s)).isNone)) l (acc, false)).1 = (acc ++ l, false) else (runY (fun st s => (takeF M st s, (takeJ (takeF M st s)).isNone)) l (acc, false)).1.2 = true
  | [], acc, h => by simp [runY, h]
  | s :: l, acc, h => by
    simp only [runY, takeF, takeJ]
    by_cases hc : acc.length = M
    · simp [hc]
    · have := runY_take M l (acc ++ [s]) (by simp; omega)
      simp only [takeF, takeJ] at this
      simp only [if_neg hc, Bool.false_eq_true, if_false, Option.isNone_none, if_true]
      simp only [List.length_append, List.length_cons, List.length_nil, Nat.zero_add] at this
      rw [show acc.length + 1 + l.length = acc.length + (s :: l).length by simp; omega] at this
      simpa using this
/-- The row that it grows. -/
def RowAt (b : Nat) (l : List (Sl Int)) (v : AV) (own : List Nat) (mm : Mem) : Prop :=
  (l = [] ∧ v = .nilS ∧ own = []) ∨ ∃ id ver, v = .own id ver 0 l.length 1 ∧ mm[id]? = some (.cells ver (l.map (sl I))) ∧ b ≤ id ∧ own = [id]
theorem RowAt.lt {b : Nat} {l : List (Sl Int)} {v : AV} {own : List Nat} {mm : Mem} (h : RowAt b l v own mm) : ∀ id ∈ own, id < mm.length := by
  rcases h with ⟨_, _, rfl⟩ | ⟨id, ver, _, h, _, rfl⟩
  · simp
  · intro j hj
    simp only [List.mem_singleton] at hj
    subst hj
    exact (List.getElem?_eq_some_iff.1 h).1
theorem RowAt.push {b : Nat} {l : List (Sl Int)} {v : AV} {own : List Nat} {mm : Mem} (h : RowAt b l v own mm) (l' : Mem) : RowAt b l v own (mm ++ l') := by
  rcases h with h | ⟨id, ver, h1, h, h2⟩
  · exact Or.inl h
  · exact Or.inr ⟨id, ver, h1, by rw [List.getElem?_append_left (List.getElem?_eq_some_iff.1 h).1]; exact h, h2⟩
theorem RowAt.set {b : Nat} {l : List (Sl Int)} {v : AV} {own : List Nat} {mm : Mem} (h : RowAt b l v own mm) {j : Nat} (hj : j < b) (o : Ob) : RowAt b l v own (mm.set j o) := by
  rcases h with h | ⟨id, ver, h1, h, h2, h3⟩
  · exact Or.inl h
  · exact Or.inr ⟨id, ver, h1, by rw [List.getElem?_set_ne (by omega)]; exact h, h2, h3⟩
theorem RowAt.len {b : Nat} {l : List (Sl Int)} {v : AV} {own : List Nat} {mm : Mem} (h : RowAt b l v own mm) (e : TypeId) (g : Option Req) : lenR (some (kv v)) (some (.slice e)) g = some (.val (I l.length)) := by
  rcases h with ⟨rfl, rfl, _⟩ | ⟨id, ver, rfl, _⟩ <;> rfl
theorem RowAt.leaf {b : Nat} {l : List (Sl Int)} {v : AV} {own : List Nat} {mm : Mem} (h : RowAt b l v own mm) : (kv v).cells = [kv v] ∧ (kv v).leaf = true := by
  rcases h with ⟨rfl, rfl, _⟩ | ⟨id, ver, rfl, _⟩ <;> exact ⟨rfl, rfl⟩
theorem RowAt.frz {b : Nat} {l : List (Sl Int)} {v : AV} {own : List Nat} {mm : Mem} (h : RowAt b l v own mm) {b' : Nat} (hb : b' ≤ b) (d : Nat) (k : AV → Prop) (hk : ∀ x : LL, x.l = l → k (sl (sl I) x)) : frzQ mm b' (d + 2) (kv v) k := by
  unfold kv
  rcases h with ⟨rfl, rfl, rfl⟩ | ⟨id, ver, rfl, hm, hid, _⟩
  · rw [frzQ_nilS]; exact hk ⟨true, false, []⟩ rfl
  · rw [frzQ_own clean_LI (fun a t u => sl_ifc I a t u) l hm (by omega)]; exact hk _ rfl
/-- One more. -/
theorem RowAt.app {b : Nat} {l : List (Sl Int)} {v : AV} {own : List Nat} {m : Mem} (h : RowAt b l v own m) (a : Sl Int) {en : Env} (hfit : Fits en b) (hb : en.bar ≤ b) (hbm : b ≤ m.length) (hn : l.length < 2 ^ 32) {k : Req → AV → Mem → Prop}
    (hk : ∀ r v' m' own', (kv v').cells = [kv v'] → (kv v').leaf = true → (r = .appnew 1 0 [] (.lst 1 [sl I a]) ∨ ∃ id ver len, r = .app id ver 0 len 1 (.lst 1 [sl I a])) → RowAt b (l ++ [a]) v' own' m' → Stays own b m m' → (∀ j, j < b → m'[j]? = m[j]?) → Newer own own' m.length → k r (kv v') m') : WOf Tryd.prog pol en (appR 1 (some (kv v)) (some (.lst 1 [sl I a]))) m k := by
  unfold kv at *
  rcases h with ⟨rfl, rfl, rfl⟩ | ⟨id, ver, rfl, hm, hid, rfl⟩
  · rw [appR_nil, WOf_appnew]
    refine ⟨⟨rfl, rfl, rfl, by omega⟩, hk _ _ _ [m.length] rfl rfl (Or.inl rfl) (Or.inr ⟨m.length, 0, rfl, by rw [getM0]; rfl, hbm, rfl⟩) (Stays.push _ _ _ _) (fun j hj => List.getElem?_append_left (by omega)) fun id h => Or.inr (by simp at h; omega)⟩
  · have hl := (List.getElem?_eq_some_iff.1 hm).1
    rw [appR_own, WOf_app, hm, cellsQ_some]
    refine ⟨rfl, ⟨rfl, by simp, ?_, by omega⟩, okTo_fits hfit hb hid _, ?_⟩
    · simp only [roomOk, Bool.and_eq_true, decide_eq_true_eq]; omega
    · rw [take_map]
      exact hk _ _ _ [id] rfl rfl (Or.inr ⟨_, _, _, rfl⟩) (Or.inr ⟨id, ver + 1, by simp, by rw [List.getElem?_set_self hl]; simp, hid, rfl⟩) (Stays.set (Or.inl (by simp))) (fun j hj => List.getElem?_set_ne (by omega)) (Newer.refl _ _)
def allE16 (D : List (List Int)) (most : Int) : Int := if fitsD D = true then (if most < 1 ∨ 4096 < most then 2 else if most < (descD D).length then 11 else 0) else 3
def allL16 (D : List (List Int)) (most : Int) : List (List Int) := if allE16 D most = 0 then (descD D).map fun s => (bitsOf s).map Int.ofNat else []
theorem all16_ok (x : LL) (most : Int) (hx : x.l.length < 2 ^ 62) (hxl : ∀ a ∈ x.l, a.l.length < 2 ^ 62) (hf : Fits en m.length) : WC Tryd.prog pol en (.func 16) [sl (sl I) x, I most] m fun v m' => m' = m ∧
    ∃ y : LL, v = .tup [sl (sl I) y, I (allE16 x.of most)] ∧ y.of = allL16 x.of most := by
  refine callPur Tryd.func16 rfl rfl Tryd.ntmps16 Tryd.results16 ?_
  have hokT := fun {id : Nat} {low : Nat → Bool} => @okTo_purT en m.length id hf low
  simp -implicitDefEqProofs -dsimp (disch := (first | omega | (simp only [List.length_set, List.length_append, List.length_cons, List.length_nil]; omega))) only [go_sem, Nat.reduceAdd, Nat.reduceSub, Nat.reduceLT, Nat.reduceLeDiff, Int.reduceToNat, Int.reduceLE, Int.reduceLT, Int.reduceAdd, Int.reduceSub, Int.reduceEq, Int.reduceNe, Int.reduceMul, Nat.reduceMul, Int.reduceNeg, Int.toNat_natCast, Nat.reduceEqDiff, X.exit.injEq, if_true, if_false, reduceIte, Bool.not_true, Bool.not_false, Bool.false_eq_true, Bool.true_eq_false, true_and,  need_of, need_true, need_and, WOf_need, i64w, u64w, at_getD, idxR_slD, and_true, Nat.zero_add, Nat.mul_one, Nat.add_zero, idxS_one, get_setN, get_setS, get_appL, List.length_set, ↓ibin_shlD, ↓ibin_shrD, bld1_true, plan_buildD, natSucc, ]
  refine (read_ok x hx hxl (hf.pur.mono (by simp))).mono ?_
  rintro v m' ⟨rfl, n, a, rfl, ho⟩
  have hnil : ∀ e : Int, e ≠ 0 → allE16 x.of most = e → ∃ y : LL, AV.tup [AV.nilS, I e] = .tup [sl (sl I) y, I (allE16 x.of most)] ∧ y.of = allL16 x.of most := by
    intro e he h
    exact ⟨⟨true, false, []⟩, by rw [h]; rfl, by rw [allL16, h, if_neg he]; rfl⟩
  cases hfit : fitsD x.of with
  | false =>
    have hE : allE16 x.of most = 3 := by simp [allE16, hfit]
    simp -implicitDefEqProofs -dsimp (disch := (first | omega | (simp only [List.length_set, List.length_append, List.length_cons, List.length_nil]; omega))) only [go_sem, Nat.reduceAdd, Nat.reduceSub, Nat.reduceLT, Nat.reduceLeDiff, Int.reduceToNat, Int.reduceLE, Int.reduceLT, Int.reduceAdd, Int.reduceSub, Int.reduceEq, Int.reduceNe, Int.reduceMul, Nat.reduceMul, Int.reduceNeg, Int.toNat_natCast, Nat.reduceEqDiff, X.exit.injEq, if_true, if_false, reduceIte, Bool.not_true, Bool.not_false, Bool.false_eq_true, Bool.true_eq_false, true_and,  need_of, need_true, need_and, WOf_need, i64w, u64w, at_getD, idxR_slD, and_true, Nat.zero_add, Nat.mul_one, Nat.add_zero, idxS_one, get_setN, get_setS, get_appL, List.length_set, ↓ibin_shlD, ↓ibin_shrD, bld1_true, plan_buildD, natSucc, hfit, hokT]
    exact hnil 3 (by decide) hE
  | true =>
    obtain ⟨hn, ha⟩ := ho hfit
    have hnl : n.l.length = x.of.length := by rw [hn]; simp [needD]
    have hn14 : n.l.length ≤ 14 := by have := fits_len hfit; omega
    by_cases h1 : most < 1
    · have hE : allE16 x.of most = 2 := by simp [allE16, hfit, h1]
      simp -implicitDefEqProofs -dsimp (disch := (first | omega | (simp only [List.length_set, List.length_append, List.length_cons, List.length_nil]; omega))) only [go_sem, Nat.reduceAdd, Nat.reduceSub, Nat.reduceLT, Nat.reduceLeDiff, Int.reduceToNat, Int.reduceLE, Int.reduceLT, Int.reduceAdd, Int.reduceSub, Int.reduceEq, Int.reduceNe, Int.reduceMul, Nat.reduceMul, Int.reduceNeg, Int.toNat_natCast, Nat.reduceEqDiff, X.exit.injEq, if_true, if_false, reduceIte, Bool.not_true, Bool.not_false, Bool.false_eq_true, Bool.true_eq_false, true_and,  need_of, need_true, need_and, WOf_need, i64w, u64w, at_getD, idxR_slD, and_true, Nat.zero_add, Nat.mul_one, Nat.add_zero, idxS_one, get_setN, get_setS, get_appL, List.length_set, ↓ibin_shlD, ↓ibin_shrD, bld1_true, plan_buildD, natSucc, hfit, hokT, h1]
      exact hnil 2 (by decide) hE
    by_cases h2 : 4096 < most
    · have hE : allE16 x.of most = 2 := by simp [allE16, hfit, h2]
      simp -implicitDefEqProofs -dsimp (disch := (first | omega | (simp only [List.length_set, List.length_append, List.length_cons, List.length_nil]; omega))) only [go_sem, Nat.reduceAdd, Nat.reduceSub, Nat.reduceLT, Nat.reduceLeDiff, Int.reduceToNat, Int.reduceLE, Int.reduceLT, Int.reduceAdd, Int.reduceSub, Int.reduceEq, Int.reduceNe, Int.reduceMul, Nat.reduceMul, Int.reduceNeg, Int.toNat_natCast, Nat.reduceEqDiff, X.exit.injEq, if_true, if_false, reduceIte, Bool.not_true, Bool.not_false, Bool.false_eq_true, Bool.true_eq_false, true_and,  need_of, need_true, need_and, WOf_need, i64w, u64w, at_getD, idxR_slD, and_true, Nat.zero_add, Nat.mul_one, Nat.add_zero, idxS_one, get_setN, get_setS, get_appL, List.length_set, ↓ibin_shlD, ↓ibin_shrD, bld1_true, plan_buildD, natSucc, hfit, hokT, h1, h2]
      exact hnil 2 (by decide) hE
    simp -implicitDefEqProofs -dsimp (disch := (first | omega | (simp only [List.length_set, List.length_append, List.length_cons, List.length_nil]; omega))) only [go_sem, Nat.reduceAdd, Nat.reduceSub, Nat.reduceLT, Nat.reduceLeDiff, Int.reduceToNat, Int.reduceLE, Int.reduceLT, Int.reduceAdd, Int.reduceSub, Int.reduceEq, Int.reduceNe, Int.reduceMul, Nat.reduceMul, Int.reduceNeg, Int.toNat_natCast, Nat.reduceEqDiff, X.exit.injEq, if_true, if_false, reduceIte, Bool.not_true, Bool.not_false, Bool.false_eq_true, Bool.true_eq_false, true_and,  need_of, need_true, need_and, WOf_need, i64w, u64w, at_getD, idxR_slD, and_true, Nat.zero_add, Nat.mul_one, Nat.add_zero, idxS_one, get_setN, get_setS, get_appL, List.length_set, ↓ibin_shlD, ↓ibin_shrD, bld1_true, plan_buildD, natSucc, hfit, hokT, h1, h2]
    refine (closed_ok n a).mono ?_
    rintro v m1 ⟨rfl, rfl⟩
    simp -implicitDefEqProofs -dsimp (disch := (first | omega | (simp only [List.length_set, List.length_append, List.length_cons, List.length_nil]; omega))) only [go_sem, Nat.reduceAdd, Nat.reduceSub, Nat.reduceLT, Nat.reduceLeDiff, Int.reduceToNat, Int.reduceLE, Int.reduceLT, Int.reduceAdd, Int.reduceSub, Int.reduceEq, Int.reduceNe, Int.reduceMul, Nat.reduceMul, Int.reduceNeg, Int.toNat_natCast, Nat.reduceEqDiff, X.exit.injEq, if_true, if_false, reduceIte, Bool.not_true, Bool.not_false, Bool.false_eq_true, Bool.true_eq_false, true_and,  need_of, need_true, need_and, WOf_need, i64w, u64w, at_getD, idxR_slD, and_true, Nat.zero_add, Nat.mul_one, Nat.add_zero, idxS_one, get_setN, get_setS, get_appL, List.length_set, ↓ibin_shlD, ↓ibin_shrD, bld1_true, plan_buildD, natSucc, ]
    obtain ⟨M, rfl⟩ : ∃ M : Nat, most = (M : Int) := ⟨most.toNat, by omega⟩
    refine rangeT (iter_ok n a (m.length + 5) hn14 (by rw [hn]; exact need_lt hfit)) (by simp -implicitDefEqProofs -dsimp (disch := (first | omega | (simp only [List.length_set, List.length_append, List.length_cons, List.length_nil]; omega))) only [go_sem, Nat.reduceAdd, Nat.reduceSub, Nat.reduceLT, Nat.reduceLeDiff, Int.reduceToNat, Int.reduceLE, Int.reduceLT, Int.reduceAdd, Int.reduceSub, Int.reduceEq, Int.reduceNe, Int.reduceMul, Nat.reduceMul, Int.reduceNeg, Int.toNat_natCast, Nat.reduceEqDiff, X.exit.injEq, if_true, if_false, reduceIte, Bool.not_true, Bool.not_false, Bool.false_eq_true, Bool.true_eq_false, true_and,  need_of, need_true, need_and, WOf_need, i64w, u64w, at_getD, idxR_slD, and_true, Nat.zero_add, Nat.mul_one, Nat.add_zero, idxS_one, get_setN, get_setS, get_appL, List.length_set, ↓ibin_shlD, ↓ibin_shrD, bld1_true, plan_buildD, natSucc, ]) (fun _ => rfl) (by simp) (hf.pur.mono (by simp)) takeJ
      (fun (st : List Nat × Bool) own mm => st.1.length ≤ M ∧ ∃ (v : AV) (l : List (Sl Int)), mm[m.length]? = some (.cells 0 [I M]) ∧ mm[m.length + 1]? = some (.cells 0 [.nilS]) ∧ mm[m.length + 2]? = some (.cells 0 [I (if st.2 = true then 11 else 0)]) ∧ mm[m.length + 4]? = some (.cells 0 [kv v]) ∧ mm[m.length + 5]? = some (.cells 0 [sl U n, sl U a]) ∧
        RowAt (m.length + 7) l v own mm ∧ l.map (·.l) = st.1.map fun s => (bitsOf s).map Int.ofNat)
      (takeF M) ([], false) [] rfl ?_ ?_ ?_ ?_ ?_ ?_ ?_
    · rintro st own mm ⟨_, v, l, _, _, _, _, _, h, _⟩; exact h.lt
    · rintro st own mm l hl ⟨h0, v, l', h1, h2, h3, h4, h5, h6, h7⟩
      have : m.length + 6 < mm.length := by simpa using hl
      refine ⟨h0, v, l', ?_, ?_, ?_, ?_, ?_, h6.push l, h7⟩
      all_goals simp -implicitDefEqProofs -dsimp (disch := (first | omega | (simp only [List.length_set, List.length_append, List.length_cons, List.length_nil]; omega))) only [go_sem, Nat.reduceAdd, Nat.reduceSub, Nat.reduceLT, Nat.reduceLeDiff, Int.reduceToNat, Int.reduceLE, Int.reduceLT, Int.reduceAdd, Int.reduceSub, Int.reduceEq, Int.reduceNe, Int.reduceMul, Nat.reduceMul, Int.reduceNeg, Int.toNat_natCast, Nat.reduceEqDiff, X.exit.injEq, if_true, if_false, reduceIte, Bool.not_true, Bool.not_false, Bool.false_eq_true, Bool.true_eq_false, true_and,  need_of, need_true, need_and, WOf_need, i64w, u64w, at_getD, idxR_slD, and_true, Nat.zero_add, Nat.mul_one, Nat.add_zero, idxS_one, get_setN, get_setS, get_appL, List.length_set, ↓ibin_shlD, ↓ibin_shrD, bld1_true, plan_buildD, natSucc, h1, h2, h3, h4, h5]
    · rintro st own mm o ⟨h0, v, l', h1, h2, h3, h4, h5, h6, h7⟩
      refine ⟨h0, v, l', ?_, ?_, ?_, ?_, ?_, h6.set (by simp) o, h7⟩
      all_goals simp -implicitDefEqProofs -dsimp (disch := (first | omega | (simp only [List.length_set, List.length_append, List.length_cons, List.length_nil]; omega))) only [go_sem, Nat.reduceAdd, Nat.reduceSub, Nat.reduceLT, Nat.reduceLeDiff, Int.reduceToNat, Int.reduceLE, Int.reduceLT, Int.reduceAdd, Int.reduceSub, Int.reduceEq, Int.reduceNe, Int.reduceMul, Nat.reduceMul, Int.reduceNeg, Int.toNat_natCast, Nat.reduceEqDiff, X.exit.injEq, if_true, if_false, reduceIte, Bool.not_true, Bool.not_false, Bool.false_eq_true, Bool.true_eq_false, true_and,  need_of, need_true, need_and, WOf_need, i64w, u64w, at_getD, idxR_slD, and_true, Nat.zero_add, Nat.mul_one, Nat.add_zero, idxS_one, get_setN, get_setS, get_appL, List.length_set, ↓ibin_shlD, ↓ibin_shrD, bld1_true, plan_buildD, natSucc, h1, h2, h3, h4, h5]
    · rintro st own mm ⟨h0, v, l', h1, h2, h3, h4, h5, h6, h7⟩
      exact h5
    · intro o
      refine ⟨by simp, .nilS, [], ?_, ?_, ?_, ?_, ?_, Or.inl ⟨rfl, rfl, rfl⟩, rfl⟩
      all_goals simp -implicitDefEqProofs -dsimp (disch := (first | omega | (simp only [List.length_set, List.length_append, List.length_cons, List.length_nil]; omega))) only [go_sem, Nat.reduceAdd, Nat.reduceSub, Nat.reduceLT, Nat.reduceLeDiff, Int.reduceToNat, Int.reduceLE, Int.reduceLT, Int.reduceAdd, Int.reduceSub, Int.reduceEq, Int.reduceNe, Int.reduceMul, Nat.reduceMul, Int.reduceNeg, Int.toNat_natCast, Nat.reduceEqDiff, X.exit.injEq, if_true, if_false, reduceIte, Bool.not_true, Bool.not_false, Bool.false_eq_true, Bool.true_eq_false, true_and,  need_of, need_true, need_and, WOf_need, i64w, u64w, at_getD, idxR_slD, and_true, Nat.zero_add, Nat.mul_one, Nat.add_zero, idxS_one, get_setN, get_setS, get_appL, List.length_set, ↓ibin_shlD, ↓ibin_shrD, bld1_true, plan_buildD, natSucc, kv]
    · rintro ⟨acc, stp⟩ own s mm hs hJ _ _
      simp -implicitDefEqProofs -dsimp (disch := (first | omega | (simp only [List.length_set, List.length_append, List.length_cons, List.length_nil]; omega))) only [go_sem, Nat.reduceAdd, Nat.reduceSub, Nat.reduceLT, Nat.reduceLeDiff, Int.reduceToNat, Int.reduceLE, Int.reduceLT, Int.reduceAdd, Int.reduceSub, Int.reduceEq, Int.reduceNe, Int.reduceMul, Nat.reduceMul, Int.reduceNeg, Int.toNat_natCast, Nat.reduceEqDiff, X.exit.injEq, if_true, if_false, reduceIte, Bool.not_true, Bool.not_false, Bool.false_eq_true, Bool.true_eq_false, true_and,  need_of, need_true, need_and, WOf_need, i64w, u64w, at_getD, idxR_slD, and_true, Nat.zero_add, Nat.mul_one, Nat.add_zero, idxS_one, get_setN, get_setS, get_appL, List.length_set, ↓ibin_shlD, ↓ibin_shrD, bld1_true, plan_buildD, natSucc, setMany, List.zip, List.zipWith]
      rintro mm o hl ⟨h0, v, l', h1, h2, h3, h4, h5, h6, h7⟩ h8
      have hst : stp = false := by
        cases stp with
        | false => rfl
        | true => simp [takeJ] at hJ
      subst hst
      have hll : l'.length = acc.length := by have := congrArg List.length h7; simpa using this
      by_cases hfull : acc.length = M
      · have hfi : (l'.length : Int) = (M : Int) := by omega
        have hF : takeF M (acc, false) s = (acc, true) := by simp [takeF, hfull]
        simp -implicitDefEqProofs -dsimp (disch := (first | omega | (simp only [List.length_set, List.length_append, List.length_cons, List.length_nil]; omega))) only [go_sem, Nat.reduceAdd, Nat.reduceSub, Nat.reduceLT, Nat.reduceLeDiff, Int.reduceToNat, Int.reduceLE, Int.reduceLT, Int.reduceAdd, Int.reduceSub, Int.reduceEq, Int.reduceNe, Int.reduceMul, Nat.reduceMul, Int.reduceNeg, Int.toNat_natCast, Nat.reduceEqDiff, X.exit.injEq, if_true, if_false, reduceIte, Bool.not_true, Bool.not_false, Bool.false_eq_true, Bool.true_eq_false, true_and,  need_of, need_true, need_and, WOf_need, i64w, u64w, at_getD, idxR_slD, and_true, Nat.zero_add, Nat.mul_one, Nat.add_zero, idxS_one, get_setN, get_setS, get_appL, List.length_set, ↓ibin_shlD, ↓ibin_shrD, bld1_true, plan_buildD, natSucc, h1, h2, h3, h4, h5, h6.len, hfi, hokT, hF]
        refine ⟨rfl, h8, (Stays.set (Or.inr (by omega))).trans (Stays.set (own := own) (Or.inr (by omega))) (Newer.refl _ _), own, ⟨h0, v, l', rfl, (h6.set (by omega) _).set (by omega) _, h7⟩, Newer.refl _ _⟩
      · have hfi : ¬ (l'.length : Int) = (M : Int) := by omega
        have hF : takeF M (acc, false) s = (acc ++ [s], false) := by simp [takeF, hfull]
        simp -implicitDefEqProofs -dsimp (disch := (first | omega | (simp only [List.length_set, List.length_append, List.length_cons, List.length_nil]; omega))) only [go_sem, Nat.reduceAdd, Nat.reduceSub, Nat.reduceLT, Nat.reduceLeDiff, Int.reduceToNat, Int.reduceLE, Int.reduceLT, Int.reduceAdd, Int.reduceSub, Int.reduceEq, Int.reduceNe, Int.reduceMul, Nat.reduceMul, Int.reduceNeg, Int.toNat_natCast, Nat.reduceEqDiff, X.exit.injEq, if_true, if_false, reduceIte, Bool.not_true, Bool.not_false, Bool.false_eq_true, Bool.true_eq_false, true_and,  need_of, need_true, need_and, WOf_need, i64w, u64w, at_getD, idxR_slD, and_true, Nat.zero_add, Nat.mul_one, Nat.add_zero, idxS_one, get_setN, get_setS, get_appL, List.length_set, ↓ibin_shlD, ↓ibin_shrD, bld1_true, plan_buildD, natSucc, h1, h2, h3, h4, h5, h6.len, hfi, hokT, hF]
        refine ⟨by kernel_rfl, ?_⟩
        refine (numbers_ok s hs (hf.pur.mono (by omega))).mono ?_
        rintro v1 m1 ⟨rfl, y, rfl, hy⟩
        simp -implicitDefEqProofs -dsimp (disch := (first | omega | (simp only [List.length_set, List.length_append, List.length_cons, List.length_nil]; omega))) only [go_sem, Nat.reduceAdd, Nat.reduceSub, Nat.reduceLT, Nat.reduceLeDiff, Int.reduceToNat, Int.reduceLE, Int.reduceLT, Int.reduceAdd, Int.reduceSub, Int.reduceEq, Int.reduceNe, Int.reduceMul, Nat.reduceMul, Int.reduceNeg, Int.toNat_natCast, Nat.reduceEqDiff, X.exit.injEq, if_true, if_false, reduceIte, Bool.not_true, Bool.not_false, Bool.false_eq_true, Bool.true_eq_false, true_and,  need_of, need_true, need_and, WOf_need, i64w, u64w, at_getD, idxR_slD, and_true, Nat.zero_add, Nat.mul_one, Nat.add_zero, idxS_one, get_setN, get_setS, get_appL, List.length_set, ↓ibin_shlD, ↓ibin_shrD, bld1_true, plan_buildD, natSucc, ]
        refine h6.app y (hf.pur.mono (by omega)) (by simp) (by omega) (by omega) fun r v' m' own' hvc hvl hreq hr hS hlow hN => ?_
        have e4 := hlow (m.length + 4) (by omega)
        have hlm : m1.length ≤ m'.length := hS.1
        have e0 := (hlow m.length (by omega)).trans h1
        have e1 := (hlow (m.length + 1) (by omega)).trans h2
        have e2 := (hlow (m.length + 2) (by omega)).trans h3
        have e5 := (hlow (m.length + 5) (by omega)).trans h5
        have e6 := (hlow (m.length + 6) (by omega)).trans h8
        simp -implicitDefEqProofs -dsimp (disch := (first | omega | (simp only [List.length_set, List.length_append, List.length_cons, List.length_nil]; omega))) only [go_sem, Nat.reduceAdd, Nat.reduceSub, Nat.reduceLT, Nat.reduceLeDiff, Int.reduceToNat, Int.reduceLE, Int.reduceLT, Int.reduceAdd, Int.reduceSub, Int.reduceEq, Int.reduceNe, Int.reduceMul, Nat.reduceMul, Int.reduceNeg, Int.toNat_natCast, Nat.reduceEqDiff, X.exit.injEq, if_true, if_false, reduceIte, Bool.not_true, Bool.not_false, Bool.false_eq_true, Bool.true_eq_false, true_and,  need_of, need_true, need_and, WOf_need, i64w, u64w, at_getD, idxR_slD, and_true, Nat.zero_add, Nat.mul_one, Nat.add_zero, idxS_one, get_setN, get_setS, get_appL, List.length_set, ↓ibin_shlD, ↓ibin_shrD, bld1_true, plan_buildD, natSucc, e4, h4, hokT, hvc, hvl, hF, e0, e1, e2, e5, e6]
        refine ⟨?_, rfl, hS.trans (Stays.set (own := own') (Or.inr (by omega))) hN, own', ⟨by omega, v', l' ++ [y], rfl, hr.set (by omega) _, by rw [List.map_append, List.map_append, h7, List.map_singleton, List.map_singleton, hy]⟩, hN⟩
        rcases hreq with rfl | ⟨id, ver, len, rfl⟩ <;>
          exact peace_of (L := [(⟨[m.length + 4], [], false, false, false⟩, ⟨[], [], false, true, false⟩)]) (by kernel_rfl) (by simp [confl, Foot.loud, Foot.writes])
    · rintro ⟨acc, stp⟩ own m2 hst ⟨h0, v, l', h1, h2, h3, h4, h5, h6, h7⟩ hl
      have hl' : m.length + 6 < m2.length := by simpa using hl
      have hrt := runY_take M (descD x.of) [] (by simp)
      have hdd : desc n.l n.l.length 0 0 = descD x.of := by rw [descD, hnl, hn]
      rw [hdd] at hst
      rw [← hst] at hrt
      by_cases hful : (descD x.of).length ≤ M
      · rw [if_pos (by simpa using hful)] at hrt
        simp only [List.nil_append, Prod.mk.injEq] at hrt
        obtain ⟨rfl, rfl⟩ := hrt
        have hE : allE16 x.of M = 0 := by simp [allE16, hfit, h1, h2]; omega
        have hL : allL16 x.of M = (descD x.of).map fun s => (bitsOf s).map Int.ofNat := by rw [allL16, if_pos hE]
        obtain ⟨hvc, hvl⟩ := h6.leaf
        simp -implicitDefEqProofs -dsimp (disch := (first | omega | (simp only [List.length_set, List.length_append, List.length_cons, List.length_nil]; omega))) only [go_sem, Nat.reduceAdd, Nat.reduceSub, Nat.reduceLT, Nat.reduceLeDiff, Int.reduceToNat, Int.reduceLE, Int.reduceLT, Int.reduceAdd, Int.reduceSub, Int.reduceEq, Int.reduceNe, Int.reduceMul, Nat.reduceMul, Int.reduceNeg, Int.toNat_natCast, Nat.reduceEqDiff, X.exit.injEq, if_true, if_false, reduceIte, Bool.not_true, Bool.not_false, Bool.false_eq_true, Bool.true_eq_false, true_and,  need_of, need_true, need_and, WOf_need, i64w, u64w, at_getD, idxR_slD, and_true, Nat.zero_add, Nat.mul_one, Nat.add_zero, idxS_one, get_setN, get_setS, get_appL, List.length_set, ↓ibin_shlD, ↓ibin_shrD, bld1_true, plan_buildD, natSucc, takeJ, h2, h3, h4, hokT, hvc, hvl]
        refine ((h6.set (j := m.length + 1) (by omega) _).set (j := m.length + 2) (by omega) _).frz (b' := m.length) (by omega) _ _ fun z hz => ?_
        simp -implicitDefEqProofs -dsimp (disch := (first | omega | (simp only [List.length_set, List.length_append, List.length_cons, List.length_nil]; omega))) only [go_sem, Nat.reduceAdd, Nat.reduceSub, Nat.reduceLT, Nat.reduceLeDiff, Int.reduceToNat, Int.reduceLE, Int.reduceLT, Int.reduceAdd, Int.reduceSub, Int.reduceEq, Int.reduceNe, Int.reduceMul, Nat.reduceMul, Int.reduceNeg, Int.toNat_natCast, Nat.reduceEqDiff, X.exit.injEq, if_true, if_false, reduceIte, Bool.not_true, Bool.not_false, Bool.false_eq_true, Bool.true_eq_false, true_and,  need_of, need_true, need_and, WOf_need, i64w, u64w, at_getD, idxR_slD, and_true, Nat.zero_add, Nat.mul_one, Nat.add_zero, idxS_one, get_setN, get_setS, get_appL, List.length_set, ↓ibin_shlD, ↓ibin_shrD, bld1_true, plan_buildD, natSucc, ]
        exact ⟨z, by rw [hE], by rw [hL, ← h7, ← hz]; rfl⟩
      · rw [if_neg (by simpa using hful)] at hrt
        simp only at hrt
        subst hrt
        have hE : allE16 x.of M = 11 := by simp [allE16, hfit, h1, h2]; omega
        simp -implicitDefEqProofs -dsimp (disch := (first | omega | (simp only [List.length_set, List.length_append, List.length_cons, List.length_nil]; omega))) only [go_sem, Nat.reduceAdd, Nat.reduceSub, Nat.reduceLT, Nat.reduceLeDiff, Int.reduceToNat, Int.reduceLE, Int.reduceLT, Int.reduceAdd, Int.reduceSub, Int.reduceEq, Int.reduceNe, Int.reduceMul, Nat.reduceMul, Int.reduceNeg, Int.toNat_natCast, Nat.reduceEqDiff, X.exit.injEq, if_true, if_false, reduceIte, Bool.not_true, Bool.not_false, Bool.false_eq_true, Bool.true_eq_false, true_and,  need_of, need_true, need_and, WOf_need, i64w, u64w, at_getD, idxR_slD, and_true, Nat.zero_add, Nat.mul_one, Nat.add_zero, idxS_one, get_setN, get_setS, get_appL, List.length_set, ↓ibin_shlD, ↓ibin_shrD, bld1_true, plan_buildD, natSucc, takeJ, h1, h2, h3, hokT]
        exact hnil 11 (by decide) hE
end
end Go.Proofs.YtfbamjlednbdhaaDoor.V
/- The closed sets as 'descend' tells them are those of the reference, in its order; no condition. -/
namespace Go.Proofs.YtfbamjlednbdhaaDoor.V
open Go
set_option linter.unusedVariables false
set_option linter.unusedSimpArgs false
theorem sub_iff (a t : Nat) : a &&& t = a ↔ ∀ i, a.testBit i = true → t.testBit i = true := by
  constructor
  · intro h i hi
    have := congrArg (·.testBit i) h
    simp only [Nat.testBit_and, hi, Bool.true_and] at this
    exact this
  · intro h
    apply Nat.eq_of_testBit_eq
    intro i
    rw [Nat.testBit_and]
    cases hi : a.testBit i with
    | false => rfl
    | true => rw [h i hi]; rfl
/-- 't' has what must be, and what its members need. -/
def OkS (needs : List Nat) (k must t : Nat) : Prop := ∀ j, j < k → (must.testBit j = true → t.testBit j = true) ∧ (t.testBit j = true → ∀ i, (needs.getD j 0).testBit i = true → t.testBit i = true)
theorem closedB_iff (needs : List Nat) (s : Nat) : closedB needs s = true ↔ OkS needs needs.length 0 s := by
  simp only [closedB, closedAt, List.all_eq_true, List.mem_range, OkS, Nat.zero_testBit, Bool.false_eq_true, false_imp_iff, true_and]
  refine forall_congr' fun j => imp_congr_right fun hj => ?_
  rw [Bool.or_eq_true, Bool.not_eq_true', decide_eq_true_eq, sub_iff]
  cases s.testBit j <;> simp
theorem lt_bit {a i : Nat} (h : a.testBit i = true) : 2 ^ i ≤ a := Nat.ge_two_pow_of_testBit h
open Classical in
theorem desc_filter (needs : List Nat) (hb : ∀ j, needs.getD j 0 < 2 ^ j) : ∀ k inn must, desc needs k inn must = ((List.range (2 ^ k)).filter fun t => decide (OkS needs k must t)).map (inn ||| ·)
  | 0, inn, must => by simp [desc, OkS]
  | k + 1, inn, must => by
    have hp : 2 ^ (k + 1) = 2 ^ k + 2 ^ k := by omega
    rw [desc, desc_filter needs hb k, desc_filter needs hb k, hp, List.range_add, List.filter_append, List.map_append, List.filter_map, List.map_map]
    congr 1
    · by_cases hm : must.testBit k = true
      · rw [if_pos hm]
        have : (List.range (2 ^ k)).filter (fun t => decide (OkS needs (k + 1) must t)) = [] := by
          rw [List.filter_eq_nil_iff]
          intro t ht h
          have ht' : t < 2 ^ k := List.mem_range.1 ht
          have h1 := ((of_decide_eq_true h) k (by omega)).1 hm
          have := lt_bit h1; omega
        rw [this]; rfl
      · rw [if_neg hm]
        congr 1
        apply List.filter_congr
        intro t ht
        have ht' : t < 2 ^ k := List.mem_range.1 ht
        rw [decide_eq_decide]
        refine ⟨fun h j hj => ?_, fun h j hj => h j (by omega)⟩
        rcases Nat.lt_or_ge j k with hjk | hjk
        · exact h j hjk
        · obtain rfl : j = k := by omega
          exact ⟨fun h => (hm h).elim, fun h => by have := lt_bit h; omega⟩
    · have e : ∀ t, t < 2 ^ k → ((2 ^ k + t).testBit k = true ∧ ∀ j, j < k → (2 ^ k + t).testBit j = t.testBit j) := by
        intro t ht
        refine ⟨?_, fun j hj => ?_⟩
        · rw [Nat.testBit_two_pow_add_eq, Nat.testBit_lt_two_pow ht]; rfl
        · rw [Nat.testBit_two_pow_add_gt hj]
      have e2 : ∀ t, t < 2 ^ k → 2 ^ k + t = 2 ^ k ||| t := by
        intro t ht
        have := Nat.two_pow_add_eq_or_of_lt ht 1
        simpa using this
      have hf : (List.range (2 ^ k)).filter (fun t => decide (OkS needs k (must ||| needs.getD k 0) t)) = (List.range (2 ^ k)).filter ((fun t => decide (OkS needs (k + 1) must t)) ∘ fun x => 2 ^ k + x) := by
        apply List.filter_congr
        intro t ht
        have ht' : t < 2 ^ k := List.mem_range.1 ht
        obtain ⟨ek, ej⟩ := e t ht'
        simp only [Function.comp_apply, decide_eq_decide]
        have low : ∀ j, j ≤ k → ((∀ i, (needs.getD j 0).testBit i = true → t.testBit i = true) ↔ ∀ i, (needs.getD j 0).testBit i = true → (2 ^ k + t).testBit i = true) := by
          intro j hj
          refine forall_congr' fun i => imp_congr_right fun hi => ?_
          have h1 := lt_bit hi
          have h2 := hb j
          have : i < j := by
            have : 2 ^ i < 2 ^ j := by omega
            exact (Nat.pow_lt_pow_iff_right (by omega)).1 this
          rw [ej i (by omega)]
        constructor
        · intro h j hj
          rcases Nat.lt_or_ge j k with hjk | hjk
          · obtain ⟨h1, h2⟩ := h j hjk
            rw [ej j hjk]
            refine ⟨fun hm => h1 (by rw [Nat.testBit_or, hm]; rfl), fun ht => (low j (by omega)).1 (h2 ht)⟩
          · obtain rfl : j = k := by omega
            refine ⟨fun _ => ek, fun _ => (low j (Nat.le_refl _)).1 fun i hi => ?_⟩
            have h1 := lt_bit hi
            have h2 := hb j
            have hij : i < j := by
              have : 2 ^ i < 2 ^ j := by omega
              exact (Nat.pow_lt_pow_iff_right (by omega)).1 this
            exact (h i hij).1 (by rw [Nat.testBit_or, hi, Bool.or_true])
        · intro h j hj
          obtain ⟨h1, h2⟩ := h j (by omega)
          rw [ej j hj] at h1 h2
          refine ⟨fun hm => ?_, fun ht => (low j (by omega)).2 (h2 ht)⟩
          rw [Nat.testBit_or, Bool.or_eq_true] at hm
          rcases hm with hm | hm
          · exact h1 hm
          · have := (h k (by omega)).2 ek j hm
            rwa [ej j hj] at this
      rw [hf]
      apply List.map_congr_left
      intro t ht
      have ht' : t < 2 ^ k := List.mem_range.1 (List.mem_filter.1 ht).1
      simp only [Function.comp_apply]
      rw [e2 t ht', Nat.or_assoc]
theorem need_bound {D : List (List Int)} (h : fitsD D = true) (j : Nat) : (needD D).getD j 0 < 2 ^ j := by
  simp only [fitsD, Bool.and_eq_true, decide_eq_true_eq] at h
  rw [List.getD_eq_getElem?_getD]
  cases hj : (needD D)[j]? with
  | none => exact Nat.pow_pos (by omega)
  | some a =>
    obtain ⟨hlt, rfl⟩ := List.getElem?_eq_some_iff.1 hj
    have hlt' : j < D.length := by simpa [needD] using hlt
    simp only [needD, List.getElem_map, Option.getD_some]
    refine fold_or_lt _ _ (Nat.pow_pos (by omega)) fun e he => Nat.pow_lt_pow_right (by omega) ?_
    have := row_ok h.2 hlt' e he; omega
open Classical in
theorem descD_eq {D : List (List Int)} (h : fitsD D = true) : descD D = closedSets D := by
  rw [descD, desc_filter _ (need_bound h), closedSets]
  have : (fun x => 0 ||| x) = (id : Nat → Nat) := by funext x; simp
  rw [this, List.map_id]
  apply List.filter_congr
  intro t ht
  rw [Bool.eq_iff_iff, decide_eq_true_eq, closedB_iff, show (needD D).length = D.length by simp [needD]]
theorem bits_list {s : Nat} (h : s < 2 ^ 14) : bitsOf s = listB s := by
  unfold bitsOf listB
  rw [show (64 : Nat) = 14 + 50 from rfl, List.range_add, List.filter_append]
  have : List.filter s.testBit (List.map (fun x => 14 + x) (List.range 50)) = [] := by
    rw [List.filter_eq_nil_iff]
    intro j hj
    simp only [List.mem_map] at hj
    obtain ⟨i, _, rfl⟩ := hj
    rw [Nat.testBit_lt_two_pow (Nat.lt_of_lt_of_le h (Nat.pow_le_pow_right (by omega) (by omega)))]; simp
  rw [this, List.append_nil]
theorem closed_lt {D : List (List Int)} (h : fitsD D = true) : ∀ s ∈ closedSets D, s < 2 ^ 14 := by
  intro s hs
  have := List.mem_range.1 (List.mem_filter.1 hs).1
  exact Nat.lt_of_lt_of_le this (Nat.pow_le_pow_right (by omega) (fits_len h))
theorem allE_eq (D : List (List Int)) (most : Int) : allE16 D most = allE D most := by
  unfold allE16 allE
  cases h : fitsD D with
  | false => rfl
  | true => rw [descD_eq h]
theorem allL_eq (D : List (List Int)) (most : Int) : allL16 D most = allL D most := by
  unfold allL16 allL
  rw [allE_eq]
  split
  · rename_i h0
    have h : fitsD D = true := by
      cases h : fitsD D with
      | true => rfl
      | false => simp [allE, h] at h0
    rw [descD_eq h]
    apply List.map_congr_left
    intro s hs
    rw [bits_list (closed_lt h s hs)]
  · rfl
end Go.Proofs.YtfbamjlednbdhaaDoor.V
/- 'Same' of the same; no condition. -/
namespace Go.Proofs.YtfbamjlednbdhaaDoor.V
open Go
set_option linter.unusedVariables false
set_option linter.unusedSimpArgs false
set_option maxHeartbeats 4000000
noncomputable section
variable {en : Env} {m : Mem}
theorem same_ok (x y : LL) (h : x.of = y.of) (hx : x.l.length < 2 ^ 62) (hxl : ∀ a ∈ x.l, a.l.length < 2 ^ 62) : WC Tryd.prog pol en (.func 18) [sl (sl I) x, sl (sl I) y] m fun v m' => v = .sc (.bool true) ∧ m' = m := by
  have hlen : x.l.length = y.l.length := by have := congrArg List.length h; simpa [LL.of] using this
  have hel : ∀ (i : Nat) (h1 : i < x.l.length) (h2 : i < y.l.length), x.l[i].l = y.l[i].l := by
    intro i h1 h2
    have := congrArg (·[i]?) h
    simp only [LL.of, List.getElem?_map, List.getElem?_eq_getElem h1, List.getElem?_eq_getElem h2, Option.map_some, Option.some.injEq] at this
    exact this
  refine callPur Tryd.func18 rfl rfl Tryd.ntmps18 Tryd.results18 ?_
  have hne : ¬ ((x.l.length : Int) ≠ (y.l.length : Int)) := by omega
  simp -implicitDefEqProofs -dsimp (disch := (first | omega | (simp only [List.length_set, List.length_append, List.length_cons, List.length_nil]; omega))) only [go_sem, Nat.reduceAdd, Nat.reduceSub, Nat.reduceLT, Nat.reduceLeDiff, Int.reduceToNat, Int.reduceLE, Int.reduceLT, Int.reduceAdd, Int.reduceSub, Int.reduceEq, Int.reduceNe, Int.reduceMul, Nat.reduceMul, Int.reduceNeg, Int.toNat_natCast, Nat.reduceEqDiff, X.exit.injEq, if_true, if_false, reduceIte, Bool.not_true, Bool.not_false, Bool.false_eq_true, Bool.true_eq_false, true_and,  need_of, need_true, need_and, WOf_need, i64w, u64w, at_getD, idxR_slD, and_true, Nat.zero_add, Nat.mul_one, Nat.add_zero, idxS_one, get_setN, get_setS, get_appL, List.length_set, ↓ibin_shlD, ↓ibin_shrD, bld1_true, plan_buildD, natSucc, hne]
  refine loopF (fun k ts m' => ∃ (i : Nat), ts.length = 53 ∧ tg ts 0 = sl (sl I) x ∧ tg ts 1 = sl (sl I) y ∧ tg ts 5 = I i ∧ i ≤ x.l.length ∧ m' = m ∧ k = x.l.length - i) x.l.length ⟨0, rfl, rfl, rfl, rfl, by omega, rfl, by omega⟩ ?_
  rintro k ts m' ⟨i, hl, h0, h1, h5, hi, rfl, hk⟩
  rw [expandT hl]
  simp -implicitDefEqProofs -dsimp (disch := (first | omega | (simp only [List.length_set, List.length_append, List.length_cons, List.length_nil]; omega))) only [go_sem, Nat.reduceAdd, Nat.reduceSub, Nat.reduceLT, Nat.reduceLeDiff, Int.reduceToNat, Int.reduceLE, Int.reduceLT, Int.reduceAdd, Int.reduceSub, Int.reduceEq, Int.reduceNe, Int.reduceMul, Nat.reduceMul, Int.reduceNeg, Int.toNat_natCast, Nat.reduceEqDiff, X.exit.injEq, if_true, if_false, reduceIte, Bool.not_true, Bool.not_false, Bool.false_eq_true, Bool.true_eq_false, true_and,  need_of, need_true, need_and, WOf_need, i64w, u64w, at_getD, idxR_slD, and_true, Nat.zero_add, Nat.mul_one, Nat.add_zero, idxS_one, get_setN, get_setS, get_appL, List.length_set, ↓ibin_shlD, ↓ibin_shrD, bld1_true, plan_buildD, natSucc, h0, h1, h5]
  split
  · rename_i hlt
    have hi' : i < x.l.length := by omega
    have hi2 : i < y.l.length := by omega
    have he := hel i hi' hi2
    have hll := hxl _ (List.getElem_mem hi')
    have hln : x.l[i].l.length = y.l[i].l.length := by rw [he]
    have hne2 : ¬ ((x.l[i].l.length : Int) ≠ (y.l[i].l.length : Int)) := by omega
    simp -implicitDefEqProofs -dsimp (disch := (first | omega | (simp only [List.length_set, List.length_append, List.length_cons, List.length_nil]; omega))) only [go_sem, Nat.reduceAdd, Nat.reduceSub, Nat.reduceLT, Nat.reduceLeDiff, Int.reduceToNat, Int.reduceLE, Int.reduceLT, Int.reduceAdd, Int.reduceSub, Int.reduceEq, Int.reduceNe, Int.reduceMul, Nat.reduceMul, Int.reduceNeg, Int.toNat_natCast, Nat.reduceEqDiff, X.exit.injEq, if_true, if_false, reduceIte, Bool.not_true, Bool.not_false, Bool.false_eq_true, Bool.true_eq_false, true_and,  need_of, need_true, need_and, WOf_need, i64w, u64w, at_getD, idxR_slD, and_true, Nat.zero_add, Nat.mul_one, Nat.add_zero, idxS_one, get_setN, get_setS, get_appL, List.length_set, ↓ibin_shlD, ↓ibin_shrD, bld1_true, plan_buildD, natSucc, hne2]
    refine ⟨by kernel_rfl, by kernel_rfl, ?_⟩
    refine loopF (fun k ts m2 => ∃ (j : Nat), ts.length = 53 ∧ tg ts 0 = sl (sl I) x ∧ tg ts 1 = sl (sl I) y ∧ tg ts 5 = I i ∧ tg ts 6 = I j ∧ j ≤ x.l[i].l.length ∧ m2 = m' ∧ k = x.l[i].l.length - j) x.l[i].l.length ⟨0, rfl, rfl, rfl, rfl, rfl, by omega, rfl, by omega⟩ ?_
    rintro k ts m2 ⟨j, hl, h0, h1, h5, h6, hj, rfl, hk⟩
    rw [expandT hl]
    simp -implicitDefEqProofs -dsimp (disch := (first | omega | (simp only [List.length_set, List.length_append, List.length_cons, List.length_nil]; omega))) only [go_sem, Nat.reduceAdd, Nat.reduceSub, Nat.reduceLT, Nat.reduceLeDiff, Int.reduceToNat, Int.reduceLE, Int.reduceLT, Int.reduceAdd, Int.reduceSub, Int.reduceEq, Int.reduceNe, Int.reduceMul, Nat.reduceMul, Int.reduceNeg, Int.toNat_natCast, Nat.reduceEqDiff, X.exit.injEq, if_true, if_false, reduceIte, Bool.not_true, Bool.not_false, Bool.false_eq_true, Bool.true_eq_false, true_and,  need_of, need_true, need_and, WOf_need, i64w, u64w, at_getD, idxR_slD, and_true, Nat.zero_add, Nat.mul_one, Nat.add_zero, idxS_one, get_setN, get_setS, get_appL, List.length_set, ↓ibin_shlD, ↓ibin_shrD, bld1_true, plan_buildD, natSucc, h0, h1, h5, h6]
    split
    · rename_i hltj
      have hj' : j < x.l[i].l.length := by omega
      have hj2 : j < y.l[i].l.length := by omega
      have hee : x.l[i].l[j] = y.l[i].l[j] := by simp only [he]
      have hne3 : ¬ (x.l[i].l[j] ≠ y.l[i].l[j]) := fun hc => hc hee
      simp -implicitDefEqProofs -dsimp (disch := (first | omega | (simp only [List.length_set, List.length_append, List.length_cons, List.length_nil]; omega))) only [go_sem, Nat.reduceAdd, Nat.reduceSub, Nat.reduceLT, Nat.reduceLeDiff, Int.reduceToNat, Int.reduceLE, Int.reduceLT, Int.reduceAdd, Int.reduceSub, Int.reduceEq, Int.reduceNe, Int.reduceMul, Nat.reduceMul, Int.reduceNeg, Int.toNat_natCast, Nat.reduceEqDiff, X.exit.injEq, if_true, if_false, reduceIte, Bool.not_true, Bool.not_false, Bool.false_eq_true, Bool.true_eq_false, true_and,  need_of, need_true, need_and, WOf_need, i64w, u64w, at_getD, idxR_slD, and_true, Nat.zero_add, Nat.mul_one, Nat.add_zero, idxS_one, get_setN, get_setS, get_appL, List.length_set, ↓ibin_shlD, ↓ibin_shrD, bld1_true, plan_buildD, natSucc, hne3]
      refine ⟨by kernel_rfl, by kernel_rfl, x.l[i].l.length - (j + 1), by omega, j + 1, ?_⟩
      and_intros <;> (first | with_reducible rfl | omega | with_reducible assumption | exact True.intro | skip)
    · rename_i hltj
      refine ⟨x.l.length - (i + 1), by omega, i + 1, ?_⟩
      and_intros <;> (first | with_reducible rfl | omega | with_reducible assumption | exact True.intro | skip)
  · trivial
end
end Go.Proofs.YtfbamjlednbdhaaDoor.V
/- 'live' by the kernel; no condition. -/
namespace Go.Proofs.YtfbamjlednbdhaaDoor.V
open Go
noncomputable section
theorem live_run : (vrun Tryd.prog pol 300).call ⟨[0], 0⟩ (.func 14) [] [] = some (.sc (.bool true), []) := by kernel_rfl
theorem live_ok : WC Tryd.prog pol ⟨[0], 0⟩ (.func 14) [] [] fun v m' => v = .sc (.bool true) ∧ m' = [] := WC.run 300 live_run ⟨rfl, rfl⟩
end
end Go.Proofs.YtfbamjlednbdhaaDoor.V
/- The law ExploreAlls in the VM; no condition. -/
namespace Go.Proofs.YtfbamjlednbdhaaDoor.V
open Go
set_option linter.unusedVariables false
set_option linter.unusedSimpArgs false
set_option maxHeartbeats 4000000
noncomputable section
def Short (x : LL) : Prop := x.l.length < 2 ^ 62 ∧ ∀ a ∈ x.l, a.l.length < 2 ^ 62
theorem few_short {D : List (List Int)} {y : LL} {n : Nat} (h : y.of = (fewD D).take n) : Short y := by
  have hl := congrArg List.length h
  simp [LL.of, fewD] at hl
  refine ⟨by omega, fun a ha => ?_⟩
  have : a.l ∈ y.of := List.mem_map.2 ⟨a, ha, rfl⟩
  rw [h] at this
  have := List.mem_of_mem_take this
  simp only [fewD, List.mem_map] at this
  obtain ⟨b, _, hb⟩ := this
  have := congrArg List.length hb
  simp at this
  omega
theorem fits0 : Fits ⟨[], 0⟩ ([] : Mem).length := fun B hB => by cases hB
theorem alls_law (x : LL) (most : Int) : WC Tryd.prog pol ⟨[], 0⟩ (.func 4) [sl (sl I) x, I most] [] fun v m' => v = .sc (.bool true) ∧ m' = [] := by
  refine callPur Tryd.func4 rfl rfl Tryd.ntmps4 Tryd.results4 ?_
  simp -implicitDefEqProofs -dsimp (disch := (first | omega | (simp only [List.length_set, List.length_append, List.length_cons, List.length_nil]; omega))) only [go_sem, Nat.reduceAdd, Nat.reduceSub, Nat.reduceLT, Nat.reduceLeDiff, Int.reduceToNat, Int.reduceLE, Int.reduceLT, Int.reduceAdd, Int.reduceSub, Int.reduceEq, Int.reduceNe, Int.reduceMul, Nat.reduceMul, Int.reduceNeg, Int.toNat_natCast, Nat.reduceEqDiff, X.exit.injEq, if_true, if_false, reduceIte, Bool.not_true, Bool.not_false, Bool.false_eq_true, Bool.true_eq_false, true_and,  need_of, need_true, need_and, WOf_need, i64w, u64w, at_getD, idxR_slD, and_true, Nat.zero_add, Nat.mul_one, Nat.add_zero, idxS_one, get_setN, get_setS, get_appL, List.length_set, ↓ibin_shlD, ↓ibin_shrD, bld1_true, plan_buildD, natSucc, ]
  refine (little_ok x 12 (by omega) fits0.pur).mono ?_
  rintro v m' ⟨rfl, y, rfl, hy⟩
  obtain ⟨hs, hsl⟩ := few_short hy
  simp -implicitDefEqProofs -dsimp (disch := (first | omega | (simp only [List.length_set, List.length_append, List.length_cons, List.length_nil]; omega))) only [go_sem, Nat.reduceAdd, Nat.reduceSub, Nat.reduceLT, Nat.reduceLeDiff, Int.reduceToNat, Int.reduceLE, Int.reduceLT, Int.reduceAdd, Int.reduceSub, Int.reduceEq, Int.reduceNe, Int.reduceMul, Nat.reduceMul, Int.reduceNeg, Int.toNat_natCast, Nat.reduceEqDiff, X.exit.injEq, if_true, if_false, reduceIte, Bool.not_true, Bool.not_false, Bool.false_eq_true, Bool.true_eq_false, true_and,  need_of, need_true, need_and, WOf_need, i64w, u64w, at_getD, idxR_slD, and_true, Nat.zero_add, Nat.mul_one, Nat.add_zero, idxS_one, get_setN, get_setS, get_appL, List.length_set, ↓ibin_shlD, ↓ibin_shrD, bld1_true, plan_buildD, natSucc, ]
  refine (all16_ok y most hs hsl fits0.pur).mono ?_
  rintro v m' ⟨rfl, z, rfl, hz⟩
  simp -implicitDefEqProofs -dsimp (disch := (first | omega | (simp only [List.length_set, List.length_append, List.length_cons, List.length_nil]; omega))) only [go_sem, Nat.reduceAdd, Nat.reduceSub, Nat.reduceLT, Nat.reduceLeDiff, Int.reduceToNat, Int.reduceLE, Int.reduceLT, Int.reduceAdd, Int.reduceSub, Int.reduceEq, Int.reduceNe, Int.reduceMul, Nat.reduceMul, Int.reduceNeg, Int.toNat_natCast, Nat.reduceEqDiff, X.exit.injEq, if_true, if_false, reduceIte, Bool.not_true, Bool.not_false, Bool.false_eq_true, Bool.true_eq_false, true_and,  need_of, need_true, need_and, WOf_need, i64w, u64w, at_getD, idxR_slD, and_true, Nat.zero_add, Nat.mul_one, Nat.add_zero, idxS_one, get_setN, get_setS, get_appL, List.length_set, ↓ibin_shlD, ↓ibin_shrD, bld1_true, plan_buildD, natSucc, ]
  refine (all17_ok y most hs hsl fits0.pur).mono ?_
  rintro v m' ⟨rfl, z', rfl, hz'⟩
  simp -implicitDefEqProofs -dsimp (disch := (first | omega | (simp only [List.length_set, List.length_append, List.length_cons, List.length_nil]; omega))) only [go_sem, Nat.reduceAdd, Nat.reduceSub, Nat.reduceLT, Nat.reduceLeDiff, Int.reduceToNat, Int.reduceLE, Int.reduceLT, Int.reduceAdd, Int.reduceSub, Int.reduceEq, Int.reduceNe, Int.reduceMul, Nat.reduceMul, Int.reduceNeg, Int.toNat_natCast, Nat.reduceEqDiff, X.exit.injEq, if_true, if_false, reduceIte, Bool.not_true, Bool.not_false, Bool.false_eq_true, Bool.true_eq_false, true_and,  need_of, need_true, need_and, WOf_need, i64w, u64w, at_getD, idxR_slD, and_true, Nat.zero_add, Nat.mul_one, Nat.add_zero, idxS_one, get_setN, get_setS, get_appL, List.length_set, ↓ibin_shlD, ↓ibin_shrD, bld1_true, plan_buildD, natSucc, ]
  refine live_ok.mono ?_
  rintro v m' ⟨rfl, rfl⟩
  simp -implicitDefEqProofs -dsimp (disch := (first | omega | (simp only [List.length_set, List.length_append, List.length_cons, List.length_nil]; omega))) only [go_sem, Nat.reduceAdd, Nat.reduceSub, Nat.reduceLT, Nat.reduceLeDiff, Int.reduceToNat, Int.reduceLE, Int.reduceLT, Int.reduceAdd, Int.reduceSub, Int.reduceEq, Int.reduceNe, Int.reduceMul, Nat.reduceMul, Int.reduceNeg, Int.toNat_natCast, Nat.reduceEqDiff, X.exit.injEq, if_true, if_false, reduceIte, Bool.not_true, Bool.not_false, Bool.false_eq_true, Bool.true_eq_false, true_and,  need_of, need_true, need_and, WOf_need, i64w, u64w, at_getD, idxR_slD, and_true, Nat.zero_add, Nat.mul_one, Nat.add_zero, idxS_one, get_setN, get_setS, get_appL, List.length_set, ↓ibin_shlD, ↓ibin_shrD, bld1_true, plan_buildD, natSucc, ]
  have hzz : z.of = z'.of := by rw [hz, hz', allL_eq]
  have hsz : z.l.length < 2 ^ 62 ∧ ∀ a ∈ z.l, a.l.length < 2 ^ 62 := by
    have h1 := hz
    rw [allL_eq] at h1
    unfold allL at h1
    split at h1
    · have hl := congrArg List.length h1
      rename_i h0
      have hfit : fitsD y.of = true := by
        cases h : fitsD y.of with
        | true => rfl
        | false => simp [allE, h] at h0
      have hfl := List.length_filter_le (closedB (needD y.of)) (List.range (2 ^ y.of.length))
      have hp : 2 ^ y.of.length ≤ 2 ^ 14 := Nat.pow_le_pow_right (by omega) (fits_len hfit)
      simp [LL.of, closedSets] at hl hfl hp
      refine ⟨by omega, fun a ha => ?_⟩
      have : a.l ∈ z.of := List.mem_map.2 ⟨a, ha, rfl⟩
      rw [h1] at this
      simp only [List.mem_map] at this
      obtain ⟨s, _, hs⟩ := this
      have hl := congrArg List.length hs
      have := List.length_filter_le s.testBit (List.range 14)
      simp [listB] at hl this
      omega
    · have hl := congrArg List.length h1
      simp [LL.of] at hl
      rw [hl]
      exact ⟨by simp, by simp⟩
  refine (same_ok z z' hzz hsz.1 hsz.2).mono ?_
  rintro v m' ⟨rfl, rfl⟩
  simp -implicitDefEqProofs -dsimp (disch := (first | omega | (simp only [List.length_set, List.length_append, List.length_cons, List.length_nil]; omega))) only [go_sem, Nat.reduceAdd, Nat.reduceSub, Nat.reduceLT, Nat.reduceLeDiff, Int.reduceToNat, Int.reduceLE, Int.reduceLT, Int.reduceAdd, Int.reduceSub, Int.reduceEq, Int.reduceNe, Int.reduceMul, Nat.reduceMul, Int.reduceNeg, Int.toNat_natCast, Nat.reduceEqDiff, X.exit.injEq, if_true, if_false, reduceIte, Bool.not_true, Bool.not_false, Bool.false_eq_true, Bool.true_eq_false, true_and,  need_of, need_true, need_and, WOf_need, i64w, u64w, at_getD, idxR_slD, and_true, Nat.zero_add, Nat.mul_one, Nat.add_zero, idxS_one, get_setN, get_setS, get_appL, List.length_set, ↓ibin_shlD, ↓ibin_shrD, bld1_true, plan_buildD, natSucc, allE_eq]
end
end Go.Proofs.YtfbamjlednbdhaaDoor.V
