/- Parts of the proof, joined (B1, L1, Q2, Q3, Q4, Q5, Q6); no condition. -/
import Derived.Test.YtcmjidnbbfcbjaaDoorMd
import Derived.Test.YtcmjidnbbfcbjaaDoorMn
/- strings.Builder on top of the store; no condition. -/
namespace Go.Proofs.YtcmjidnbbfcbjaaDoor.V
open Go
set_option linter.unusedVariables false
set_option linter.unusedSimpArgs false
set_option maxRecDepth 100000
set_option maxHeartbeats 4000000
noncomputable section
variable {en : Env} {m m0 : Mem} {l : List UInt8}
abbrev tB : Nat := tagT 72
abbrev tU : Nat := tagT 5
theorem tB_ne : tB ≠ 0 := by decide
theorem tB_lt : tB < 65536 := by decide
theorem tB_mod : tB % 65536 = tB := by decide
theorem u8L_len (l : List UInt8) : (u8L l).length = l.length := by simp [u8L]
theorem u8L_app (a b : List UInt8) : u8L (a ++ b) = u8L a ++ u8L b := by simp [u8L]
/-- Its buffer: nothing, or a row that begins with the bytes. -/
inductive Buf (id : Nat) (l : List UInt8) : AV → List Ob → Prop
  | nil (h : l = []) : Buf id l .nilS []
  | own (ver : Nat) (cs : List AV) (hv : ver % 65536 = tU) (h : cs.take l.length = u8L l) (hl : l.length ≤ cs.length) : Buf id l (.own id ver 0 l.length 1) [.cells ver cs]
/-- A builder that lies on top of the store, with what is written. -/
inductive Bld (m0 : Mem) (l : List UInt8) : Mem → Prop
  | mk (p b : AV) (rest : List Ob) (hp : p = .nilP ∨ p = .ptr m0.length tB 0) (hb : Buf (m0.length + 1) l b rest) : Bld m0 l (m0 ++ .cells tB [p, b] :: rest)
theorem Bld.new : Bld m0 [] (m0 ++ [.cells tB [.nilP, .nilS]]) := .mk _ _ [] (.inl rfl) (.nil rfl)
theorem same_ok (v : AV) : WC Tryd.prog pol en (.func 60) [v] m fun u m' => u = v ∧ m' = m := wcallD rfl rfl ⟨rfl, rfl⟩
theorem copyCheck_ok {p b : AV} {rest : List Ob} (hf : Fits en m0.length) (hb : en.bar ≤ m0.length) (hp : p = .nilP ∨ p = .ptr m0.length tB 0) :
    WC Tryd.prog pol en (.func 50) [.ptr m0.length tB 0] (m0 ++ .cells tB [p, b] :: rest) fun v m' => v = .tup [] ∧ m' = m0 ++ .cells tB [.ptr m0.length tB 0, b] :: rest := by
  have hok : ∀ low, okTo en m0.length low := fun low => okTo_fits hf hb (Nat.le_refl _) low
  refine callOpn Tryd.func50 rfl rfl Tryd.ntmps50 Tryd.results50 ?_
  rcases hp with rfl | rfl
  · simp -implicitDefEqProofs -dsimp (disch := (first | omega | (simp only [List.length_set, List.length_append, List.length_cons, List.length_nil]; omega))) only [go_sem, Nat.reduceAdd, Nat.reduceSub, Nat.reduceLT, Nat.reduceLeDiff, Int.reduceToNat, Int.reduceLE, Int.reduceLT, Int.reduceAdd, Int.reduceSub, Int.reduceEq, Int.reduceNe, Int.reduceMul, Nat.reduceMul, Int.reduceNeg, Int.toNat_natCast, Nat.reduceEqDiff, X.exit.injEq, if_true, if_false, reduceIte, Bool.not_true, Bool.not_false, Bool.false_eq_true, Bool.true_eq_false, true_and, need_of, strR_addD, u8w, atS_txD, slT_hiD, slT_loD, slT_bothD, need_true, need_and, WOf_need, i64w, u64w, at_getD, idxR_slD, idxR_slf, idxF_some, and_true, Nat.zero_add, Nat.mul_one, Nat.add_zero, idxS_one, get_setN, get_setS, get_appL, List.length_set, ↓ibin_shlD, ↓ibin_shrD, bld1_true, plan_buildD, natSucc, ]
    refine (same_ok _).mono ?_
    rintro _ _ ⟨rfl, rfl⟩
    simp -implicitDefEqProofs -dsimp (disch := (first | omega | (simp only [List.length_set, List.length_append, List.length_cons, List.length_nil]; omega))) only [go_sem, Nat.reduceAdd, Nat.reduceSub, Nat.reduceLT, Nat.reduceLeDiff, Int.reduceToNat, Int.reduceLE, Int.reduceLT, Int.reduceAdd, Int.reduceSub, Int.reduceEq, Int.reduceNe, Int.reduceMul, Nat.reduceMul, Int.reduceNeg, Int.toNat_natCast, Nat.reduceEqDiff, X.exit.injEq, if_true, if_false, reduceIte, Bool.not_true, Bool.not_false, Bool.false_eq_true, Bool.true_eq_false, true_and, need_of, strR_addD, u8w, atS_txD, slT_hiD, slT_loD, slT_bothD, need_true, need_and, WOf_need, i64w, u64w, at_getD, idxR_slD, idxR_slf, idxF_some, and_true, Nat.zero_add, Nat.mul_one, Nat.add_zero, idxS_one, get_setN, get_setS, get_appL, List.length_set, ↓ibin_shlD, ↓ibin_shrD, bld1_true, plan_buildD, natSucc, tB_lt, tB_mod, hok]
    exact ⟨tB_ne, trivial⟩
  · simp -implicitDefEqProofs -dsimp (disch := (first | omega | (simp only [List.length_set, List.length_append, List.length_cons, List.length_nil]; omega))) only [go_sem, Nat.reduceAdd, Nat.reduceSub, Nat.reduceLT, Nat.reduceLeDiff, Int.reduceToNat, Int.reduceLE, Int.reduceLT, Int.reduceAdd, Int.reduceSub, Int.reduceEq, Int.reduceNe, Int.reduceMul, Nat.reduceMul, Int.reduceNeg, Int.toNat_natCast, Nat.reduceEqDiff, X.exit.injEq, if_true, if_false, reduceIte, Bool.not_true, Bool.not_false, Bool.false_eq_true, Bool.true_eq_false, true_and, need_of, strR_addD, u8w, atS_txD, slT_hiD, slT_loD, slT_bothD, need_true, need_and, WOf_need, i64w, u64w, at_getD, idxR_slD, idxR_slf, idxF_some, and_true, Nat.zero_add, Nat.mul_one, Nat.add_zero, idxS_one, get_setN, get_setS, get_appL, List.length_set, ↓ibin_shlD, ↓ibin_shrD, bld1_true, plan_buildD, natSucc, ]
theorem roomOk1 {n : Nat} (h : n ≤ 4294967296) : roomOk n 1 = true := by simp [roomOk]; omega
theorem nextU {ver : Nat} (h : ver % 65536 = tU) : nextV tU ver % 65536 = tU := by unfold nextV; rw [if_pos h]; omega
theorem bufApp {id ver' : Nat} {cs : List AV} (s : List UInt8) (hv : ver' % 65536 = tU) (h1 : cs.take l.length = u8L l) (h2 : l.length ≤ cs.length) : Buf id (l ++ s) (.own id ver' 0 (l.length + s.length) 1) [.cells ver' (cs.take l.length ++ u8L s)] := by
  have := Buf.own (id := id) (l := l ++ s) ver' (cs.take l.length ++ u8L s) hv (by rw [h1, ← u8L_app, List.take_of_length_le (by rw [u8L_len]; exact Nat.le_refl _)]) (by rw [h1, ← u8L_app, u8L_len]; exact Nat.le_refl _)
  rwa [List.length_append] at this
theorem writeByte_ok {c : UInt8} (h : Bld m0 l m) (hf : Fits en m0.length) (hb : en.bar ≤ m0.length) (hn : l.length < 4294967296) :
    WC Tryd.prog pol en (.func 35) [.ptr m0.length tB 0, u8v c] m fun v m' => v = .nilI ∧ Bld m0 (l ++ [c]) m' := by
  have hok : ∀ low, okTo en m0.length low := fun low => okTo_fits hf hb (Nat.le_refl _) low
  have hok1 : ∀ low, okTo en (m0.length + 1) low := fun low => okTo_fits hf hb (by omega) low
  refine callOpn Tryd.func35 rfl rfl Tryd.ntmps35 Tryd.results35 ?_
  obtain ⟨p, b, rest, hp, hbf⟩ := h
  simp -implicitDefEqProofs -dsimp (disch := (first | omega | (simp only [List.length_set, List.length_append, List.length_cons, List.length_nil]; omega))) only [go_sem, Nat.reduceAdd, Nat.reduceSub, Nat.reduceLT, Nat.reduceLeDiff, Int.reduceToNat, Int.reduceLE, Int.reduceLT, Int.reduceAdd, Int.reduceSub, Int.reduceEq, Int.reduceNe, Int.reduceMul, Nat.reduceMul, Int.reduceNeg, Int.toNat_natCast, Nat.reduceEqDiff, X.exit.injEq, if_true, if_false, reduceIte, Bool.not_true, Bool.not_false, Bool.false_eq_true, Bool.true_eq_false, true_and, need_of, strR_addD, u8w, atS_txD, slT_hiD, slT_loD, slT_bothD, need_true, need_and, WOf_need, i64w, u64w, at_getD, idxR_slD, idxR_slf, idxF_some, and_true, Nat.zero_add, Nat.mul_one, Nat.add_zero, idxS_one, get_setN, get_setS, get_appL, List.length_set, ↓ibin_shlD, ↓ibin_shrD, bld1_true, plan_buildD, natSucc, ]
  refine (copyCheck_ok hf hb hp).mono ?_
  rintro _ _ ⟨rfl, rfl⟩
  cases hbf with
  | nil h0 =>
    subst h0
    simp -implicitDefEqProofs -dsimp (disch := (first | omega | (simp only [List.length_set, List.length_append, List.length_cons, List.length_nil]; omega))) only [go_sem, Nat.reduceAdd, Nat.reduceSub, Nat.reduceLT, Nat.reduceLeDiff, Int.reduceToNat, Int.reduceLE, Int.reduceLT, Int.reduceAdd, Int.reduceSub, Int.reduceEq, Int.reduceNe, Int.reduceMul, Nat.reduceMul, Int.reduceNeg, Int.toNat_natCast, Nat.reduceEqDiff, X.exit.injEq, if_true, if_false, reduceIte, Bool.not_true, Bool.not_false, Bool.false_eq_true, Bool.true_eq_false, true_and, need_of, strR_addD, u8w, atS_txD, slT_hiD, slT_loD, slT_bothD, need_true, need_and, WOf_need, i64w, u64w, at_getD, idxR_slD, idxR_slf, idxF_some, and_true, Nat.zero_add, Nat.mul_one, Nat.add_zero, idxS_one, get_setN, get_setS, get_appL, List.length_set, ↓ibin_shlD, ↓ibin_shrD, bld1_true, plan_buildD, natSucc, ]
    exact ⟨rfl, hok _, .mk _ _ _ (.inr rfl) (.own _ _ rfl rfl (Nat.le_refl _))⟩
  | own ver cs hv h1 h2 =>
    simp -implicitDefEqProofs -dsimp (disch := (first | omega | (simp only [List.length_set, List.length_append, List.length_cons, List.length_nil]; omega))) only [go_sem, Nat.reduceAdd, Nat.reduceSub, Nat.reduceLT, Nat.reduceLeDiff, Int.reduceToNat, Int.reduceLE, Int.reduceLT, Int.reduceAdd, Int.reduceSub, Int.reduceEq, Int.reduceNe, Int.reduceMul, Nat.reduceMul, Int.reduceNeg, Int.toNat_natCast, Nat.reduceEqDiff, X.exit.injEq, if_true, if_false, reduceIte, Bool.not_true, Bool.not_false, Bool.false_eq_true, Bool.true_eq_false, true_and, need_of, strR_addD, u8w, atS_txD, slT_hiD, slT_loD, slT_bothD, need_true, need_and, WOf_need, i64w, u64w, at_getD, idxR_slD, idxR_slf, idxF_some, and_true, Nat.zero_add, Nat.mul_one, Nat.add_zero, idxS_one, get_setN, get_setS, get_appL, List.length_set, ↓ibin_shlD, ↓ibin_shrD, bld1_true, plan_buildD, natSucc, ]
    exact ⟨⟨h2, roomOk1 (by omega)⟩, hok1 _, hok _, .mk _ _ _ (.inr rfl) (bufApp [c] (nextU hv) h1 h2)⟩
theorem writeString_ok {s : List UInt8} (h : Bld m0 l m) (hf : Fits en m0.length) (hb : en.bar ≤ m0.length) (hn : l.length + s.length ≤ 4294967296) :
    WC Tryd.prog pol en (.func 46) [.ptr m0.length tB 0, tx s] m fun v m' => v = .tup [I s.length, .nilI] ∧ Bld m0 (l ++ s) m' := by
  have hok : ∀ low, okTo en m0.length low := fun low => okTo_fits hf hb (Nat.le_refl _) low
  have hok1 : ∀ low, okTo en (m0.length + 1) low := fun low => okTo_fits hf hb (by omega) low
  refine callOpn Tryd.func46 rfl rfl Tryd.ntmps46 Tryd.results46 ?_
  obtain ⟨p, b, rest, hp, hbf⟩ := h
  simp -implicitDefEqProofs -dsimp (disch := (first | omega | (simp only [List.length_set, List.length_append, List.length_cons, List.length_nil]; omega))) only [go_sem, Nat.reduceAdd, Nat.reduceSub, Nat.reduceLT, Nat.reduceLeDiff, Int.reduceToNat, Int.reduceLE, Int.reduceLT, Int.reduceAdd, Int.reduceSub, Int.reduceEq, Int.reduceNe, Int.reduceMul, Nat.reduceMul, Int.reduceNeg, Int.toNat_natCast, Nat.reduceEqDiff, X.exit.injEq, if_true, if_false, reduceIte, Bool.not_true, Bool.not_false, Bool.false_eq_true, Bool.true_eq_false, true_and, need_of, strR_addD, u8w, atS_txD, slT_hiD, slT_loD, slT_bothD, need_true, need_and, WOf_need, i64w, u64w, at_getD, idxR_slD, idxR_slf, idxF_some, and_true, Nat.zero_add, Nat.mul_one, Nat.add_zero, idxS_one, get_setN, get_setS, get_appL, List.length_set, ↓ibin_shlD, ↓ibin_shrD, bld1_true, plan_buildD, natSucc, ]
  refine (copyCheck_ok hf hb hp).mono ?_
  rintro _ _ ⟨rfl, rfl⟩
  cases hbf with
  | nil h0 =>
    subst h0
    cases s with
    | nil =>
      simp -implicitDefEqProofs -dsimp (disch := (first | omega | (simp only [List.length_set, List.length_append, List.length_cons, List.length_nil]; omega))) only [go_sem, Nat.reduceAdd, Nat.reduceSub, Nat.reduceLT, Nat.reduceLeDiff, Int.reduceToNat, Int.reduceLE, Int.reduceLT, Int.reduceAdd, Int.reduceSub, Int.reduceEq, Int.reduceNe, Int.reduceMul, Nat.reduceMul, Int.reduceNeg, Int.toNat_natCast, Nat.reduceEqDiff, X.exit.injEq, if_true, if_false, reduceIte, Bool.not_true, Bool.not_false, Bool.false_eq_true, Bool.true_eq_false, true_and, need_of, strR_addD, u8w, atS_txD, slT_hiD, slT_loD, slT_bothD, need_true, need_and, WOf_need, i64w, u64w, at_getD, idxR_slD, idxR_slf, idxF_some, and_true, Nat.zero_add, Nat.mul_one, Nat.add_zero, idxS_one, get_setN, get_setS, get_appL, List.length_set, ↓ibin_shlD, ↓ibin_shrD, bld1_true, plan_buildD, natSucc, ]
      exact ⟨hok _, .mk _ _ _ (.inr rfl) (.nil rfl)⟩
    | cons a s =>
      simp -implicitDefEqProofs -dsimp (disch := (first | omega | (simp only [List.length_set, List.length_append, List.length_cons, List.length_nil]; omega))) only [go_sem, Nat.reduceAdd, Nat.reduceSub, Nat.reduceLT, Nat.reduceLeDiff, Int.reduceToNat, Int.reduceLE, Int.reduceLT, Int.reduceAdd, Int.reduceSub, Int.reduceEq, Int.reduceNe, Int.reduceMul, Nat.reduceMul, Int.reduceNeg, Int.toNat_natCast, Nat.reduceEqDiff, X.exit.injEq, if_true, if_false, reduceIte, Bool.not_true, Bool.not_false, Bool.false_eq_true, Bool.true_eq_false, true_and, need_of, strR_addD, u8w, atS_txD, slT_hiD, slT_loD, slT_bothD, need_true, need_and, WOf_need, i64w, u64w, at_getD, idxR_slD, idxR_slf, idxF_some, and_true, Nat.zero_add, Nat.mul_one, Nat.add_zero, idxS_one, get_setN, get_setS, get_appL, List.length_set, ↓ibin_shlD, ↓ibin_shrD, bld1_true, plan_buildD, natSucc, ]
      exact ⟨⟨u8L_len _, roomOk1 (by simpa using hn), by omega⟩, hok _, .mk _ _ _ (.inr rfl) (.own _ _ rfl (List.take_of_length_le (Nat.le_of_eq (u8L_len _))) (Nat.le_of_eq (u8L_len _).symm))⟩
  | own ver cs hv h1 h2 =>
    cases s with
    | nil =>
      simp -implicitDefEqProofs -dsimp (disch := (first | omega | (simp only [List.length_set, List.length_append, List.length_cons, List.length_nil]; omega))) only [go_sem, Nat.reduceAdd, Nat.reduceSub, Nat.reduceLT, Nat.reduceLeDiff, Int.reduceToNat, Int.reduceLE, Int.reduceLT, Int.reduceAdd, Int.reduceSub, Int.reduceEq, Int.reduceNe, Int.reduceMul, Nat.reduceMul, Int.reduceNeg, Int.toNat_natCast, Nat.reduceEqDiff, X.exit.injEq, if_true, if_false, reduceIte, Bool.not_true, Bool.not_false, Bool.false_eq_true, Bool.true_eq_false, true_and, need_of, strR_addD, u8w, atS_txD, slT_hiD, slT_loD, slT_bothD, need_true, need_and, WOf_need, i64w, u64w, at_getD, idxR_slD, idxR_slf, idxF_some, and_true, Nat.zero_add, Nat.mul_one, Nat.add_zero, idxS_one, get_setN, get_setS, get_appL, List.length_set, ↓ibin_shlD, ↓ibin_shrD, bld1_true, plan_buildD, natSucc, ]
      exact ⟨hok _, .mk _ _ _ (.inr rfl) (.own _ _ hv h1 h2)⟩
    | cons a s =>
      simp -implicitDefEqProofs -dsimp (disch := (first | omega | (simp only [List.length_set, List.length_append, List.length_cons, List.length_nil]; omega))) only [go_sem, Nat.reduceAdd, Nat.reduceSub, Nat.reduceLT, Nat.reduceLeDiff, Int.reduceToNat, Int.reduceLE, Int.reduceLT, Int.reduceAdd, Int.reduceSub, Int.reduceEq, Int.reduceNe, Int.reduceMul, Nat.reduceMul, Int.reduceNeg, Int.toNat_natCast, Nat.reduceEqDiff, X.exit.injEq, if_true, if_false, reduceIte, Bool.not_true, Bool.not_false, Bool.false_eq_true, Bool.true_eq_false, true_and, need_of, strR_addD, u8w, atS_txD, slT_hiD, slT_loD, slT_bothD, need_true, need_and, WOf_need, i64w, u64w, at_getD, idxR_slD, idxR_slf, idxF_some, and_true, Nat.zero_add, Nat.mul_one, Nat.add_zero, idxS_one, get_setN, get_setS, get_appL, List.length_set, ↓ibin_shlD, ↓ibin_shrD, bld1_true, plan_buildD, natSucc, ]
      exact ⟨⟨u8L_len _, h2, roomOk1 (by simpa using hn), by omega⟩, hok1 _, hok _, .mk _ _ _ (.inr rfl) (bufApp (a :: s) (nextU hv) h1 h2)⟩
theorem bytesOf_eq {cs : List AV} (h : cs = u8L l) : bytesOf cs = some l := by rw [h]; exact bytesOf_u8L l
theorem string_nil (h : Bld m0 [] m) (hn : ∃ p, m = m0 ++ [.cells tB [p, .nilS]]) : WC Tryd.prog pol en (.func 37) [.ptr m0.length tB 0] m fun v m' => v = tx [] := by
  obtain ⟨p, rfl⟩ := hn
  refine callOpn Tryd.func37 rfl rfl Tryd.ntmps37 Tryd.results37 ?_
  simp -implicitDefEqProofs -dsimp (disch := (first | omega | (simp only [List.length_set, List.length_append, List.length_cons, List.length_nil]; omega))) only [go_sem, Nat.reduceAdd, Nat.reduceSub, Nat.reduceLT, Nat.reduceLeDiff, Int.reduceToNat, Int.reduceLE, Int.reduceLT, Int.reduceAdd, Int.reduceSub, Int.reduceEq, Int.reduceNe, Int.reduceMul, Nat.reduceMul, Int.reduceNeg, Int.toNat_natCast, Nat.reduceEqDiff, X.exit.injEq, if_true, if_false, reduceIte, Bool.not_true, Bool.not_false, Bool.false_eq_true, Bool.true_eq_false, true_and, need_of, strR_addD, u8w, atS_txD, slT_hiD, slT_loD, slT_bothD, need_true, need_and, WOf_need, i64w, u64w, at_getD, idxR_slD, idxR_slf, idxF_some, and_true, Nat.zero_add, Nat.mul_one, Nat.add_zero, idxS_one, get_setN, get_setS, get_appL, List.length_set, ↓ibin_shlD, ↓ibin_shrD, bld1_true, plan_buildD, natSucc, ]
  exact ⟨by kernel_rfl, by kernel_rfl⟩
theorem string_ok (h : Bld m0 l m) (hf : Fits en m0.length) (hb : en.bar ≤ m0.length) (hn : l.length < 4294967296) (hl : l ≠ []) :
    WC Tryd.prog pol en (.func 37) [.ptr m0.length tB 0] m fun v m' => v = tx l := by
  refine callOpn Tryd.func37 rfl rfl Tryd.ntmps37 Tryd.results37 ?_
  obtain ⟨p, b, rest, hp, hbf⟩ := h
  cases hbf with
  | nil h0 => exact absurd h0 hl
  | own ver cs hv h1 h2 =>
    have hpos : 0 < l.length := List.length_pos_iff.2 hl
    simp -implicitDefEqProofs -dsimp (disch := (first | omega | (simp only [List.length_set, List.length_append, List.length_cons, List.length_nil]; omega))) only [go_sem, Nat.reduceAdd, Nat.reduceSub, Nat.reduceLT, Nat.reduceLeDiff, Int.reduceToNat, Int.reduceLE, Int.reduceLT, Int.reduceAdd, Int.reduceSub, Int.reduceEq, Int.reduceNe, Int.reduceMul, Nat.reduceMul, Int.reduceNeg, Int.toNat_natCast, Nat.reduceEqDiff, X.exit.injEq, if_true, if_false, reduceIte, Bool.not_true, Bool.not_false, Bool.false_eq_true, Bool.true_eq_false, true_and, need_of, strR_addD, u8w, atS_txD, slT_hiD, slT_loD, slT_bothD, need_true, need_and, WOf_need, i64w, u64w, at_getD, idxR_slD, idxR_slf, idxF_some, and_true, Nat.zero_add, Nat.mul_one, Nat.add_zero, idxS_one, get_setN, get_setS, get_appL, List.length_set, ↓ibin_shlD, ↓ibin_shrD, bld1_true, plan_buildD, natSucc, bytesOf_eq h1, hv]
    exact ⟨by kernel_rfl, h2, ⟨rfl, by omega⟩, by kernel_rfl⟩
end
end Go.Proofs.YtcmjidnbbfcbjaaDoor.V
/- strings.HasPrefix, HasSuffix, CutPrefix; no condition. -/
namespace Go.Proofs.YtcmjidnbbfcbjaaDoor.V
open Go
set_option linter.unusedVariables false
set_option linter.unusedSimpArgs false
set_option maxRecDepth 100000
set_option maxHeartbeats 4000000
noncomputable section
variable {en : Env} {m : Mem}
def isPre (p s : List UInt8) : Bool := decide (s.take p.length = p)
def isSuf (p s : List UInt8) : Bool := decide (s.drop (s.length - p.length) = p)
theorem pre_len {p s : List UInt8} (h : isPre p s = true) : p.length ≤ s.length := by
  simp only [isPre, decide_eq_true_eq] at h
  have := congrArg List.length h
  simp at this; omega
theorem suf_len {p s : List UInt8} (h : isSuf p s = true) : p.length ≤ s.length := by
  simp only [isSuf, decide_eq_true_eq] at h
  have := congrArg List.length h
  simp at this; omega
theorem liteHasPrefix_ok (s p : List UInt8) (hs : s.length < 4611686018427387904) (hp : p.length < 4611686018427387904) : WC Tryd.prog pol en (.func 59) [tx s, tx p] m fun v m' => v = .sc (.bool (isPre p s)) ∧ m' = m := by
  refine callPur Tryd.func59 rfl rfl Tryd.ntmps59 Tryd.results59 ?_
  by_cases h : (p.length : Int) ≤ (s.length : Int)
  · simp -implicitDefEqProofs -dsimp (disch := (first | omega | (simp only [List.length_set, List.length_append, List.length_cons, List.length_nil]; omega))) only [go_sem, Nat.reduceAdd, Nat.reduceSub, Nat.reduceLT, Nat.reduceLeDiff, Int.reduceToNat, Int.reduceLE, Int.reduceLT, Int.reduceAdd, Int.reduceSub, Int.reduceEq, Int.reduceNe, Int.reduceMul, Nat.reduceMul, Int.reduceNeg, Int.toNat_natCast, Nat.reduceEqDiff, X.exit.injEq, if_true, if_false, reduceIte, Bool.not_true, Bool.not_false, Bool.false_eq_true, Bool.true_eq_false, true_and, need_of, strR_addD, u8w, atS_txD, slT_hiD, slT_loD, slT_bothD, need_true, need_and, WOf_need, i64w, u64w, at_getD, idxR_slD, idxR_slf, idxF_some, and_true, Nat.zero_add, Nat.mul_one, Nat.add_zero, idxS_one, get_setN, get_setS, get_appL, List.length_set, ↓ibin_shlD, ↓ibin_shrD, bld1_true, plan_buildD, natSucc, h]
    rfl
  · simp -implicitDefEqProofs -dsimp (disch := (first | omega | (simp only [List.length_set, List.length_append, List.length_cons, List.length_nil]; omega))) only [go_sem, Nat.reduceAdd, Nat.reduceSub, Nat.reduceLT, Nat.reduceLeDiff, Int.reduceToNat, Int.reduceLE, Int.reduceLT, Int.reduceAdd, Int.reduceSub, Int.reduceEq, Int.reduceNe, Int.reduceMul, Nat.reduceMul, Int.reduceNeg, Int.toNat_natCast, Nat.reduceEqDiff, X.exit.injEq, if_true, if_false, reduceIte, Bool.not_true, Bool.not_false, Bool.false_eq_true, Bool.true_eq_false, true_and, need_of, strR_addD, u8w, atS_txD, slT_hiD, slT_loD, slT_bothD, need_true, need_and, WOf_need, i64w, u64w, at_getD, idxR_slD, idxR_slf, idxF_some, and_true, Nat.zero_add, Nat.mul_one, Nat.add_zero, idxS_one, get_setN, get_setS, get_appL, List.length_set, ↓ibin_shlD, ↓ibin_shrD, bld1_true, plan_buildD, natSucc, h]
    have : isPre p s = false := by
      cases hq : isPre p s with
      | false => rfl
      | true => have := pre_len hq; omega
    rw [this]
theorem liteHasSuffix_ok (s p : List UInt8) (hs : s.length < 4611686018427387904) (hp : p.length < 4611686018427387904) : WC Tryd.prog pol en (.func 49) [tx s, tx p] m fun v m' => v = .sc (.bool (isSuf p s)) ∧ m' = m := by
  refine callPur Tryd.func49 rfl rfl Tryd.ntmps49 Tryd.results49 ?_
  by_cases h : (p.length : Int) ≤ (s.length : Int)
  · simp -implicitDefEqProofs -dsimp (disch := (first | omega | (simp only [List.length_set, List.length_append, List.length_cons, List.length_nil]; omega))) only [go_sem, Nat.reduceAdd, Nat.reduceSub, Nat.reduceLT, Nat.reduceLeDiff, Int.reduceToNat, Int.reduceLE, Int.reduceLT, Int.reduceAdd, Int.reduceSub, Int.reduceEq, Int.reduceNe, Int.reduceMul, Nat.reduceMul, Int.reduceNeg, Int.toNat_natCast, Nat.reduceEqDiff, X.exit.injEq, if_true, if_false, reduceIte, Bool.not_true, Bool.not_false, Bool.false_eq_true, Bool.true_eq_false, true_and, need_of, strR_addD, u8w, atS_txD, slT_hiD, slT_loD, slT_bothD, need_true, need_and, WOf_need, i64w, u64w, at_getD, idxR_slD, idxR_slf, idxF_some, and_true, Nat.zero_add, Nat.mul_one, Nat.add_zero, idxS_one, get_setN, get_setS, get_appL, List.length_set, ↓ibin_shlD, ↓ibin_shrD, bld1_true, plan_buildD, natSucc, h]
    rw [show ((s.length : Int) - (p.length : Int)).toNat = s.length - p.length by omega]; rfl
  · simp -implicitDefEqProofs -dsimp (disch := (first | omega | (simp only [List.length_set, List.length_append, List.length_cons, List.length_nil]; omega))) only [go_sem, Nat.reduceAdd, Nat.reduceSub, Nat.reduceLT, Nat.reduceLeDiff, Int.reduceToNat, Int.reduceLE, Int.reduceLT, Int.reduceAdd, Int.reduceSub, Int.reduceEq, Int.reduceNe, Int.reduceMul, Nat.reduceMul, Int.reduceNeg, Int.toNat_natCast, Nat.reduceEqDiff, X.exit.injEq, if_true, if_false, reduceIte, Bool.not_true, Bool.not_false, Bool.false_eq_true, Bool.true_eq_false, true_and, need_of, strR_addD, u8w, atS_txD, slT_hiD, slT_loD, slT_bothD, need_true, need_and, WOf_need, i64w, u64w, at_getD, idxR_slD, idxR_slf, idxF_some, and_true, Nat.zero_add, Nat.mul_one, Nat.add_zero, idxS_one, get_setN, get_setS, get_appL, List.length_set, ↓ibin_shlD, ↓ibin_shrD, bld1_true, plan_buildD, natSucc, h]
    have : isSuf p s = false := by
      cases hq : isSuf p s with
      | false => rfl
      | true => have := suf_len hq; omega
    rw [this]
theorem hasSuffix_ok (s p : List UInt8) (hs : s.length < 4611686018427387904) (hp : p.length < 4611686018427387904) : WC Tryd.prog pol en (.func 31) [tx s, tx p] m fun v m' => v = .sc (.bool (isSuf p s)) ∧ m' = m := by
  refine callPur Tryd.func31 rfl rfl Tryd.ntmps31 Tryd.results31 ?_
  simp -implicitDefEqProofs -dsimp (disch := (first | omega | (simp only [List.length_set, List.length_append, List.length_cons, List.length_nil]; omega))) only [go_sem, Nat.reduceAdd, Nat.reduceSub, Nat.reduceLT, Nat.reduceLeDiff, Int.reduceToNat, Int.reduceLE, Int.reduceLT, Int.reduceAdd, Int.reduceSub, Int.reduceEq, Int.reduceNe, Int.reduceMul, Nat.reduceMul, Int.reduceNeg, Int.toNat_natCast, Nat.reduceEqDiff, X.exit.injEq, if_true, if_false, reduceIte, Bool.not_true, Bool.not_false, Bool.false_eq_true, Bool.true_eq_false, true_and, need_of, strR_addD, u8w, atS_txD, slT_hiD, slT_loD, slT_bothD, need_true, need_and, WOf_need, i64w, u64w, at_getD, idxR_slD, idxR_slf, idxF_some, and_true, Nat.zero_add, Nat.mul_one, Nat.add_zero, idxS_one, get_setN, get_setS, get_appL, List.length_set, ↓ibin_shlD, ↓ibin_shrD, bld1_true, plan_buildD, natSucc, ]
  refine (liteHasSuffix_ok s p hs hp).mono ?_
  rintro _ _ ⟨rfl, rfl⟩
  simp -implicitDefEqProofs -dsimp (disch := (first | omega | (simp only [List.length_set, List.length_append, List.length_cons, List.length_nil]; omega))) only [go_sem, Nat.reduceAdd, Nat.reduceSub, Nat.reduceLT, Nat.reduceLeDiff, Int.reduceToNat, Int.reduceLE, Int.reduceLT, Int.reduceAdd, Int.reduceSub, Int.reduceEq, Int.reduceNe, Int.reduceMul, Nat.reduceMul, Int.reduceNeg, Int.toNat_natCast, Nat.reduceEqDiff, X.exit.injEq, if_true, if_false, reduceIte, Bool.not_true, Bool.not_false, Bool.false_eq_true, Bool.true_eq_false, true_and, need_of, strR_addD, u8w, atS_txD, slT_hiD, slT_loD, slT_bothD, need_true, need_and, WOf_need, i64w, u64w, at_getD, idxR_slD, idxR_slf, idxF_some, and_true, Nat.zero_add, Nat.mul_one, Nat.add_zero, idxS_one, get_setN, get_setS, get_appL, List.length_set, ↓ibin_shlD, ↓ibin_shrD, bld1_true, plan_buildD, natSucc, ]
theorem liteCutPrefix_ok (s p : List UInt8) (hs : s.length < 4611686018427387904) (hp : p.length < 4611686018427387904) : WC Tryd.prog pol en (.func 48) [tx s, tx p] m fun v m' => v = (if isPre p s = true then .tup [tx (s.drop p.length), .sc (.bool true)] else .tup [tx s, .sc (.bool false)]) ∧ m' = m := by
  refine callPur Tryd.func48 rfl rfl Tryd.ntmps48 Tryd.results48 ?_
  simp -implicitDefEqProofs -dsimp (disch := (first | omega | (simp only [List.length_set, List.length_append, List.length_cons, List.length_nil]; omega))) only [go_sem, Nat.reduceAdd, Nat.reduceSub, Nat.reduceLT, Nat.reduceLeDiff, Int.reduceToNat, Int.reduceLE, Int.reduceLT, Int.reduceAdd, Int.reduceSub, Int.reduceEq, Int.reduceNe, Int.reduceMul, Nat.reduceMul, Int.reduceNeg, Int.toNat_natCast, Nat.reduceEqDiff, X.exit.injEq, if_true, if_false, reduceIte, Bool.not_true, Bool.not_false, Bool.false_eq_true, Bool.true_eq_false, true_and, need_of, strR_addD, u8w, atS_txD, slT_hiD, slT_loD, slT_bothD, need_true, need_and, WOf_need, i64w, u64w, at_getD, idxR_slD, idxR_slf, idxF_some, and_true, Nat.zero_add, Nat.mul_one, Nat.add_zero, idxS_one, get_setN, get_setS, get_appL, List.length_set, ↓ibin_shlD, ↓ibin_shrD, bld1_true, plan_buildD, natSucc, ]
  refine (liteHasPrefix_ok s p hs hp).mono ?_
  rintro _ _ ⟨rfl, rfl⟩
  by_cases h : isPre p s = true
  · have := pre_len h
    simp -implicitDefEqProofs -dsimp (disch := (first | omega | (simp only [List.length_set, List.length_append, List.length_cons, List.length_nil]; omega))) only [go_sem, Nat.reduceAdd, Nat.reduceSub, Nat.reduceLT, Nat.reduceLeDiff, Int.reduceToNat, Int.reduceLE, Int.reduceLT, Int.reduceAdd, Int.reduceSub, Int.reduceEq, Int.reduceNe, Int.reduceMul, Nat.reduceMul, Int.reduceNeg, Int.toNat_natCast, Nat.reduceEqDiff, X.exit.injEq, if_true, if_false, reduceIte, Bool.not_true, Bool.not_false, Bool.false_eq_true, Bool.true_eq_false, true_and, need_of, strR_addD, u8w, atS_txD, slT_hiD, slT_loD, slT_bothD, need_true, need_and, WOf_need, i64w, u64w, at_getD, idxR_slD, idxR_slf, idxF_some, and_true, Nat.zero_add, Nat.mul_one, Nat.add_zero, idxS_one, get_setN, get_setS, get_appL, List.length_set, ↓ibin_shlD, ↓ibin_shrD, bld1_true, plan_buildD, natSucc, h]
  · simp -implicitDefEqProofs -dsimp (disch := (first | omega | (simp only [List.length_set, List.length_append, List.length_cons, List.length_nil]; omega))) only [go_sem, Nat.reduceAdd, Nat.reduceSub, Nat.reduceLT, Nat.reduceLeDiff, Int.reduceToNat, Int.reduceLE, Int.reduceLT, Int.reduceAdd, Int.reduceSub, Int.reduceEq, Int.reduceNe, Int.reduceMul, Nat.reduceMul, Int.reduceNeg, Int.toNat_natCast, Nat.reduceEqDiff, X.exit.injEq, if_true, if_false, reduceIte, Bool.not_true, Bool.not_false, Bool.false_eq_true, Bool.true_eq_false, true_and, need_of, strR_addD, u8w, atS_txD, slT_hiD, slT_loD, slT_bothD, need_true, need_and, WOf_need, i64w, u64w, at_getD, idxR_slD, idxR_slf, idxF_some, and_true, Nat.zero_add, Nat.mul_one, Nat.add_zero, idxS_one, get_setN, get_setS, get_appL, List.length_set, ↓ibin_shlD, ↓ibin_shrD, bld1_true, plan_buildD, natSucc, h]
theorem cutPrefix_ok (s p : List UInt8) (hs : s.length < 4611686018427387904) (hp : p.length < 4611686018427387904) : WC Tryd.prog pol en (.func 30) [tx s, tx p] m fun v m' => v = (if isPre p s = true then .tup [tx (s.drop p.length), .sc (.bool true)] else .tup [tx s, .sc (.bool false)]) ∧ m' = m := by
  refine callPur Tryd.func30 rfl rfl Tryd.ntmps30 Tryd.results30 ?_
  simp -implicitDefEqProofs -dsimp (disch := (first | omega | (simp only [List.length_set, List.length_append, List.length_cons, List.length_nil]; omega))) only [go_sem, Nat.reduceAdd, Nat.reduceSub, Nat.reduceLT, Nat.reduceLeDiff, Int.reduceToNat, Int.reduceLE, Int.reduceLT, Int.reduceAdd, Int.reduceSub, Int.reduceEq, Int.reduceNe, Int.reduceMul, Nat.reduceMul, Int.reduceNeg, Int.toNat_natCast, Nat.reduceEqDiff, X.exit.injEq, if_true, if_false, reduceIte, Bool.not_true, Bool.not_false, Bool.false_eq_true, Bool.true_eq_false, true_and, need_of, strR_addD, u8w, atS_txD, slT_hiD, slT_loD, slT_bothD, need_true, need_and, WOf_need, i64w, u64w, at_getD, idxR_slD, idxR_slf, idxF_some, and_true, Nat.zero_add, Nat.mul_one, Nat.add_zero, idxS_one, get_setN, get_setS, get_appL, List.length_set, ↓ibin_shlD, ↓ibin_shrD, bld1_true, plan_buildD, natSucc, ]
  refine (liteCutPrefix_ok s p hs hp).mono ?_
  rintro _ _ ⟨rfl, rfl⟩
  by_cases h : isPre p s = true
  · simp -implicitDefEqProofs -dsimp (disch := (first | omega | (simp only [List.length_set, List.length_append, List.length_cons, List.length_nil]; omega))) only [go_sem, Nat.reduceAdd, Nat.reduceSub, Nat.reduceLT, Nat.reduceLeDiff, Int.reduceToNat, Int.reduceLE, Int.reduceLT, Int.reduceAdd, Int.reduceSub, Int.reduceEq, Int.reduceNe, Int.reduceMul, Nat.reduceMul, Int.reduceNeg, Int.toNat_natCast, Nat.reduceEqDiff, X.exit.injEq, if_true, if_false, reduceIte, Bool.not_true, Bool.not_false, Bool.false_eq_true, Bool.true_eq_false, true_and, need_of, strR_addD, u8w, atS_txD, slT_hiD, slT_loD, slT_bothD, need_true, need_and, WOf_need, i64w, u64w, at_getD, idxR_slD, idxR_slf, idxF_some, and_true, Nat.zero_add, Nat.mul_one, Nat.add_zero, idxS_one, get_setN, get_setS, get_appL, List.length_set, ↓ibin_shlD, ↓ibin_shrD, bld1_true, plan_buildD, natSucc, h]
  · simp -implicitDefEqProofs -dsimp (disch := (first | omega | (simp only [List.length_set, List.length_append, List.length_cons, List.length_nil]; omega))) only [go_sem, Nat.reduceAdd, Nat.reduceSub, Nat.reduceLT, Nat.reduceLeDiff, Int.reduceToNat, Int.reduceLE, Int.reduceLT, Int.reduceAdd, Int.reduceSub, Int.reduceEq, Int.reduceNe, Int.reduceMul, Nat.reduceMul, Int.reduceNeg, Int.toNat_natCast, Nat.reduceEqDiff, X.exit.injEq, if_true, if_false, reduceIte, Bool.not_true, Bool.not_false, Bool.false_eq_true, Bool.true_eq_false, true_and, need_of, strR_addD, u8w, atS_txD, slT_hiD, slT_loD, slT_bothD, need_true, need_and, WOf_need, i64w, u64w, at_getD, idxR_slD, idxR_slf, idxF_some, and_true, Nat.zero_add, Nat.mul_one, Nat.add_zero, idxS_one, get_setN, get_setS, get_appL, List.length_set, ↓ibin_shlD, ↓ibin_shrD, bld1_true, plan_buildD, natSucc, h]
end
end Go.Proofs.YtcmjidnbbfcbjaaDoor.V
/- Quote, of the program and of the reference; no condition. -/
namespace Go.Proofs.YtcmjidnbbfcbjaaDoor.V
open Go
set_option linter.unusedVariables false
set_option linter.unusedSimpArgs false
set_option maxRecDepth 100000
set_option maxHeartbeats 4000000
noncomputable section
variable {en : Env} {m : Mem}
theorem enc_len (l : List UInt8) : (qencL l).length ≤ 3 * l.length := by
  induction l with
  | nil => simp [qencL]
  | cons c l ih =>
    show (encB c ++ qencL l).length ≤ _
    have : (encB c).length ≤ 3 := by unfold encB; split <;> simp
    simp only [List.length_append, List.length_cons]; omega
theorem enc_take {s : List UInt8} {i : Nat} (h : i < s.length) : qencL (s.take (i + 1)) = qencL (s.take i) ++ encB s[i] := by
  have : s.take (i + 1) = s.take i ++ [s[i]] := by rw [List.take_add_one, List.getElem?_eq_getElem h]; rfl
  rw [this]; unfold qencL; rw [List.flatMap_append]; simp
theorem shr4_all : ∀ n < 256, shrK .u8 ((n : Nat) : Int) 4 = ((n / 16 : Nat) : Int) := by decide
theorem and15_all : ∀ n < 256, andK .u8 ((n : Nat) : Int) 15 = ((n % 16 : Nat) : Int) := by decide
theorem ofNat_u8 {n : Nat} (h : n < 256) : (UInt8.ofNat n).toNat = n := by rw [UInt8.toNat_ofNat']; exact Nat.mod_eq_of_lt h
theorem shr4 (c : UInt8) : AV.sc (.int .u8 (shrK .u8 (c.toNat : Int) 4)) = u8v (UInt8.ofNat (c.toNat / 16)) := by
  have := c.toNat_lt
  rw [shr4_all _ (by omega)]
  unfold u8v; rw [ofNat_u8 (by omega)]
theorem and15 (c : UInt8) : AV.sc (.int .u8 (andK .u8 (c.toNat : Int) 15)) = u8v (UInt8.ofNat (c.toNat % 16)) := by
  have := c.toNat_lt
  rw [and15_all _ (by omega)]
  unfold u8v; rw [ofNat_u8 (by omega)]
theorem quote_ok (s : List UInt8) (hs : s.length ≤ 1000000000) (hf : Fits en m.length) : WC Tryd.prog pol en (.func 18) [tx s] m fun v m' => v = tx (quoteL s) ∧ m' = m := by
  refine callPur Tryd.func18 rfl rfl Tryd.ntmps18 Tryd.results18 ?_
  have hf' : Fits (en' en m) m.length := hf.pur
  have hb' : (en' en m).bar ≤ m.length := Nat.le_refl _
  simp -implicitDefEqProofs -dsimp (disch := (first | omega | (simp only [List.length_set, List.length_append, List.length_cons, List.length_nil]; omega))) only [go_sem, Nat.reduceAdd, Nat.reduceSub, Nat.reduceLT, Nat.reduceLeDiff, Int.reduceToNat, Int.reduceLE, Int.reduceLT, Int.reduceAdd, Int.reduceSub, Int.reduceEq, Int.reduceNe, Int.reduceMul, Nat.reduceMul, Int.reduceNeg, Int.toNat_natCast, Nat.reduceEqDiff, X.exit.injEq, if_true, if_false, reduceIte, Bool.not_true, Bool.not_false, Bool.false_eq_true, Bool.true_eq_false, true_and, need_of, strR_addD, u8w, atS_txD, slT_hiD, slT_loD, slT_bothD, need_true, need_and, WOf_need, i64w, u64w, at_getD, idxR_slD, idxR_slf, idxF_some, and_true, Nat.zero_add, Nat.mul_one, Nat.add_zero, idxS_one, get_setN, get_setS, get_appL, List.length_set, ↓ibin_shlD, ↓ibin_shrD, bld1_true, plan_buildD, natSucc, ]
  refine (writeByte_ok (c := 34) Bld.new hf' hb' (by simp)).mono ?_
  rintro _ m1 ⟨rfl, hB⟩
  simp -implicitDefEqProofs -dsimp (disch := (first | omega | (simp only [List.length_set, List.length_append, List.length_cons, List.length_nil]; omega))) only [go_sem, Nat.reduceAdd, Nat.reduceSub, Nat.reduceLT, Nat.reduceLeDiff, Int.reduceToNat, Int.reduceLE, Int.reduceLT, Int.reduceAdd, Int.reduceSub, Int.reduceEq, Int.reduceNe, Int.reduceMul, Nat.reduceMul, Int.reduceNeg, Int.toNat_natCast, Nat.reduceEqDiff, X.exit.injEq, if_true, if_false, reduceIte, Bool.not_true, Bool.not_false, Bool.false_eq_true, Bool.true_eq_false, true_and, need_of, strR_addD, u8w, atS_txD, slT_hiD, slT_loD, slT_bothD, need_true, need_and, WOf_need, i64w, u64w, at_getD, idxR_slD, idxR_slf, idxF_some, and_true, Nat.zero_add, Nat.mul_one, Nat.add_zero, idxS_one, get_setN, get_setS, get_appL, List.length_set, ↓ibin_shlD, ↓ibin_shrD, bld1_true, plan_buildD, natSucc, ]
  refine loopF (fun k ts m' => ∃ i : Nat, ts.length = 31 ∧ tg ts 0 = tx s ∧ tg ts 3 = .ptr m.length tB 0 ∧ tg ts 8 = I s.length ∧ tg ts 9 = I i ∧ i ≤ s.length ∧ Bld m (34 :: qencL (s.take i)) m' ∧ k = s.length - i) s.length ⟨0, rfl, rfl, rfl, rfl, rfl, by omega, hB, by omega⟩ ?_
  rintro k ts m' ⟨i, hl, h0, h3, h8, h9, hi, hB, hk⟩
  rw [expandT hl]
  have hel := enc_len (s.take i)
  have htl : (s.take i).length = i := by simp; omega
  simp -implicitDefEqProofs -dsimp (disch := (first | omega | (simp only [List.length_set, List.length_append, List.length_cons, List.length_nil]; omega))) only [go_sem, Nat.reduceAdd, Nat.reduceSub, Nat.reduceLT, Nat.reduceLeDiff, Int.reduceToNat, Int.reduceLE, Int.reduceLT, Int.reduceAdd, Int.reduceSub, Int.reduceEq, Int.reduceNe, Int.reduceMul, Nat.reduceMul, Int.reduceNeg, Int.toNat_natCast, Nat.reduceEqDiff, X.exit.injEq, if_true, if_false, reduceIte, Bool.not_true, Bool.not_false, Bool.false_eq_true, Bool.true_eq_false, true_and, need_of, strR_addD, u8w, atS_txD, slT_hiD, slT_loD, slT_bothD, need_true, need_and, WOf_need, i64w, u64w, at_getD, idxR_slD, idxR_slf, idxF_some, and_true, Nat.zero_add, Nat.mul_one, Nat.add_zero, idxS_one, get_setN, get_setS, get_appL, List.length_set, ↓ibin_shlD, ↓ibin_shrD, bld1_true, plan_buildD, natSucc, h0, h3, h8, h9]
  split
  · rename_i hlt
    have hi' : i < s.length := by omega
    have hlt8 := s[i].toNat_lt
    simp -implicitDefEqProofs -dsimp (disch := (first | omega | (simp only [List.length_set, List.length_append, List.length_cons, List.length_nil]; omega))) only [go_sem, Nat.reduceAdd, Nat.reduceSub, Nat.reduceLT, Nat.reduceLeDiff, Int.reduceToNat, Int.reduceLE, Int.reduceLT, Int.reduceAdd, Int.reduceSub, Int.reduceEq, Int.reduceNe, Int.reduceMul, Nat.reduceMul, Int.reduceNeg, Int.toNat_natCast, Nat.reduceEqDiff, X.exit.injEq, if_true, if_false, reduceIte, Bool.not_true, Bool.not_false, Bool.false_eq_true, Bool.true_eq_false, true_and, need_of, strR_addD, u8w, atS_txD, slT_hiD, slT_loD, slT_bothD, need_true, need_and, WOf_need, i64w, u64w, at_getD, idxR_slD, idxR_slf, idxF_some, and_true, Nat.zero_add, Nat.mul_one, Nat.add_zero, idxS_one, get_setN, get_setS, get_appL, List.length_set, ↓ibin_shlD, ↓ibin_shrD, bld1_true, plan_buildD, natSucc, ]
    refine (plain_ok _).mono ?_
    rintro _ _ ⟨rfl, rfl⟩
    simp -implicitDefEqProofs -dsimp (disch := (first | omega | (simp only [List.length_set, List.length_append, List.length_cons, List.length_nil]; omega))) only [go_sem, Nat.reduceAdd, Nat.reduceSub, Nat.reduceLT, Nat.reduceLeDiff, Int.reduceToNat, Int.reduceLE, Int.reduceLT, Int.reduceAdd, Int.reduceSub, Int.reduceEq, Int.reduceNe, Int.reduceMul, Nat.reduceMul, Int.reduceNeg, Int.toNat_natCast, Nat.reduceEqDiff, X.exit.injEq, if_true, if_false, reduceIte, Bool.not_true, Bool.not_false, Bool.false_eq_true, Bool.true_eq_false, true_and, need_of, strR_addD, u8w, atS_txD, slT_hiD, slT_loD, slT_bothD, need_true, need_and, WOf_need, i64w, u64w, at_getD, idxR_slD, idxR_slf, idxF_some, and_true, Nat.zero_add, Nat.mul_one, Nat.add_zero, idxS_one, get_setN, get_setS, get_appL, List.length_set, ↓ibin_shlD, ↓ibin_shrD, bld1_true, plan_buildD, natSucc, ]
    split
    · rename_i hp
      refine (writeByte_ok hB hf' hb' (by simp; omega)).mono ?_
      rintro _ m2 ⟨rfl, hB2⟩
      simp -implicitDefEqProofs -dsimp (disch := (first | omega | (simp only [List.length_set, List.length_append, List.length_cons, List.length_nil]; omega))) only [go_sem, Nat.reduceAdd, Nat.reduceSub, Nat.reduceLT, Nat.reduceLeDiff, Int.reduceToNat, Int.reduceLE, Int.reduceLT, Int.reduceAdd, Int.reduceSub, Int.reduceEq, Int.reduceNe, Int.reduceMul, Nat.reduceMul, Int.reduceNeg, Int.toNat_natCast, Nat.reduceEqDiff, X.exit.injEq, if_true, if_false, reduceIte, Bool.not_true, Bool.not_false, Bool.false_eq_true, Bool.true_eq_false, true_and, need_of, strR_addD, u8w, atS_txD, slT_hiD, slT_loD, slT_bothD, need_true, need_and, WOf_need, i64w, u64w, at_getD, idxR_slD, idxR_slf, idxF_some, and_true, Nat.zero_add, Nat.mul_one, Nat.add_zero, idxS_one, get_setN, get_setS, get_appL, List.length_set, ↓ibin_shlD, ↓ibin_shrD, bld1_true, plan_buildD, natSucc, ]
      refine ⟨s.length - (i + 1), by omega, i + 1, rfl, by omega, ?_, rfl⟩
      rw [enc_take hi', encB, if_pos hp]; exact hB2
    · rename_i hp
      refine (writeByte_ok (c := 37) hB hf' hb' (by simp; omega)).mono ?_
      rintro _ m2 ⟨rfl, hB2⟩
      simp -implicitDefEqProofs -dsimp (disch := (first | omega | (simp only [List.length_set, List.length_append, List.length_cons, List.length_nil]; omega))) only [go_sem, Nat.reduceAdd, Nat.reduceSub, Nat.reduceLT, Nat.reduceLeDiff, Int.reduceToNat, Int.reduceLE, Int.reduceLT, Int.reduceAdd, Int.reduceSub, Int.reduceEq, Int.reduceNe, Int.reduceMul, Nat.reduceMul, Int.reduceNeg, Int.toNat_natCast, Nat.reduceEqDiff, X.exit.injEq, if_true, if_false, reduceIte, Bool.not_true, Bool.not_false, Bool.false_eq_true, Bool.true_eq_false, true_and, need_of, strR_addD, u8w, atS_txD, slT_hiD, slT_loD, slT_bothD, need_true, need_and, WOf_need, i64w, u64w, at_getD, idxR_slD, idxR_slf, idxF_some, and_true, Nat.zero_add, Nat.mul_one, Nat.add_zero, idxS_one, get_setN, get_setS, get_appL, List.length_set, ↓ibin_shlD, ↓ibin_shrD, bld1_true, plan_buildD, natSucc, shr4]
      refine (nibble_ok _ (by rw [ofNat_u8] <;> omega)).mono ?_
      rintro _ _ ⟨rfl, rfl⟩
      simp -implicitDefEqProofs -dsimp (disch := (first | omega | (simp only [List.length_set, List.length_append, List.length_cons, List.length_nil]; omega))) only [go_sem, Nat.reduceAdd, Nat.reduceSub, Nat.reduceLT, Nat.reduceLeDiff, Int.reduceToNat, Int.reduceLE, Int.reduceLT, Int.reduceAdd, Int.reduceSub, Int.reduceEq, Int.reduceNe, Int.reduceMul, Nat.reduceMul, Int.reduceNeg, Int.toNat_natCast, Nat.reduceEqDiff, X.exit.injEq, if_true, if_false, reduceIte, Bool.not_true, Bool.not_false, Bool.false_eq_true, Bool.true_eq_false, true_and, need_of, strR_addD, u8w, atS_txD, slT_hiD, slT_loD, slT_bothD, need_true, need_and, WOf_need, i64w, u64w, at_getD, idxR_slD, idxR_slf, idxF_some, and_true, Nat.zero_add, Nat.mul_one, Nat.add_zero, idxS_one, get_setN, get_setS, get_appL, List.length_set, ↓ibin_shlD, ↓ibin_shrD, bld1_true, plan_buildD, natSucc, ]
      refine (writeByte_ok hB2 hf' hb' (by simp; omega)).mono ?_
      rintro _ m3 ⟨rfl, hB3⟩
      simp -implicitDefEqProofs -dsimp (disch := (first | omega | (simp only [List.length_set, List.length_append, List.length_cons, List.length_nil]; omega))) only [go_sem, Nat.reduceAdd, Nat.reduceSub, Nat.reduceLT, Nat.reduceLeDiff, Int.reduceToNat, Int.reduceLE, Int.reduceLT, Int.reduceAdd, Int.reduceSub, Int.reduceEq, Int.reduceNe, Int.reduceMul, Nat.reduceMul, Int.reduceNeg, Int.toNat_natCast, Nat.reduceEqDiff, X.exit.injEq, if_true, if_false, reduceIte, Bool.not_true, Bool.not_false, Bool.false_eq_true, Bool.true_eq_false, true_and, need_of, strR_addD, u8w, atS_txD, slT_hiD, slT_loD, slT_bothD, need_true, need_and, WOf_need, i64w, u64w, at_getD, idxR_slD, idxR_slf, idxF_some, and_true, Nat.zero_add, Nat.mul_one, Nat.add_zero, idxS_one, get_setN, get_setS, get_appL, List.length_set, ↓ibin_shlD, ↓ibin_shrD, bld1_true, plan_buildD, natSucc, and15]
      refine (nibble_ok _ (by rw [ofNat_u8] <;> omega)).mono ?_
      rintro _ _ ⟨rfl, rfl⟩
      simp -implicitDefEqProofs -dsimp (disch := (first | omega | (simp only [List.length_set, List.length_append, List.length_cons, List.length_nil]; omega))) only [go_sem, Nat.reduceAdd, Nat.reduceSub, Nat.reduceLT, Nat.reduceLeDiff, Int.reduceToNat, Int.reduceLE, Int.reduceLT, Int.reduceAdd, Int.reduceSub, Int.reduceEq, Int.reduceNe, Int.reduceMul, Nat.reduceMul, Int.reduceNeg, Int.toNat_natCast, Nat.reduceEqDiff, X.exit.injEq, if_true, if_false, reduceIte, Bool.not_true, Bool.not_false, Bool.false_eq_true, Bool.true_eq_false, true_and, need_of, strR_addD, u8w, atS_txD, slT_hiD, slT_loD, slT_bothD, need_true, need_and, WOf_need, i64w, u64w, at_getD, idxR_slD, idxR_slf, idxF_some, and_true, Nat.zero_add, Nat.mul_one, Nat.add_zero, idxS_one, get_setN, get_setS, get_appL, List.length_set, ↓ibin_shlD, ↓ibin_shrD, bld1_true, plan_buildD, natSucc, ]
      refine (writeByte_ok hB3 hf' hb' (by simp; omega)).mono ?_
      rintro _ m4 ⟨rfl, hB4⟩
      simp -implicitDefEqProofs -dsimp (disch := (first | omega | (simp only [List.length_set, List.length_append, List.length_cons, List.length_nil]; omega))) only [go_sem, Nat.reduceAdd, Nat.reduceSub, Nat.reduceLT, Nat.reduceLeDiff, Int.reduceToNat, Int.reduceLE, Int.reduceLT, Int.reduceAdd, Int.reduceSub, Int.reduceEq, Int.reduceNe, Int.reduceMul, Nat.reduceMul, Int.reduceNeg, Int.toNat_natCast, Nat.reduceEqDiff, X.exit.injEq, if_true, if_false, reduceIte, Bool.not_true, Bool.not_false, Bool.false_eq_true, Bool.true_eq_false, true_and, need_of, strR_addD, u8w, atS_txD, slT_hiD, slT_loD, slT_bothD, need_true, need_and, WOf_need, i64w, u64w, at_getD, idxR_slD, idxR_slf, idxF_some, and_true, Nat.zero_add, Nat.mul_one, Nat.add_zero, idxS_one, get_setN, get_setS, get_appL, List.length_set, ↓ibin_shlD, ↓ibin_shrD, bld1_true, plan_buildD, natSucc, ]
      refine ⟨s.length - (i + 1), by omega, i + 1, rfl, by omega, ?_, rfl⟩
      rw [ofNat_u8 (by omega), ofNat_u8 (by omega)] at hB4
      rw [enc_take hi', encB, if_neg hp]; simpa using hB4
  · rename_i hlt
    refine (writeByte_ok (c := 34) hB hf' hb' (by simp; omega)).mono ?_
    rintro _ m2 ⟨rfl, hB2⟩
    simp -implicitDefEqProofs -dsimp (disch := (first | omega | (simp only [List.length_set, List.length_append, List.length_cons, List.length_nil]; omega))) only [go_sem, Nat.reduceAdd, Nat.reduceSub, Nat.reduceLT, Nat.reduceLeDiff, Int.reduceToNat, Int.reduceLE, Int.reduceLT, Int.reduceAdd, Int.reduceSub, Int.reduceEq, Int.reduceNe, Int.reduceMul, Nat.reduceMul, Int.reduceNeg, Int.toNat_natCast, Nat.reduceEqDiff, X.exit.injEq, if_true, if_false, reduceIte, Bool.not_true, Bool.not_false, Bool.false_eq_true, Bool.true_eq_false, true_and, need_of, strR_addD, u8w, atS_txD, slT_hiD, slT_loD, slT_bothD, need_true, need_and, WOf_need, i64w, u64w, at_getD, idxR_slD, idxR_slf, idxF_some, and_true, Nat.zero_add, Nat.mul_one, Nat.add_zero, idxS_one, get_setN, get_setS, get_appL, List.length_set, ↓ibin_shlD, ↓ibin_shrD, bld1_true, plan_buildD, natSucc, ]
    refine (string_ok hB2 hf' hb' (by simp; omega) (by simp)).mono ?_
    rintro _ m3 rfl
    simp -implicitDefEqProofs -dsimp (disch := (first | omega | (simp only [List.length_set, List.length_append, List.length_cons, List.length_nil]; omega))) only [go_sem, Nat.reduceAdd, Nat.reduceSub, Nat.reduceLT, Nat.reduceLeDiff, Int.reduceToNat, Int.reduceLE, Int.reduceLT, Int.reduceAdd, Int.reduceSub, Int.reduceEq, Int.reduceNe, Int.reduceMul, Nat.reduceMul, Int.reduceNeg, Int.toNat_natCast, Nat.reduceEqDiff, X.exit.injEq, if_true, if_false, reduceIte, Bool.not_true, Bool.not_false, Bool.false_eq_true, Bool.true_eq_false, true_and, need_of, strR_addD, u8w, atS_txD, slT_hiD, slT_loD, slT_bothD, need_true, need_and, WOf_need, i64w, u64w, at_getD, idxR_slD, idxR_slf, idxF_some, and_true, Nat.zero_add, Nat.mul_one, Nat.add_zero, idxS_one, get_setN, get_setS, get_appL, List.length_set, ↓ibin_shlD, ↓ibin_shrD, bld1_true, plan_buildD, natSucc, ]
    rw [List.take_of_length_le (by omega)]; rfl
theorem take1 {l : List UInt8} {i : Nat} (h : i < l.length) : (l.drop i).take (i + 1 - i) = [l[i]] := by
  rw [show i + 1 - i = 1 by omega, List.drop_eq_getElem_cons h]; rfl
theorem hexSl : ∀ a < 16, (([48, 49, 50, 51, 52, 53, 54, 55, 56, 57, 97, 98, 99, 100, 101, 102] : List UInt8).drop a).take (a + 1 - a) = [hexd a] := by decide
theorem tdiv16 (n : Nat) : (n : Int).tdiv 16 = ((n / 16 : Nat) : Int) := tdivN n 16
theorem tmod16 (n : Nat) : (n : Int).tmod 16 = ((n % 16 : Nat) : Int) := tmodN n 16
theorem refQuote_ok (s : List UInt8) (hs : s.length ≤ 1000000000) (hf : Fits en m.length) : WC Tryd.prog pol en (.func 19) [tx s] m fun v m' => v = tx (quoteL s) ∧ m' = m := by
  refine callPur Tryd.func19 rfl rfl Tryd.ntmps19 Tryd.results19 ?_
  simp -implicitDefEqProofs -dsimp (disch := (first | omega | (simp only [List.length_set, List.length_append, List.length_cons, List.length_nil]; omega))) only [go_sem, Nat.reduceAdd, Nat.reduceSub, Nat.reduceLT, Nat.reduceLeDiff, Int.reduceToNat, Int.reduceLE, Int.reduceLT, Int.reduceAdd, Int.reduceSub, Int.reduceEq, Int.reduceNe, Int.reduceMul, Nat.reduceMul, Int.reduceNeg, Int.toNat_natCast, Nat.reduceEqDiff, X.exit.injEq, if_true, if_false, reduceIte, Bool.not_true, Bool.not_false, Bool.false_eq_true, Bool.true_eq_false, true_and, need_of, strR_addD, u8w, atS_txD, slT_hiD, slT_loD, slT_bothD, need_true, need_and, WOf_need, i64w, u64w, at_getD, idxR_slD, idxR_slf, idxF_some, and_true, Nat.zero_add, Nat.mul_one, Nat.add_zero, idxS_one, get_setN, get_setS, get_appL, List.length_set, ↓ibin_shlD, ↓ibin_shrD, bld1_true, plan_buildD, natSucc, ]
  refine loopF (fun k ts m' => ∃ i : Nat, ts.length = 54 ∧ tg ts 0 = tx s ∧ tg ts 3 = tx (34 :: qencL (s.take i)) ∧ tg ts 4 = I i ∧ i ≤ s.length ∧ m' = m ∧ k = s.length - i) s.length ⟨0, rfl, rfl, rfl, rfl, by omega, rfl, by omega⟩ ?_
  rintro k ts m' ⟨i, hl, h0, h3, h4, hi, rfl, hk⟩
  rw [expandT hl]
  have hel := enc_len (s.take i)
  have htl : (s.take i).length = i := by simp; omega
  simp -implicitDefEqProofs -dsimp (disch := (first | omega | (simp only [List.length_set, List.length_append, List.length_cons, List.length_nil]; omega))) only [go_sem, Nat.reduceAdd, Nat.reduceSub, Nat.reduceLT, Nat.reduceLeDiff, Int.reduceToNat, Int.reduceLE, Int.reduceLT, Int.reduceAdd, Int.reduceSub, Int.reduceEq, Int.reduceNe, Int.reduceMul, Nat.reduceMul, Int.reduceNeg, Int.toNat_natCast, Nat.reduceEqDiff, X.exit.injEq, if_true, if_false, reduceIte, Bool.not_true, Bool.not_false, Bool.false_eq_true, Bool.true_eq_false, true_and, need_of, strR_addD, u8w, atS_txD, slT_hiD, slT_loD, slT_bothD, need_true, need_and, WOf_need, i64w, u64w, at_getD, idxR_slD, idxR_slf, idxF_some, and_true, Nat.zero_add, Nat.mul_one, Nat.add_zero, idxS_one, get_setN, get_setS, get_appL, List.length_set, ↓ibin_shlD, ↓ibin_shrD, bld1_true, plan_buildD, natSucc, h0, h3, h4]
  split
  · rename_i hlt
    have hi' : i < s.length := by omega
    have hlt8 := s[i].toNat_lt
    by_cases hp : plainB s[i] = true
    · obtain ⟨h1, h2, h5, h6⟩ : (33 : Int) ≤ (s[i].toNat : Int) ∧ (s[i].toNat : Int) ≤ 126 ∧ (s[i].toNat : Int) ≠ 34 ∧ (s[i].toNat : Int) ≠ 37 := by simp [plainB] at hp; omega
      simp -implicitDefEqProofs -dsimp (disch := (first | omega | (simp only [List.length_set, List.length_append, List.length_cons, List.length_nil]; omega))) only [go_sem, Nat.reduceAdd, Nat.reduceSub, Nat.reduceLT, Nat.reduceLeDiff, Int.reduceToNat, Int.reduceLE, Int.reduceLT, Int.reduceAdd, Int.reduceSub, Int.reduceEq, Int.reduceNe, Int.reduceMul, Nat.reduceMul, Int.reduceNeg, Int.toNat_natCast, Nat.reduceEqDiff, X.exit.injEq, if_true, if_false, reduceIte, Bool.not_true, Bool.not_false, Bool.false_eq_true, Bool.true_eq_false, true_and, need_of, strR_addD, u8w, atS_txD, slT_hiD, slT_loD, slT_bothD, need_true, need_and, WOf_need, i64w, u64w, at_getD, idxR_slD, idxR_slf, idxF_some, and_true, Nat.zero_add, Nat.mul_one, Nat.add_zero, idxS_one, get_setN, get_setS, get_appL, List.length_set, ↓ibin_shlD, ↓ibin_shrD, bld1_true, plan_buildD, natSucc, h1, h2, eq_true h5, eq_true h6, take1 hi']
      refine ⟨s.length - (i + 1), by omega, i + 1, ?_⟩
      refine ⟨by rw [enc_take hi', encB, if_pos hp], rfl, by omega, rfl⟩
    · have hq : ¬ ((33 : Int) ≤ (s[i].toNat : Int)) ∨ ((33 : Int) ≤ (s[i].toNat : Int) ∧ ¬ (s[i].toNat : Int) ≤ 126) ∨ ((33 : Int) ≤ (s[i].toNat : Int) ∧ (s[i].toNat : Int) ≤ 126 ∧ ¬ (s[i].toNat : Int) ≠ 34) ∨ ((33 : Int) ≤ (s[i].toNat : Int) ∧ (s[i].toNat : Int) ≤ 126 ∧ (s[i].toNat : Int) ≠ 34 ∧ ¬ (s[i].toNat : Int) ≠ 37) := by simp [plainB] at hp; omega
      have e1 := hexSl (s[i].toNat / 16) (by omega)
      have e2 := hexSl (s[i].toNat % 16) (by omega)
      rcases hq with h1 | ⟨h1, h2⟩ | ⟨h1, h2, h5⟩ | ⟨h1, h2, h5, h6⟩
      · simp -implicitDefEqProofs -dsimp (disch := (first | omega | (simp only [List.length_set, List.length_append, List.length_cons, List.length_nil]; omega))) only [go_sem, Nat.reduceAdd, Nat.reduceSub, Nat.reduceLT, Nat.reduceLeDiff, Int.reduceToNat, Int.reduceLE, Int.reduceLT, Int.reduceAdd, Int.reduceSub, Int.reduceEq, Int.reduceNe, Int.reduceMul, Nat.reduceMul, Int.reduceNeg, Int.toNat_natCast, Nat.reduceEqDiff, X.exit.injEq, if_true, if_false, reduceIte, Bool.not_true, Bool.not_false, Bool.false_eq_true, Bool.true_eq_false, true_and, need_of, strR_addD, u8w, atS_txD, slT_hiD, slT_loD, slT_bothD, need_true, need_and, WOf_need, i64w, u64w, at_getD, idxR_slD, idxR_slf, idxF_some, and_true, Nat.zero_add, Nat.mul_one, Nat.add_zero, idxS_one, get_setN, get_setS, get_appL, List.length_set, ↓ibin_shlD, ↓ibin_shrD, bld1_true, plan_buildD, natSucc, h1, tdiv16, tmod16, e1, e2]
        refine ⟨by kernel_rfl, by kernel_rfl, ?_⟩
        refine ⟨s.length - (i + 1), by omega, i + 1, ?_⟩
        refine ⟨by rw [enc_take hi', encB, if_neg hp], rfl, by omega, rfl⟩
      · simp -implicitDefEqProofs -dsimp (disch := (first | omega | (simp only [List.length_set, List.length_append, List.length_cons, List.length_nil]; omega))) only [go_sem, Nat.reduceAdd, Nat.reduceSub, Nat.reduceLT, Nat.reduceLeDiff, Int.reduceToNat, Int.reduceLE, Int.reduceLT, Int.reduceAdd, Int.reduceSub, Int.reduceEq, Int.reduceNe, Int.reduceMul, Nat.reduceMul, Int.reduceNeg, Int.toNat_natCast, Nat.reduceEqDiff, X.exit.injEq, if_true, if_false, reduceIte, Bool.not_true, Bool.not_false, Bool.false_eq_true, Bool.true_eq_false, true_and, need_of, strR_addD, u8w, atS_txD, slT_hiD, slT_loD, slT_bothD, need_true, need_and, WOf_need, i64w, u64w, at_getD, idxR_slD, idxR_slf, idxF_some, and_true, Nat.zero_add, Nat.mul_one, Nat.add_zero, idxS_one, get_setN, get_setS, get_appL, List.length_set, ↓ibin_shlD, ↓ibin_shrD, bld1_true, plan_buildD, natSucc, h1, h2, tdiv16, tmod16, e1, e2]
        refine ⟨by kernel_rfl, by kernel_rfl, ?_⟩
        refine ⟨s.length - (i + 1), by omega, i + 1, ?_⟩
        refine ⟨by rw [enc_take hi', encB, if_neg hp], rfl, by omega, rfl⟩
      · simp -implicitDefEqProofs -dsimp (disch := (first | omega | (simp only [List.length_set, List.length_append, List.length_cons, List.length_nil]; omega))) only [go_sem, Nat.reduceAdd, Nat.reduceSub, Nat.reduceLT, Nat.reduceLeDiff, Int.reduceToNat, Int.reduceLE, Int.reduceLT, Int.reduceAdd, Int.reduceSub, Int.reduceEq, Int.reduceNe, Int.reduceMul, Nat.reduceMul, Int.reduceNeg, Int.toNat_natCast, Nat.reduceEqDiff, X.exit.injEq, if_true, if_false, reduceIte, Bool.not_true, Bool.not_false, Bool.false_eq_true, Bool.true_eq_false, true_and, need_of, strR_addD, u8w, atS_txD, slT_hiD, slT_loD, slT_bothD, need_true, need_and, WOf_need, i64w, u64w, at_getD, idxR_slD, idxR_slf, idxF_some, and_true, Nat.zero_add, Nat.mul_one, Nat.add_zero, idxS_one, get_setN, get_setS, get_appL, List.length_set, ↓ibin_shlD, ↓ibin_shrD, bld1_true, plan_buildD, natSucc, h1, h2, h5, tdiv16, tmod16, e1, e2]
        refine ⟨by kernel_rfl, by kernel_rfl, ?_⟩
        refine ⟨s.length - (i + 1), by omega, i + 1, ?_⟩
        refine ⟨by rw [enc_take hi', encB, if_neg hp], rfl, by omega, rfl⟩
      · simp -implicitDefEqProofs -dsimp (disch := (first | omega | (simp only [List.length_set, List.length_append, List.length_cons, List.length_nil]; omega))) only [go_sem, Nat.reduceAdd, Nat.reduceSub, Nat.reduceLT, Nat.reduceLeDiff, Int.reduceToNat, Int.reduceLE, Int.reduceLT, Int.reduceAdd, Int.reduceSub, Int.reduceEq, Int.reduceNe, Int.reduceMul, Nat.reduceMul, Int.reduceNeg, Int.toNat_natCast, Nat.reduceEqDiff, X.exit.injEq, if_true, if_false, reduceIte, Bool.not_true, Bool.not_false, Bool.false_eq_true, Bool.true_eq_false, true_and, need_of, strR_addD, u8w, atS_txD, slT_hiD, slT_loD, slT_bothD, need_true, need_and, WOf_need, i64w, u64w, at_getD, idxR_slD, idxR_slf, idxF_some, and_true, Nat.zero_add, Nat.mul_one, Nat.add_zero, idxS_one, get_setN, get_setS, get_appL, List.length_set, ↓ibin_shlD, ↓ibin_shrD, bld1_true, plan_buildD, natSucc, h1, h2, eq_true h5, h6, tdiv16, tmod16, e1, e2]
        refine ⟨by kernel_rfl, by kernel_rfl, ?_⟩
        refine ⟨s.length - (i + 1), by omega, i + 1, ?_⟩
        refine ⟨by rw [enc_take hi', encB, if_neg hp], rfl, by omega, rfl⟩
  · rename_i hlt
    rw [List.take_of_length_le (by omega)]; rfl
end
end Go.Proofs.YtcmjidnbbfcbjaaDoor.V
/- What is in quotes, of the program; no condition. -/
namespace Go.Proofs.YtcmjidnbbfcbjaaDoor.V
open Go
set_option linter.unusedVariables false
set_option linter.unusedSimpArgs false
set_option maxRecDepth 100000
set_option maxHeartbeats 4000000
noncomputable section
variable {en : Env} {m : Mem}
theorem Row.str {m0 m : Mem} {l : List UInt8} {v : AV} (h : Row u8v m0 l v m) {P : Program} {pol : Pol} {e : TypeId} {g : Option Req} {k : Req → AV → Mem → Prop} (he : P.underlying e = some (.int .u8)) (hk : ∀ r, k r (tx l) m) : WOf P pol en (convR P (some (kv v)) (some (.slice e)) (some .string) g) m k := by
  unfold kv
  rcases h with ⟨rfl, rfl, rfl⟩ | ⟨ver, rfl, rfl⟩
  · rw [convR_ofN, he]; exact hk _
  · rw [convR_ofO, he]
    show WOf P pol en (some (.bstr m0.length ver 0 l.length)) _ _
    rw [WOf_bstr, getM0, List.getElem?_cons_zero, cellsQ_some]
    refine ⟨rfl, by simp, l, ?_, hk _⟩
    rw [List.drop_zero, List.take_of_length_le (by simp)]
    exact bytesOf_u8L l
theorem pre_one {a : UInt8} {s : List UInt8} (h : isPre [a] s = true) : ∃ t, s = a :: t := by
  simp only [isPre, decide_eq_true_eq] at h
  cases s with
  | nil => simp at h
  | cons b t => simp at h; exact ⟨t, by rw [h]⟩
theorem suf_one {a : UInt8} {s : List UInt8} (h : isSuf [a] s = true) : ∃ t, s = t ++ [a] := by
  simp only [isSuf, decide_eq_true_eq] at h
  exact ⟨s.take (s.length - 1), by rw [← h]; exact (List.take_append_drop _ _).symm⟩
/-- What is in quotes. -/
def unqL (s : List UInt8) : Option (List UInt8) := if isPre [34] s = true ∧ isSuf [34] (s.drop 1) = true then decL (s.drop 1).dropLast else none
theorem unqL_some (u : List UInt8) : unqL (34 :: (u ++ [34])) = decL u := by
  unfold unqL
  rw [if_pos ⟨by simp [isPre], by simp [isSuf]⟩]
  simp
def ansO (o : Option (List UInt8)) : AV := match o with | some l => .tup [tx l, I 0] | none => .tup [tx [], I 3]
theorem enc_ge (l : List UInt8) : l.length ≤ (qencL l).length := by
  induction l with
  | nil => simp
  | cons c out ih =>
    show _ ≤ (encB c ++ qencL out).length
    have : 0 < (encB c).length := by unfold encB; split <;> simp
    simp only [List.length_append, List.length_cons]; omega
theorem dec_len {l out : List UInt8} (h : decL l = some out) : out.length ≤ l.length := by
  obtain ⟨_, h2⟩ := dec_lax _ (Nat.le_refl _) h
  rw [← h2]; exact enc_ge out
/-- The rest, once a part is read. -/
def decR (l : List UInt8) (i : Nat) (out : List UInt8) : Option (List UInt8) := (decL (l.drop i)).map (out ++ ·)
theorem valN_some {a : UInt8} {x : Nat} (h : valB a = some x) : valN a.toNat = .tup [.sc (.int .u8 (x : Int)), .sc (.bool true)] := by
  unfold valB at h; unfold valN
  split at h
  · rename_i hc; cases h; rw [if_pos hc]
  · rename_i hc
    split at h
    · rename_i hc2; cases h; rw [if_neg hc, if_pos hc2]
    · cases h
theorem valN_none {a : UInt8} (h : valB a = none) : valN a.toNat = .tup [.sc (.int .u8 0), .sc (.bool false)] := by
  unfold valB at h; unfold valN
  split at h
  · cases h
  · rename_i hc
    split at h
    · cases h
    · rename_i hc2; rw [if_neg hc, if_neg hc2]
theorem hexOr : ∀ x < 16, ∀ y < 16, orK .u8 (shlK .u8 ((x : Nat) : Int) 4) ((y : Nat) : Int) = ((x * 16 + y : Nat) : Int) := by decide
theorem unquote_ok (s : List UInt8) (hs : s.length ≤ 1000000000) (hf : Fits en m.length) : WC Tryd.prog pol en (.func 16) [tx s] m fun v m' => v = ansO (unqL s) ∧ m' = m := by
  refine callPur Tryd.func16 rfl rfl Tryd.ntmps16 Tryd.results16 ?_
  have hf' : Fits (en' en m) m.length := hf.pur
  have hb' : (en' en m).bar ≤ m.length := Nat.le_refl _
  simp -implicitDefEqProofs -dsimp (disch := (first | omega | (simp only [List.length_set, List.length_append, List.length_cons, List.length_nil]; omega))) only [go_sem, Nat.reduceAdd, Nat.reduceSub, Nat.reduceLT, Nat.reduceLeDiff, Int.reduceToNat, Int.reduceLE, Int.reduceLT, Int.reduceAdd, Int.reduceSub, Int.reduceEq, Int.reduceNe, Int.reduceMul, Nat.reduceMul, Int.reduceNeg, Int.toNat_natCast, Nat.reduceEqDiff, X.exit.injEq, if_true, if_false, reduceIte, Bool.not_true, Bool.not_false, Bool.false_eq_true, Bool.true_eq_false, true_and, need_of, strR_addD, u8w, atS_txD, slT_hiD, slT_loD, slT_bothD, need_true, need_and, WOf_need, i64w, u64w, at_getD, idxR_slD, idxR_slf, idxF_some, and_true, Nat.zero_add, Nat.mul_one, Nat.add_zero, idxS_one, get_setN, get_setS, get_appL, List.length_set, ↓ibin_shlD, ↓ibin_shrD, bld1_true, plan_buildD, natSucc, ]
  refine (cutPrefix_ok s [34] (by omega) (by simp)).eq ?_
  by_cases hp : isPre [34] s = true
  · obtain ⟨t, rfl⟩ := pre_one hp
    simp -implicitDefEqProofs -dsimp (disch := (first | omega | (simp only [List.length_set, List.length_append, List.length_cons, List.length_nil]; omega))) only [go_sem, Nat.reduceAdd, Nat.reduceSub, Nat.reduceLT, Nat.reduceLeDiff, Int.reduceToNat, Int.reduceLE, Int.reduceLT, Int.reduceAdd, Int.reduceSub, Int.reduceEq, Int.reduceNe, Int.reduceMul, Nat.reduceMul, Int.reduceNeg, Int.toNat_natCast, Nat.reduceEqDiff, X.exit.injEq, if_true, if_false, reduceIte, Bool.not_true, Bool.not_false, Bool.false_eq_true, Bool.true_eq_false, true_and, need_of, strR_addD, u8w, atS_txD, slT_hiD, slT_loD, slT_bothD, need_true, need_and, WOf_need, i64w, u64w, at_getD, idxR_slD, idxR_slf, idxF_some, and_true, Nat.zero_add, Nat.mul_one, Nat.add_zero, idxS_one, get_setN, get_setS, get_appL, List.length_set, ↓ibin_shlD, ↓ibin_shrD, bld1_true, plan_buildD, natSucc, hp]
    simp only [List.length_cons] at hs
    refine (hasSuffix_ok t [34] (by omega) (by simp)).eq ?_
    by_cases hq : isSuf [34] t = true
    · obtain ⟨u, rfl⟩ := suf_one hq
      rw [unqL_some]
      simp only [List.length_append, List.length_cons, List.length_nil] at hs
      have htk : (u ++ [34]).take (((u.length + 1 : Nat) : Int) - 1).toNat = u := by
        rw [show (((u.length + 1 : Nat) : Int) - 1).toNat = u.length by omega]; simp
      simp -implicitDefEqProofs -dsimp (disch := (first | omega | (simp only [List.length_set, List.length_append, List.length_cons, List.length_nil]; omega))) only [go_sem, Nat.reduceAdd, Nat.reduceSub, Nat.reduceLT, Nat.reduceLeDiff, Int.reduceToNat, Int.reduceLE, Int.reduceLT, Int.reduceAdd, Int.reduceSub, Int.reduceEq, Int.reduceNe, Int.reduceMul, Nat.reduceMul, Int.reduceNeg, Int.toNat_natCast, Nat.reduceEqDiff, X.exit.injEq, if_true, if_false, reduceIte, Bool.not_true, Bool.not_false, Bool.false_eq_true, Bool.true_eq_false, true_and, need_of, strR_addD, u8w, atS_txD, slT_hiD, slT_loD, slT_bothD, need_true, need_and, WOf_need, i64w, u64w, at_getD, idxR_slD, idxR_slf, idxF_some, and_true, Nat.zero_add, Nat.mul_one, Nat.add_zero, idxS_one, get_setN, get_setS, get_appL, List.length_set, ↓ibin_shlD, ↓ibin_shrD, bld1_true, plan_buildD, natSucc, hq, htk]
      refine ⟨rfl, ?_⟩
      refine loopF (fun k ts m' => ∃ (i : Nat) (v : AV) (out : List UInt8), ts.length = 90 ∧ tg ts 4 = tx u ∧ tg ts 6 = kv v ∧ tg ts 7 = I i ∧ i ≤ u.length ∧ Row u8v m out v m' ∧ out.length ≤ i ∧ decR u i out = decL u ∧ k = u.length - i) u.length ⟨0, .own m.length tU 0 0 1, [], rfl, rfl, rfl, rfl, by omega, Or.inr ⟨tU, rfl, rfl⟩, by simp, by simp [decR], by omega⟩ ?_
      rintro k ts m' ⟨i, v, out, hl, h4, h6, h7, hi, hr, ho, hd, hk⟩
      rw [expandT hl]
      simp -implicitDefEqProofs -dsimp (disch := (first | omega | (simp only [List.length_set, List.length_append, List.length_cons, List.length_nil]; omega))) only [go_sem, Nat.reduceAdd, Nat.reduceSub, Nat.reduceLT, Nat.reduceLeDiff, Int.reduceToNat, Int.reduceLE, Int.reduceLT, Int.reduceAdd, Int.reduceSub, Int.reduceEq, Int.reduceNe, Int.reduceMul, Nat.reduceMul, Int.reduceNeg, Int.toNat_natCast, Nat.reduceEqDiff, X.exit.injEq, if_true, if_false, reduceIte, Bool.not_true, Bool.not_false, Bool.false_eq_true, Bool.true_eq_false, true_and, need_of, strR_addD, u8w, atS_txD, slT_hiD, slT_loD, slT_bothD, need_true, need_and, WOf_need, i64w, u64w, at_getD, idxR_slD, idxR_slf, idxF_some, and_true, Nat.zero_add, Nat.mul_one, Nat.add_zero, idxS_one, get_setN, get_setS, get_appL, List.length_set, ↓ibin_shlD, ↓ibin_shrD, bld1_true, plan_buildD, natSucc, h4, h6, h7]
      split
      · rename_i hlt
        have hi' : i < u.length := by omega
        have hdr : u.drop i = u[i] :: u.drop (i + 1) := List.drop_eq_getElem_cons hi'
        have hlt8 := u[i].toNat_lt
        have hwr : IntKind.i64.wrap ((i : Int) + 1) = ((i + 1 : Nat) : Int) := IntWalk.i64_in _ (by omega)
        by_cases hc : u[i] = 37
        · have hcn : (u[i].toNat : Int) = 37 := by rw [hc]; rfl
          simp -implicitDefEqProofs -dsimp (disch := (first | omega | (simp only [List.length_set, List.length_append, List.length_cons, List.length_nil]; omega))) only [go_sem, Nat.reduceAdd, Nat.reduceSub, Nat.reduceLT, Nat.reduceLeDiff, Int.reduceToNat, Int.reduceLE, Int.reduceLT, Int.reduceAdd, Int.reduceSub, Int.reduceEq, Int.reduceNe, Int.reduceMul, Nat.reduceMul, Int.reduceNeg, Int.toNat_natCast, Nat.reduceEqDiff, X.exit.injEq, if_true, if_false, reduceIte, Bool.not_true, Bool.not_false, Bool.false_eq_true, Bool.true_eq_false, true_and, need_of, strR_addD, u8w, atS_txD, slT_hiD, slT_loD, slT_bothD, need_true, need_and, WOf_need, i64w, u64w, at_getD, idxR_slD, idxR_slf, idxF_some, and_true, Nat.zero_add, Nat.mul_one, Nat.add_zero, idxS_one, get_setN, get_setS, get_appL, List.length_set, ↓ibin_shlD, ↓ibin_shrD, bld1_true, plan_buildD, natSucc, hcn]
          by_cases h3 : (u.length : Int) - (i : Int) < 3
          · simp -implicitDefEqProofs -dsimp (disch := (first | omega | (simp only [List.length_set, List.length_append, List.length_cons, List.length_nil]; omega))) only [go_sem, Nat.reduceAdd, Nat.reduceSub, Nat.reduceLT, Nat.reduceLeDiff, Int.reduceToNat, Int.reduceLE, Int.reduceLT, Int.reduceAdd, Int.reduceSub, Int.reduceEq, Int.reduceNe, Int.reduceMul, Nat.reduceMul, Int.reduceNeg, Int.toNat_natCast, Nat.reduceEqDiff, X.exit.injEq, if_true, if_false, reduceIte, Bool.not_true, Bool.not_false, Bool.false_eq_true, Bool.true_eq_false, true_and, need_of, strR_addD, u8w, atS_txD, slT_hiD, slT_loD, slT_bothD, need_true, need_and, WOf_need, i64w, u64w, at_getD, idxR_slD, idxR_slf, idxF_some, and_true, Nat.zero_add, Nat.mul_one, Nat.add_zero, idxS_one, get_setN, get_setS, get_appL, List.length_set, ↓ibin_shlD, ↓ibin_shrD, bld1_true, plan_buildD, natSucc, h3]
            have : decL u = none := by
              rw [← hd, decR, hdr, hc]
              cases hq1 : u.drop (i + 1) with
              | nil => rw [dec_0]; rfl
              | cons a l => cases l with
                | nil => rw [dec_1]; rfl
                | cons b l => have := congrArg List.length hq1; simp at this; omega
            rw [this]; rfl
          · have hi1 : i + 1 < u.length := by omega
            have hi2 : i + 2 < u.length := by omega
            have hdr2 : u.drop i = 37 :: u[i + 1] :: u[i + 2] :: u.drop (i + 3) := by
              rw [hdr, hc, List.drop_eq_getElem_cons hi1, List.drop_eq_getElem_cons hi2]
            simp -implicitDefEqProofs -dsimp (disch := (first | omega | (simp only [List.length_set, List.length_append, List.length_cons, List.length_nil]; omega))) only [go_sem, Nat.reduceAdd, Nat.reduceSub, Nat.reduceLT, Nat.reduceLeDiff, Int.reduceToNat, Int.reduceLE, Int.reduceLT, Int.reduceAdd, Int.reduceSub, Int.reduceEq, Int.reduceNe, Int.reduceMul, Nat.reduceMul, Int.reduceNeg, Int.toNat_natCast, Nat.reduceEqDiff, X.exit.injEq, if_true, if_false, reduceIte, Bool.not_true, Bool.not_false, Bool.false_eq_true, Bool.true_eq_false, true_and, need_of, strR_addD, u8w, atS_txD, slT_hiD, slT_loD, slT_bothD, need_true, need_and, WOf_need, i64w, u64w, at_getD, idxR_slD, idxR_slf, idxF_some, and_true, Nat.zero_add, Nat.mul_one, Nat.add_zero, idxS_one, get_setN, get_setS, get_appL, List.length_set, ↓ibin_shlD, ↓ibin_shrD, bld1_true, plan_buildD, natSucc, h3, hwr]
            refine (value_ok u[i + 1]).eq ?_
            have hnone : (valB u[i + 1] = none ∨ valB u[i + 2] = none) → decL u = none := by
              intro h
              rw [← hd, decR, hdr2, dec_h]
              rcases h with h | h <;> rw [h]
              · rfl
              · cases valB u[i + 1] <;> rfl
            cases hx : valB u[i + 1] with
            | none =>
              rw [valN_none hx]
              simp -implicitDefEqProofs -dsimp (disch := (first | omega | (simp only [List.length_set, List.length_append, List.length_cons, List.length_nil]; omega))) only [go_sem, Nat.reduceAdd, Nat.reduceSub, Nat.reduceLT, Nat.reduceLeDiff, Int.reduceToNat, Int.reduceLE, Int.reduceLT, Int.reduceAdd, Int.reduceSub, Int.reduceEq, Int.reduceNe, Int.reduceMul, Nat.reduceMul, Int.reduceNeg, Int.toNat_natCast, Nat.reduceEqDiff, X.exit.injEq, if_true, if_false, reduceIte, Bool.not_true, Bool.not_false, Bool.false_eq_true, Bool.true_eq_false, true_and, need_of, strR_addD, u8w, atS_txD, slT_hiD, slT_loD, slT_bothD, need_true, need_and, WOf_need, i64w, u64w, at_getD, idxR_slD, idxR_slf, idxF_some, and_true, Nat.zero_add, Nat.mul_one, Nat.add_zero, idxS_one, get_setN, get_setS, get_appL, List.length_set, ↓ibin_shlD, ↓ibin_shrD, bld1_true, plan_buildD, natSucc, hwr]
              refine (value_ok u[i + 2]).eq ?_
              cases hy : valB u[i + 2] with
              | none =>
                rw [valN_none hy]
                simp -implicitDefEqProofs -dsimp (disch := (first | omega | (simp only [List.length_set, List.length_append, List.length_cons, List.length_nil]; omega))) only [go_sem, Nat.reduceAdd, Nat.reduceSub, Nat.reduceLT, Nat.reduceLeDiff, Int.reduceToNat, Int.reduceLE, Int.reduceLT, Int.reduceAdd, Int.reduceSub, Int.reduceEq, Int.reduceNe, Int.reduceMul, Nat.reduceMul, Int.reduceNeg, Int.toNat_natCast, Nat.reduceEqDiff, X.exit.injEq, if_true, if_false, reduceIte, Bool.not_true, Bool.not_false, Bool.false_eq_true, Bool.true_eq_false, true_and, need_of, strR_addD, u8w, atS_txD, slT_hiD, slT_loD, slT_bothD, need_true, need_and, WOf_need, i64w, u64w, at_getD, idxR_slD, idxR_slf, idxF_some, and_true, Nat.zero_add, Nat.mul_one, Nat.add_zero, idxS_one, get_setN, get_setS, get_appL, List.length_set, ↓ibin_shlD, ↓ibin_shrD, bld1_true, plan_buildD, natSucc, ]
                rw [hnone (.inl hx)]; rfl
              | some y =>
                rw [valN_some hy]
                simp -implicitDefEqProofs -dsimp (disch := (first | omega | (simp only [List.length_set, List.length_append, List.length_cons, List.length_nil]; omega))) only [go_sem, Nat.reduceAdd, Nat.reduceSub, Nat.reduceLT, Nat.reduceLeDiff, Int.reduceToNat, Int.reduceLE, Int.reduceLT, Int.reduceAdd, Int.reduceSub, Int.reduceEq, Int.reduceNe, Int.reduceMul, Nat.reduceMul, Int.reduceNeg, Int.toNat_natCast, Nat.reduceEqDiff, X.exit.injEq, if_true, if_false, reduceIte, Bool.not_true, Bool.not_false, Bool.false_eq_true, Bool.true_eq_false, true_and, need_of, strR_addD, u8w, atS_txD, slT_hiD, slT_loD, slT_bothD, need_true, need_and, WOf_need, i64w, u64w, at_getD, idxR_slD, idxR_slf, idxF_some, and_true, Nat.zero_add, Nat.mul_one, Nat.add_zero, idxS_one, get_setN, get_setS, get_appL, List.length_set, ↓ibin_shlD, ↓ibin_shrD, bld1_true, plan_buildD, natSucc, ]
                rw [hnone (.inl hx)]; rfl
            | some x =>
              rw [valN_some hx]
              simp -implicitDefEqProofs -dsimp (disch := (first | omega | (simp only [List.length_set, List.length_append, List.length_cons, List.length_nil]; omega))) only [go_sem, Nat.reduceAdd, Nat.reduceSub, Nat.reduceLT, Nat.reduceLeDiff, Int.reduceToNat, Int.reduceLE, Int.reduceLT, Int.reduceAdd, Int.reduceSub, Int.reduceEq, Int.reduceNe, Int.reduceMul, Nat.reduceMul, Int.reduceNeg, Int.toNat_natCast, Nat.reduceEqDiff, X.exit.injEq, if_true, if_false, reduceIte, Bool.not_true, Bool.not_false, Bool.false_eq_true, Bool.true_eq_false, true_and, need_of, strR_addD, u8w, atS_txD, slT_hiD, slT_loD, slT_bothD, need_true, need_and, WOf_need, i64w, u64w, at_getD, idxR_slD, idxR_slf, idxF_some, and_true, Nat.zero_add, Nat.mul_one, Nat.add_zero, idxS_one, get_setN, get_setS, get_appL, List.length_set, ↓ibin_shlD, ↓ibin_shrD, bld1_true, plan_buildD, natSucc, hwr]
              refine (value_ok u[i + 2]).eq ?_
              cases hy : valB u[i + 2] with
              | none =>
                rw [valN_none hy]
                simp -implicitDefEqProofs -dsimp (disch := (first | omega | (simp only [List.length_set, List.length_append, List.length_cons, List.length_nil]; omega))) only [go_sem, Nat.reduceAdd, Nat.reduceSub, Nat.reduceLT, Nat.reduceLeDiff, Int.reduceToNat, Int.reduceLE, Int.reduceLT, Int.reduceAdd, Int.reduceSub, Int.reduceEq, Int.reduceNe, Int.reduceMul, Nat.reduceMul, Int.reduceNeg, Int.toNat_natCast, Nat.reduceEqDiff, X.exit.injEq, if_true, if_false, reduceIte, Bool.not_true, Bool.not_false, Bool.false_eq_true, Bool.true_eq_false, true_and, need_of, strR_addD, u8w, atS_txD, slT_hiD, slT_loD, slT_bothD, need_true, need_and, WOf_need, i64w, u64w, at_getD, idxR_slD, idxR_slf, idxF_some, and_true, Nat.zero_add, Nat.mul_one, Nat.add_zero, idxS_one, get_setN, get_setS, get_appL, List.length_set, ↓ibin_shlD, ↓ibin_shrD, bld1_true, plan_buildD, natSucc, ]
                rw [hnone (.inr hy)]; rfl
              | some y =>
                rw [valN_some hy]
                have hx16 := (valB_lt hx).1
                have hy16 := (valB_lt hy).1
                have hxy : ((x * 16 + y : Nat) : Int) = ((UInt8.ofNat (x * 16 + y)).toNat : Int) := by rw [ofNat_u8 (by omega)]
                simp -implicitDefEqProofs -dsimp (disch := (first | omega | (simp only [List.length_set, List.length_append, List.length_cons, List.length_nil]; omega))) only [go_sem, Nat.reduceAdd, Nat.reduceSub, Nat.reduceLT, Nat.reduceLeDiff, Int.reduceToNat, Int.reduceLE, Int.reduceLT, Int.reduceAdd, Int.reduceSub, Int.reduceEq, Int.reduceNe, Int.reduceMul, Nat.reduceMul, Int.reduceNeg, Int.toNat_natCast, Nat.reduceEqDiff, X.exit.injEq, if_true, if_false, reduceIte, Bool.not_true, Bool.not_false, Bool.false_eq_true, Bool.true_eq_false, true_and, need_of, strR_addD, u8w, atS_txD, slT_hiD, slT_loD, slT_bothD, need_true, need_and, WOf_need, i64w, u64w, at_getD, idxR_slD, idxR_slf, idxF_some, and_true, Nat.zero_add, Nat.mul_one, Nat.add_zero, idxS_one, get_setN, get_setS, get_appL, List.length_set, ↓ibin_shlD, ↓ibin_shrD, bld1_true, plan_buildD, natSucc, hexOr x hx16 y hy16, hxy]
                refine (plain_ok (UInt8.ofNat (x * 16 + y))).eq ?_
                by_cases hp2 : plainB (UInt8.ofNat (x * 16 + y)) = true
                · simp -implicitDefEqProofs -dsimp (disch := (first | omega | (simp only [List.length_set, List.length_append, List.length_cons, List.length_nil]; omega))) only [go_sem, Nat.reduceAdd, Nat.reduceSub, Nat.reduceLT, Nat.reduceLeDiff, Int.reduceToNat, Int.reduceLE, Int.reduceLT, Int.reduceAdd, Int.reduceSub, Int.reduceEq, Int.reduceNe, Int.reduceMul, Nat.reduceMul, Int.reduceNeg, Int.toNat_natCast, Nat.reduceEqDiff, X.exit.injEq, if_true, if_false, reduceIte, Bool.not_true, Bool.not_false, Bool.false_eq_true, Bool.true_eq_false, true_and, need_of, strR_addD, u8w, atS_txD, slT_hiD, slT_loD, slT_bothD, need_true, need_and, WOf_need, i64w, u64w, at_getD, idxR_slD, idxR_slf, idxF_some, and_true, Nat.zero_add, Nat.mul_one, Nat.add_zero, idxS_one, get_setN, get_setS, get_appL, List.length_set, ↓ibin_shlD, ↓ibin_shrD, bld1_true, plan_buildD, natSucc, hp2]
                  have : decL u = none := by rw [← hd, decR, hdr2, dec_h, hx, hy]; simp only; rw [if_pos hp2]; rfl
                  rw [this]; rfl
                · simp -implicitDefEqProofs -dsimp (disch := (first | omega | (simp only [List.length_set, List.length_append, List.length_cons, List.length_nil]; omega))) only [go_sem, Nat.reduceAdd, Nat.reduceSub, Nat.reduceLT, Nat.reduceLeDiff, Int.reduceToNat, Int.reduceLE, Int.reduceLT, Int.reduceAdd, Int.reduceSub, Int.reduceEq, Int.reduceNe, Int.reduceMul, Nat.reduceMul, Int.reduceNeg, Int.toNat_natCast, Nat.reduceEqDiff, X.exit.injEq, if_true, if_false, reduceIte, Bool.not_true, Bool.not_false, Bool.false_eq_true, Bool.true_eq_false, true_and, need_of, strR_addD, u8w, atS_txD, slT_hiD, slT_loD, slT_bothD, need_true, need_and, WOf_need, i64w, u64w, at_getD, idxR_slD, idxR_slf, idxF_some, and_true, Nat.zero_add, Nat.mul_one, Nat.add_zero, idxS_one, get_setN, get_setS, get_appL, List.length_set, ↓ibin_shlD, ↓ibin_shrD, bld1_true, plan_buildD, natSucc, hp2]
                  refine hr.app (UInt8.ofNat (x * 16 + y)) hf' hb' (by omega) fun r v' m2 hr2 => ?_
                  have hw3 : IntKind.i64.wrap ((i : Int) + 2 + 1) = ((i + 3 : Nat) : Int) := IntWalk.i64_in _ (by omega)
                  simp -implicitDefEqProofs -dsimp (disch := (first | omega | (simp only [List.length_set, List.length_append, List.length_cons, List.length_nil]; omega))) only [go_sem, Nat.reduceAdd, Nat.reduceSub, Nat.reduceLT, Nat.reduceLeDiff, Int.reduceToNat, Int.reduceLE, Int.reduceLT, Int.reduceAdd, Int.reduceSub, Int.reduceEq, Int.reduceNe, Int.reduceMul, Nat.reduceMul, Int.reduceNeg, Int.toNat_natCast, Nat.reduceEqDiff, X.exit.injEq, if_true, if_false, reduceIte, Bool.not_true, Bool.not_false, Bool.false_eq_true, Bool.true_eq_false, true_and, need_of, strR_addD, u8w, atS_txD, slT_hiD, slT_loD, slT_bothD, need_true, need_and, WOf_need, i64w, u64w, at_getD, idxR_slD, idxR_slf, idxF_some, and_true, Nat.zero_add, Nat.mul_one, Nat.add_zero, idxS_one, get_setN, get_setS, get_appL, List.length_set, ↓ibin_shlD, ↓ibin_shrD, bld1_true, plan_buildD, natSucc, hw3]
                  refine ⟨u.length - (i + 3), by omega, i + 3, v', out ++ [UInt8.ofNat (x * 16 + y)], ?_⟩
                  refine ⟨rfl, rfl, by omega, hr2, by simp; omega, ?_, rfl⟩
                  rw [← hd, decR, decR, hdr2, dec_h, hx, hy]
                  simp only
                  rw [if_neg hp2]
                  cases decL (u.drop (i + 3)) <;> simp
        · have hcn : ¬ ((u[i].toNat : Int) = 37) := fun h => hc (UInt8.toNat.inj (by show u[i].toNat = 37; omega))
          simp -implicitDefEqProofs -dsimp (disch := (first | omega | (simp only [List.length_set, List.length_append, List.length_cons, List.length_nil]; omega))) only [go_sem, Nat.reduceAdd, Nat.reduceSub, Nat.reduceLT, Nat.reduceLeDiff, Int.reduceToNat, Int.reduceLE, Int.reduceLT, Int.reduceAdd, Int.reduceSub, Int.reduceEq, Int.reduceNe, Int.reduceMul, Nat.reduceMul, Int.reduceNeg, Int.toNat_natCast, Nat.reduceEqDiff, X.exit.injEq, if_true, if_false, reduceIte, Bool.not_true, Bool.not_false, Bool.false_eq_true, Bool.true_eq_false, true_and, need_of, strR_addD, u8w, atS_txD, slT_hiD, slT_loD, slT_bothD, need_true, need_and, WOf_need, i64w, u64w, at_getD, idxR_slD, idxR_slf, idxF_some, and_true, Nat.zero_add, Nat.mul_one, Nat.add_zero, idxS_one, get_setN, get_setS, get_appL, List.length_set, ↓ibin_shlD, ↓ibin_shrD, bld1_true, plan_buildD, natSucc, hcn]
          refine (plain_ok u[i]).eq ?_
          by_cases hp2 : plainB u[i] = true
          · simp -implicitDefEqProofs -dsimp (disch := (first | omega | (simp only [List.length_set, List.length_append, List.length_cons, List.length_nil]; omega))) only [go_sem, Nat.reduceAdd, Nat.reduceSub, Nat.reduceLT, Nat.reduceLeDiff, Int.reduceToNat, Int.reduceLE, Int.reduceLT, Int.reduceAdd, Int.reduceSub, Int.reduceEq, Int.reduceNe, Int.reduceMul, Nat.reduceMul, Int.reduceNeg, Int.toNat_natCast, Nat.reduceEqDiff, X.exit.injEq, if_true, if_false, reduceIte, Bool.not_true, Bool.not_false, Bool.false_eq_true, Bool.true_eq_false, true_and, need_of, strR_addD, u8w, atS_txD, slT_hiD, slT_loD, slT_bothD, need_true, need_and, WOf_need, i64w, u64w, at_getD, idxR_slD, idxR_slf, idxF_some, and_true, Nat.zero_add, Nat.mul_one, Nat.add_zero, idxS_one, get_setN, get_setS, get_appL, List.length_set, ↓ibin_shlD, ↓ibin_shrD, bld1_true, plan_buildD, natSucc, hp2]
            refine hr.app u[i] hf' hb' (by omega) fun r v' m2 hr2 => ?_
            simp -implicitDefEqProofs -dsimp (disch := (first | omega | (simp only [List.length_set, List.length_append, List.length_cons, List.length_nil]; omega))) only [go_sem, Nat.reduceAdd, Nat.reduceSub, Nat.reduceLT, Nat.reduceLeDiff, Int.reduceToNat, Int.reduceLE, Int.reduceLT, Int.reduceAdd, Int.reduceSub, Int.reduceEq, Int.reduceNe, Int.reduceMul, Nat.reduceMul, Int.reduceNeg, Int.toNat_natCast, Nat.reduceEqDiff, X.exit.injEq, if_true, if_false, reduceIte, Bool.not_true, Bool.not_false, Bool.false_eq_true, Bool.true_eq_false, true_and, need_of, strR_addD, u8w, atS_txD, slT_hiD, slT_loD, slT_bothD, need_true, need_and, WOf_need, i64w, u64w, at_getD, idxR_slD, idxR_slf, idxF_some, and_true, Nat.zero_add, Nat.mul_one, Nat.add_zero, idxS_one, get_setN, get_setS, get_appL, List.length_set, ↓ibin_shlD, ↓ibin_shrD, bld1_true, plan_buildD, natSucc, ]
            refine ⟨u.length - (i + 1), by omega, i + 1, v', out ++ [u[i]], ?_⟩
            refine ⟨rfl, rfl, by omega, hr2, by simp; omega, ?_, rfl⟩
            rw [← hd, decR, decR, hdr, dec_c hc, if_pos hp2]
            cases decL (u.drop (i + 1)) <;> simp
          · simp -implicitDefEqProofs -dsimp (disch := (first | omega | (simp only [List.length_set, List.length_append, List.length_cons, List.length_nil]; omega))) only [go_sem, Nat.reduceAdd, Nat.reduceSub, Nat.reduceLT, Nat.reduceLeDiff, Int.reduceToNat, Int.reduceLE, Int.reduceLT, Int.reduceAdd, Int.reduceSub, Int.reduceEq, Int.reduceNe, Int.reduceMul, Nat.reduceMul, Int.reduceNeg, Int.toNat_natCast, Nat.reduceEqDiff, X.exit.injEq, if_true, if_false, reduceIte, Bool.not_true, Bool.not_false, Bool.false_eq_true, Bool.true_eq_false, true_and, need_of, strR_addD, u8w, atS_txD, slT_hiD, slT_loD, slT_bothD, need_true, need_and, WOf_need, i64w, u64w, at_getD, idxR_slD, idxR_slf, idxF_some, and_true, Nat.zero_add, Nat.mul_one, Nat.add_zero, idxS_one, get_setN, get_setS, get_appL, List.length_set, ↓ibin_shlD, ↓ibin_shrD, bld1_true, plan_buildD, natSucc, hp2]
            have : decL u = none := by rw [← hd, decR, hdr, dec_c hc, if_neg hp2]; rfl
            rw [this]; rfl
      · rename_i hlt
        refine hr.str Tryd.underlying5 fun r => ?_
        simp -implicitDefEqProofs -dsimp (disch := (first | omega | (simp only [List.length_set, List.length_append, List.length_cons, List.length_nil]; omega))) only [go_sem, Nat.reduceAdd, Nat.reduceSub, Nat.reduceLT, Nat.reduceLeDiff, Int.reduceToNat, Int.reduceLE, Int.reduceLT, Int.reduceAdd, Int.reduceSub, Int.reduceEq, Int.reduceNe, Int.reduceMul, Nat.reduceMul, Int.reduceNeg, Int.toNat_natCast, Nat.reduceEqDiff, X.exit.injEq, if_true, if_false, reduceIte, Bool.not_true, Bool.not_false, Bool.false_eq_true, Bool.true_eq_false, true_and, need_of, strR_addD, u8w, atS_txD, slT_hiD, slT_loD, slT_bothD, need_true, need_and, WOf_need, i64w, u64w, at_getD, idxR_slD, idxR_slf, idxF_some, and_true, Nat.zero_add, Nat.mul_one, Nat.add_zero, idxS_one, get_setN, get_setS, get_appL, List.length_set, ↓ibin_shlD, ↓ibin_shrD, bld1_true, plan_buildD, natSucc, ]
        have : decL u = some out := by rw [← hd, decR, List.drop_eq_nil_of_le (by omega)]; simp [decL]
        rw [this]; rfl
    · have : unqL (34 :: t) = none := by unfold unqL; rw [if_neg (fun h => hq h.2)]
      rw [this]
      simp -implicitDefEqProofs -dsimp (disch := (first | omega | (simp only [List.length_set, List.length_append, List.length_cons, List.length_nil]; omega))) only [go_sem, Nat.reduceAdd, Nat.reduceSub, Nat.reduceLT, Nat.reduceLeDiff, Int.reduceToNat, Int.reduceLE, Int.reduceLT, Int.reduceAdd, Int.reduceSub, Int.reduceEq, Int.reduceNe, Int.reduceMul, Nat.reduceMul, Int.reduceNeg, Int.toNat_natCast, Nat.reduceEqDiff, X.exit.injEq, if_true, if_false, reduceIte, Bool.not_true, Bool.not_false, Bool.false_eq_true, Bool.true_eq_false, true_and, need_of, strR_addD, u8w, atS_txD, slT_hiD, slT_loD, slT_bothD, need_true, need_and, WOf_need, i64w, u64w, at_getD, idxR_slD, idxR_slf, idxF_some, and_true, Nat.zero_add, Nat.mul_one, Nat.add_zero, idxS_one, get_setN, get_setS, get_appL, List.length_set, ↓ibin_shlD, ↓ibin_shrD, bld1_true, plan_buildD, natSucc, hq]
      rfl
  · have : unqL s = none := by unfold unqL; rw [if_neg (fun h => hp h.1)]
    rw [this]
    simp -implicitDefEqProofs -dsimp (disch := (first | omega | (simp only [List.length_set, List.length_append, List.length_cons, List.length_nil]; omega))) only [go_sem, Nat.reduceAdd, Nat.reduceSub, Nat.reduceLT, Nat.reduceLeDiff, Int.reduceToNat, Int.reduceLE, Int.reduceLT, Int.reduceAdd, Int.reduceSub, Int.reduceEq, Int.reduceNe, Int.reduceMul, Nat.reduceMul, Int.reduceNeg, Int.toNat_natCast, Nat.reduceEqDiff, X.exit.injEq, if_true, if_false, reduceIte, Bool.not_true, Bool.not_false, Bool.false_eq_true, Bool.true_eq_false, true_and, need_of, strR_addD, u8w, atS_txD, slT_hiD, slT_loD, slT_bothD, need_true, need_and, WOf_need, i64w, u64w, at_getD, idxR_slD, idxR_slf, idxF_some, and_true, Nat.zero_add, Nat.mul_one, Nat.add_zero, idxS_one, get_setN, get_setS, get_appL, List.length_set, ↓ibin_shlD, ↓ibin_shrD, bld1_true, plan_buildD, natSucc, hp]
    rfl
end
end Go.Proofs.YtcmjidnbbfcbjaaDoor.V
/- What is in quotes, of the reference; no condition. -/
namespace Go.Proofs.YtcmjidnbbfcbjaaDoor.V
open Go
set_option linter.unusedVariables false
set_option linter.unusedSimpArgs false
set_option maxRecDepth 100000
set_option maxHeartbeats 4000000
noncomputable section
variable {en : Env} {m : Mem}
def laxR (l : List UInt8) (i : Nat) (out : List UInt8) : Option (List UInt8) := (laxL (l.drop i)).map (out ++ ·)
theorem lax_len : ∀ (n : Nat) {l out : List UInt8}, l.length ≤ n → laxL l = some out → out.length ≤ l.length
  | _, [], out, _, h => by simp only [laxL, Option.some.injEq] at h; subst h; simp
  | 0, c :: l, out, hn, h => by simp at hn
  | n + 1, c :: l, out, hn, h => by
    by_cases hc : c = 37
    · subst hc
      match l, h, hn with
      | [], h, _ => rw [lax_0] at h; cases h
      | [a], h, _ => rw [lax_1] at h; cases h
      | a :: b :: l', h, hn =>
        rw [lax_h] at h
        split at h
        case h_2 => cases h
        simp only [Option.map_eq_some_iff] at h
        obtain ⟨o, ho, rfl⟩ := h
        have := lax_len n (by simp at hn; omega) ho
        simp; omega
    · rw [lax_c hc] at h
      simp only [Option.map_eq_some_iff] at h
      obtain ⟨o, ho, rfl⟩ := h
      have := lax_len n (by simpa using hn) ho
      simp; omega
theorem digN_some {a : UInt8} {x : Nat} (h : valB a = some x) : digN a.toNat = (x : Int) := by
  unfold valB at h; unfold digN
  split at h
  · rename_i hc; cases h; rw [if_pos hc]; omega
  · rename_i hc
    split at h
    · rename_i hc2; cases h; rw [if_neg hc, if_pos hc2]; omega
    · cases h
theorem digN_none {a : UInt8} (h : valB a = none) : digN a.toNat = 16 := by
  unfold valB at h; unfold digN
  split at h
  · cases h
  · rename_i hc
    split at h
    · cases h
    · rename_i hc2; rw [if_neg hc, if_neg hc2]
theorem ends34 {s : List UInt8} (h2 : 2 ≤ s.length) (h34 : s[0]'(by omega) = 34) (h35 : s[s.length - 1]'(by omega) = 34) : ∃ u, s = 34 :: (u ++ [34]) := by
  obtain ⟨t, rfl⟩ : ∃ t, s = 34 :: t := by
    cases s with
    | nil => simp at h2
    | cons a t => exact ⟨t, by rw [← h34]; rfl⟩
  have hne : t ≠ [] := by rintro rfl; simp at h2
  refine ⟨t.dropLast, ?_⟩
  congr 1
  have : t.getLast hne = 34 := by
    rw [List.getLast_eq_getElem]
    have hp : 0 < t.length := List.length_pos_iff.2 hne
    rw [← h35]
    simp only [List.length_cons, Nat.add_sub_cancel]
    rw [List.getElem_cons]
    rw [dif_neg (by omega)]
  rw [← this]; exact (List.dropLast_concat_getLast hne).symm
theorem Row.le {α : Type} {f : α → AV} {m0 m : Mem} {l : List α} {v : AV} (h : Row f m0 l v m) : m0.length ≤ m.length := by
  rcases h with ⟨_, _, rfl⟩ | ⟨ver, _, rfl⟩ <;> simp
theorem refUnquote_ok (s : List UInt8) (hs : s.length ≤ 100000000) (hf : Fits en m.length) : WC Tryd.prog pol en (.func 17) [tx s] m fun v m' => v = ansO (unqL s) ∧ m' = m := by
  refine callPur Tryd.func17 rfl rfl Tryd.ntmps17 Tryd.results17 ?_
  have hf' : Fits (en' en m) m.length := hf.pur
  have hb' : (en' en m).bar ≤ m.length := Nat.le_refl _
  have hno : ¬ (isPre [34] s = true ∧ isSuf [34] (s.drop 1) = true) → ansO (unqL s) = .tup [tx [], I 3] := fun h => by unfold unqL; rw [if_neg h]; rfl
  by_cases h2 : (s.length : Int) < 2
  · rw [hno (fun h => by have h1 := pre_len h.1; have h3 := suf_len h.2; simp at h1 h3; omega)]
    simp -implicitDefEqProofs -dsimp (disch := (first | omega | (simp only [List.length_set, List.length_append, List.length_cons, List.length_nil]; omega))) only [go_sem, Nat.reduceAdd, Nat.reduceSub, Nat.reduceLT, Nat.reduceLeDiff, Int.reduceToNat, Int.reduceLE, Int.reduceLT, Int.reduceAdd, Int.reduceSub, Int.reduceEq, Int.reduceNe, Int.reduceMul, Nat.reduceMul, Int.reduceNeg, Int.toNat_natCast, Nat.reduceEqDiff, X.exit.injEq, if_true, if_false, reduceIte, Bool.not_true, Bool.not_false, Bool.false_eq_true, Bool.true_eq_false, true_and, need_of, strR_addD, u8w, atS_txD, slT_hiD, slT_loD, slT_bothD, need_true, need_and, WOf_need, i64w, u64w, at_getD, idxR_slD, idxR_slf, idxF_some, and_true, Nat.zero_add, Nat.mul_one, Nat.add_zero, idxS_one, get_setN, get_setS, get_appL, List.length_set, ↓ibin_shlD, ↓ibin_shrD, bld1_true, plan_buildD, natSucc, h2]
  · by_cases h34 : s[0]'(by omega) = 34
    · have hq0 : ¬ (((s[0]'(by omega)).toNat : Int) ≠ 34) := by rw [h34]; simp
      have hlt : ((s.length : Int) - 1).toNat < s.length := by omega
      by_cases h35 : s[((s.length : Int) - 1).toNat]'hlt = 34
      · have hq1 : ¬ (((s[((s.length : Int) - 1).toNat]'hlt).toNat : Int) ≠ 34) := by rw [h35]; simp
        obtain ⟨u, he⟩ := ends34 (by omega) h34 (by rw [← h35]; congr 1; omega)
        have hul : s.length = u.length + 2 := by rw [he]; simp
        have htk : ((s.drop 1).take (((s.length : Int) - 1).toNat - 1)) = u := by
          rw [show ((s.length : Int) - 1).toNat - 1 = u.length by omega, he]; simp
        have hun : unqL s = decL u := by rw [he, unqL_some]
        simp -implicitDefEqProofs -dsimp (disch := (first | omega | (simp only [List.length_set, List.length_append, List.length_cons, List.length_nil]; omega))) only [go_sem, Nat.reduceAdd, Nat.reduceSub, Nat.reduceLT, Nat.reduceLeDiff, Int.reduceToNat, Int.reduceLE, Int.reduceLT, Int.reduceAdd, Int.reduceSub, Int.reduceEq, Int.reduceNe, Int.reduceMul, Nat.reduceMul, Int.reduceNeg, Int.toNat_natCast, Nat.reduceEqDiff, X.exit.injEq, if_true, if_false, reduceIte, Bool.not_true, Bool.not_false, Bool.false_eq_true, Bool.true_eq_false, true_and, need_of, strR_addD, u8w, atS_txD, slT_hiD, slT_loD, slT_bothD, need_true, need_and, WOf_need, i64w, u64w, at_getD, idxR_slD, idxR_slf, idxF_some, and_true, Nat.zero_add, Nat.mul_one, Nat.add_zero, idxS_one, get_setN, get_setS, get_appL, List.length_set, ↓ibin_shlD, ↓ibin_shrD, bld1_true, plan_buildD, natSucc, h2, hq0, hq1, htk]
        refine loopF (fun k ts m' => ∃ (i : Nat) (v : AV) (out : List UInt8), ts.length = 90 ∧ tg ts 0 = tx s ∧ tg ts 4 = kv v ∧ tg ts 5 = tx u ∧ tg ts 6 = I i ∧ i ≤ u.length ∧ Row u8v m out v m' ∧ out.length ≤ i ∧ laxR u i out = laxL u ∧ k = u.length - i) u.length ⟨0, .nilS, [], rfl, rfl, rfl, rfl, rfl, by omega, Row.nil, by simp, by simp [laxR], by omega⟩ ?_
        rintro k ts m' ⟨i, v, out, hl, h0, h4, h5, h6, hi, hr, ho, hd, hk⟩
        rw [expandT hl]
        simp -implicitDefEqProofs -dsimp (disch := (first | omega | (simp only [List.length_set, List.length_append, List.length_cons, List.length_nil]; omega))) only [go_sem, Nat.reduceAdd, Nat.reduceSub, Nat.reduceLT, Nat.reduceLeDiff, Int.reduceToNat, Int.reduceLE, Int.reduceLT, Int.reduceAdd, Int.reduceSub, Int.reduceEq, Int.reduceNe, Int.reduceMul, Nat.reduceMul, Int.reduceNeg, Int.toNat_natCast, Nat.reduceEqDiff, X.exit.injEq, if_true, if_false, reduceIte, Bool.not_true, Bool.not_false, Bool.false_eq_true, Bool.true_eq_false, true_and, need_of, strR_addD, u8w, atS_txD, slT_hiD, slT_loD, slT_bothD, need_true, need_and, WOf_need, i64w, u64w, at_getD, idxR_slD, idxR_slf, idxF_some, and_true, Nat.zero_add, Nat.mul_one, Nat.add_zero, idxS_one, get_setN, get_setS, get_appL, List.length_set, ↓ibin_shlD, ↓ibin_shrD, bld1_true, plan_buildD, natSucc, h0, h4, h5, h6]
        split
        · rename_i hlt2
          have hi' : i < u.length := by omega
          have hdr : u.drop i = u[i] :: u.drop (i + 1) := List.drop_eq_getElem_cons hi'
          have hlt8 := u[i].toNat_lt
          by_cases hc : u[i] = 37
          · have hcn : ¬ ((u[i].toNat : Int) ≠ 37) := by rw [hc]; simp
            by_cases h3 : (u.length : Int) ≤ (i : Int) + 2
            · simp -implicitDefEqProofs -dsimp (disch := (first | omega | (simp only [List.length_set, List.length_append, List.length_cons, List.length_nil]; omega))) only [go_sem, Nat.reduceAdd, Nat.reduceSub, Nat.reduceLT, Nat.reduceLeDiff, Int.reduceToNat, Int.reduceLE, Int.reduceLT, Int.reduceAdd, Int.reduceSub, Int.reduceEq, Int.reduceNe, Int.reduceMul, Nat.reduceMul, Int.reduceNeg, Int.toNat_natCast, Nat.reduceEqDiff, X.exit.injEq, if_true, if_false, reduceIte, Bool.not_true, Bool.not_false, Bool.false_eq_true, Bool.true_eq_false, true_and, need_of, strR_addD, u8w, atS_txD, slT_hiD, slT_loD, slT_bothD, need_true, need_and, WOf_need, i64w, u64w, at_getD, idxR_slD, idxR_slf, idxF_some, and_true, Nat.zero_add, Nat.mul_one, Nat.add_zero, idxS_one, get_setN, get_setS, get_appL, List.length_set, ↓ibin_shlD, ↓ibin_shrD, bld1_true, plan_buildD, natSucc, hcn, h3]
              have : unqL s = none := by
                rw [hun, dec_iff, ← hd, laxR, hdr, hc]
                cases hq1 : u.drop (i + 1) with
                | nil => rw [lax_0]; rfl
                | cons a l => cases l with
                  | nil => rw [lax_1]; rfl
                  | cons b l => have := congrArg List.length hq1; simp at this; omega
              rw [this]; rfl
            · have hi1 : i + 1 < u.length := by omega
              have hi2 : i + 2 < u.length := by omega
              have hdr2 : u.drop i = 37 :: u[i + 1] :: u[i + 2] :: u.drop (i + 3) := by
                rw [hdr, hc, List.drop_eq_getElem_cons hi1, List.drop_eq_getElem_cons hi2]
              have hnone : (valB u[i + 1] = none ∨ valB u[i + 2] = none) → unqL s = none := by
                intro h
                rw [hun, dec_iff, ← hd, laxR, hdr2, lax_h]
                rcases h with h | h <;> rw [h]
                · rfl
                · cases valB u[i + 1] <;> rfl
              simp -implicitDefEqProofs -dsimp (disch := (first | omega | (simp only [List.length_set, List.length_append, List.length_cons, List.length_nil]; omega))) only [go_sem, Nat.reduceAdd, Nat.reduceSub, Nat.reduceLT, Nat.reduceLeDiff, Int.reduceToNat, Int.reduceLE, Int.reduceLT, Int.reduceAdd, Int.reduceSub, Int.reduceEq, Int.reduceNe, Int.reduceMul, Nat.reduceMul, Int.reduceNeg, Int.toNat_natCast, Nat.reduceEqDiff, X.exit.injEq, if_true, if_false, reduceIte, Bool.not_true, Bool.not_false, Bool.false_eq_true, Bool.true_eq_false, true_and, need_of, strR_addD, u8w, atS_txD, slT_hiD, slT_loD, slT_bothD, need_true, need_and, WOf_need, i64w, u64w, at_getD, idxR_slD, idxR_slf, idxF_some, and_true, Nat.zero_add, Nat.mul_one, Nat.add_zero, idxS_one, get_setN, get_setS, get_appL, List.length_set, ↓ibin_shlD, ↓ibin_shrD, bld1_true, plan_buildD, natSucc, hcn, h3]
              refine (digit_ok u[i + 1]).eq ?_
              cases hx : valB u[i + 1] with
              | none =>
                rw [digN_none hx]
                simp -implicitDefEqProofs -dsimp (disch := (first | omega | (simp only [List.length_set, List.length_append, List.length_cons, List.length_nil]; omega))) only [go_sem, Nat.reduceAdd, Nat.reduceSub, Nat.reduceLT, Nat.reduceLeDiff, Int.reduceToNat, Int.reduceLE, Int.reduceLT, Int.reduceAdd, Int.reduceSub, Int.reduceEq, Int.reduceNe, Int.reduceMul, Nat.reduceMul, Int.reduceNeg, Int.toNat_natCast, Nat.reduceEqDiff, X.exit.injEq, if_true, if_false, reduceIte, Bool.not_true, Bool.not_false, Bool.false_eq_true, Bool.true_eq_false, true_and, need_of, strR_addD, u8w, atS_txD, slT_hiD, slT_loD, slT_bothD, need_true, need_and, WOf_need, i64w, u64w, at_getD, idxR_slD, idxR_slf, idxF_some, and_true, Nat.zero_add, Nat.mul_one, Nat.add_zero, idxS_one, get_setN, get_setS, get_appL, List.length_set, ↓ibin_shlD, ↓ibin_shrD, bld1_true, plan_buildD, natSucc, ]
                rw [hnone (.inl hx)]; rfl
              | some x =>
                have hx16 := (valB_lt hx).1
                have hx15 : ¬ ((15 : Int) < (x : Int)) := by omega
                rw [digN_some hx]
                simp -implicitDefEqProofs -dsimp (disch := (first | omega | (simp only [List.length_set, List.length_append, List.length_cons, List.length_nil]; omega))) only [go_sem, Nat.reduceAdd, Nat.reduceSub, Nat.reduceLT, Nat.reduceLeDiff, Int.reduceToNat, Int.reduceLE, Int.reduceLT, Int.reduceAdd, Int.reduceSub, Int.reduceEq, Int.reduceNe, Int.reduceMul, Nat.reduceMul, Int.reduceNeg, Int.toNat_natCast, Nat.reduceEqDiff, X.exit.injEq, if_true, if_false, reduceIte, Bool.not_true, Bool.not_false, Bool.false_eq_true, Bool.true_eq_false, true_and, need_of, strR_addD, u8w, atS_txD, slT_hiD, slT_loD, slT_bothD, need_true, need_and, WOf_need, i64w, u64w, at_getD, idxR_slD, idxR_slf, idxF_some, and_true, Nat.zero_add, Nat.mul_one, Nat.add_zero, idxS_one, get_setN, get_setS, get_appL, List.length_set, ↓ibin_shlD, ↓ibin_shrD, bld1_true, plan_buildD, natSucc, hx15]
                refine (digit_ok u[i + 2]).eq ?_
                cases hy : valB u[i + 2] with
                | none =>
                  rw [digN_none hy]
                  simp -implicitDefEqProofs -dsimp (disch := (first | omega | (simp only [List.length_set, List.length_append, List.length_cons, List.length_nil]; omega))) only [go_sem, Nat.reduceAdd, Nat.reduceSub, Nat.reduceLT, Nat.reduceLeDiff, Int.reduceToNat, Int.reduceLE, Int.reduceLT, Int.reduceAdd, Int.reduceSub, Int.reduceEq, Int.reduceNe, Int.reduceMul, Nat.reduceMul, Int.reduceNeg, Int.toNat_natCast, Nat.reduceEqDiff, X.exit.injEq, if_true, if_false, reduceIte, Bool.not_true, Bool.not_false, Bool.false_eq_true, Bool.true_eq_false, true_and, need_of, strR_addD, u8w, atS_txD, slT_hiD, slT_loD, slT_bothD, need_true, need_and, WOf_need, i64w, u64w, at_getD, idxR_slD, idxR_slf, idxF_some, and_true, Nat.zero_add, Nat.mul_one, Nat.add_zero, idxS_one, get_setN, get_setS, get_appL, List.length_set, ↓ibin_shlD, ↓ibin_shrD, bld1_true, plan_buildD, natSucc, ]
                  rw [hnone (.inr hy)]; rfl
                | some y =>
                  have hy16 := (valB_lt hy).1
                  have hy15 : ¬ ((15 : Int) < (y : Int)) := by omega
                  rw [digN_some hy]
                  simp -implicitDefEqProofs -dsimp (disch := (first | omega | (simp only [List.length_set, List.length_append, List.length_cons, List.length_nil]; omega))) only [go_sem, Nat.reduceAdd, Nat.reduceSub, Nat.reduceLT, Nat.reduceLeDiff, Int.reduceToNat, Int.reduceLE, Int.reduceLT, Int.reduceAdd, Int.reduceSub, Int.reduceEq, Int.reduceNe, Int.reduceMul, Nat.reduceMul, Int.reduceNeg, Int.toNat_natCast, Nat.reduceEqDiff, X.exit.injEq, if_true, if_false, reduceIte, Bool.not_true, Bool.not_false, Bool.false_eq_true, Bool.true_eq_false, true_and, need_of, strR_addD, u8w, atS_txD, slT_hiD, slT_loD, slT_bothD, need_true, need_and, WOf_need, i64w, u64w, at_getD, idxR_slD, idxR_slf, idxF_some, and_true, Nat.zero_add, Nat.mul_one, Nat.add_zero, idxS_one, get_setN, get_setS, get_appL, List.length_set, ↓ibin_shlD, ↓ibin_shrD, bld1_true, plan_buildD, natSucc, hy15]
                  refine ⟨by kernel_rfl, ?_⟩
                  refine (digit_ok u[i + 1]).eq ?_
                  rw [digN_some hx]
                  simp -implicitDefEqProofs -dsimp (disch := (first | omega | (simp only [List.length_set, List.length_append, List.length_cons, List.length_nil]; omega))) only [go_sem, Nat.reduceAdd, Nat.reduceSub, Nat.reduceLT, Nat.reduceLeDiff, Int.reduceToNat, Int.reduceLE, Int.reduceLT, Int.reduceAdd, Int.reduceSub, Int.reduceEq, Int.reduceNe, Int.reduceMul, Nat.reduceMul, Int.reduceNeg, Int.toNat_natCast, Nat.reduceEqDiff, X.exit.injEq, if_true, if_false, reduceIte, Bool.not_true, Bool.not_false, Bool.false_eq_true, Bool.true_eq_false, true_and, need_of, strR_addD, u8w, atS_txD, slT_hiD, slT_loD, slT_bothD, need_true, need_and, WOf_need, i64w, u64w, at_getD, idxR_slD, idxR_slf, idxF_some, and_true, Nat.zero_add, Nat.mul_one, Nat.add_zero, idxS_one, get_setN, get_setS, get_appL, List.length_set, ↓ibin_shlD, ↓ibin_shrD, bld1_true, plan_buildD, natSucc, ]
                  refine (digit_ok u[i + 2]).eq ?_
                  rw [digN_some hy]
                  have hxy : ((x : Int) * 16 + (y : Int)) = ((UInt8.ofNat (x * 16 + y)).toNat : Int) := by rw [ofNat_u8 (by omega)]; omega
                  have hw3 : IntKind.i64.wrap ((i : Int) + 2 + 1) = ((i + 3 : Nat) : Int) := IntWalk.i64_in _ (by omega)
                  have hd3 : laxR u (i + 3) (out ++ [UInt8.ofNat (x * 16 + y)]) = laxL u := by
                    rw [← hd, laxR, laxR, hdr2, lax_h, hx, hy]
                    simp only
                    cases laxL (u.drop (i + 3)) <;> simp
                  rcases hr with ⟨rfl, rfl, rfl⟩ | ⟨ver, rfl, rfl⟩
                  · simp -implicitDefEqProofs -dsimp (disch := (first | omega | (simp only [List.length_set, List.length_append, List.length_cons, List.length_nil]; omega))) only [go_sem, Nat.reduceAdd, Nat.reduceSub, Nat.reduceLT, Nat.reduceLeDiff, Int.reduceToNat, Int.reduceLE, Int.reduceLT, Int.reduceAdd, Int.reduceSub, Int.reduceEq, Int.reduceNe, Int.reduceMul, Nat.reduceMul, Int.reduceNeg, Int.toNat_natCast, Nat.reduceEqDiff, X.exit.injEq, if_true, if_false, reduceIte, Bool.not_true, Bool.not_false, Bool.false_eq_true, Bool.true_eq_false, true_and, need_of, strR_addD, u8w, atS_txD, slT_hiD, slT_loD, slT_bothD, need_true, need_and, WOf_need, i64w, u64w, at_getD, idxR_slD, idxR_slf, idxF_some, and_true, Nat.zero_add, Nat.mul_one, Nat.add_zero, idxS_one, get_setN, get_setS, get_appL, List.length_set, ↓ibin_shlD, ↓ibin_shrD, bld1_true, plan_buildD, natSucc, kv, hw3]
                    refine ⟨rfl, by kernel_rfl, u.length - (i + 3), by omega, i + 3, .own m'.length tU 0 1 1, [UInt8.ofNat (x * 16 + y)], ?_⟩
                    exact ⟨rfl, rfl, by omega, Or.inr ⟨tU, rfl, by rw [hxy]; rfl⟩, by simp, hd3, rfl⟩
                  · simp -implicitDefEqProofs -dsimp (disch := (first | omega | (simp only [List.length_set, List.length_append, List.length_cons, List.length_nil]; omega))) only [go_sem, Nat.reduceAdd, Nat.reduceSub, Nat.reduceLT, Nat.reduceLeDiff, Int.reduceToNat, Int.reduceLE, Int.reduceLT, Int.reduceAdd, Int.reduceSub, Int.reduceEq, Int.reduceNe, Int.reduceMul, Nat.reduceMul, Int.reduceNeg, Int.toNat_natCast, Nat.reduceEqDiff, X.exit.injEq, if_true, if_false, reduceIte, Bool.not_true, Bool.not_false, Bool.false_eq_true, Bool.true_eq_false, true_and, need_of, strR_addD, u8w, atS_txD, slT_hiD, slT_loD, slT_bothD, need_true, need_and, WOf_need, i64w, u64w, at_getD, idxR_slD, idxR_slf, idxF_some, and_true, Nat.zero_add, Nat.mul_one, Nat.add_zero, idxS_one, get_setN, get_setS, get_appL, List.length_set, ↓ibin_shlD, ↓ibin_shrD, bld1_true, plan_buildD, natSucc, kv, hw3]
                    refine ⟨⟨by simp, roomOk1 (by omega)⟩, okTo_fits hf' hb' (Nat.le_refl _) _, by kernel_rfl, u.length - (i + 3), by omega, i + 3, .own m.length (nextV tU ver) 0 (out.length + 1) 1, out ++ [UInt8.ofNat (x * 16 + y)], ?_⟩
                    exact ⟨rfl, rfl, by omega, Or.inr ⟨nextV tU ver, by simp, by rw [hxy]; simp; exact ⟨rfl, List.take_of_length_le (by simp)⟩⟩, by simp; omega, hd3, rfl⟩
          · have hcn : (u[i].toNat : Int) ≠ 37 := fun h => hc (UInt8.toNat.inj (by show u[i].toNat = 37; omega))
            simp -implicitDefEqProofs -dsimp (disch := (first | omega | (simp only [List.length_set, List.length_append, List.length_cons, List.length_nil]; omega))) only [go_sem, Nat.reduceAdd, Nat.reduceSub, Nat.reduceLT, Nat.reduceLeDiff, Int.reduceToNat, Int.reduceLE, Int.reduceLT, Int.reduceAdd, Int.reduceSub, Int.reduceEq, Int.reduceNe, Int.reduceMul, Nat.reduceMul, Int.reduceNeg, Int.toNat_natCast, Nat.reduceEqDiff, X.exit.injEq, if_true, if_false, reduceIte, Bool.not_true, Bool.not_false, Bool.false_eq_true, Bool.true_eq_false, true_and, need_of, strR_addD, u8w, atS_txD, slT_hiD, slT_loD, slT_bothD, need_true, need_and, WOf_need, i64w, u64w, at_getD, idxR_slD, idxR_slf, idxF_some, and_true, Nat.zero_add, Nat.mul_one, Nat.add_zero, idxS_one, get_setN, get_setS, get_appL, List.length_set, ↓ibin_shlD, ↓ibin_shrD, bld1_true, plan_buildD, natSucc, eq_true hcn]
            refine hr.app u[i] hf' hb' (by omega) fun r v' m2 hr2 => ?_
            simp -implicitDefEqProofs -dsimp (disch := (first | omega | (simp only [List.length_set, List.length_append, List.length_cons, List.length_nil]; omega))) only [go_sem, Nat.reduceAdd, Nat.reduceSub, Nat.reduceLT, Nat.reduceLeDiff, Int.reduceToNat, Int.reduceLE, Int.reduceLT, Int.reduceAdd, Int.reduceSub, Int.reduceEq, Int.reduceNe, Int.reduceMul, Nat.reduceMul, Int.reduceNeg, Int.toNat_natCast, Nat.reduceEqDiff, X.exit.injEq, if_true, if_false, reduceIte, Bool.not_true, Bool.not_false, Bool.false_eq_true, Bool.true_eq_false, true_and, need_of, strR_addD, u8w, atS_txD, slT_hiD, slT_loD, slT_bothD, need_true, need_and, WOf_need, i64w, u64w, at_getD, idxR_slD, idxR_slf, idxF_some, and_true, Nat.zero_add, Nat.mul_one, Nat.add_zero, idxS_one, get_setN, get_setS, get_appL, List.length_set, ↓ibin_shlD, ↓ibin_shrD, bld1_true, plan_buildD, natSucc, ]
            refine ⟨u.length - (i + 1), by omega, i + 1, v', out ++ [u[i]], ?_⟩
            refine ⟨rfl, rfl, by omega, hr2, by simp; omega, ?_, rfl⟩
            rw [← hd, laxR, laxR, hdr, lax_c hc]
            cases laxL (u.drop (i + 1)) <;> simp
        · rename_i hlt2
          have hlx : laxL u = some out := by rw [← hd, laxR, List.drop_eq_nil_of_le (by omega)]; simp [laxL]
          refine hr.str Tryd.underlying5 fun r => ?_
          simp -implicitDefEqProofs -dsimp (disch := (first | omega | (simp only [List.length_set, List.length_append, List.length_cons, List.length_nil]; omega))) only [go_sem, Nat.reduceAdd, Nat.reduceSub, Nat.reduceLT, Nat.reduceLeDiff, Int.reduceToNat, Int.reduceLE, Int.reduceLT, Int.reduceAdd, Int.reduceSub, Int.reduceEq, Int.reduceNe, Int.reduceMul, Nat.reduceMul, Int.reduceNeg, Int.toNat_natCast, Nat.reduceEqDiff, X.exit.injEq, if_true, if_false, reduceIte, Bool.not_true, Bool.not_false, Bool.false_eq_true, Bool.true_eq_false, true_and, need_of, strR_addD, u8w, atS_txD, slT_hiD, slT_loD, slT_bothD, need_true, need_and, WOf_need, i64w, u64w, at_getD, idxR_slD, idxR_slf, idxF_some, and_true, Nat.zero_add, Nat.mul_one, Nat.add_zero, idxS_one, get_setN, get_setS, get_appL, List.length_set, ↓ibin_shlD, ↓ibin_shrD, bld1_true, plan_buildD, natSucc, ]
          refine (refQuote_ok out (by omega) (hf'.mono hr.le)).eq ?_
          by_cases hqe : quoteL out = s
          · have : unqL s = some out := by
              rw [hun, dec_iff, hlx, Option.bind_some, if_pos]
              rw [he] at hqe; simpa [quoteL] using hqe
            have hqn : ¬ (quoteL out ≠ s) := fun h => h hqe
            simp -implicitDefEqProofs -dsimp (disch := (first | omega | (simp only [List.length_set, List.length_append, List.length_cons, List.length_nil]; omega))) only [go_sem, Nat.reduceAdd, Nat.reduceSub, Nat.reduceLT, Nat.reduceLeDiff, Int.reduceToNat, Int.reduceLE, Int.reduceLT, Int.reduceAdd, Int.reduceSub, Int.reduceEq, Int.reduceNe, Int.reduceMul, Nat.reduceMul, Int.reduceNeg, Int.toNat_natCast, Nat.reduceEqDiff, X.exit.injEq, if_true, if_false, reduceIte, Bool.not_true, Bool.not_false, Bool.false_eq_true, Bool.true_eq_false, true_and, need_of, strR_addD, u8w, atS_txD, slT_hiD, slT_loD, slT_bothD, need_true, need_and, WOf_need, i64w, u64w, at_getD, idxR_slD, idxR_slf, idxF_some, and_true, Nat.zero_add, Nat.mul_one, Nat.add_zero, idxS_one, get_setN, get_setS, get_appL, List.length_set, ↓ibin_shlD, ↓ibin_shrD, bld1_true, plan_buildD, natSucc, hqn]
            refine hr.str Tryd.underlying5 fun r => ?_
            simp -implicitDefEqProofs -dsimp (disch := (first | omega | (simp only [List.length_set, List.length_append, List.length_cons, List.length_nil]; omega))) only [go_sem, Nat.reduceAdd, Nat.reduceSub, Nat.reduceLT, Nat.reduceLeDiff, Int.reduceToNat, Int.reduceLE, Int.reduceLT, Int.reduceAdd, Int.reduceSub, Int.reduceEq, Int.reduceNe, Int.reduceMul, Nat.reduceMul, Int.reduceNeg, Int.toNat_natCast, Nat.reduceEqDiff, X.exit.injEq, if_true, if_false, reduceIte, Bool.not_true, Bool.not_false, Bool.false_eq_true, Bool.true_eq_false, true_and, need_of, strR_addD, u8w, atS_txD, slT_hiD, slT_loD, slT_bothD, need_true, need_and, WOf_need, i64w, u64w, at_getD, idxR_slD, idxR_slf, idxF_some, and_true, Nat.zero_add, Nat.mul_one, Nat.add_zero, idxS_one, get_setN, get_setS, get_appL, List.length_set, ↓ibin_shlD, ↓ibin_shrD, bld1_true, plan_buildD, natSucc, ]
            rw [this]; rfl
          · have : unqL s = none := by
              rw [hun, dec_iff, hlx, Option.bind_some, if_neg]
              intro h; apply hqe; rw [he, quoteL, h]
            simp -implicitDefEqProofs -dsimp (disch := (first | omega | (simp only [List.length_set, List.length_append, List.length_cons, List.length_nil]; omega))) only [go_sem, Nat.reduceAdd, Nat.reduceSub, Nat.reduceLT, Nat.reduceLeDiff, Int.reduceToNat, Int.reduceLE, Int.reduceLT, Int.reduceAdd, Int.reduceSub, Int.reduceEq, Int.reduceNe, Int.reduceMul, Nat.reduceMul, Int.reduceNeg, Int.toNat_natCast, Nat.reduceEqDiff, X.exit.injEq, if_true, if_false, reduceIte, Bool.not_true, Bool.not_false, Bool.false_eq_true, Bool.true_eq_false, true_and, need_of, strR_addD, u8w, atS_txD, slT_hiD, slT_loD, slT_bothD, need_true, need_and, WOf_need, i64w, u64w, at_getD, idxR_slD, idxR_slf, idxF_some, and_true, Nat.zero_add, Nat.mul_one, Nat.add_zero, idxS_one, get_setN, get_setS, get_appL, List.length_set, ↓ibin_shlD, ↓ibin_shrD, bld1_true, plan_buildD, natSucc, eq_true hqe]
            rw [this]; rfl
      · have hq1 : ((s[((s.length : Int) - 1).toNat]'hlt).toNat : Int) ≠ 34 := fun h => h35 (UInt8.toNat.inj (by show (s[((s.length : Int) - 1).toNat]'hlt).toNat = 34; omega))
        rw [hno (fun h => by
          obtain ⟨t, rfl⟩ := pre_one h.1
          obtain ⟨w, hw⟩ := suf_one h.2
          simp only [List.drop_succ_cons, List.drop_zero] at hw
          subst hw
          apply h35
          simp)]
        simp -implicitDefEqProofs -dsimp (disch := (first | omega | (simp only [List.length_set, List.length_append, List.length_cons, List.length_nil]; omega))) only [go_sem, Nat.reduceAdd, Nat.reduceSub, Nat.reduceLT, Nat.reduceLeDiff, Int.reduceToNat, Int.reduceLE, Int.reduceLT, Int.reduceAdd, Int.reduceSub, Int.reduceEq, Int.reduceNe, Int.reduceMul, Nat.reduceMul, Int.reduceNeg, Int.toNat_natCast, Nat.reduceEqDiff, X.exit.injEq, if_true, if_false, reduceIte, Bool.not_true, Bool.not_false, Bool.false_eq_true, Bool.true_eq_false, true_and, need_of, strR_addD, u8w, atS_txD, slT_hiD, slT_loD, slT_bothD, need_true, need_and, WOf_need, i64w, u64w, at_getD, idxR_slD, idxR_slf, idxF_some, and_true, Nat.zero_add, Nat.mul_one, Nat.add_zero, idxS_one, get_setN, get_setS, get_appL, List.length_set, ↓ibin_shlD, ↓ibin_shrD, bld1_true, plan_buildD, natSucc, h2, hq0, eq_true hq1]
    · have hq0 : (((s[0]'(by omega)).toNat : Int) ≠ 34) := fun h => h34 (UInt8.toNat.inj (by show (s[0]'(by omega)).toNat = 34; omega))
      rw [hno (fun h => by obtain ⟨t, rfl⟩ := pre_one h.1; exact h34 rfl)]
      simp -implicitDefEqProofs -dsimp (disch := (first | omega | (simp only [List.length_set, List.length_append, List.length_cons, List.length_nil]; omega))) only [go_sem, Nat.reduceAdd, Nat.reduceSub, Nat.reduceLT, Nat.reduceLeDiff, Int.reduceToNat, Int.reduceLE, Int.reduceLT, Int.reduceAdd, Int.reduceSub, Int.reduceEq, Int.reduceNe, Int.reduceMul, Nat.reduceMul, Int.reduceNeg, Int.toNat_natCast, Nat.reduceEqDiff, X.exit.injEq, if_true, if_false, reduceIte, Bool.not_true, Bool.not_false, Bool.false_eq_true, Bool.true_eq_false, true_and, need_of, strR_addD, u8w, atS_txD, slT_hiD, slT_loD, slT_bothD, need_true, need_and, WOf_need, i64w, u64w, at_getD, idxR_slD, idxR_slf, idxF_some, and_true, Nat.zero_add, Nat.mul_one, Nat.add_zero, idxS_one, get_setN, get_setS, get_appL, List.length_set, ↓ibin_shlD, ↓ibin_shrD, bld1_true, plan_buildD, natSucc, h2, eq_true hq0]
end
end Go.Proofs.YtcmjidnbbfcbjaaDoor.V
/- DeltaQuotes in the VM; no condition. -/
namespace Go.Proofs.YtcmjidnbbfcbjaaDoor.V
open Go
set_option linter.unusedVariables false
set_option linter.unusedSimpArgs false
set_option maxRecDepth 100000
set_option maxHeartbeats 4000000
noncomputable section
variable {en : Env} {m : Mem}
theorem clsRun {P : Program} {pol : Pol} {en : Env} {m : Mem} {f : FuncId} {args args' : List AV} {v : AV} (n : Nat) (hm : pol.mode f = .cls) (hd : pol.dir f = none) (ha : args.mapM (frz m 0 frzDepth) = some args') (h : (callM P .pur (vrun P pol n) ⟨[], 0⟩ f args' []).map (·.1) = some v) (hv : flat v = true) :
    WC P pol en (.func f) args m fun u m' => u = v ∧ m' = m := by
  obtain ⟨⟨u, m1⟩, h1, h2⟩ := Option.map_eq_some_iff.1 h
  simp only at h2
  subst h2
  refine WC.run (n + 1) (v := u) (m' := m) ?_ ⟨rfl, rfl⟩
  show callF P pol (vrun P pol n) en f args m = _
  unfold callF
  rw [hd, hm]
  simp only [ha, spine_eq, h1, hv, if_true]
theorem live_run : (callM Tryd.prog .pur (vrun Tryd.prog pol 2000) ⟨[], 0⟩ 10 [] []).map (·.1) = some (.sc (.bool true)) := by kernel_rfl
theorem live_ok : WC Tryd.prog pol en (.func 10) [] m fun v m' => v = .sc (.bool true) ∧ m' = m := clsRun 2000 rfl rfl rfl live_run rfl
theorem short_ok (s : List UInt8) : WC Tryd.prog pol en (.func 15) [tx s] m fun v m' => v = tx (s.take 2000) ∧ m' = m := by
  refine callPur Tryd.func15 rfl rfl Tryd.ntmps15 Tryd.results15 ?_
  by_cases h : (2000 : Int) < (s.length : Int)
  · simp -implicitDefEqProofs -dsimp (disch := (first | omega | (simp only [List.length_set, List.length_append, List.length_cons, List.length_nil]; omega))) only [go_sem, Nat.reduceAdd, Nat.reduceSub, Nat.reduceLT, Nat.reduceLeDiff, Int.reduceToNat, Int.reduceLE, Int.reduceLT, Int.reduceAdd, Int.reduceSub, Int.reduceEq, Int.reduceNe, Int.reduceMul, Nat.reduceMul, Int.reduceNeg, Int.toNat_natCast, Nat.reduceEqDiff, X.exit.injEq, if_true, if_false, reduceIte, Bool.not_true, Bool.not_false, Bool.false_eq_true, Bool.true_eq_false, true_and, need_of, strR_addD, u8w, atS_txD, slT_hiD, slT_loD, slT_bothD, need_true, need_and, WOf_need, i64w, u64w, at_getD, idxR_slD, idxR_slf, idxF_some, and_true, Nat.zero_add, Nat.mul_one, Nat.add_zero, idxS_one, get_setN, get_setS, get_appL, List.length_set, ↓ibin_shlD, ↓ibin_shrD, bld1_true, plan_buildD, natSucc, h]
  · simp -implicitDefEqProofs -dsimp (disch := (first | omega | (simp only [List.length_set, List.length_append, List.length_cons, List.length_nil]; omega))) only [go_sem, Nat.reduceAdd, Nat.reduceSub, Nat.reduceLT, Nat.reduceLeDiff, Int.reduceToNat, Int.reduceLE, Int.reduceLT, Int.reduceAdd, Int.reduceSub, Int.reduceEq, Int.reduceNe, Int.reduceMul, Nat.reduceMul, Int.reduceNeg, Int.toNat_natCast, Nat.reduceEqDiff, X.exit.injEq, if_true, if_false, reduceIte, Bool.not_true, Bool.not_false, Bool.false_eq_true, Bool.true_eq_false, true_and, need_of, strR_addD, u8w, atS_txD, slT_hiD, slT_loD, slT_bothD, need_true, need_and, WOf_need, i64w, u64w, at_getD, idxR_slD, idxR_slf, idxF_some, and_true, Nat.zero_add, Nat.mul_one, Nat.add_zero, idxS_one, get_setN, get_setS, get_appL, List.length_set, ↓ibin_shlD, ↓ibin_shrD, bld1_true, plan_buildD, natSucc, h]
    rw [List.take_of_length_le (by omega)]
theorem unq_quote (s : List UInt8) : unqL (quoteL s) = some s := by
  unfold quoteL
  rw [unqL_some, dec_enc]
theorem quote_len (s : List UInt8) : (quoteL s).length ≤ 3 * s.length + 2 := by
  have := enc_len s
  simp [quoteL]; omega
theorem quotes_law (s : List UInt8) (hf : Fits en m.length) : WC Tryd.prog pol en (.func 4) [tx s] m fun v m' => v = .sc (.bool true) ∧ m' = m := by
  refine callPur Tryd.func4 rfl rfl Tryd.ntmps4 Tryd.results4 ?_
  have hf' : Fits (en' en m) m.length := hf.pur
  simp -implicitDefEqProofs -dsimp (disch := (first | omega | (simp only [List.length_set, List.length_append, List.length_cons, List.length_nil]; omega))) only [go_sem, Nat.reduceAdd, Nat.reduceSub, Nat.reduceLT, Nat.reduceLeDiff, Int.reduceToNat, Int.reduceLE, Int.reduceLT, Int.reduceAdd, Int.reduceSub, Int.reduceEq, Int.reduceNe, Int.reduceMul, Nat.reduceMul, Int.reduceNeg, Int.toNat_natCast, Nat.reduceEqDiff, X.exit.injEq, if_true, if_false, reduceIte, Bool.not_true, Bool.not_false, Bool.false_eq_true, Bool.true_eq_false, true_and, need_of, strR_addD, u8w, atS_txD, slT_hiD, slT_loD, slT_bothD, need_true, need_and, WOf_need, i64w, u64w, at_getD, idxR_slD, idxR_slf, idxF_some, and_true, Nat.zero_add, Nat.mul_one, Nat.add_zero, idxS_one, get_setN, get_setS, get_appL, List.length_set, ↓ibin_shlD, ↓ibin_shrD, bld1_true, plan_buildD, natSucc, ]
  refine (short_ok s).eq ?_
  have hl : (s.take 2000).length ≤ 2000 := by simp; omega
  generalize s.take 2000 = t at hl
  have hq := quote_len t
  simp -implicitDefEqProofs -dsimp (disch := (first | omega | (simp only [List.length_set, List.length_append, List.length_cons, List.length_nil]; omega))) only [go_sem, Nat.reduceAdd, Nat.reduceSub, Nat.reduceLT, Nat.reduceLeDiff, Int.reduceToNat, Int.reduceLE, Int.reduceLT, Int.reduceAdd, Int.reduceSub, Int.reduceEq, Int.reduceNe, Int.reduceMul, Nat.reduceMul, Int.reduceNeg, Int.toNat_natCast, Nat.reduceEqDiff, X.exit.injEq, if_true, if_false, reduceIte, Bool.not_true, Bool.not_false, Bool.false_eq_true, Bool.true_eq_false, true_and, need_of, strR_addD, u8w, atS_txD, slT_hiD, slT_loD, slT_bothD, need_true, need_and, WOf_need, i64w, u64w, at_getD, idxR_slD, idxR_slf, idxF_some, and_true, Nat.zero_add, Nat.mul_one, Nat.add_zero, idxS_one, get_setN, get_setS, get_appL, List.length_set, ↓ibin_shlD, ↓ibin_shrD, bld1_true, plan_buildD, natSucc, ]
  refine (unquote_ok t (by omega) hf').eq ?_
  cases hu : unqL t with
  | none =>
    simp only [ansO]
    simp -implicitDefEqProofs -dsimp (disch := (first | omega | (simp only [List.length_set, List.length_append, List.length_cons, List.length_nil]; omega))) only [go_sem, Nat.reduceAdd, Nat.reduceSub, Nat.reduceLT, Nat.reduceLeDiff, Int.reduceToNat, Int.reduceLE, Int.reduceLT, Int.reduceAdd, Int.reduceSub, Int.reduceEq, Int.reduceNe, Int.reduceMul, Nat.reduceMul, Int.reduceNeg, Int.toNat_natCast, Nat.reduceEqDiff, X.exit.injEq, if_true, if_false, reduceIte, Bool.not_true, Bool.not_false, Bool.false_eq_true, Bool.true_eq_false, true_and, need_of, strR_addD, u8w, atS_txD, slT_hiD, slT_loD, slT_bothD, need_true, need_and, WOf_need, i64w, u64w, at_getD, idxR_slD, idxR_slf, idxF_some, and_true, Nat.zero_add, Nat.mul_one, Nat.add_zero, idxS_one, get_setN, get_setS, get_appL, List.length_set, ↓ibin_shlD, ↓ibin_shrD, bld1_true, plan_buildD, natSucc, ]
    refine (refUnquote_ok t (by omega) hf').eq ?_
    rw [hu]; simp only [ansO]
    simp -implicitDefEqProofs -dsimp (disch := (first | omega | (simp only [List.length_set, List.length_append, List.length_cons, List.length_nil]; omega))) only [go_sem, Nat.reduceAdd, Nat.reduceSub, Nat.reduceLT, Nat.reduceLeDiff, Int.reduceToNat, Int.reduceLE, Int.reduceLT, Int.reduceAdd, Int.reduceSub, Int.reduceEq, Int.reduceNe, Int.reduceMul, Nat.reduceMul, Int.reduceNeg, Int.toNat_natCast, Nat.reduceEqDiff, X.exit.injEq, if_true, if_false, reduceIte, Bool.not_true, Bool.not_false, Bool.false_eq_true, Bool.true_eq_false, true_and, need_of, strR_addD, u8w, atS_txD, slT_hiD, slT_loD, slT_bothD, need_true, need_and, WOf_need, i64w, u64w, at_getD, idxR_slD, idxR_slf, idxF_some, and_true, Nat.zero_add, Nat.mul_one, Nat.add_zero, idxS_one, get_setN, get_setS, get_appL, List.length_set, ↓ibin_shlD, ↓ibin_shrD, bld1_true, plan_buildD, natSucc, ]
    refine (quote_ok t (by omega) hf').eq ?_
    simp -implicitDefEqProofs -dsimp (disch := (first | omega | (simp only [List.length_set, List.length_append, List.length_cons, List.length_nil]; omega))) only [go_sem, Nat.reduceAdd, Nat.reduceSub, Nat.reduceLT, Nat.reduceLeDiff, Int.reduceToNat, Int.reduceLE, Int.reduceLT, Int.reduceAdd, Int.reduceSub, Int.reduceEq, Int.reduceNe, Int.reduceMul, Nat.reduceMul, Int.reduceNeg, Int.toNat_natCast, Nat.reduceEqDiff, X.exit.injEq, if_true, if_false, reduceIte, Bool.not_true, Bool.not_false, Bool.false_eq_true, Bool.true_eq_false, true_and, need_of, strR_addD, u8w, atS_txD, slT_hiD, slT_loD, slT_bothD, need_true, need_and, WOf_need, i64w, u64w, at_getD, idxR_slD, idxR_slf, idxF_some, and_true, Nat.zero_add, Nat.mul_one, Nat.add_zero, idxS_one, get_setN, get_setS, get_appL, List.length_set, ↓ibin_shlD, ↓ibin_shrD, bld1_true, plan_buildD, natSucc, ]
    refine (unquote_ok (quoteL t) (by omega) hf').eq ?_
    rw [unq_quote]; simp only [ansO]
    simp -implicitDefEqProofs -dsimp (disch := (first | omega | (simp only [List.length_set, List.length_append, List.length_cons, List.length_nil]; omega))) only [go_sem, Nat.reduceAdd, Nat.reduceSub, Nat.reduceLT, Nat.reduceLeDiff, Int.reduceToNat, Int.reduceLE, Int.reduceLT, Int.reduceAdd, Int.reduceSub, Int.reduceEq, Int.reduceNe, Int.reduceMul, Nat.reduceMul, Int.reduceNeg, Int.toNat_natCast, Nat.reduceEqDiff, X.exit.injEq, if_true, if_false, reduceIte, Bool.not_true, Bool.not_false, Bool.false_eq_true, Bool.true_eq_false, true_and, need_of, strR_addD, u8w, atS_txD, slT_hiD, slT_loD, slT_bothD, need_true, need_and, WOf_need, i64w, u64w, at_getD, idxR_slD, idxR_slf, idxF_some, and_true, Nat.zero_add, Nat.mul_one, Nat.add_zero, idxS_one, get_setN, get_setS, get_appL, List.length_set, ↓ibin_shlD, ↓ibin_shrD, bld1_true, plan_buildD, natSucc, ]
    refine live_ok.eq ?_
    simp -implicitDefEqProofs -dsimp (disch := (first | omega | (simp only [List.length_set, List.length_append, List.length_cons, List.length_nil]; omega))) only [go_sem, Nat.reduceAdd, Nat.reduceSub, Nat.reduceLT, Nat.reduceLeDiff, Int.reduceToNat, Int.reduceLE, Int.reduceLT, Int.reduceAdd, Int.reduceSub, Int.reduceEq, Int.reduceNe, Int.reduceMul, Nat.reduceMul, Int.reduceNeg, Int.toNat_natCast, Nat.reduceEqDiff, X.exit.injEq, if_true, if_false, reduceIte, Bool.not_true, Bool.not_false, Bool.false_eq_true, Bool.true_eq_false, true_and, need_of, strR_addD, u8w, atS_txD, slT_hiD, slT_loD, slT_bothD, need_true, need_and, WOf_need, i64w, u64w, at_getD, idxR_slD, idxR_slf, idxF_some, and_true, Nat.zero_add, Nat.mul_one, Nat.add_zero, idxS_one, get_setN, get_setS, get_appL, List.length_set, ↓ibin_shlD, ↓ibin_shrD, bld1_true, plan_buildD, natSucc, ]
    refine (quote_ok t (by omega) hf').eq ?_
    simp -implicitDefEqProofs -dsimp (disch := (first | omega | (simp only [List.length_set, List.length_append, List.length_cons, List.length_nil]; omega))) only [go_sem, Nat.reduceAdd, Nat.reduceSub, Nat.reduceLT, Nat.reduceLeDiff, Int.reduceToNat, Int.reduceLE, Int.reduceLT, Int.reduceAdd, Int.reduceSub, Int.reduceEq, Int.reduceNe, Int.reduceMul, Nat.reduceMul, Int.reduceNeg, Int.toNat_natCast, Nat.reduceEqDiff, X.exit.injEq, if_true, if_false, reduceIte, Bool.not_true, Bool.not_false, Bool.false_eq_true, Bool.true_eq_false, true_and, need_of, strR_addD, u8w, atS_txD, slT_hiD, slT_loD, slT_bothD, need_true, need_and, WOf_need, i64w, u64w, at_getD, idxR_slD, idxR_slf, idxF_some, and_true, Nat.zero_add, Nat.mul_one, Nat.add_zero, idxS_one, get_setN, get_setS, get_appL, List.length_set, ↓ibin_shlD, ↓ibin_shrD, bld1_true, plan_buildD, natSucc, ]
    refine (refQuote_ok t (by omega) hf').eq ?_
    simp -implicitDefEqProofs -dsimp (disch := (first | omega | (simp only [List.length_set, List.length_append, List.length_cons, List.length_nil]; omega))) only [go_sem, Nat.reduceAdd, Nat.reduceSub, Nat.reduceLT, Nat.reduceLeDiff, Int.reduceToNat, Int.reduceLE, Int.reduceLT, Int.reduceAdd, Int.reduceSub, Int.reduceEq, Int.reduceNe, Int.reduceMul, Nat.reduceMul, Int.reduceNeg, Int.toNat_natCast, Nat.reduceEqDiff, X.exit.injEq, if_true, if_false, reduceIte, Bool.not_true, Bool.not_false, Bool.false_eq_true, Bool.true_eq_false, true_and, need_of, strR_addD, u8w, atS_txD, slT_hiD, slT_loD, slT_bothD, need_true, need_and, WOf_need, i64w, u64w, at_getD, idxR_slD, idxR_slf, idxF_some, and_true, Nat.zero_add, Nat.mul_one, Nat.add_zero, idxS_one, get_setN, get_setS, get_appL, List.length_set, ↓ibin_shlD, ↓ibin_shrD, bld1_true, plan_buildD, natSucc, ]
  | some out =>
    simp only [ansO]
    simp -implicitDefEqProofs -dsimp (disch := (first | omega | (simp only [List.length_set, List.length_append, List.length_cons, List.length_nil]; omega))) only [go_sem, Nat.reduceAdd, Nat.reduceSub, Nat.reduceLT, Nat.reduceLeDiff, Int.reduceToNat, Int.reduceLE, Int.reduceLT, Int.reduceAdd, Int.reduceSub, Int.reduceEq, Int.reduceNe, Int.reduceMul, Nat.reduceMul, Int.reduceNeg, Int.toNat_natCast, Nat.reduceEqDiff, X.exit.injEq, if_true, if_false, reduceIte, Bool.not_true, Bool.not_false, Bool.false_eq_true, Bool.true_eq_false, true_and, need_of, strR_addD, u8w, atS_txD, slT_hiD, slT_loD, slT_bothD, need_true, need_and, WOf_need, i64w, u64w, at_getD, idxR_slD, idxR_slf, idxF_some, and_true, Nat.zero_add, Nat.mul_one, Nat.add_zero, idxS_one, get_setN, get_setS, get_appL, List.length_set, ↓ibin_shlD, ↓ibin_shrD, bld1_true, plan_buildD, natSucc, ]
    refine (refUnquote_ok t (by omega) hf').eq ?_
    rw [hu]; simp only [ansO]
    simp -implicitDefEqProofs -dsimp (disch := (first | omega | (simp only [List.length_set, List.length_append, List.length_cons, List.length_nil]; omega))) only [go_sem, Nat.reduceAdd, Nat.reduceSub, Nat.reduceLT, Nat.reduceLeDiff, Int.reduceToNat, Int.reduceLE, Int.reduceLT, Int.reduceAdd, Int.reduceSub, Int.reduceEq, Int.reduceNe, Int.reduceMul, Nat.reduceMul, Int.reduceNeg, Int.toNat_natCast, Nat.reduceEqDiff, X.exit.injEq, if_true, if_false, reduceIte, Bool.not_true, Bool.not_false, Bool.false_eq_true, Bool.true_eq_false, true_and, need_of, strR_addD, u8w, atS_txD, slT_hiD, slT_loD, slT_bothD, need_true, need_and, WOf_need, i64w, u64w, at_getD, idxR_slD, idxR_slf, idxF_some, and_true, Nat.zero_add, Nat.mul_one, Nat.add_zero, idxS_one, get_setN, get_setS, get_appL, List.length_set, ↓ibin_shlD, ↓ibin_shrD, bld1_true, plan_buildD, natSucc, ]
    refine (quote_ok t (by omega) hf').eq ?_
    simp -implicitDefEqProofs -dsimp (disch := (first | omega | (simp only [List.length_set, List.length_append, List.length_cons, List.length_nil]; omega))) only [go_sem, Nat.reduceAdd, Nat.reduceSub, Nat.reduceLT, Nat.reduceLeDiff, Int.reduceToNat, Int.reduceLE, Int.reduceLT, Int.reduceAdd, Int.reduceSub, Int.reduceEq, Int.reduceNe, Int.reduceMul, Nat.reduceMul, Int.reduceNeg, Int.toNat_natCast, Nat.reduceEqDiff, X.exit.injEq, if_true, if_false, reduceIte, Bool.not_true, Bool.not_false, Bool.false_eq_true, Bool.true_eq_false, true_and, need_of, strR_addD, u8w, atS_txD, slT_hiD, slT_loD, slT_bothD, need_true, need_and, WOf_need, i64w, u64w, at_getD, idxR_slD, idxR_slf, idxF_some, and_true, Nat.zero_add, Nat.mul_one, Nat.add_zero, idxS_one, get_setN, get_setS, get_appL, List.length_set, ↓ibin_shlD, ↓ibin_shrD, bld1_true, plan_buildD, natSucc, ]
    refine (unquote_ok (quoteL t) (by omega) hf').eq ?_
    rw [unq_quote]; simp only [ansO]
    simp -implicitDefEqProofs -dsimp (disch := (first | omega | (simp only [List.length_set, List.length_append, List.length_cons, List.length_nil]; omega))) only [go_sem, Nat.reduceAdd, Nat.reduceSub, Nat.reduceLT, Nat.reduceLeDiff, Int.reduceToNat, Int.reduceLE, Int.reduceLT, Int.reduceAdd, Int.reduceSub, Int.reduceEq, Int.reduceNe, Int.reduceMul, Nat.reduceMul, Int.reduceNeg, Int.toNat_natCast, Nat.reduceEqDiff, X.exit.injEq, if_true, if_false, reduceIte, Bool.not_true, Bool.not_false, Bool.false_eq_true, Bool.true_eq_false, true_and, need_of, strR_addD, u8w, atS_txD, slT_hiD, slT_loD, slT_bothD, need_true, need_and, WOf_need, i64w, u64w, at_getD, idxR_slD, idxR_slf, idxF_some, and_true, Nat.zero_add, Nat.mul_one, Nat.add_zero, idxS_one, get_setN, get_setS, get_appL, List.length_set, ↓ibin_shlD, ↓ibin_shrD, bld1_true, plan_buildD, natSucc, ]
    refine live_ok.eq ?_
    simp -implicitDefEqProofs -dsimp (disch := (first | omega | (simp only [List.length_set, List.length_append, List.length_cons, List.length_nil]; omega))) only [go_sem, Nat.reduceAdd, Nat.reduceSub, Nat.reduceLT, Nat.reduceLeDiff, Int.reduceToNat, Int.reduceLE, Int.reduceLT, Int.reduceAdd, Int.reduceSub, Int.reduceEq, Int.reduceNe, Int.reduceMul, Nat.reduceMul, Int.reduceNeg, Int.toNat_natCast, Nat.reduceEqDiff, X.exit.injEq, if_true, if_false, reduceIte, Bool.not_true, Bool.not_false, Bool.false_eq_true, Bool.true_eq_false, true_and, need_of, strR_addD, u8w, atS_txD, slT_hiD, slT_loD, slT_bothD, need_true, need_and, WOf_need, i64w, u64w, at_getD, idxR_slD, idxR_slf, idxF_some, and_true, Nat.zero_add, Nat.mul_one, Nat.add_zero, idxS_one, get_setN, get_setS, get_appL, List.length_set, ↓ibin_shlD, ↓ibin_shrD, bld1_true, plan_buildD, natSucc, ]
    refine (quote_ok t (by omega) hf').eq ?_
    simp -implicitDefEqProofs -dsimp (disch := (first | omega | (simp only [List.length_set, List.length_append, List.length_cons, List.length_nil]; omega))) only [go_sem, Nat.reduceAdd, Nat.reduceSub, Nat.reduceLT, Nat.reduceLeDiff, Int.reduceToNat, Int.reduceLE, Int.reduceLT, Int.reduceAdd, Int.reduceSub, Int.reduceEq, Int.reduceNe, Int.reduceMul, Nat.reduceMul, Int.reduceNeg, Int.toNat_natCast, Nat.reduceEqDiff, X.exit.injEq, if_true, if_false, reduceIte, Bool.not_true, Bool.not_false, Bool.false_eq_true, Bool.true_eq_false, true_and, need_of, strR_addD, u8w, atS_txD, slT_hiD, slT_loD, slT_bothD, need_true, need_and, WOf_need, i64w, u64w, at_getD, idxR_slD, idxR_slf, idxF_some, and_true, Nat.zero_add, Nat.mul_one, Nat.add_zero, idxS_one, get_setN, get_setS, get_appL, List.length_set, ↓ibin_shlD, ↓ibin_shrD, bld1_true, plan_buildD, natSucc, ]
    refine (refQuote_ok t (by omega) hf').eq ?_
    simp -implicitDefEqProofs -dsimp (disch := (first | omega | (simp only [List.length_set, List.length_append, List.length_cons, List.length_nil]; omega))) only [go_sem, Nat.reduceAdd, Nat.reduceSub, Nat.reduceLT, Nat.reduceLeDiff, Int.reduceToNat, Int.reduceLE, Int.reduceLT, Int.reduceAdd, Int.reduceSub, Int.reduceEq, Int.reduceNe, Int.reduceMul, Nat.reduceMul, Int.reduceNeg, Int.toNat_natCast, Nat.reduceEqDiff, X.exit.injEq, if_true, if_false, reduceIte, Bool.not_true, Bool.not_false, Bool.false_eq_true, Bool.true_eq_false, true_and, need_of, strR_addD, u8w, atS_txD, slT_hiD, slT_loD, slT_bothD, need_true, need_and, WOf_need, i64w, u64w, at_getD, idxR_slD, idxR_slf, idxF_some, and_true, Nat.zero_add, Nat.mul_one, Nat.add_zero, idxS_one, get_setN, get_setS, get_appL, List.length_set, ↓ibin_shlD, ↓ibin_shrD, bld1_true, plan_buildD, natSucc, ]
end
end Go.Proofs.YtcmjidnbbfcbjaaDoor.V
/- DeltaQuotes, at the top; no condition. -/
namespace Go.Proofs.YtcmjidnbbfcbjaaDoor.V
open Go
theorem quotes_top (s : ByteArray) (_ : s.size ≤ maxLen) : WC Tryd.prog pol ⟨[], 0⟩ (.func 4) [.sc (.string ⟨⟨s.data.toList⟩⟩)] [] fun v m' => v = .sc (.bool true) ∧ m' = [] :=
  quotes_law s.data.toList (fun B hB => by cases hB)
end Go.Proofs.YtcmjidnbbfcbjaaDoor.V
