/- Parts of the proof, joined (D0, D1, D2); no condition. -/
import Derived.Test.YtcmjidnbbfcbjaaDoorMd
/- Nodes and operations as values; no condition. -/
namespace Go.Proofs.YtcmjidnbbfcbjaaDoor.V
open Go
set_option linter.unusedVariables false
set_option linter.unusedSimpArgs false
noncomputable section
structure Nd where
  path : List UInt8
  dir : Bool
  data : List UInt8
  first : List UInt8
  deriving DecidableEq
abbrev bo (b : Bool) : AV := .sc (.bool b)
def ndC (a : Nd) : List AV := [tx a.path, .sc (.bool a.dir), tx a.data, tx a.first]
@[go_sem] theorem ndC_eq (a : Nd) : ndC a = [tx a.path, .sc (.bool a.dir), tx a.data, tx a.first] := rfl
theorem clean_ok {v : Value} : Clean (.sc v) ∧ ∀ t u, AV.sc v ≠ .ifc t u := ⟨clean_sc _, by simp⟩
instance : Wide ndC 4 where
  len _ := rfl
  pos := by omega
  clean a c hc := by
    simp only [ndC, List.mem_cons, List.not_mem_nil, or_false] at hc
    rcases hc with rfl | rfl | rfl | rfl <;> exact clean_ok
structure Pn where
  kind : Int
  path : List UInt8
  other : List UInt8
  off : Int
  data : List UInt8
  deriving DecidableEq
def opC (a : Pn) : List AV := [.sc (.int .u8 a.kind), tx a.path, tx a.other, I a.off, tx a.data]
@[go_sem] theorem opC_eq (a : Pn) : opC a = [.sc (.int .u8 a.kind), tx a.path, tx a.other, I a.off, tx a.data] := rfl
instance : Wide opC 5 where
  len _ := rfl
  pos := by omega
  clean a c hc := by
    simp only [opC, List.mem_cons, List.not_mem_nil, or_false] at hc
    rcases hc with rfl | rfl | rfl | rfl | rfl <;> exact clean_ok
def nd0 : Nd := ⟨[], false, [], []⟩
def op0 : Pn := ⟨0, [], [], 0, []⟩
/-- What stands at a path. -/
def getL (t : List Nd) (p : List UInt8) : Option Nd := t.find? fun n => decide (n.path = p)
def getA (r : Option Nd) : AV := .tup [.agg (ndC (r.getD nd0)), .sc (.bool r.isSome)]
theorem getL_step {t : List Nd} {p : List UInt8} {i : Nat} (hi : i < t.length) (h : getL (t.take i) p = none) (hp : t[i].path ≠ p) : getL (t.take (i + 1)) p = none := by
  unfold getL at *
  rw [List.take_add_one, List.getElem?_eq_getElem hi, List.find?_append, h]
  simp [hp]
theorem getL_found {t : List Nd} {p : List UInt8} {i : Nat} (hi : i < t.length) (h : getL (t.take i) p = none) (hp : t[i].path = p) : getL t p = some t[i] := by
  unfold getL at *
  have e : t.take i ++ t[i] :: t.drop (i + 1) = t := by rw [← List.drop_eq_getElem_cons hi, List.take_append_drop]
  have e2 : (t.take i ++ t[i] :: t.drop (i + 1)).find? (fun n => decide (n.path = p)) = some t[i] := by
    rw [List.find?_append, h, List.find?_cons_of_pos (by simp [hp])]; rfl
  rwa [e] at e2
end
end Go.Proofs.YtcmjidnbbfcbjaaDoor.V
/- The reference's small functions of trees; no condition. -/
namespace Go.Proofs.YtcmjidnbbfcbjaaDoor.V
open Go
set_option linter.unusedVariables false
set_option linter.unusedSimpArgs false
set_option maxRecDepth 100000
set_option maxHeartbeats 4000000
noncomputable section
variable {en : Env} {m : Mem}
theorem get_ok (t : Sl Nd) (p : List UInt8) (ht : t.l.length < 4294967296) (hf : Fits en m.length) : WC Tryd.prog pol en (.func 28) [slf ndC t, tx p] m fun v m' => v = getA (getL t.l p) ∧ m' = m := by
  refine callPur Tryd.func28 rfl rfl Tryd.ntmps28 Tryd.results28 ?_
  simp -implicitDefEqProofs -dsimp (disch := (first | omega | (simp only [List.length_set, List.length_append, List.length_cons, List.length_nil]; omega))) only [go_sem, Nat.reduceAdd, Nat.reduceSub, Nat.reduceLT, Nat.reduceLeDiff, Int.reduceToNat, Int.reduceLE, Int.reduceLT, Int.reduceAdd, Int.reduceSub, Int.reduceEq, Int.reduceNe, Int.reduceMul, Nat.reduceMul, Int.reduceNeg, Int.toNat_natCast, Nat.reduceEqDiff, X.exit.injEq, if_true, if_false, reduceIte, Bool.not_true, Bool.not_false, Bool.false_eq_true, Bool.true_eq_false, true_and, need_of, strR_addD, u8w, atS_txD, slT_hiD, slT_loD, slT_bothD, need_true, need_and, WOf_need, i64w, u64w, at_getD, idxR_slD, idxR_slf, idxF_some, and_true, Nat.zero_add, Nat.mul_one, Nat.add_zero, idxS_one, get_setN, get_setS, get_appL, List.length_set, ↓ibin_shlD, ↓ibin_shrD, bld1_true, plan_buildD, natSucc, ]
  refine loopF (fun k ts m' => ∃ (i : Nat), ts.length = 25 ∧ tg ts 0 = slf ndC t ∧ tg ts 1 = tx p ∧ tg ts 4 = .ptr m.length (tagT 47) 0 ∧ tg ts 6 = I i ∧ m' = m ++ [.cells (tagT 47) (ndC nd0)] ∧ getL (t.l.take i) p = none ∧ i ≤ t.l.length ∧ k = t.l.length - i) t.l.length ⟨0, rfl, rfl, rfl, rfl, rfl, rfl, rfl, by omega, by omega⟩ ?_
  rintro k ts m' ⟨i, hl, h0, h1, h4, h6, rfl, hg, hi, hk⟩
  rw [expandT hl]
  have hok := fun low => okTo_purT (en := en) hf (Nat.le_refl m.length) (low := low)
  by_cases hlt : (i : Int) < (t.l.length : Int)
  · have hi' : i < t.l.length := by omega
    by_cases hp : t.l[i].path = p
    · simp -implicitDefEqProofs -dsimp (disch := (first | omega | (simp only [List.length_set, List.length_append, List.length_cons, List.length_nil]; omega))) only [go_sem, Nat.reduceAdd, Nat.reduceSub, Nat.reduceLT, Nat.reduceLeDiff, Int.reduceToNat, Int.reduceLE, Int.reduceLT, Int.reduceAdd, Int.reduceSub, Int.reduceEq, Int.reduceNe, Int.reduceMul, Nat.reduceMul, Int.reduceNeg, Int.toNat_natCast, Nat.reduceEqDiff, X.exit.injEq, if_true, if_false, reduceIte, Bool.not_true, Bool.not_false, Bool.false_eq_true, Bool.true_eq_false, true_and, need_of, strR_addD, u8w, atS_txD, slT_hiD, slT_loD, slT_bothD, need_true, need_and, WOf_need, i64w, u64w, at_getD, idxR_slD, idxR_slf, idxF_some, and_true, Nat.zero_add, Nat.mul_one, Nat.add_zero, idxS_one, get_setN, get_setS, get_appL, List.length_set, ↓ibin_shlD, ↓ibin_shrD, bld1_true, plan_buildD, natSucc, h0, h1, h4, h6, hlt, hp, hok]
      rw [getL_found hi' hg hp, ← hp]; rfl
    · simp -implicitDefEqProofs -dsimp (disch := (first | omega | (simp only [List.length_set, List.length_append, List.length_cons, List.length_nil]; omega))) only [go_sem, Nat.reduceAdd, Nat.reduceSub, Nat.reduceLT, Nat.reduceLeDiff, Int.reduceToNat, Int.reduceLE, Int.reduceLT, Int.reduceAdd, Int.reduceSub, Int.reduceEq, Int.reduceNe, Int.reduceMul, Nat.reduceMul, Int.reduceNeg, Int.toNat_natCast, Nat.reduceEqDiff, X.exit.injEq, if_true, if_false, reduceIte, Bool.not_true, Bool.not_false, Bool.false_eq_true, Bool.true_eq_false, true_and, need_of, strR_addD, u8w, atS_txD, slT_hiD, slT_loD, slT_bothD, need_true, need_and, WOf_need, i64w, u64w, at_getD, idxR_slD, idxR_slf, idxF_some, and_true, Nat.zero_add, Nat.mul_one, Nat.add_zero, idxS_one, get_setN, get_setS, get_appL, List.length_set, ↓ibin_shlD, ↓ibin_shrD, bld1_true, plan_buildD, natSucc, h0, h1, h4, h6, hlt, hp, hok]
      exact ⟨_, by omega, i + 1, rfl, getL_step hi' hg hp, by omega, rfl⟩
  · simp -implicitDefEqProofs -dsimp (disch := (first | omega | (simp only [List.length_set, List.length_append, List.length_cons, List.length_nil]; omega))) only [go_sem, Nat.reduceAdd, Nat.reduceSub, Nat.reduceLT, Nat.reduceLeDiff, Int.reduceToNat, Int.reduceLE, Int.reduceLT, Int.reduceAdd, Int.reduceSub, Int.reduceEq, Int.reduceNe, Int.reduceMul, Nat.reduceMul, Int.reduceNeg, Int.toNat_natCast, Nat.reduceEqDiff, X.exit.injEq, if_true, if_false, reduceIte, Bool.not_true, Bool.not_false, Bool.false_eq_true, Bool.true_eq_false, true_and, need_of, strR_addD, u8w, atS_txD, slT_hiD, slT_loD, slT_bothD, need_true, need_and, WOf_need, i64w, u64w, at_getD, idxR_slD, idxR_slf, idxF_some, and_true, Nat.zero_add, Nat.mul_one, Nat.add_zero, idxS_one, get_setN, get_setS, get_appL, List.length_set, ↓ibin_shlD, ↓ibin_shrD, bld1_true, plan_buildD, natSucc, h0, h1, h4, h6, hlt, hok]
    rw [List.take_of_length_le (by omega)] at hg
    rw [hg]; rfl
end
end Go.Proofs.YtcmjidnbbfcbjaaDoor.V
/- Names, paths, of the reference; no condition. -/
namespace Go.Proofs.YtcmjidnbbfcbjaaDoor.V
open Go
set_option linter.unusedVariables false
set_option linter.unusedSimpArgs false
set_option maxRecDepth 100000
set_option maxHeartbeats 4000000
noncomputable section
variable {en : Env} {m : Mem}
def okB (c : UInt8) : Bool := decide ((97 ≤ c.toNat ∧ c.toNat ≤ 122) ∨ (48 ≤ c.toNat ∧ c.toNat ≤ 57) ∨ c.toNat = 45 ∨ c.toNat = 46)
def nameB (s : List UInt8) : Bool := s.all okB && decide (1 ≤ s.length ∧ s.length ≤ 7)
theorem name_ok (s : List UInt8) (hs : s.length ≤ 4294967296) (hf : Fits en m.length) : WC Tryd.prog pol en (.func 65) [tx s] m fun v m' => v = bo (nameB s) ∧ m' = m := by
  refine callPur Tryd.func65 rfl rfl Tryd.ntmps65 Tryd.results65 ?_
  simp -implicitDefEqProofs -dsimp (disch := (first | omega | (simp only [List.length_set, List.length_append, List.length_cons, List.length_nil]; omega))) only [go_sem, Nat.reduceAdd, Nat.reduceSub, Nat.reduceLT, Nat.reduceLeDiff, Int.reduceToNat, Int.reduceLE, Int.reduceLT, Int.reduceAdd, Int.reduceSub, Int.reduceEq, Int.reduceNe, Int.reduceMul, Nat.reduceMul, Int.reduceNeg, Int.toNat_natCast, Nat.reduceEqDiff, X.exit.injEq, if_true, if_false, reduceIte, Bool.not_true, Bool.not_false, Bool.false_eq_true, Bool.true_eq_false, true_and, need_of, strR_addD, u8w, atS_txD, slT_hiD, slT_loD, slT_bothD, need_true, need_and, WOf_need, i64w, u64w, at_getD, idxR_slD, idxR_slf, idxF_some, and_true, Nat.zero_add, Nat.mul_one, Nat.add_zero, idxS_one, get_setN, get_setS, get_appL, List.length_set, ↓ibin_shlD, ↓ibin_shrD, bld1_true, plan_buildD, natSucc, ]
  refine loopF (fun k ts m' => ∃ (i : Nat), ts.length = 45 ∧ tg ts 0 = tx s ∧ tg ts 3 = I i ∧ m' = m ∧ (s.take i).all okB = true ∧ i ≤ s.length ∧ k = s.length - i) s.length ⟨0, rfl, rfl, rfl, rfl, rfl, by omega, by omega⟩ ?_
  rintro k ts m' ⟨i, hl, h0, h3, rfl, hg, hi, hk⟩
  rw [expandT hl]
  by_cases hlt : (i : Int) < (s.length : Int)
  · have hi' : i < s.length := by omega
    obtain ⟨c, hc⟩ : ∃ c, s[i]? = some c := ⟨_, List.getElem?_eq_getElem hi'⟩
    have hb : (s.take (i + 1)).all okB = okB c := by rw [List.take_add_one, hc, List.all_append, hg]; simp
    have hn : okB c = false → bo (nameB s) = bo false := fun h => by
      have : s.all okB = false := by
        rw [List.all_eq_false]; exact ⟨c, List.mem_of_getElem? hc, by simp [h]⟩
      simp [nameB, this]
    have yes : okB c = true → ∃ k', k' < k ∧ ∃ i_1 : Nat, I (i + 1 : Nat) = I (i_1 : Nat) ∧ (s.take i_1).all okB = true ∧ i_1 ≤ s.length ∧ k' = s.length - i_1 := fun h => ⟨s.length - (i + 1), by omega, i + 1, rfl, by rw [hb]; exact h, by omega, rfl⟩
    have no : okB c = false → AV.sc (.bool false) = bo (nameB s) := fun h => (hn h).symm
    have A1 : ∀ {p : Prop}, p → p = True := fun h => eq_true h
    by_cases h1 : (c.toNat : Int) ≥ 97
    · by_cases h2 : (c.toNat : Int) ≤ 122
      · simp -implicitDefEqProofs -dsimp (disch := (first | omega | (simp only [List.length_set, List.length_append, List.length_cons, List.length_nil]; omega))) only [go_sem, Nat.reduceAdd, Nat.reduceSub, Nat.reduceLT, Nat.reduceLeDiff, Int.reduceToNat, Int.reduceLE, Int.reduceLT, Int.reduceAdd, Int.reduceSub, Int.reduceEq, Int.reduceNe, Int.reduceMul, Nat.reduceMul, Int.reduceNeg, Int.toNat_natCast, Nat.reduceEqDiff, X.exit.injEq, if_true, if_false, reduceIte, Bool.not_true, Bool.not_false, Bool.false_eq_true, Bool.true_eq_false, true_and, need_of, strR_addD, u8w, atS_txD, slT_hiD, slT_loD, slT_bothD, need_true, need_and, WOf_need, i64w, u64w, at_getD, idxR_slD, idxR_slf, idxF_some, and_true, Nat.zero_add, Nat.mul_one, Nat.add_zero, idxS_one, get_setN, get_setS, get_appL, List.length_set, ↓ibin_shlD, ↓ibin_shrD, bld1_true, plan_buildD, natSucc, h0, h3, hlt, hc, h1, h2]
        exact yes (by simp [okB]; omega)
      · have h3' : (c.toNat : Int) ≥ 48 := by omega
        have h4 : ¬ (c.toNat : Int) ≤ 57 := by omega
        have h5 : ¬ (c.toNat : Int) = 45 := by omega
        have h6 : ¬ (c.toNat : Int) = 46 := by omega
        simp -implicitDefEqProofs -dsimp (disch := (first | omega | (simp only [List.length_set, List.length_append, List.length_cons, List.length_nil]; omega))) only [go_sem, Nat.reduceAdd, Nat.reduceSub, Nat.reduceLT, Nat.reduceLeDiff, Int.reduceToNat, Int.reduceLE, Int.reduceLT, Int.reduceAdd, Int.reduceSub, Int.reduceEq, Int.reduceNe, Int.reduceMul, Nat.reduceMul, Int.reduceNeg, Int.toNat_natCast, Nat.reduceEqDiff, X.exit.injEq, if_true, if_false, reduceIte, Bool.not_true, Bool.not_false, Bool.false_eq_true, Bool.true_eq_false, true_and, need_of, strR_addD, u8w, atS_txD, slT_hiD, slT_loD, slT_bothD, need_true, need_and, WOf_need, i64w, u64w, at_getD, idxR_slD, idxR_slf, idxF_some, and_true, Nat.zero_add, Nat.mul_one, Nat.add_zero, idxS_one, get_setN, get_setS, get_appL, List.length_set, ↓ibin_shlD, ↓ibin_shrD, bld1_true, plan_buildD, natSucc, h0, h3, hlt, hc, h1, h2, h3', h4, h5, h6]
        exact no (by simp [okB]; omega)
    · by_cases h2 : (c.toNat : Int) ≥ 48
      · by_cases h4 : (c.toNat : Int) ≤ 57
        · simp -implicitDefEqProofs -dsimp (disch := (first | omega | (simp only [List.length_set, List.length_append, List.length_cons, List.length_nil]; omega))) only [go_sem, Nat.reduceAdd, Nat.reduceSub, Nat.reduceLT, Nat.reduceLeDiff, Int.reduceToNat, Int.reduceLE, Int.reduceLT, Int.reduceAdd, Int.reduceSub, Int.reduceEq, Int.reduceNe, Int.reduceMul, Nat.reduceMul, Int.reduceNeg, Int.toNat_natCast, Nat.reduceEqDiff, X.exit.injEq, if_true, if_false, reduceIte, Bool.not_true, Bool.not_false, Bool.false_eq_true, Bool.true_eq_false, true_and, need_of, strR_addD, u8w, atS_txD, slT_hiD, slT_loD, slT_bothD, need_true, need_and, WOf_need, i64w, u64w, at_getD, idxR_slD, idxR_slf, idxF_some, and_true, Nat.zero_add, Nat.mul_one, Nat.add_zero, idxS_one, get_setN, get_setS, get_appL, List.length_set, ↓ibin_shlD, ↓ibin_shrD, bld1_true, plan_buildD, natSucc, h0, h3, hlt, hc, h1, h2, h4]
          exact yes (by simp [okB]; omega)
        · have h5 : ¬ (c.toNat : Int) = 45 := by omega
          have h6 : ¬ (c.toNat : Int) = 46 := by omega
          simp -implicitDefEqProofs -dsimp (disch := (first | omega | (simp only [List.length_set, List.length_append, List.length_cons, List.length_nil]; omega))) only [go_sem, Nat.reduceAdd, Nat.reduceSub, Nat.reduceLT, Nat.reduceLeDiff, Int.reduceToNat, Int.reduceLE, Int.reduceLT, Int.reduceAdd, Int.reduceSub, Int.reduceEq, Int.reduceNe, Int.reduceMul, Nat.reduceMul, Int.reduceNeg, Int.toNat_natCast, Nat.reduceEqDiff, X.exit.injEq, if_true, if_false, reduceIte, Bool.not_true, Bool.not_false, Bool.false_eq_true, Bool.true_eq_false, true_and, need_of, strR_addD, u8w, atS_txD, slT_hiD, slT_loD, slT_bothD, need_true, need_and, WOf_need, i64w, u64w, at_getD, idxR_slD, idxR_slf, idxF_some, and_true, Nat.zero_add, Nat.mul_one, Nat.add_zero, idxS_one, get_setN, get_setS, get_appL, List.length_set, ↓ibin_shlD, ↓ibin_shrD, bld1_true, plan_buildD, natSucc, h0, h3, hlt, hc, h1, h2, h4, h5, h6]
          exact no (by simp [okB]; omega)
      · by_cases h5 : (c.toNat : Int) = 45
        · simp -implicitDefEqProofs -dsimp (disch := (first | omega | (simp only [List.length_set, List.length_append, List.length_cons, List.length_nil]; omega))) only [go_sem, Nat.reduceAdd, Nat.reduceSub, Nat.reduceLT, Nat.reduceLeDiff, Int.reduceToNat, Int.reduceLE, Int.reduceLT, Int.reduceAdd, Int.reduceSub, Int.reduceEq, Int.reduceNe, Int.reduceMul, Nat.reduceMul, Int.reduceNeg, Int.toNat_natCast, Nat.reduceEqDiff, X.exit.injEq, if_true, if_false, reduceIte, Bool.not_true, Bool.not_false, Bool.false_eq_true, Bool.true_eq_false, true_and, need_of, strR_addD, u8w, atS_txD, slT_hiD, slT_loD, slT_bothD, need_true, need_and, WOf_need, i64w, u64w, at_getD, idxR_slD, idxR_slf, idxF_some, and_true, Nat.zero_add, Nat.mul_one, Nat.add_zero, idxS_one, get_setN, get_setS, get_appL, List.length_set, ↓ibin_shlD, ↓ibin_shrD, bld1_true, plan_buildD, natSucc, h0, h3, hlt, hc, h1, h2, h5]
          exact yes (by simp [okB]; omega)
        · by_cases h6 : (c.toNat : Int) = 46
          · simp -implicitDefEqProofs -dsimp (disch := (first | omega | (simp only [List.length_set, List.length_append, List.length_cons, List.length_nil]; omega))) only [go_sem, Nat.reduceAdd, Nat.reduceSub, Nat.reduceLT, Nat.reduceLeDiff, Int.reduceToNat, Int.reduceLE, Int.reduceLT, Int.reduceAdd, Int.reduceSub, Int.reduceEq, Int.reduceNe, Int.reduceMul, Nat.reduceMul, Int.reduceNeg, Int.toNat_natCast, Nat.reduceEqDiff, X.exit.injEq, if_true, if_false, reduceIte, Bool.not_true, Bool.not_false, Bool.false_eq_true, Bool.true_eq_false, true_and, need_of, strR_addD, u8w, atS_txD, slT_hiD, slT_loD, slT_bothD, need_true, need_and, WOf_need, i64w, u64w, at_getD, idxR_slD, idxR_slf, idxF_some, and_true, Nat.zero_add, Nat.mul_one, Nat.add_zero, idxS_one, get_setN, get_setS, get_appL, List.length_set, ↓ibin_shlD, ↓ibin_shrD, bld1_true, plan_buildD, natSucc, h0, h3, hlt, hc, h1, h2, h5, h6]
            exact yes (by simp [okB]; omega)
          · simp -implicitDefEqProofs -dsimp (disch := (first | omega | (simp only [List.length_set, List.length_append, List.length_cons, List.length_nil]; omega))) only [go_sem, Nat.reduceAdd, Nat.reduceSub, Nat.reduceLT, Nat.reduceLeDiff, Int.reduceToNat, Int.reduceLE, Int.reduceLT, Int.reduceAdd, Int.reduceSub, Int.reduceEq, Int.reduceNe, Int.reduceMul, Nat.reduceMul, Int.reduceNeg, Int.toNat_natCast, Nat.reduceEqDiff, X.exit.injEq, if_true, if_false, reduceIte, Bool.not_true, Bool.not_false, Bool.false_eq_true, Bool.true_eq_false, true_and, need_of, strR_addD, u8w, atS_txD, slT_hiD, slT_loD, slT_bothD, need_true, need_and, WOf_need, i64w, u64w, at_getD, idxR_slD, idxR_slf, idxF_some, and_true, Nat.zero_add, Nat.mul_one, Nat.add_zero, idxS_one, get_setN, get_setS, get_appL, List.length_set, ↓ibin_shlD, ↓ibin_shrD, bld1_true, plan_buildD, natSucc, h0, h3, hlt, hc, h1, h2, h5, h6]
            exact no (by simp [okB]; omega)
  · rw [List.take_of_length_le (by omega)] at hg
    by_cases h1 : (s.length : Int) ≥ 1
    · by_cases h2 : (s.length : Int) ≤ 7
      · simp -implicitDefEqProofs -dsimp (disch := (first | omega | (simp only [List.length_set, List.length_append, List.length_cons, List.length_nil]; omega))) only [go_sem, Nat.reduceAdd, Nat.reduceSub, Nat.reduceLT, Nat.reduceLeDiff, Int.reduceToNat, Int.reduceLE, Int.reduceLT, Int.reduceAdd, Int.reduceSub, Int.reduceEq, Int.reduceNe, Int.reduceMul, Nat.reduceMul, Int.reduceNeg, Int.toNat_natCast, Nat.reduceEqDiff, X.exit.injEq, if_true, if_false, reduceIte, Bool.not_true, Bool.not_false, Bool.false_eq_true, Bool.true_eq_false, true_and, need_of, strR_addD, u8w, atS_txD, slT_hiD, slT_loD, slT_bothD, need_true, need_and, WOf_need, i64w, u64w, at_getD, idxR_slD, idxR_slf, idxF_some, and_true, Nat.zero_add, Nat.mul_one, Nat.add_zero, idxS_one, get_setN, get_setS, get_appL, List.length_set, ↓ibin_shlD, ↓ibin_shrD, bld1_true, plan_buildD, natSucc, h0, h3, hlt, h1, h2]
        simp [nameB, bo, hg]; omega
      · simp -implicitDefEqProofs -dsimp (disch := (first | omega | (simp only [List.length_set, List.length_append, List.length_cons, List.length_nil]; omega))) only [go_sem, Nat.reduceAdd, Nat.reduceSub, Nat.reduceLT, Nat.reduceLeDiff, Int.reduceToNat, Int.reduceLE, Int.reduceLT, Int.reduceAdd, Int.reduceSub, Int.reduceEq, Int.reduceNe, Int.reduceMul, Nat.reduceMul, Int.reduceNeg, Int.toNat_natCast, Nat.reduceEqDiff, X.exit.injEq, if_true, if_false, reduceIte, Bool.not_true, Bool.not_false, Bool.false_eq_true, Bool.true_eq_false, true_and, need_of, strR_addD, u8w, atS_txD, slT_hiD, slT_loD, slT_bothD, need_true, need_and, WOf_need, i64w, u64w, at_getD, idxR_slD, idxR_slf, idxF_some, and_true, Nat.zero_add, Nat.mul_one, Nat.add_zero, idxS_one, get_setN, get_setS, get_appL, List.length_set, ↓ibin_shlD, ↓ibin_shrD, bld1_true, plan_buildD, natSucc, h0, h3, hlt, h1, h2]
        simp [nameB, bo, hg]; omega
    · simp -implicitDefEqProofs -dsimp (disch := (first | omega | (simp only [List.length_set, List.length_append, List.length_cons, List.length_nil]; omega))) only [go_sem, Nat.reduceAdd, Nat.reduceSub, Nat.reduceLT, Nat.reduceLeDiff, Int.reduceToNat, Int.reduceLE, Int.reduceLT, Int.reduceAdd, Int.reduceSub, Int.reduceEq, Int.reduceNe, Int.reduceMul, Nat.reduceMul, Int.reduceNeg, Int.toNat_natCast, Nat.reduceEqDiff, X.exit.injEq, if_true, if_false, reduceIte, Bool.not_true, Bool.not_false, Bool.false_eq_true, Bool.true_eq_false, true_and, need_of, strR_addD, u8w, atS_txD, slT_hiD, slT_loD, slT_bothD, need_true, need_and, WOf_need, i64w, u64w, at_getD, idxR_slD, idxR_slf, idxF_some, and_true, Nat.zero_add, Nat.mul_one, Nat.add_zero, idxS_one, get_setN, get_setS, get_appL, List.length_set, ↓ibin_shlD, ↓ibin_shrD, bld1_true, plan_buildD, natSucc, h0, h3, hlt, h1]
      simp [nameB, bo, hg]; omega
end
end Go.Proofs.YtcmjidnbbfcbjaaDoor.V
