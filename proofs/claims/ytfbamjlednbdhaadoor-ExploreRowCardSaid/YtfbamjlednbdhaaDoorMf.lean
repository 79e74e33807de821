/- Parts of the proof, joined (S17, S18, S19); no condition. -/
import Derived.Test.YtfbamjlednbdhaaDoorMd
/- Marks, and those that are marked; no condition. -/
namespace Go.Proofs.YtfbamjlednbdhaaDoor.V
open Go
set_option linter.unusedVariables false
set_option linter.unusedSimpArgs false
set_option maxHeartbeats 4000000
noncomputable section
variable {en : Env} {m : Mem}
abbrev Bo (b : Bool) : AV := .sc (.bool b)
theorem clean_B (b : Bool) : Clean (Bo b) := clean_sc _
def marksL (n : Nat) (l : List Int) : List Bool := l.foldl (fun bs d => bs.set d.toNat true) (List.replicate n false)
theorem fold_set_len : ∀ (l : List Int) (bs : List Bool), (l.foldl (fun bs d => bs.set d.toNat true) bs).length = bs.length
  | [], bs => rfl
  | d :: l, bs => by rw [List.foldl_cons, fold_set_len l]; simp
theorem marks_len (n : Nat) (l : List Int) : (marksL n l).length = n := by unfold marksL; rw [fold_set_len]; simp
theorem foldl_take {α β : Type} (f : β → α → β) (b : β) (l : List α) (j : Nat) (hj : j < l.length) : (l.take (j + 1)).foldl f b = f ((l.take j).foldl f b) l[j] := by
  rw [List.take_add_one, List.getElem?_eq_getElem hj, List.foldl_append]; rfl
theorem marks_at (n : Nat) (l : List Int) : ∀ i, i < n → ((marksL n l)[i]? = some true ↔ ∃ d ∈ l, d.toNat = i) := by
  intro i hi
  have key : ∀ (l : List Int) (bs : List Bool), bs.length = n → ((l.foldl (fun bs d => bs.set d.toNat true) bs)[i]? = some true ↔ (bs[i]? = some true ∨ ∃ d ∈ l, d.toNat = i)) := by
    intro l
    induction l with
    | nil => intro bs _; simp
    | cons d l ih =>
      intro bs hb
      rw [List.foldl_cons, ih _ (by simpa using hb), List.getElem?_set]
      by_cases hd : d.toNat = i
      · simp [hd, hb, hi]
      · rw [if_neg hd]
        simp [hd]
  unfold marksL
  rw [key l _ (by simp)]
  simp [List.getElem?_replicate, hi]
theorem setmap {α : Type} (f : α → AV) (l : List α) (i : Nat) (a : α) : (l.map f).set i (f a) = (l.set i a).map f := by rw [List.map_set]
theorem flat_rep {α : Type} (n : Nat) (a : α) : (List.replicate n [a]).flatten = List.replicate n a := by
  induction n with
  | zero => rfl
  | succ n ih => rw [List.replicate_succ, List.flatten_cons, ih]; rfl
theorem map_rep {α : Type} (f : α → AV) (n : Nat) (a : α) : List.replicate n (f a) = (List.replicate n a).map f := by simp
theorem marks_ok (x : Sl Int) (n : Nat) (hn : n ≤ 256) (hx : x.l.length < 2 ^ 62) (hd : ∀ d ∈ x.l, 0 ≤ d ∧ d < n) (hf : Fits en m.length) : WC Tryd.prog pol en (.func 31) [sl I x, I n] m fun v m' => m' = m ∧ ∃ y : Sl Bool, v = .tup [sl Bo y, Bo true] ∧ y.l = marksL n x.l := by
  refine callPur Tryd.func31 rfl rfl Tryd.ntmps31 Tryd.results31 ?_
  simp -implicitDefEqProofs -dsimp (disch := (first | omega | (simp only [List.length_set, List.length_append, List.length_cons, List.length_nil]; omega))) only [go_sem, Nat.reduceAdd, Nat.reduceSub, Nat.reduceLT, Nat.reduceLeDiff, Int.reduceToNat, Int.reduceLE, Int.reduceLT, Int.reduceAdd, Int.reduceSub, Int.reduceEq, Int.reduceNe, Int.reduceMul, Nat.reduceMul, Int.reduceNeg, Int.toNat_natCast, Nat.reduceEqDiff, X.exit.injEq, if_true, if_false, reduceIte, Bool.not_true, Bool.not_false, Bool.false_eq_true, Bool.true_eq_false, true_and,  need_of, need_true, need_and, WOf_need, i64w, u64w, at_getD, idxR_slD, and_true, Nat.zero_add, Nat.mul_one, Nat.add_zero, idxS_one, get_setN, get_setS, get_appL, List.length_set, ↓ibin_shlD, ↓ibin_shrD, bld1_true, plan_buildD, natSucc, flat_rep]
  refine ⟨by rw [List.all_eq_true]; intro v hv; rw [List.mem_replicate] at hv; rw [hv.2]; rfl, ?_⟩
  refine loopF (fun k ts m' => ∃ (j : Nat), ts.length = 29 ∧ tg ts 1 = I n ∧ tg ts 4 = .own m.length 0 0 n 1 ∧ tg ts 5 = Bo true ∧ tg ts 10 = sl I x ∧ tg ts 11 = I x.l.length ∧ tg ts 12 = I j ∧ j ≤ x.l.length ∧ m' = m ++ [.cells 0 ((marksL n (x.l.take j)).map Bo)] ∧ k = x.l.length - j) x.l.length ⟨0, rfl, rfl, rfl, rfl, rfl, rfl, rfl, by omega, by simp [marksL], by omega⟩ ?_
  rintro k ts m' ⟨j, hl, h1, h4, h5, h10, h11, h12, hj, rfl, hk⟩
  rw [expandT hl]
  simp -implicitDefEqProofs -dsimp (disch := (first | omega | (simp only [List.length_set, List.length_append, List.length_cons, List.length_nil]; omega))) only [go_sem, Nat.reduceAdd, Nat.reduceSub, Nat.reduceLT, Nat.reduceLeDiff, Int.reduceToNat, Int.reduceLE, Int.reduceLT, Int.reduceAdd, Int.reduceSub, Int.reduceEq, Int.reduceNe, Int.reduceMul, Nat.reduceMul, Int.reduceNeg, Int.toNat_natCast, Nat.reduceEqDiff, X.exit.injEq, if_true, if_false, reduceIte, Bool.not_true, Bool.not_false, Bool.false_eq_true, Bool.true_eq_false, true_and,  need_of, need_true, need_and, WOf_need, i64w, u64w, at_getD, idxR_slD, and_true, Nat.zero_add, Nat.mul_one, Nat.add_zero, idxS_one, get_setN, get_setS, get_appL, List.length_set, ↓ibin_shlD, ↓ibin_shrD, bld1_true, plan_buildD, natSucc, h1, h4, h5, h10, h11, h12]
  split
  · rename_i hlt
    have hj' : j < x.l.length := by omega
    have hdj := hd _ (List.getElem_mem hj')
    have hn1 : ¬ x.l[j] < 0 := by omega
    have hn2 : ¬ (n : Int) ≤ x.l[j] := by omega
    have hml := marks_len n (x.l.take j)
    have hft := foldl_take (fun bs (d : Int) => bs.set d.toNat true) (List.replicate n false) x.l j hj'
    simp -implicitDefEqProofs -dsimp (disch := (first | omega | (simp only [List.length_set, List.length_append, List.length_cons, List.length_nil]; omega))) only [go_sem, Nat.reduceAdd, Nat.reduceSub, Nat.reduceLT, Nat.reduceLeDiff, Int.reduceToNat, Int.reduceLE, Int.reduceLT, Int.reduceAdd, Int.reduceSub, Int.reduceEq, Int.reduceNe, Int.reduceMul, Nat.reduceMul, Int.reduceNeg, Int.toNat_natCast, Nat.reduceEqDiff, X.exit.injEq, if_true, if_false, reduceIte, Bool.not_true, Bool.not_false, Bool.false_eq_true, Bool.true_eq_false, true_and,  need_of, need_true, need_and, WOf_need, i64w, u64w, at_getD, idxR_slD, and_true, Nat.zero_add, Nat.mul_one, Nat.add_zero, idxS_one, get_setN, get_setS, get_appL, List.length_set, ↓ibin_shlD, ↓ibin_shrD, bld1_true, plan_buildD, natSucc, hn1, hn2, okTo_purT hf, List.length_map]
    refine ⟨by omega, x.l.length - (j + 1), by omega, j + 1, ?_⟩
    and_intros <;> (first | with_reducible rfl | omega | with_reducible assumption | exact True.intro | skip)
    rw [show marksL n (x.l.take (j + 1)) = (marksL n (x.l.take j)).set x.l[j].toNat true from hft, List.map_set]
  · rename_i hlt
    have hje : j = x.l.length := by omega
    rw [hje, List.take_length]
    have hml := marks_len n x.l
    have e1 := frzQ_own (f := Bo) clean_B (fun a t u => by simp) (m := m ++ [.cells 0 ((marksL n x.l).map Bo)]) (b := m.length) (d := 5) (id := m.length) (ver := 0) (marksL n x.l) (by rw [getM0]; rfl) (by omega)
    rw [hml] at e1
    rw [e1]
    simp -implicitDefEqProofs -dsimp (disch := (first | omega | (simp only [List.length_set, List.length_append, List.length_cons, List.length_nil]; omega))) only [go_sem, Nat.reduceAdd, Nat.reduceSub, Nat.reduceLT, Nat.reduceLeDiff, Int.reduceToNat, Int.reduceLE, Int.reduceLT, Int.reduceAdd, Int.reduceSub, Int.reduceEq, Int.reduceNe, Int.reduceMul, Nat.reduceMul, Int.reduceNeg, Int.toNat_natCast, Nat.reduceEqDiff, X.exit.injEq, if_true, if_false, reduceIte, Bool.not_true, Bool.not_false, Bool.false_eq_true, Bool.true_eq_false, true_and,  need_of, need_true, need_and, WOf_need, i64w, u64w, at_getD, idxR_slD, and_true, Nat.zero_add, Nat.mul_one, Nat.add_zero, idxS_one, get_setN, get_setS, get_appL, List.length_set, ↓ibin_shlD, ↓ibin_shrD, bld1_true, plan_buildD, natSucc, ]
    exact ⟨_, rfl, rfl⟩
theorem those_ok (y : Sl Bool) : WC Tryd.prog pol en (.func 33) [sl Bo y] m fun v m' => v = .clo (.func 42) [] [.ptr m.length 0 0] ∧ m' = m ++ [.cells 0 [sl Bo y]] := by
  refine callOpn Tryd.func33 rfl rfl Tryd.ntmps33 Tryd.results33 ?_
  simp -implicitDefEqProofs -dsimp (disch := (first | omega | (simp only [List.length_set, List.length_append, List.length_cons, List.length_nil]; omega))) only [go_sem, Nat.reduceAdd, Nat.reduceSub, Nat.reduceLT, Nat.reduceLeDiff, Int.reduceToNat, Int.reduceLE, Int.reduceLT, Int.reduceAdd, Int.reduceSub, Int.reduceEq, Int.reduceNe, Int.reduceMul, Nat.reduceMul, Int.reduceNeg, Int.toNat_natCast, Nat.reduceEqDiff, X.exit.injEq, if_true, if_false, reduceIte, Bool.not_true, Bool.not_false, Bool.false_eq_true, Bool.true_eq_false, true_and,  need_of, need_true, need_and, WOf_need, i64w, u64w, at_getD, idxR_slD, and_true, Nat.zero_add, Nat.mul_one, Nat.add_zero, idxS_one, get_setN, get_setS, get_appL, List.length_set, ↓ibin_shlD, ↓ibin_shrD, bld1_true, plan_buildD, natSucc, ]
def thoseL (bs : List Bool) (n : Nat) : List Nat := (List.range n).filter fun i => bs.getD i false
abbrev encI (s : Nat) : List AV := [I s]
def okM (bs : List Bool) (s : Nat) : Prop := bs[s]? = some true
theorem iter42_ok (y : Sl Bool) (id : Nat) (hn : y.l.length < 2 ^ 62) : Iter Tryd.prog pol encI (okM y.l) 42 [] [.ptr id 0 0] (fun m => m[id]? = some (.cells 0 [sl Bo y])) (thoseL y.l y.l.length) := by
  intro en yid base σ Live Inv F st own m hT hb hf hbm hLv hI hk
  have hm := hk _ _ _ hI
  refine callOpn Tryd.func42 rfl rfl Tryd.ntmps42 Tryd.results42 ?_
  simp -implicitDefEqProofs -dsimp (disch := (first | omega | (simp only [List.length_set, List.length_append, List.length_cons, List.length_nil]; omega))) only [go_sem, Nat.reduceAdd, Nat.reduceSub, Nat.reduceLT, Nat.reduceLeDiff, Int.reduceToNat, Int.reduceLE, Int.reduceLT, Int.reduceAdd, Int.reduceSub, Int.reduceEq, Int.reduceNe, Int.reduceMul, Nat.reduceMul, Int.reduceNeg, Int.toNat_natCast, Nat.reduceEqDiff, X.exit.injEq, if_true, if_false, reduceIte, Bool.not_true, Bool.not_false, Bool.false_eq_true, Bool.true_eq_false, true_and,  need_of, need_true, need_and, WOf_need, i64w, u64w, at_getD, idxR_slD, and_true, Nat.zero_add, Nat.mul_one, Nat.add_zero, idxS_one, get_setN, get_setS, get_appL, List.length_set, ↓ibin_shlD, ↓ibin_shrD, bld1_true, plan_buildD, natSucc, hm]
  refine loopF (fun k ts m' => ∃ (i : Nat) (st' : σ) (own' : List Nat), ts.length = 20 ∧ tg ts 0 = .clo (.yield yid) [] [] ∧ tg ts 5 = sl Bo y ∧ tg ts 6 = I y.l.length ∧ tg ts 7 = I i ∧ i ≤ y.l.length ∧ runY F (thoseL y.l i) st = (st', true) ∧ Inv st' own' m' ∧ Live st' ∧ base ≤ m'.length ∧ k = y.l.length - i) y.l.length ⟨0, st, own, rfl, rfl, rfl, rfl, rfl, by omega, rfl, hI, hLv, hbm, by omega⟩ ?_
  rintro k ts m' ⟨i, st', own', hl, h0, h5, h6, h7, hi, hrun, hI', hLv', hbm', hk⟩
  rw [expandT hl]
  simp -implicitDefEqProofs -dsimp (disch := (first | omega | (simp only [List.length_set, List.length_append, List.length_cons, List.length_nil]; omega))) only [go_sem, Nat.reduceAdd, Nat.reduceSub, Nat.reduceLT, Nat.reduceLeDiff, Int.reduceToNat, Int.reduceLE, Int.reduceLT, Int.reduceAdd, Int.reduceSub, Int.reduceEq, Int.reduceNe, Int.reduceMul, Nat.reduceMul, Int.reduceNeg, Int.toNat_natCast, Nat.reduceEqDiff, X.exit.injEq, if_true, if_false, reduceIte, Bool.not_true, Bool.not_false, Bool.false_eq_true, Bool.true_eq_false, true_and,  need_of, need_true, need_and, WOf_need, i64w, u64w, at_getD, idxR_slD, and_true, Nat.zero_add, Nat.mul_one, Nat.add_zero, idxS_one, get_setN, get_setS, get_appL, List.length_set, ↓ibin_shlD, ↓ibin_shrD, bld1_true, plan_buildD, natSucc, h0, h5, h6, h7]
  split
  · rename_i hlt
    have hi' : i < y.l.length := by omega
    have hfs := filter_range_succ i fun i => y.l.getD i false
    have hgd : y.l.getD i false = y.l[i] := by rw [List.getD_eq_getElem?_getD, List.getElem?_eq_getElem hi']; rfl
    rw [hgd] at hfs
    cases hbit : y.l[i] with
    | false =>
      simp -implicitDefEqProofs -dsimp (disch := (first | omega | (simp only [List.length_set, List.length_append, List.length_cons, List.length_nil]; omega))) only [go_sem, Nat.reduceAdd, Nat.reduceSub, Nat.reduceLT, Nat.reduceLeDiff, Int.reduceToNat, Int.reduceLE, Int.reduceLT, Int.reduceAdd, Int.reduceSub, Int.reduceEq, Int.reduceNe, Int.reduceMul, Nat.reduceMul, Int.reduceNeg, Int.toNat_natCast, Nat.reduceEqDiff, X.exit.injEq, if_true, if_false, reduceIte, Bool.not_true, Bool.not_false, Bool.false_eq_true, Bool.true_eq_false, true_and,  need_of, need_true, need_and, WOf_need, i64w, u64w, at_getD, idxR_slD, and_true, Nat.zero_add, Nat.mul_one, Nat.add_zero, idxS_one, get_setN, get_setS, get_appL, List.length_set, ↓ibin_shlD, ↓ibin_shrD, bld1_true, plan_buildD, natSucc, hbit]
      rw [hbit] at hfs
      refine ⟨y.l.length - (i + 1), by omega, i + 1, st', own', ?_⟩
      and_intros <;> (first | with_reducible rfl | omega | with_reducible assumption | exact True.intro | skip)
      rw [show thoseL y.l (i + 1) = thoseL y.l i from by rw [thoseL, thoseL, hfs]; simp]; exact hrun
    | true =>
      simp -implicitDefEqProofs -dsimp (disch := (first | omega | (simp only [List.length_set, List.length_append, List.length_cons, List.length_nil]; omega))) only [go_sem, Nat.reduceAdd, Nat.reduceSub, Nat.reduceLT, Nat.reduceLeDiff, Int.reduceToNat, Int.reduceLE, Int.reduceLT, Int.reduceAdd, Int.reduceSub, Int.reduceEq, Int.reduceNe, Int.reduceMul, Nat.reduceMul, Int.reduceNeg, Int.toNat_natCast, Nat.reduceEqDiff, X.exit.injEq, if_true, if_false, reduceIte, Bool.not_true, Bool.not_false, Bool.false_eq_true, Bool.true_eq_false, true_and,  need_of, need_true, need_and, WOf_need, i64w, u64w, at_getD, idxR_slD, and_true, Nat.zero_add, Nat.mul_one, Nat.add_zero, idxS_one, get_setN, get_setS, get_appL, List.length_set, ↓ibin_shlD, ↓ibin_shrD, bld1_true, plan_buildD, natSucc, hbit]
      rw [hbit] at hfs
      refine (hT.call st' own' i m' (by rw [okM, List.getElem?_eq_getElem hi', hbit]) hbm' hLv' hI').mono ?_
      rintro v m2 ⟨rfl, hS, own2, hI2, hN⟩
      have hbm2 : base ≤ m2.length := Nat.le_trans hbm' hS.1
      have hrn : runY F (thoseL y.l (i + 1)) st = F st' i := by
        rw [thoseL, hfs, if_pos rfl, runY_append]
        have hrun' : runY F ((List.range i).filter fun i => y.l.getD i false) st = (st', true) := hrun
        rw [hrun', if_pos rfl, runY_one]
      cases hb2 : (F st' i).2 with
      | false =>
        simp -implicitDefEqProofs -dsimp (disch := (first | omega | (simp only [List.length_set, List.length_append, List.length_cons, List.length_nil]; omega))) only [go_sem, Nat.reduceAdd, Nat.reduceSub, Nat.reduceLT, Nat.reduceLeDiff, Int.reduceToNat, Int.reduceLE, Int.reduceLT, Int.reduceAdd, Int.reduceSub, Int.reduceEq, Int.reduceNe, Int.reduceMul, Nat.reduceMul, Int.reduceNeg, Int.toNat_natCast, Nat.reduceEqDiff, X.exit.injEq, if_true, if_false, reduceIte, Bool.not_true, Bool.not_false, Bool.false_eq_true, Bool.true_eq_false, true_and,  need_of, need_true, need_and, WOf_need, i64w, u64w, at_getD, idxR_slD, and_true, Nat.zero_add, Nat.mul_one, Nat.add_zero, idxS_one, get_setN, get_setS, get_appL, List.length_set, ↓ibin_shlD, ↓ibin_shrD, bld1_true, plan_buildD, natSucc, ]
        have hrest : thoseL y.l y.l.length = thoseL y.l (i + 1) ++ (List.range' (i + 1) (y.l.length - (i + 1))).filter fun i => y.l.getD i false := by
          have h1 := List.range'_append_1 (s := 0) (m := i + 1) (n := y.l.length - (i + 1))
          rw [Nat.zero_add, show i + 1 + (y.l.length - (i + 1)) = y.l.length by omega] at h1
          simp only [thoseL]
          rw [List.range_eq_range', List.range_eq_range', ← h1, List.filter_append]
        rw [hrest, runY_append, hrn, if_neg (by simp [hb2])]
        exact ⟨own2, hI2⟩
      | true =>
        simp -implicitDefEqProofs -dsimp (disch := (first | omega | (simp only [List.length_set, List.length_append, List.length_cons, List.length_nil]; omega))) only [go_sem, Nat.reduceAdd, Nat.reduceSub, Nat.reduceLT, Nat.reduceLeDiff, Int.reduceToNat, Int.reduceLE, Int.reduceLT, Int.reduceAdd, Int.reduceSub, Int.reduceEq, Int.reduceNe, Int.reduceMul, Nat.reduceMul, Int.reduceNeg, Int.toNat_natCast, Nat.reduceEqDiff, X.exit.injEq, if_true, if_false, reduceIte, Bool.not_true, Bool.not_false, Bool.false_eq_true, Bool.true_eq_false, true_and,  need_of, need_true, need_and, WOf_need, i64w, u64w, at_getD, idxR_slD, and_true, Nat.zero_add, Nat.mul_one, Nat.add_zero, idxS_one, get_setN, get_setS, get_appL, List.length_set, ↓ibin_shlD, ↓ibin_shrD, bld1_true, plan_buildD, natSucc, ]
        refine ⟨y.l.length - (i + 1), by omega, i + 1, (F st' i).1, own2, ?_⟩
        and_intros <;> (first | with_reducible rfl | omega | with_reducible assumption | exact True.intro | skip)
        · rw [hrn, ← hb2]
        · exact hT.live _ _ hLv' hb2
  · rename_i hlt
    rw [show i = y.l.length by omega] at hrun
    rw [hrun]
    exact ⟨own', hI'⟩
end
end Go.Proofs.YtfbamjlednbdhaaDoor.V
/- 'Closed' of a closed set; no condition. -/
namespace Go.Proofs.YtfbamjlednbdhaaDoor.V
open Go
set_option linter.unusedVariables false
set_option linter.unusedSimpArgs false
set_option maxHeartbeats 4000000
noncomputable section
variable {en : Env} {m : Mem}
theorem fold_or_bit {α : Type} {f : α → Nat} {i : Nat} : ∀ (l : List α) (s : Nat), (l.foldl (fun s d => s ||| f d) s).testBit i = (s.testBit i || l.any fun d => (f d).testBit i)
  | [], s => by simp
  | d :: l, s => by rw [List.foldl_cons, fold_or_bit l, Nat.testBit_or, List.any_cons, Bool.or_assoc]
theorem mask_bit {l : List Int} {d : Int} (hd : d ∈ l) : (maskR l).testBit d.toNat = true := by
  unfold maskR
  rw [fold_or_bit]
  simp only [Nat.zero_testBit, Bool.false_or, List.any_eq_true]
  exact ⟨d, hd, by rw [Nat.testBit_two_pow]; simp⟩
/-- What the elements of a closed set need is in it. -/
theorem closed_needs {D : List (List Int)} {s : Nat} (hs : s ∈ closedSets D) {i : Nat} (hi : i < D.length) (hb : s.testBit i = true) {d : Int} (hd : d ∈ D[i]) : s.testBit d.toNat = true := by
  have hc := (List.mem_filter.1 hs).2
  simp only [closedB, List.all_eq_true, List.mem_range] at hc
  have := hc i (by simpa [needD] using hi)
  have hn : (needD D).getD i 0 = maskR D[i] := by
    rw [List.getD_eq_getElem?_getD, List.getElem?_eq_getElem (by simpa [needD] using hi)]
    simp [needD]
  rw [closedAt, hb, hn] at this
  have h2 : maskR D[i] &&& s = maskR D[i] := by simpa using this
  exact (sub_iff _ _).1 h2 _ (mask_bit hd)
theorem list_mem {s d : Nat} (hs : s < 2 ^ 14) : d ∈ listB s ↔ s.testBit d = true := by
  simp only [listB, List.mem_filter, List.mem_range]
  constructor
  · exact fun h => h.2
  · intro h
    refine ⟨?_, h⟩
    have h1 := lt_bit h
    have : 2 ^ d < 2 ^ 14 := by omega
    exact (Nat.pow_lt_pow_iff_right (by omega)).1 this
theorem closed19_ok (x : LL) (hfit : fitsD x.of = true) (hx : x.l.length < 2 ^ 62) (hxl : ∀ a ∈ x.l, a.l.length < 2 ^ 62) (s : Nat) (hs : s ∈ closedSets x.of) (y : Sl Int) (hy : y.l = (listB s).map Int.ofNat) (hf : Fits en m.length) :
    WC Tryd.prog pol en (.func 19) [sl (sl I) x, sl I y] m fun v m' => v = .sc (.bool true) ∧ m' = m := by
  have hlen : x.of.length = x.l.length := by simp [LL.of]
  have h14 := fits_len hfit
  have hs14 := closed_lt hfit s hs
  have hsn : s < 2 ^ x.l.length := by rw [← hlen]; exact List.mem_range.1 (List.mem_filter.1 hs).1
  have hbn : ∀ i, s.testBit i = true → i < x.l.length := fun i h => by
    have h1 := lt_bit h
    have : 2 ^ i < 2 ^ x.l.length := by omega
    exact (Nat.pow_lt_pow_iff_right (by omega)).1 this
  have hyl : y.l.length ≤ 14 := by
    rw [hy, List.length_map]
    have := List.length_filter_le s.testBit (List.range 14)
    simpa [listB] using this
  have hyd : ∀ d ∈ y.l, 0 ≤ d ∧ d < x.l.length := by
    intro d hd
    rw [hy, List.mem_map] at hd
    obtain ⟨e, he, rfl⟩ := hd
    have := hbn e ((list_mem hs14).1 he)
    exact ⟨by simp, by simp; omega⟩
  have hR : rightB x.of = true := by simp only [fitsD, Bool.and_eq_true] at hfit; exact hfit.2
  have hmk : ∀ i, i < x.l.length → (s.testBit i = true ↔ (marksL x.l.length y.l)[i]? = some true) := by
    intro i hi
    rw [marks_at _ _ i hi, hy, ← list_mem hs14]
    constructor
    · exact fun h => ⟨(i : Int), List.mem_map.2 ⟨i, h, rfl⟩, by simp⟩
    · rintro ⟨d, hd, rfl⟩
      obtain ⟨e, he, rfl⟩ := List.mem_map.1 hd
      simpa using he
  have hokT := fun {id : Nat} {low : Nat → Bool} => @okTo_purT en m.length id hf low
  refine callPur Tryd.func19 rfl rfl Tryd.ntmps19 Tryd.results19 ?_
  simp -implicitDefEqProofs -dsimp (disch := (first | omega | (simp only [List.length_set, List.length_append, List.length_cons, List.length_nil]; omega))) only [go_sem, Nat.reduceAdd, Nat.reduceSub, Nat.reduceLT, Nat.reduceLeDiff, Int.reduceToNat, Int.reduceLE, Int.reduceLT, Int.reduceAdd, Int.reduceSub, Int.reduceEq, Int.reduceNe, Int.reduceMul, Nat.reduceMul, Int.reduceNeg, Int.toNat_natCast, Nat.reduceEqDiff, X.exit.injEq, if_true, if_false, reduceIte, Bool.not_true, Bool.not_false, Bool.false_eq_true, Bool.true_eq_false, true_and,  need_of, need_true, need_and, WOf_need, i64w, u64w, at_getD, idxR_slD, and_true, Nat.zero_add, Nat.mul_one, Nat.add_zero, idxS_one, get_setN, get_setS, get_appL, List.length_set, ↓ibin_shlD, ↓ibin_shrD, bld1_true, plan_buildD, natSucc, ]
  refine (marks_ok y x.l.length (by omega) (by omega) hyd (hf.pur.mono (by simp))).mono ?_
  rintro v m' ⟨rfl, z, rfl, hz⟩
  simp -implicitDefEqProofs -dsimp (disch := (first | omega | (simp only [List.length_set, List.length_append, List.length_cons, List.length_nil]; omega))) only [go_sem, Nat.reduceAdd, Nat.reduceSub, Nat.reduceLT, Nat.reduceLeDiff, Int.reduceToNat, Int.reduceLE, Int.reduceLT, Int.reduceAdd, Int.reduceSub, Int.reduceEq, Int.reduceNe, Int.reduceMul, Nat.reduceMul, Int.reduceNeg, Int.toNat_natCast, Nat.reduceEqDiff, X.exit.injEq, if_true, if_false, reduceIte, Bool.not_true, Bool.not_false, Bool.false_eq_true, Bool.true_eq_false, true_and,  need_of, need_true, need_and, WOf_need, i64w, u64w, at_getD, idxR_slD, and_true, Nat.zero_add, Nat.mul_one, Nat.add_zero, idxS_one, get_setN, get_setS, get_appL, List.length_set, ↓ibin_shlD, ↓ibin_shrD, bld1_true, plan_buildD, natSucc, hokT]
  refine (right_ok x hx hxl (hf.pur.mono (by simp))).mono ?_
  rintro v m' ⟨rfl, rfl⟩
  simp -implicitDefEqProofs -dsimp (disch := (first | omega | (simp only [List.length_set, List.length_append, List.length_cons, List.length_nil]; omega))) only [go_sem, Nat.reduceAdd, Nat.reduceSub, Nat.reduceLT, Nat.reduceLeDiff, Int.reduceToNat, Int.reduceLE, Int.reduceLT, Int.reduceAdd, Int.reduceSub, Int.reduceEq, Int.reduceNe, Int.reduceMul, Nat.reduceMul, Int.reduceNeg, Int.toNat_natCast, Nat.reduceEqDiff, X.exit.injEq, if_true, if_false, reduceIte, Bool.not_true, Bool.not_false, Bool.false_eq_true, Bool.true_eq_false, true_and,  need_of, need_true, need_and, WOf_need, i64w, u64w, at_getD, idxR_slD, and_true, Nat.zero_add, Nat.mul_one, Nat.add_zero, idxS_one, get_setN, get_setS, get_appL, List.length_set, ↓ibin_shlD, ↓ibin_shrD, bld1_true, plan_buildD, natSucc, hR]
  refine (those_ok z).mono ?_
  rintro v m' ⟨rfl, rfl⟩
  simp -implicitDefEqProofs -dsimp (disch := (first | omega | (simp only [List.length_set, List.length_append, List.length_cons, List.length_nil]; omega))) only [go_sem, Nat.reduceAdd, Nat.reduceSub, Nat.reduceLT, Nat.reduceLeDiff, Int.reduceToNat, Int.reduceLE, Int.reduceLT, Int.reduceAdd, Int.reduceSub, Int.reduceEq, Int.reduceNe, Int.reduceMul, Nat.reduceMul, Int.reduceNeg, Int.toNat_natCast, Nat.reduceEqDiff, X.exit.injEq, if_true, if_false, reduceIte, Bool.not_true, Bool.not_false, Bool.false_eq_true, Bool.true_eq_false, true_and,  need_of, need_true, need_and, WOf_need, i64w, u64w, at_getD, idxR_slD, and_true, Nat.zero_add, Nat.mul_one, Nat.add_zero, idxS_one, get_setN, get_setS, get_appL, List.length_set, ↓ibin_shlD, ↓ibin_shrD, bld1_true, plan_buildD, natSucc, ]
  have hzl : z.l.length = x.l.length := by rw [hz, marks_len]
  refine rangeT (iter42_ok z (m.length + 3) (by omega)) (by simp -implicitDefEqProofs -dsimp (disch := (first | omega | (simp only [List.length_set, List.length_append, List.length_cons, List.length_nil]; omega))) only [go_sem, Nat.reduceAdd, Nat.reduceSub, Nat.reduceLT, Nat.reduceLeDiff, Int.reduceToNat, Int.reduceLE, Int.reduceLT, Int.reduceAdd, Int.reduceSub, Int.reduceEq, Int.reduceNe, Int.reduceMul, Nat.reduceMul, Int.reduceNeg, Int.toNat_natCast, Nat.reduceEqDiff, X.exit.injEq, if_true, if_false, reduceIte, Bool.not_true, Bool.not_false, Bool.false_eq_true, Bool.true_eq_false, true_and,  need_of, need_true, need_and, WOf_need, i64w, u64w, at_getD, idxR_slD, and_true, Nat.zero_add, Nat.mul_one, Nat.add_zero, idxS_one, get_setN, get_setS, get_appL, List.length_set, ↓ibin_shlD, ↓ibin_shrD, bld1_true, plan_buildD, natSucc, ]) (fun _ => rfl) (by simp) (hf.pur.mono (by simp)) (fun _ => none)
    (fun (_ : Unit) own mm => own = [] ∧ mm[m.length]? = some (.cells 0 [sl (sl I) x]) ∧ mm[m.length + 1]? = some (.cells 0 [sl Bo z]) ∧ mm[m.length + 2]? = some (.cells 0 [Bo true]) ∧ mm[m.length + 3]? = some (.cells 0 [sl Bo z]))
    (fun _ _ => ()) () [] rfl ?_ ?_ ?_ ?_ ?_ ?_ ?_
  · rintro c _ mm ⟨rfl, _⟩; simp
  · rintro c own mm l hl ⟨rfl, h1, h2, h3, h4⟩
    have : m.length + 4 < mm.length := by simpa using hl
    simp -implicitDefEqProofs -dsimp (disch := (first | omega | (simp only [List.length_set, List.length_append, List.length_cons, List.length_nil]; omega))) only [go_sem, Nat.reduceAdd, Nat.reduceSub, Nat.reduceLT, Nat.reduceLeDiff, Int.reduceToNat, Int.reduceLE, Int.reduceLT, Int.reduceAdd, Int.reduceSub, Int.reduceEq, Int.reduceNe, Int.reduceMul, Nat.reduceMul, Int.reduceNeg, Int.toNat_natCast, Nat.reduceEqDiff, X.exit.injEq, if_true, if_false, reduceIte, Bool.not_true, Bool.not_false, Bool.false_eq_true, Bool.true_eq_false, true_and,  need_of, need_true, need_and, WOf_need, i64w, u64w, at_getD, idxR_slD, and_true, Nat.zero_add, Nat.mul_one, Nat.add_zero, idxS_one, get_setN, get_setS, get_appL, List.length_set, ↓ibin_shlD, ↓ibin_shrD, bld1_true, plan_buildD, natSucc, h1, h2, h3, h4]
  · rintro c own mm o ⟨rfl, h1, h2, h3, h4⟩
    simp -implicitDefEqProofs -dsimp (disch := (first | omega | (simp only [List.length_set, List.length_append, List.length_cons, List.length_nil]; omega))) only [go_sem, Nat.reduceAdd, Nat.reduceSub, Nat.reduceLT, Nat.reduceLeDiff, Int.reduceToNat, Int.reduceLE, Int.reduceLT, Int.reduceAdd, Int.reduceSub, Int.reduceEq, Int.reduceNe, Int.reduceMul, Nat.reduceMul, Int.reduceNeg, Int.toNat_natCast, Nat.reduceEqDiff, X.exit.injEq, if_true, if_false, reduceIte, Bool.not_true, Bool.not_false, Bool.false_eq_true, Bool.true_eq_false, true_and,  need_of, need_true, need_and, WOf_need, i64w, u64w, at_getD, idxR_slD, and_true, Nat.zero_add, Nat.mul_one, Nat.add_zero, idxS_one, get_setN, get_setS, get_appL, List.length_set, ↓ibin_shlD, ↓ibin_shrD, bld1_true, plan_buildD, natSucc, h1, h2, h3, h4]
  · rintro c own mm ⟨rfl, h1, h2, h3, h4⟩
    exact h4
  · intro o
    simp -implicitDefEqProofs -dsimp (disch := (first | omega | (simp only [List.length_set, List.length_append, List.length_cons, List.length_nil]; omega))) only [go_sem, Nat.reduceAdd, Nat.reduceSub, Nat.reduceLT, Nat.reduceLeDiff, Int.reduceToNat, Int.reduceLE, Int.reduceLT, Int.reduceAdd, Int.reduceSub, Int.reduceEq, Int.reduceNe, Int.reduceMul, Nat.reduceMul, Int.reduceNeg, Int.toNat_natCast, Nat.reduceEqDiff, X.exit.injEq, if_true, if_false, reduceIte, Bool.not_true, Bool.not_false, Bool.false_eq_true, Bool.true_eq_false, true_and,  need_of, need_true, need_and, WOf_need, i64w, u64w, at_getD, idxR_slD, and_true, Nat.zero_add, Nat.mul_one, Nat.add_zero, idxS_one, get_setN, get_setS, get_appL, List.length_set, ↓ibin_shlD, ↓ibin_shrD, bld1_true, plan_buildD, natSucc, ]
  · rintro c own i mm hi _ hl _
    simp -implicitDefEqProofs -dsimp (disch := (first | omega | (simp only [List.length_set, List.length_append, List.length_cons, List.length_nil]; omega))) only [go_sem, Nat.reduceAdd, Nat.reduceSub, Nat.reduceLT, Nat.reduceLeDiff, Int.reduceToNat, Int.reduceLE, Int.reduceLT, Int.reduceAdd, Int.reduceSub, Int.reduceEq, Int.reduceNe, Int.reduceMul, Nat.reduceMul, Int.reduceNeg, Int.toNat_natCast, Nat.reduceEqDiff, X.exit.injEq, if_true, if_false, reduceIte, Bool.not_true, Bool.not_false, Bool.false_eq_true, Bool.true_eq_false, true_and,  need_of, need_true, need_and, WOf_need, i64w, u64w, at_getD, idxR_slD, and_true, Nat.zero_add, Nat.mul_one, Nat.add_zero, idxS_one, get_setN, get_setS, get_appL, List.length_set, ↓ibin_shlD, ↓ibin_shrD, bld1_true, plan_buildD, natSucc, setMany, List.zip, List.zipWith]
    rintro mm o hl ⟨rfl, h1, h2, h3, h4⟩ h5
    have hi2 : i < x.l.length := by rw [← hzl]; exact (List.getElem?_eq_some_iff.1 hi).1
    have hg : x.of[i]'(by omega) = x.l[i].l := by simp [LL.of]
    have hll := hxl _ (List.getElem_mem hi2)
    have hbit : s.testBit i = true := (hmk i hi2).2 (by rw [← hz]; exact hi)
    simp -implicitDefEqProofs -dsimp (disch := (first | omega | (simp only [List.length_set, List.length_append, List.length_cons, List.length_nil]; omega))) only [go_sem, Nat.reduceAdd, Nat.reduceSub, Nat.reduceLT, Nat.reduceLeDiff, Int.reduceToNat, Int.reduceLE, Int.reduceLT, Int.reduceAdd, Int.reduceSub, Int.reduceEq, Int.reduceNe, Int.reduceMul, Nat.reduceMul, Int.reduceNeg, Int.toNat_natCast, Nat.reduceEqDiff, X.exit.injEq, if_true, if_false, reduceIte, Bool.not_true, Bool.not_false, Bool.false_eq_true, Bool.true_eq_false, true_and,  need_of, need_true, need_and, WOf_need, i64w, u64w, at_getD, idxR_slD, and_true, Nat.zero_add, Nat.mul_one, Nat.add_zero, idxS_one, get_setN, get_setS, get_appL, List.length_set, ↓ibin_shlD, ↓ibin_shrD, bld1_true, plan_buildD, natSucc, h1]
    refine loopF (fun k ts m' => ∃ (j : Nat), ts.length = 42 ∧ tg ts 5 = .ptr (m.length + 1) 0 0 ∧ tg ts 30 = sl I x.l[i] ∧ tg ts 31 = I x.l[i].l.length ∧ tg ts 32 = I j ∧ j ≤ x.l[i].l.length ∧ m' = mm ∧ k = x.l[i].l.length - j) x.l[i].l.length ⟨0, rfl, rfl, rfl, rfl, rfl, by omega, rfl, by omega⟩ ?_
    rintro k ts m' ⟨j, hlt', h5', h30, h31, h32, hj, rfl, hk⟩
    rw [expandT hlt']
    simp -implicitDefEqProofs -dsimp (disch := (first | omega | (simp only [List.length_set, List.length_append, List.length_cons, List.length_nil]; omega))) only [go_sem, Nat.reduceAdd, Nat.reduceSub, Nat.reduceLT, Nat.reduceLeDiff, Int.reduceToNat, Int.reduceLE, Int.reduceLT, Int.reduceAdd, Int.reduceSub, Int.reduceEq, Int.reduceNe, Int.reduceMul, Nat.reduceMul, Int.reduceNeg, Int.toNat_natCast, Nat.reduceEqDiff, X.exit.injEq, if_true, if_false, reduceIte, Bool.not_true, Bool.not_false, Bool.false_eq_true, Bool.true_eq_false, true_and,  need_of, need_true, need_and, WOf_need, i64w, u64w, at_getD, idxR_slD, and_true, Nat.zero_add, Nat.mul_one, Nat.add_zero, idxS_one, get_setN, get_setS, get_appL, List.length_set, ↓ibin_shlD, ↓ibin_shrD, bld1_true, plan_buildD, natSucc, h5', h30, h31, h32]
    split
    · rename_i hlt
      have hj' : j < x.l[i].l.length := by omega
      have hdm : x.l[i].l[j] ∈ x.of[i]'(by omega) := by rw [hg]; exact List.getElem_mem hj'
      have hrow := row_ok hR (by omega) _ hdm
      have hdb := closed_needs hs (by omega) hbit hdm
      have hdn : x.l[i].l[j].toNat < x.l.length := by omega
      have hzd : z.l[x.l[i].l[j].toNat]? = some true := by rw [hz]; exact (hmk _ hdn).1 hdb
      simp -implicitDefEqProofs -dsimp (disch := (first | omega | (simp only [List.length_set, List.length_append, List.length_cons, List.length_nil]; omega))) only [go_sem, Nat.reduceAdd, Nat.reduceSub, Nat.reduceLT, Nat.reduceLeDiff, Int.reduceToNat, Int.reduceLE, Int.reduceLT, Int.reduceAdd, Int.reduceSub, Int.reduceEq, Int.reduceNe, Int.reduceMul, Nat.reduceMul, Int.reduceNeg, Int.toNat_natCast, Nat.reduceEqDiff, X.exit.injEq, if_true, if_false, reduceIte, Bool.not_true, Bool.not_false, Bool.false_eq_true, Bool.true_eq_false, true_and,  need_of, need_true, need_and, WOf_need, i64w, u64w, at_getD, idxR_slD, and_true, Nat.zero_add, Nat.mul_one, Nat.add_zero, idxS_one, get_setN, get_setS, get_appL, List.length_set, ↓ibin_shlD, ↓ibin_shrD, bld1_true, plan_buildD, natSucc, h2, hzd]
      refine ⟨x.l[i].l.length - (j + 1), by omega, j + 1, ?_⟩
      and_intros <;> (first | with_reducible rfl | omega | with_reducible assumption | exact True.intro | skip)
    · rename_i hlt
      exact ⟨rfl, h5, Stays.refl _ _ _, [], ⟨rfl, h1, h2, h3, h4⟩, Newer.refl _ _⟩
  · rintro st own m2 rfl ⟨rfl, h1, h2, h3, h4⟩ hl
    simp -implicitDefEqProofs -dsimp (disch := (first | omega | (simp only [List.length_set, List.length_append, List.length_cons, List.length_nil]; omega))) only [go_sem, Nat.reduceAdd, Nat.reduceSub, Nat.reduceLT, Nat.reduceLeDiff, Int.reduceToNat, Int.reduceLE, Int.reduceLT, Int.reduceAdd, Int.reduceSub, Int.reduceEq, Int.reduceNe, Int.reduceMul, Nat.reduceMul, Int.reduceNeg, Int.toNat_natCast, Nat.reduceEqDiff, X.exit.injEq, if_true, if_false, reduceIte, Bool.not_true, Bool.not_false, Bool.false_eq_true, Bool.true_eq_false, true_and,  need_of, need_true, need_and, WOf_need, i64w, u64w, at_getD, idxR_slD, and_true, Nat.zero_add, Nat.mul_one, Nat.add_zero, idxS_one, get_setN, get_setS, get_appL, List.length_set, ↓ibin_shlD, ↓ibin_shrD, bld1_true, plan_buildD, natSucc, h3]
end
end Go.Proofs.YtfbamjlednbdhaaDoor.V
/- The law ExploreLists in the VM; no condition. -/
namespace Go.Proofs.YtfbamjlednbdhaaDoor.V
open Go
set_option linter.unusedVariables false
set_option linter.unusedSimpArgs false
set_option maxHeartbeats 4000000
noncomputable section
theorem list_short {D : List (List Int)} {z : LL} {most : Int} (hz : z.of = allL D most) : Short z := by
  unfold allL at hz
  split at hz
  · have hl := congrArg List.length hz
    rename_i h0
    have hfit : fitsD D = true := by
      cases h : fitsD D with
      | true => rfl
      | false => simp [allE, h] at h0
    have hfl := List.length_filter_le (closedB (needD D)) (List.range (2 ^ D.length))
    have hp : 2 ^ D.length ≤ 2 ^ 14 := Nat.pow_le_pow_right (by omega) (fits_len hfit)
    simp [LL.of, closedSets] at hl hfl hp
    refine ⟨by omega, fun a ha => ?_⟩
    have : a.l ∈ z.of := List.mem_map.2 ⟨a, ha, rfl⟩
    rw [hz] at this
    simp only [List.mem_map] at this
    obtain ⟨s, _, hs⟩ := this
    have hl := congrArg List.length hs
    have := List.length_filter_le s.testBit (List.range 14)
    simp [listB] at hl this
    omega
  · have hl := congrArg List.length hz
    simp [LL.of] at hl
    refine ⟨?_, ?_⟩
    · rw [hl]; simp
    · rw [hl]; simp
theorem mask_list {s : Nat} (hs : s < 2 ^ 14) : maskR ((listB s).map Int.ofNat) = s := by
  apply Nat.eq_of_testBit_eq
  intro j
  unfold maskR
  rw [fold_or_bit, Nat.zero_testBit, Bool.false_or]
  rw [Bool.eq_iff_iff, List.any_eq_true, ← list_mem hs]
  constructor
  · rintro ⟨d, hd, h⟩
    obtain ⟨e, he, rfl⟩ := List.mem_map.1 hd
    rw [Nat.testBit_two_pow] at h
    have : e = j := by simpa using h
    rwa [← this]
  · intro h
    exact ⟨(j : Int), List.mem_map.2 ⟨j, h, rfl⟩, by rw [Nat.testBit_two_pow]; simp⟩
theorem closed_rising (D : List (List Int)) : (closedSets D).Pairwise (· < ·) := List.Pairwise.filter _ List.pairwise_lt_range
theorem full_closed {D : List (List Int)} (h : fitsD D = true) : 2 ^ D.length - 1 ∈ closedSets D := by
  have hp : 0 < 2 ^ D.length := Nat.pow_pos (by omega)
  refine List.mem_filter.2 ⟨List.mem_range.2 (by omega), ?_⟩
  rw [closedB_iff]
  intro j hj
  refine ⟨fun hh => by simp at hh, fun _ i hi => ?_⟩
  have h1 := lt_bit hi
  have h2 := need_bound h j
  have hl : (needD D).length = D.length := by simp [needD]
  have : 2 ^ i < 2 ^ j := by omega
  have := (Nat.pow_lt_pow_iff_right (a := 2) (by omega)).1 this
  rw [Nat.testBit_two_pow_sub_one]; simp; omega
theorem last_full {D : List (List Int)} (h : fitsD D = true) : (closedSets D).getLast? = some (2 ^ D.length - 1) := by
  have hm := full_closed h
  obtain ⟨j, hj, he⟩ := List.getElem_of_mem hm
  rw [List.getLast?_eq_getElem?]
  have hlast : (closedSets D).length - 1 < (closedSets D).length := by omega
  rw [List.getElem?_eq_getElem hlast]
  congr 1
  have hlt := List.mem_range.1 (List.mem_filter.1 (List.getElem_mem hlast)).1
  rcases Nat.lt_or_ge j ((closedSets D).length - 1) with h1 | h1
  · have := List.pairwise_iff_getElem.1 (closed_rising D) j _ hj hlast h1
    omega
  · have : j = (closedSets D).length - 1 := by omega
    subst this
    exact he
theorem lists_law (x : LL) : WC Tryd.prog pol ⟨[], 0⟩ (.func 6) [sl (sl I) x] [] fun v m' => v = .sc (.bool true) ∧ m' = [] := by
  refine callPur Tryd.func6 rfl rfl Tryd.ntmps6 Tryd.results6 ?_
  simp -implicitDefEqProofs -dsimp (disch := (first | omega | (simp only [List.length_set, List.length_append, List.length_cons, List.length_nil]; omega))) only [go_sem, Nat.reduceAdd, Nat.reduceSub, Nat.reduceLT, Nat.reduceLeDiff, Int.reduceToNat, Int.reduceLE, Int.reduceLT, Int.reduceAdd, Int.reduceSub, Int.reduceEq, Int.reduceNe, Int.reduceMul, Nat.reduceMul, Int.reduceNeg, Int.toNat_natCast, Nat.reduceEqDiff, X.exit.injEq, if_true, if_false, reduceIte, Bool.not_true, Bool.not_false, Bool.false_eq_true, Bool.true_eq_false, true_and,  need_of, need_true, need_and, WOf_need, i64w, u64w, at_getD, idxR_slD, and_true, Nat.zero_add, Nat.mul_one, Nat.add_zero, idxS_one, get_setN, get_setS, get_appL, List.length_set, ↓ibin_shlD, ↓ibin_shrD, bld1_true, plan_buildD, natSucc, ]
  refine (little_ok x 9 (by omega) fits0.pur).mono ?_
  rintro v m' ⟨rfl, y, rfl, hy⟩
  obtain ⟨hs, hsl⟩ := few_short hy
  have hy9 : y.of.length ≤ 9 := by rw [hy, List.length_take]; omega
  simp -implicitDefEqProofs -dsimp (disch := (first | omega | (simp only [List.length_set, List.length_append, List.length_cons, List.length_nil]; omega))) only [go_sem, Nat.reduceAdd, Nat.reduceSub, Nat.reduceLT, Nat.reduceLeDiff, Int.reduceToNat, Int.reduceLE, Int.reduceLT, Int.reduceAdd, Int.reduceSub, Int.reduceEq, Int.reduceNe, Int.reduceMul, Nat.reduceMul, Int.reduceNeg, Int.toNat_natCast, Nat.reduceEqDiff, X.exit.injEq, if_true, if_false, reduceIte, Bool.not_true, Bool.not_false, Bool.false_eq_true, Bool.true_eq_false, true_and,  need_of, need_true, need_and, WOf_need, i64w, u64w, at_getD, idxR_slD, and_true, Nat.zero_add, Nat.mul_one, Nat.add_zero, idxS_one, get_setN, get_setS, get_appL, List.length_set, ↓ibin_shlD, ↓ibin_shrD, bld1_true, plan_buildD, natSucc, ]
  refine (count_ok y hs hsl fits0.pur).mono ?_
  rintro v m' ⟨rfl, rfl⟩
  cases hfit : fitsD y.of with
  | false =>
    have hE : allE16 y.of 4096 = 3 := by simp [allE16, hfit]
    have hL : allL16 y.of 4096 = [] := by rw [allL16, hE]; rfl
    simp -implicitDefEqProofs -dsimp (disch := (first | omega | (simp only [List.length_set, List.length_append, List.length_cons, List.length_nil]; omega))) only [go_sem, Nat.reduceAdd, Nat.reduceSub, Nat.reduceLT, Nat.reduceLeDiff, Int.reduceToNat, Int.reduceLE, Int.reduceLT, Int.reduceAdd, Int.reduceSub, Int.reduceEq, Int.reduceNe, Int.reduceMul, Nat.reduceMul, Int.reduceNeg, Int.toNat_natCast, Nat.reduceEqDiff, X.exit.injEq, if_true, if_false, reduceIte, Bool.not_true, Bool.not_false, Bool.false_eq_true, Bool.true_eq_false, true_and,  need_of, need_true, need_and, WOf_need, i64w, u64w, at_getD, idxR_slD, and_true, Nat.zero_add, Nat.mul_one, Nat.add_zero, idxS_one, get_setN, get_setS, get_appL, List.length_set, ↓ibin_shlD, ↓ibin_shrD, bld1_true, plan_buildD, natSucc, ]
    refine (all16_ok y 4096 hs hsl fits0.pur).mono ?_
    rintro v m' ⟨rfl, z, rfl, hz⟩
    rw [hE]
    simp -implicitDefEqProofs -dsimp (disch := (first | omega | (simp only [List.length_set, List.length_append, List.length_cons, List.length_nil]; omega))) only [go_sem, Nat.reduceAdd, Nat.reduceSub, Nat.reduceLT, Nat.reduceLeDiff, Int.reduceToNat, Int.reduceLE, Int.reduceLT, Int.reduceAdd, Int.reduceSub, Int.reduceEq, Int.reduceNe, Int.reduceMul, Nat.reduceMul, Int.reduceNeg, Int.toNat_natCast, Nat.reduceEqDiff, X.exit.injEq, if_true, if_false, reduceIte, Bool.not_true, Bool.not_false, Bool.false_eq_true, Bool.true_eq_false, true_and,  need_of, need_true, need_and, WOf_need, i64w, u64w, at_getD, idxR_slD, and_true, Nat.zero_add, Nat.mul_one, Nat.add_zero, idxS_one, get_setN, get_setS, get_appL, List.length_set, ↓ibin_shlD, ↓ibin_shrD, bld1_true, plan_buildD, natSucc, ]
    refine live_ok.mono ?_
    rintro v m' ⟨rfl, rfl⟩
    have hz0 : z.l.length = 0 := by have := congrArg List.length (hz.trans hL); simpa [LL.of] using this
    simp -implicitDefEqProofs -dsimp (disch := (first | omega | (simp only [List.length_set, List.length_append, List.length_cons, List.length_nil]; omega))) only [go_sem, Nat.reduceAdd, Nat.reduceSub, Nat.reduceLT, Nat.reduceLeDiff, Int.reduceToNat, Int.reduceLE, Int.reduceLT, Int.reduceAdd, Int.reduceSub, Int.reduceEq, Int.reduceNe, Int.reduceMul, Nat.reduceMul, Int.reduceNeg, Int.toNat_natCast, Nat.reduceEqDiff, X.exit.injEq, if_true, if_false, reduceIte, Bool.not_true, Bool.not_false, Bool.false_eq_true, Bool.true_eq_false, true_and,  need_of, need_true, need_and, WOf_need, i64w, u64w, at_getD, idxR_slD, and_true, Nat.zero_add, Nat.mul_one, Nat.add_zero, idxS_one, get_setN, get_setS, get_appL, List.length_set, ↓ibin_shlD, ↓ibin_shrD, bld1_true, plan_buildD, natSucc, hz0]
    rfl
  | true =>
    have hlen : y.of.length = y.l.length := by simp [LL.of]
    have hdc : desc (needD y.of) y.of.length 0 0 = closedSets y.of := descD_eq hfit
    have hp : 2 ^ y.of.length ≤ 2 ^ 9 := Nat.pow_le_pow_right (by omega) hy9
    have hcl : (closedSets y.of).length ≤ 2 ^ y.of.length := by
      have := List.length_filter_le (closedB (needD y.of)) (List.range (2 ^ y.of.length))
      simpa [closedSets] using this
    have hE : allE y.of 4096 = 0 := by
      have : ¬ (4096 : Int) < (closedSets y.of).length := by omega
      simp [allE, hfit, this]
    have hL : allL y.of 4096 = (closedSets y.of).map fun s => (listB s).map Int.ofNat := by rw [allL, if_pos hE]
    rw [hdc]
    simp -implicitDefEqProofs -dsimp (disch := (first | omega | (simp only [List.length_set, List.length_append, List.length_cons, List.length_nil]; omega))) only [go_sem, Nat.reduceAdd, Nat.reduceSub, Nat.reduceLT, Nat.reduceLeDiff, Int.reduceToNat, Int.reduceLE, Int.reduceLT, Int.reduceAdd, Int.reduceSub, Int.reduceEq, Int.reduceNe, Int.reduceMul, Nat.reduceMul, Int.reduceNeg, Int.toNat_natCast, Nat.reduceEqDiff, X.exit.injEq, if_true, if_false, reduceIte, Bool.not_true, Bool.not_false, Bool.false_eq_true, Bool.true_eq_false, true_and,  need_of, need_true, need_and, WOf_need, i64w, u64w, at_getD, idxR_slD, and_true, Nat.zero_add, Nat.mul_one, Nat.add_zero, idxS_one, get_setN, get_setS, get_appL, List.length_set, ↓ibin_shlD, ↓ibin_shrD, bld1_true, plan_buildD, natSucc, ]
    refine (all16_ok y 4096 hs hsl fits0.pur).mono ?_
    rintro v m' ⟨rfl, z, rfl, hz⟩
    rw [allL_eq] at hz
    obtain ⟨hzs, hzl⟩ := list_short hz
    rw [hL] at hz
    rw [allE_eq, hE]
    have hzlen : z.l.length = (closedSets y.of).length := by have := congrArg List.length hz; simpa [LL.of] using this
    simp -implicitDefEqProofs -dsimp (disch := (first | omega | (simp only [List.length_set, List.length_append, List.length_cons, List.length_nil]; omega))) only [go_sem, Nat.reduceAdd, Nat.reduceSub, Nat.reduceLT, Nat.reduceLeDiff, Int.reduceToNat, Int.reduceLE, Int.reduceLT, Int.reduceAdd, Int.reduceSub, Int.reduceEq, Int.reduceNe, Int.reduceMul, Nat.reduceMul, Int.reduceNeg, Int.toNat_natCast, Nat.reduceEqDiff, X.exit.injEq, if_true, if_false, reduceIte, Bool.not_true, Bool.not_false, Bool.false_eq_true, Bool.true_eq_false, true_and,  need_of, need_true, need_and, WOf_need, i64w, u64w, at_getD, idxR_slD, and_true, Nat.zero_add, Nat.mul_one, Nat.add_zero, idxS_one, get_setN, get_setS, get_appL, List.length_set, ↓ibin_shlD, ↓ibin_shrD, bld1_true, plan_buildD, natSucc, ]
    refine loopF (fun k ts m' => ∃ (i : Nat), ts.length = 96 ∧ tg ts 3 = sl (sl I) y ∧ tg ts 4 = I (closedSets y.of).length ∧ tg ts 6 = sl (sl I) z ∧ tg ts 7 = I 0 ∧ tg ts 8 = I ((((closedSets y.of).take i).getLast?.map Int.ofNat).getD (-1)) ∧ tg ts 9 = I i ∧ m' = [] ∧ i ≤ z.l.length ∧ k = z.l.length - i) z.l.length ⟨0, rfl, rfl, rfl, rfl, rfl, rfl, rfl, rfl, by omega, by omega⟩ ?_
    rintro k ts m' ⟨i, hl, h3, h4, h6, h7, h8, h9, rfl, hi, hk⟩
    rw [expandT hl]
    simp -implicitDefEqProofs -dsimp (disch := (first | omega | (simp only [List.length_set, List.length_append, List.length_cons, List.length_nil]; omega))) only [go_sem, Nat.reduceAdd, Nat.reduceSub, Nat.reduceLT, Nat.reduceLeDiff, Int.reduceToNat, Int.reduceLE, Int.reduceLT, Int.reduceAdd, Int.reduceSub, Int.reduceEq, Int.reduceNe, Int.reduceMul, Nat.reduceMul, Int.reduceNeg, Int.toNat_natCast, Nat.reduceEqDiff, X.exit.injEq, if_true, if_false, reduceIte, Bool.not_true, Bool.not_false, Bool.false_eq_true, Bool.true_eq_false, true_and,  need_of, need_true, need_and, WOf_need, i64w, u64w, at_getD, idxR_slD, and_true, Nat.zero_add, Nat.mul_one, Nat.add_zero, idxS_one, get_setN, get_setS, get_appL, List.length_set, ↓ibin_shlD, ↓ibin_shrD, bld1_true, plan_buildD, natSucc, h3, h4, h6, h7, h8, h9]
    split
    · rename_i hlt
      have hi' : i < z.l.length := by omega
      have hic : i < (closedSets y.of).length := by omega
      have hmem := List.getElem_mem hic
      have hs14 := closed_lt hfit _ hmem
      have hzi : z.l[i].l = (listB (closedSets y.of)[i]).map Int.ofNat := by
        have h1 : z.of[i]? = some z.l[i].l := by rw [LL.of, List.getElem?_map, List.getElem?_eq_getElem hi']; rfl
        rw [hz, List.getElem?_map, List.getElem?_eq_getElem hic] at h1
        exact (Option.some.inj h1).symm
      simp -implicitDefEqProofs -dsimp (disch := (first | omega | (simp only [List.length_set, List.length_append, List.length_cons, List.length_nil]; omega))) only [go_sem, Nat.reduceAdd, Nat.reduceSub, Nat.reduceLT, Nat.reduceLeDiff, Int.reduceToNat, Int.reduceLE, Int.reduceLT, Int.reduceAdd, Int.reduceSub, Int.reduceEq, Int.reduceNe, Int.reduceMul, Nat.reduceMul, Int.reduceNeg, Int.toNat_natCast, Nat.reduceEqDiff, X.exit.injEq, if_true, if_false, reduceIte, Bool.not_true, Bool.not_false, Bool.false_eq_true, Bool.true_eq_false, true_and,  need_of, need_true, need_and, WOf_need, i64w, u64w, at_getD, idxR_slD, and_true, Nat.zero_add, Nat.mul_one, Nat.add_zero, idxS_one, get_setN, get_setS, get_appL, List.length_set, ↓ibin_shlD, ↓ibin_shrD, bld1_true, plan_buildD, natSucc, ]
      refine (closed19_ok y hfit hs hsl _ hmem z.l[i] hzi fits0.pur).mono ?_
      rintro v m' ⟨rfl, rfl⟩
      have htk : (closedSets y.of).take (i + 1) = (closedSets y.of).take i ++ [(closedSets y.of)[i]] := by rw [List.take_add_one, List.getElem?_eq_getElem hic]; rfl
      have hlast : (((closedSets y.of).take i).getLast?.map Int.ofNat).getD (-1) < ((closedSets y.of)[i] : Int) := by
        cases hg : ((closedSets y.of).take i).getLast? with
        | none => simp; omega
        | some b =>
          have hb := List.mem_of_getLast? hg
          obtain ⟨j, hj, rfl⟩ := List.getElem_of_mem hb
          have hj' : j < i := by simp at hj; omega
          have := List.pairwise_iff_getElem.1 (closed_rising y.of) j i (by omega) hic hj'
          simp only [Option.map_some, Option.getD_some, List.getElem_take]
          exact Int.ofNat_lt.2 this
      have hnext : (((closedSets y.of).take (i + 1)).getLast?.map Int.ofNat).getD (-1) = ((closedSets y.of)[i] : Int) := by rw [htk, List.getLast?_concat]; rfl
      have hmask := mask_list hs14
      rw [← hzi] at hmask
      have hll := hzl _ (List.getElem_mem hi')
      generalize (((closedSets y.of).take i).getLast?.map Int.ofNat).getD (-1) = last at *
      generalize (closedSets y.of)[i] = s at *
      simp -implicitDefEqProofs -dsimp (disch := (first | omega | (simp only [List.length_set, List.length_append, List.length_cons, List.length_nil]; omega))) only [go_sem, Nat.reduceAdd, Nat.reduceSub, Nat.reduceLT, Nat.reduceLeDiff, Int.reduceToNat, Int.reduceLE, Int.reduceLT, Int.reduceAdd, Int.reduceSub, Int.reduceEq, Int.reduceNe, Int.reduceMul, Nat.reduceMul, Int.reduceNeg, Int.toNat_natCast, Nat.reduceEqDiff, X.exit.injEq, if_true, if_false, reduceIte, Bool.not_true, Bool.not_false, Bool.false_eq_true, Bool.true_eq_false, true_and,  need_of, need_true, need_and, WOf_need, i64w, u64w, at_getD, idxR_slD, and_true, Nat.zero_add, Nat.mul_one, Nat.add_zero, idxS_one, get_setN, get_setS, get_appL, List.length_set, ↓ibin_shlD, ↓ibin_shrD, bld1_true, plan_buildD, natSucc, ]
      refine loopF (fun k ts m' => ∃ (j : Nat), ts.length = 96 ∧ tg ts 3 = sl (sl I) y ∧ tg ts 4 = I (closedSets y.of).length ∧ tg ts 6 = sl (sl I) z ∧ tg ts 7 = I 0 ∧ tg ts 8 = I last ∧ tg ts 9 = I i ∧ tg ts 10 = I (maskR (z.l[i].l.take j) : Nat) ∧ tg ts 11 = I j ∧ m' = [] ∧ j ≤ z.l[i].l.length ∧ k = z.l[i].l.length - j) z.l[i].l.length ⟨0, rfl, rfl, rfl, rfl, rfl, rfl, rfl, rfl, rfl, rfl, by omega, by omega⟩ ?_
      rintro k ts m' ⟨j, hl, h3, h4, h6, h7, h8, h9, h10, h11, rfl, hj, hk⟩
      rw [expandT hl]
      simp -implicitDefEqProofs -dsimp (disch := (first | omega | (simp only [List.length_set, List.length_append, List.length_cons, List.length_nil]; omega))) only [go_sem, Nat.reduceAdd, Nat.reduceSub, Nat.reduceLT, Nat.reduceLeDiff, Int.reduceToNat, Int.reduceLE, Int.reduceLT, Int.reduceAdd, Int.reduceSub, Int.reduceEq, Int.reduceNe, Int.reduceMul, Nat.reduceMul, Int.reduceNeg, Int.toNat_natCast, Nat.reduceEqDiff, X.exit.injEq, if_true, if_false, reduceIte, Bool.not_true, Bool.not_false, Bool.false_eq_true, Bool.true_eq_false, true_and,  need_of, need_true, need_and, WOf_need, i64w, u64w, at_getD, idxR_slD, and_true, Nat.zero_add, Nat.mul_one, Nat.add_zero, idxS_one, get_setN, get_setS, get_appL, List.length_set, ↓ibin_shlD, ↓ibin_shrD, bld1_true, plan_buildD, natSucc, h3, h4, h6, h7, h8, h9, h10, h11]
      split
      · rename_i hlt
        have hj' : j < z.l[i].l.length := by omega
        obtain ⟨dn, hdn, hd14⟩ : ∃ dn : Nat, z.l[i].l[j] = (dn : Int) ∧ dn < 14 := by
          have hm : z.l[i].l[j] ∈ z.l[i].l := List.getElem_mem hj'
          generalize z.l[i].l[j] = q at hm
          rw [hzi, List.mem_map] at hm
          obtain ⟨e, he, rfl⟩ := hm
          exact ⟨e, rfl, by have := (List.mem_filter.1 he).1; simpa using this⟩
        have hp14 : ∀ e, e < 14 → 2 ^ e < 2 ^ 63 := fun e he => Nat.pow_lt_pow_right (by omega) (by omega)
        have hm1 : maskR (z.l[i].l.take j) < 2 ^ 63 := by
          refine fold_or_lt _ _ (by decide) fun e he => hp14 _ ?_
          have := List.mem_of_mem_take he
          rw [hzi, List.mem_map] at this
          obtain ⟨e', he', rfl⟩ := this
          have := (List.mem_filter.1 he').1; simpa using this
        have hshl : shlK .i64 1 (dn : Int) = ((2 ^ dn : Nat) : Int) := i64_shl (by omega)
        have ho1 : orK .i64 (maskR (z.l[i].l.take j) : Int) ((2 ^ dn : Nat) : Int) = (maskR (z.l[i].l.take (j + 1)) : Int) := by
          rw [i64_or hm1 (hp14 _ (by omega))]
          unfold maskR
          rw [fold_or_take _ _ hj', hdn]; rfl
        simp -implicitDefEqProofs -dsimp (disch := (first | omega | (simp only [List.length_set, List.length_append, List.length_cons, List.length_nil]; omega))) only [go_sem, Nat.reduceAdd, Nat.reduceSub, Nat.reduceLT, Nat.reduceLeDiff, Int.reduceToNat, Int.reduceLE, Int.reduceLT, Int.reduceAdd, Int.reduceSub, Int.reduceEq, Int.reduceNe, Int.reduceMul, Nat.reduceMul, Int.reduceNeg, Int.toNat_natCast, Nat.reduceEqDiff, X.exit.injEq, if_true, if_false, reduceIte, Bool.not_true, Bool.not_false, Bool.false_eq_true, Bool.true_eq_false, true_and,  need_of, need_true, need_and, WOf_need, i64w, u64w, at_getD, idxR_slD, and_true, Nat.zero_add, Nat.mul_one, Nat.add_zero, idxS_one, get_setN, get_setS, get_appL, List.length_set, ↓ibin_shlD, ↓ibin_shrD, bld1_true, plan_buildD, natSucc, hdn, hshl, ho1]
        refine ⟨z.l[i].l.length - (j + 1), by omega, j + 1, ?_⟩
        and_intros <;> (first | with_reducible rfl | omega | with_reducible assumption | exact True.intro | skip)
      · rename_i hlt
        have hje : j = z.l[i].l.length := by omega
        subst hje
        rw [List.take_length, hmask]
        have hle : ¬ (s : Int) ≤ last := by omega
        simp -implicitDefEqProofs -dsimp (disch := (first | omega | (simp only [List.length_set, List.length_append, List.length_cons, List.length_nil]; omega))) only [go_sem, Nat.reduceAdd, Nat.reduceSub, Nat.reduceLT, Nat.reduceLeDiff, Int.reduceToNat, Int.reduceLE, Int.reduceLT, Int.reduceAdd, Int.reduceSub, Int.reduceEq, Int.reduceNe, Int.reduceMul, Nat.reduceMul, Int.reduceNeg, Int.toNat_natCast, Nat.reduceEqDiff, X.exit.injEq, if_true, if_false, reduceIte, Bool.not_true, Bool.not_false, Bool.false_eq_true, Bool.true_eq_false, true_and,  need_of, need_true, need_and, WOf_need, i64w, u64w, at_getD, idxR_slD, and_true, Nat.zero_add, Nat.mul_one, Nat.add_zero, idxS_one, get_setN, get_setS, get_appL, List.length_set, ↓ibin_shlD, ↓ibin_shrD, bld1_true, plan_buildD, natSucc, hle]
        refine ⟨z.l.length - (i + 1), by omega, i + 1, ?_⟩
        and_intros <;> (first | with_reducible rfl | omega | with_reducible assumption | exact True.intro | skip)
        rw [hnext]
    · rename_i hlt
      have hie : i = (closedSets y.of).length := by omega
      have hlf := last_full hfit
      have hpos : 0 < 2 ^ y.of.length := Nat.pow_pos (by omega)
      rw [hie, List.take_length, hlf]
      refine live_ok.mono ?_
      rintro v m' ⟨rfl, rfl⟩
      have hsh : shlK .i64 1 (y.l.length : Int) = ((2 ^ y.of.length : Nat) : Int) := by rw [← hlen]; exact i64_shl (by omega)
      have hne : 0 < (closedSets y.of).length := List.length_pos_of_mem (full_closed hfit)
      have e1 : ((z.l.length : Nat) : Int) = ((closedSets y.of).length : Nat) := by rw [hzlen]
      have e2 : (1 : Int) ≤ ((closedSets y.of).length : Nat) := by omega
      have e3 : Int.ofNat (2 ^ y.of.length - 1) = ((2 ^ y.of.length : Nat) : Int) - 1 := by show ((2 ^ y.of.length - 1 : Nat) : Int) = _; omega
      generalize 2 ^ y.of.length = N at *
      simp -implicitDefEqProofs -dsimp (disch := (first | omega | (simp only [List.length_set, List.length_append, List.length_cons, List.length_nil]; omega))) only [go_sem, Nat.reduceAdd, Nat.reduceSub, Nat.reduceLT, Nat.reduceLeDiff, Int.reduceToNat, Int.reduceLE, Int.reduceLT, Int.reduceAdd, Int.reduceSub, Int.reduceEq, Int.reduceNe, Int.reduceMul, Nat.reduceMul, Int.reduceNeg, Int.toNat_natCast, Nat.reduceEqDiff, X.exit.injEq, if_true, if_false, reduceIte, Bool.not_true, Bool.not_false, Bool.false_eq_true, Bool.true_eq_false, true_and,  need_of, need_true, need_and, WOf_need, i64w, u64w, at_getD, idxR_slD, and_true, Nat.zero_add, Nat.mul_one, Nat.add_zero, idxS_one, get_setN, get_setS, get_appL, List.length_set, ↓ibin_shlD, ↓ibin_shrD, bld1_true, plan_buildD, natSucc, Option.map_some, Option.getD_some, hsh, e1, e2, e3]
end
end Go.Proofs.YtfbamjlednbdhaaDoor.V
