/- Parts of the proof, joined (S20, S21, S22, S23, P2); no condition. -/
import Derived.Test.YtfbamjlednbdhaaDoorMf
import Derived.Test.YtfbamjlednbdhaaDoorMc
/- 'Widest' in the VM; no condition. -/
namespace Go.Proofs.YtfbamjlednbdhaaDoor.V
open Go
set_option linter.unusedVariables false
set_option linter.unusedSimpArgs false
set_option maxHeartbeats 4000000
noncomputable section
variable {en : Env} {m : Mem}
def wid (a : List Nat) : Nat → Nat → Nat
  | 0, _ => 0
  | k + 1, b => if b.testBit k then wid a k b else max (wid a k b) (1 + wid a k (b ||| a.getD k 0))
theorem wid_le (a : List Nat) : ∀ k b, wid a k b ≤ k
  | 0, _ => Nat.le_refl _
  | k + 1, b => by
    have h1 := wid_le a k b
    have h2 := wid_le a k (b ||| a.getD k 0)
    unfold wid
    split <;> omega
theorem wid_ok (n a : Sl Nat) (ha : a.l.length ≤ 14) (hab : ∀ x ∈ a.l, x < 2 ^ 64) (c1 c2 : Nat) (hf : Fits en m.length) (h1 : m[c1]? = some (.cells 0 [.clo (.func 27) [] [.ptr c1 0 0, .ptr c2 0 0]])) (h2 : m[c2]? = some (.cells 0 [sl U n, sl U a])) :
    ∀ (k b : Nat) (en : Env), Fits en m.length → k ≤ a.l.length → b < 2 ^ 64 → WC Tryd.prog pol en (.func 27) [I ((k : Int) - 1), U b, .ptr c1 0 0, .ptr c2 0 0] m fun v m' => v = I (wid a.l k b : Nat) ∧ m' = m := by
  intro k
  induction k with
  | zero =>
    intro b en hf hk hb
    refine callPur Tryd.func27 rfl rfl Tryd.ntmps27 Tryd.results27 ?_
    have h0 : ((0 : Nat) : Int) - 1 < 0 := by decide
    simp -implicitDefEqProofs -dsimp (disch := (first | omega | (simp only [List.length_set, List.length_append, List.length_cons, List.length_nil]; omega))) only [go_sem, Nat.reduceAdd, Nat.reduceSub, Nat.reduceLT, Nat.reduceLeDiff, Int.reduceToNat, Int.reduceLE, Int.reduceLT, Int.reduceAdd, Int.reduceSub, Int.reduceEq, Int.reduceNe, Int.reduceMul, Nat.reduceMul, Int.reduceNeg, Int.toNat_natCast, Nat.reduceEqDiff, X.exit.injEq, if_true, if_false, reduceIte, Bool.not_true, Bool.not_false, Bool.false_eq_true, Bool.true_eq_false, true_and,  need_of, need_true, need_and, WOf_need, i64w, u64w, at_getD, idxR_slD, and_true, Nat.zero_add, Nat.mul_one, Nat.add_zero, idxS_one, get_setN, get_setS, get_appL, List.length_set, ↓ibin_shlD, ↓ibin_shrD, bld1_true, plan_buildD, natSucc, h0]
    rfl
  | succ k ih =>
    intro b en hf hk hb
    have hk1 : ((k + 1 : Nat) : Int) - 1 = (k : Int) := by omega
    rw [hk1]
    refine callPur Tryd.func27 rfl rfl Tryd.ntmps27 Tryd.results27 ?_
    have h0 : ¬ (k : Int) < 0 := by omega
    have hw1 := wid_le a.l k b
    have hak : a.l[k] < 2 ^ 64 := hab _ (List.getElem_mem _)
    have hor : orK .u64 (b : Int) (a.l[k] : Int) = ((b ||| a.l[k] : Nat) : Int) := u64_or hb hak
    have hw2 := wid_le a.l k (b ||| a.l[k])
    have hgd : a.l.getD k 0 = a.l[k] := by rw [List.getD_eq_getElem?_getD, List.getElem?_eq_getElem (by omega)]; rfl
    simp -implicitDefEqProofs -dsimp (disch := (first | omega | (simp only [List.length_set, List.length_append, List.length_cons, List.length_nil]; omega))) only [go_sem, Nat.reduceAdd, Nat.reduceSub, Nat.reduceLT, Nat.reduceLeDiff, Int.reduceToNat, Int.reduceLE, Int.reduceLT, Int.reduceAdd, Int.reduceSub, Int.reduceEq, Int.reduceNe, Int.reduceMul, Nat.reduceMul, Int.reduceNeg, Int.toNat_natCast, Nat.reduceEqDiff, X.exit.injEq, if_true, if_false, reduceIte, Bool.not_true, Bool.not_false, Bool.false_eq_true, Bool.true_eq_false, true_and,  need_of, need_true, need_and, WOf_need, i64w, u64w, at_getD, idxR_slD, and_true, Nat.zero_add, Nat.mul_one, Nat.add_zero, idxS_one, get_setN, get_setS, get_appL, List.length_set, ↓ibin_shlD, ↓ibin_shrD, bld1_true, plan_buildD, natSucc, h0, h1]
    refine (ih b _ hf.pur (by omega) hb).mono ?_
    rintro v m' ⟨rfl, rfl⟩
    simp -implicitDefEqProofs -dsimp (disch := (first | omega | (simp only [List.length_set, List.length_append, List.length_cons, List.length_nil]; omega))) only [go_sem, Nat.reduceAdd, Nat.reduceSub, Nat.reduceLT, Nat.reduceLeDiff, Int.reduceToNat, Int.reduceLE, Int.reduceLT, Int.reduceAdd, Int.reduceSub, Int.reduceEq, Int.reduceNe, Int.reduceMul, Nat.reduceMul, Int.reduceNeg, Int.toNat_natCast, Nat.reduceEqDiff, X.exit.injEq, if_true, if_false, reduceIte, Bool.not_true, Bool.not_false, Bool.false_eq_true, Bool.true_eq_false, true_and,  need_of, need_true, need_and, WOf_need, i64w, u64w, at_getD, idxR_slD, and_true, Nat.zero_add, Nat.mul_one, Nat.add_zero, idxS_one, get_setN, get_setS, get_appL, List.length_set, ↓ibin_shlD, ↓ibin_shrD, bld1_true, plan_buildD, natSucc, ]
    refine (has_ok b k hb (by omega)).mono ?_
    rintro v m1 ⟨rfl, rfl⟩
    cases hbit : b.testBit k with
    | true =>
      simp -implicitDefEqProofs -dsimp (disch := (first | omega | (simp only [List.length_set, List.length_append, List.length_cons, List.length_nil]; omega))) only [go_sem, Nat.reduceAdd, Nat.reduceSub, Nat.reduceLT, Nat.reduceLeDiff, Int.reduceToNat, Int.reduceLE, Int.reduceLT, Int.reduceAdd, Int.reduceSub, Int.reduceEq, Int.reduceNe, Int.reduceMul, Nat.reduceMul, Int.reduceNeg, Int.toNat_natCast, Nat.reduceEqDiff, X.exit.injEq, if_true, if_false, reduceIte, Bool.not_true, Bool.not_false, Bool.false_eq_true, Bool.true_eq_false, true_and,  need_of, need_true, need_and, WOf_need, i64w, u64w, at_getD, idxR_slD, and_true, Nat.zero_add, Nat.mul_one, Nat.add_zero, idxS_one, get_setN, get_setS, get_appL, List.length_set, ↓ibin_shlD, ↓ibin_shrD, bld1_true, plan_buildD, natSucc, ]
      rw [wid, hbit, if_pos rfl]
    | false =>
      simp -implicitDefEqProofs -dsimp (disch := (first | omega | (simp only [List.length_set, List.length_append, List.length_cons, List.length_nil]; omega))) only [go_sem, Nat.reduceAdd, Nat.reduceSub, Nat.reduceLT, Nat.reduceLeDiff, Int.reduceToNat, Int.reduceLE, Int.reduceLT, Int.reduceAdd, Int.reduceSub, Int.reduceEq, Int.reduceNe, Int.reduceMul, Nat.reduceMul, Int.reduceNeg, Int.toNat_natCast, Nat.reduceEqDiff, X.exit.injEq, if_true, if_false, reduceIte, Bool.not_true, Bool.not_false, Bool.false_eq_true, Bool.true_eq_false, true_and,  need_of, need_true, need_and, WOf_need, i64w, u64w, at_getD, idxR_slD, and_true, Nat.zero_add, Nat.mul_one, Nat.add_zero, idxS_one, get_setN, get_setS, get_appL, List.length_set, ↓ibin_shlD, ↓ibin_shrD, bld1_true, plan_buildD, natSucc, h1, h2, hor]
      refine ⟨by kernel_rfl, ?_⟩
      refine (ih (b ||| a.l[k]) _ hf.pur (by omega) (Nat.or_lt_two_pow hb hak)).mono ?_
      rintro v m2 ⟨rfl, rfl⟩
      simp -implicitDefEqProofs -dsimp (disch := (first | omega | (simp only [List.length_set, List.length_append, List.length_cons, List.length_nil]; omega))) only [go_sem, Nat.reduceAdd, Nat.reduceSub, Nat.reduceLT, Nat.reduceLeDiff, Int.reduceToNat, Int.reduceLE, Int.reduceLT, Int.reduceAdd, Int.reduceSub, Int.reduceEq, Int.reduceNe, Int.reduceMul, Nat.reduceMul, Int.reduceNeg, Int.toNat_natCast, Nat.reduceEqDiff, X.exit.injEq, if_true, if_false, reduceIte, Bool.not_true, Bool.not_false, Bool.false_eq_true, Bool.true_eq_false, true_and,  need_of, need_true, need_and, WOf_need, i64w, u64w, at_getD, idxR_slD, and_true, Nat.zero_add, Nat.mul_one, Nat.add_zero, idxS_one, get_setN, get_setS, get_appL, List.length_set, ↓ibin_shlD, ↓ibin_shrD, bld1_true, plan_buildD, natSucc, ]
      refine ⟨peace_ro (by kernel_rfl), ?_⟩
      have hmx : (if ((wid a.l k b : Nat) : Int) < 1 + ((wid a.l k (b ||| a.l[k]) : Nat) : Int) then 1 + ((wid a.l k (b ||| a.l[k]) : Nat) : Int) else ((wid a.l k b : Nat) : Int)) = ((max (wid a.l k b) (1 + wid a.l k (b ||| a.l[k])) : Nat) : Int) := by split <;> omega
      rw [hmx, wid, hbit, if_neg (by simp), hgd]
theorem ahead_lt64 {D : List (List Int)} (h : fitsD D = true) : ∀ a ∈ aheadD D, a < 2 ^ 64 := by
  have h2 := h
  simp only [fitsD, Bool.and_eq_true] at h2
  have := ahead_lt h2.2 (fits_len h) D.length
  rwa [List.take_of_length_le (by rw [ahead_len]; exact Nat.le_refl _)] at this
theorem widestA (x : LL) (hx : x.l.length < 2 ^ 62) (hxl : ∀ a ∈ x.l, a.l.length < 2 ^ 62) {args : List AV} (ha : args.mapM (frz m 0 frzDepth) = some [sl (sl I) x]) : WC Tryd.prog pol en (.func 12) args m fun v m' => m' = m ∧
    v = if fitsD x.of = true then .tup [I (wid (aheadD x.of) x.of.length 0 : Nat), I 0] else .tup [I 0, I 3] := by
  refine callCls Tryd.func12 rfl rfl Tryd.ntmps12 Tryd.results12 ha ?_
  clear ha
  intro en m1 hf
  have hf : Fits en m1.length := hf
  have hokT := fun {id : Nat} {low : Nat → Bool} => @okTo_purT en m1.length id hf low
  simp -implicitDefEqProofs -dsimp (disch := (first | omega | (simp only [List.length_set, List.length_append, List.length_cons, List.length_nil]; omega))) only [go_sem, Nat.reduceAdd, Nat.reduceSub, Nat.reduceLT, Nat.reduceLeDiff, Int.reduceToNat, Int.reduceLE, Int.reduceLT, Int.reduceAdd, Int.reduceSub, Int.reduceEq, Int.reduceNe, Int.reduceMul, Nat.reduceMul, Int.reduceNeg, Int.toNat_natCast, Nat.reduceEqDiff, X.exit.injEq, if_true, if_false, reduceIte, Bool.not_true, Bool.not_false, Bool.false_eq_true, Bool.true_eq_false, true_and,  need_of, need_true, need_and, WOf_need, i64w, u64w, at_getD, idxR_slD, and_true, Nat.zero_add, Nat.mul_one, Nat.add_zero, idxS_one, get_setN, get_setS, get_appL, List.length_set, ↓ibin_shlD, ↓ibin_shrD, bld1_true, plan_buildD, natSucc, ]
  refine (read_ok x hx hxl hf.pur).mono ?_
  rintro v m' ⟨rfl, n, a, rfl, ho⟩
  cases hfit : fitsD x.of with
  | false => simp -implicitDefEqProofs -dsimp (disch := (first | omega | (simp only [List.length_set, List.length_append, List.length_cons, List.length_nil]; omega))) only [go_sem, Nat.reduceAdd, Nat.reduceSub, Nat.reduceLT, Nat.reduceLeDiff, Int.reduceToNat, Int.reduceLE, Int.reduceLT, Int.reduceAdd, Int.reduceSub, Int.reduceEq, Int.reduceNe, Int.reduceMul, Nat.reduceMul, Int.reduceNeg, Int.toNat_natCast, Nat.reduceEqDiff, X.exit.injEq, if_true, if_false, reduceIte, Bool.not_true, Bool.not_false, Bool.false_eq_true, Bool.true_eq_false, true_and,  need_of, need_true, need_and, WOf_need, i64w, u64w, at_getD, idxR_slD, and_true, Nat.zero_add, Nat.mul_one, Nat.add_zero, idxS_one, get_setN, get_setS, get_appL, List.length_set, ↓ibin_shlD, ↓ibin_shrD, bld1_true, plan_buildD, natSucc, hfit, hokT]
  | true =>
    obtain ⟨hn, ha⟩ := ho hfit
    have hal : a.l.length = x.of.length := by rw [ha, ahead_len]
    have hlen : x.of.length = x.l.length := by simp [LL.of]
    have h14 := fits_len hfit
    have hwl := wid_le (aheadD x.of) x.of.length 0
    simp -implicitDefEqProofs -dsimp (disch := (first | omega | (simp only [List.length_set, List.length_append, List.length_cons, List.length_nil]; omega))) only [go_sem, Nat.reduceAdd, Nat.reduceSub, Nat.reduceLT, Nat.reduceLeDiff, Int.reduceToNat, Int.reduceLE, Int.reduceLT, Int.reduceAdd, Int.reduceSub, Int.reduceEq, Int.reduceNe, Int.reduceMul, Nat.reduceMul, Int.reduceNeg, Int.toNat_natCast, Nat.reduceEqDiff, X.exit.injEq, if_true, if_false, reduceIte, Bool.not_true, Bool.not_false, Bool.false_eq_true, Bool.true_eq_false, true_and,  need_of, need_true, need_and, WOf_need, i64w, u64w, at_getD, idxR_slD, and_true, Nat.zero_add, Nat.mul_one, Nat.add_zero, idxS_one, get_setN, get_setS, get_appL, List.length_set, ↓ibin_shlD, ↓ibin_shrD, bld1_true, plan_buildD, natSucc, hfit, hokT]
    have hw := wid_ok n a (by omega) (by rw [ha]; exact ahead_lt64 hfit) (m'.length + 1) m'.length (m := m' ++ [.cells 0 [sl U n, sl U a], .cells 0 [.clo (.func 27) [] [.ptr (m'.length + 1) 0 0, .ptr m'.length 0 0]]]) (hf.mono (by simp)) (by rw [getM]; rfl) (by rw [getM0]; rfl) a.l.length 0 ⟨m'.length :: en.bases, m'.length⟩ (hf.pur.mono (by simp)) (Nat.le_refl _) (by decide)
    rw [hal, hlen, ha] at hw
    refine hw.mono ?_
    rintro v m1 ⟨rfl, rfl⟩
    simp -implicitDefEqProofs -dsimp (disch := (first | omega | (simp only [List.length_set, List.length_append, List.length_cons, List.length_nil]; omega))) only [go_sem, Nat.reduceAdd, Nat.reduceSub, Nat.reduceLT, Nat.reduceLeDiff, Int.reduceToNat, Int.reduceLE, Int.reduceLT, Int.reduceAdd, Int.reduceSub, Int.reduceEq, Int.reduceNe, Int.reduceMul, Nat.reduceMul, Int.reduceNeg, Int.toNat_natCast, Nat.reduceEqDiff, X.exit.injEq, if_true, if_false, reduceIte, Bool.not_true, Bool.not_false, Bool.false_eq_true, Bool.true_eq_false, true_and,  need_of, need_true, need_and, WOf_need, i64w, u64w, at_getD, idxR_slD, and_true, Nat.zero_add, Nat.mul_one, Nat.add_zero, idxS_one, get_setN, get_setS, get_appL, List.length_set, ↓ibin_shlD, ↓ibin_shrD, bld1_true, plan_buildD, natSucc, hlen]
theorem widest12_ok (x : LL) (hx : x.l.length < 2 ^ 62) (hxl : ∀ a ∈ x.l, a.l.length < 2 ^ 62) (hf : Fits en m.length) : WC Tryd.prog pol en (.func 12) [sl (sl I) x] m fun v m' => m' = m ∧
    v = if fitsD x.of = true then .tup [I (wid (aheadD x.of) x.of.length 0 : Nat), I 0] else .tup [I 0, I 3] := widestA x hx hxl (args_sl x m)
end
end Go.Proofs.YtfbamjlednbdhaaDoor.V
/- The reference's those, Close of one number; no condition. -/
namespace Go.Proofs.YtfbamjlednbdhaaDoor.V
open Go
set_option linter.unusedVariables false
set_option linter.unusedSimpArgs false
set_option maxHeartbeats 4000000
noncomputable section
variable {en : Env} {m : Mem}
theorem those47_ok (bs : List Bool) (id : Nat) (hm : m[id]? = some (.cells 0 (bs.map Bo))) (hn : bs.length < 2 ^ 31) (hf : Fits en m.length) : WC Tryd.prog pol en (.func 47) [.own id 0 0 bs.length 1] m fun v m' => m' = m ∧ ∃ y : Sl Int, v = sl I y ∧ y.l = (thoseL bs bs.length).map Int.ofNat := by
  have hidm : id < m.length := (List.getElem?_eq_some_iff.1 hm).1
  refine callPur Tryd.func47 rfl rfl Tryd.ntmps47 Tryd.results47 ?_
  simp -implicitDefEqProofs -dsimp (disch := (first | omega | (simp only [List.length_set, List.length_append, List.length_cons, List.length_nil]; omega))) only [go_sem, Nat.reduceAdd, Nat.reduceSub, Nat.reduceLT, Nat.reduceLeDiff, Int.reduceToNat, Int.reduceLE, Int.reduceLT, Int.reduceAdd, Int.reduceSub, Int.reduceEq, Int.reduceNe, Int.reduceMul, Nat.reduceMul, Int.reduceNeg, Int.toNat_natCast, Nat.reduceEqDiff, X.exit.injEq, if_true, if_false, reduceIte, Bool.not_true, Bool.not_false, Bool.false_eq_true, Bool.true_eq_false, true_and,  need_of, need_true, need_and, WOf_need, i64w, u64w, at_getD, idxR_slD, and_true, Nat.zero_add, Nat.mul_one, Nat.add_zero, idxS_one, get_setN, get_setS, get_appL, List.length_set, ↓ibin_shlD, ↓ibin_shrD, bld1_true, plan_buildD, natSucc, ]
  refine loopF (fun k ts m' => ∃ (i : Nat) (v : AV), ts.length = 20 ∧ tg ts 0 = .own id 0 0 bs.length 1 ∧ tg ts 3 = kv v ∧ tg ts 4 = I i ∧ i ≤ bs.length ∧ Row I m ((thoseL bs i).map Int.ofNat) v m' ∧ k = bs.length - i) bs.length ⟨0, _, rfl, rfl, rfl, rfl, by omega, Row.nil, by omega⟩ ?_
  rintro k ts m' ⟨i, v, hl, h0, h3, h4, hi, hr, hk⟩
  have hfl := List.length_filter_le (fun i => bs.getD i false) (List.range i)
  rw [List.length_range] at hfl
  have hm' : m'[id]? = some (.cells 0 (bs.map Bo)) := by
    rcases hr with ⟨_, _, rfl⟩ | ⟨_, _, rfl⟩
    · exact hm
    · rw [List.getElem?_append_left hidm]; exact hm
  rw [expandT hl]
  simp -implicitDefEqProofs -dsimp (disch := (first | omega | (simp only [List.length_set, List.length_append, List.length_cons, List.length_nil]; omega))) only [go_sem, Nat.reduceAdd, Nat.reduceSub, Nat.reduceLT, Nat.reduceLeDiff, Int.reduceToNat, Int.reduceLE, Int.reduceLT, Int.reduceAdd, Int.reduceSub, Int.reduceEq, Int.reduceNe, Int.reduceMul, Nat.reduceMul, Int.reduceNeg, Int.toNat_natCast, Nat.reduceEqDiff, X.exit.injEq, if_true, if_false, reduceIte, Bool.not_true, Bool.not_false, Bool.false_eq_true, Bool.true_eq_false, true_and,  need_of, need_true, need_and, WOf_need, i64w, u64w, at_getD, idxR_slD, and_true, Nat.zero_add, Nat.mul_one, Nat.add_zero, idxS_one, get_setN, get_setS, get_appL, List.length_set, ↓ibin_shlD, ↓ibin_shrD, bld1_true, plan_buildD, natSucc, h0, h3, h4]
  split
  · rename_i hlt
    have hi' : i < bs.length := by omega
    have hfs := filter_range_succ i fun i => bs.getD i false
    have hgd : bs.getD i false = bs[i] := by rw [List.getD_eq_getElem?_getD, List.getElem?_eq_getElem hi']; rfl
    have hget : (bs.map Bo)[i]? = some (Bo bs[i]) := by rw [List.getElem?_map, List.getElem?_eq_getElem hi']; rfl
    rw [hgd] at hfs
    cases hbit : bs[i] with
    | true =>
      rw [hbit] at hget
      simp -implicitDefEqProofs -dsimp (disch := (first | omega | (simp only [List.length_set, List.length_append, List.length_cons, List.length_nil]; omega))) only [go_sem, Nat.reduceAdd, Nat.reduceSub, Nat.reduceLT, Nat.reduceLeDiff, Int.reduceToNat, Int.reduceLE, Int.reduceLT, Int.reduceAdd, Int.reduceSub, Int.reduceEq, Int.reduceNe, Int.reduceMul, Nat.reduceMul, Int.reduceNeg, Int.toNat_natCast, Nat.reduceEqDiff, X.exit.injEq, if_true, if_false, reduceIte, Bool.not_true, Bool.not_false, Bool.false_eq_true, Bool.true_eq_false, true_and,  need_of, need_true, need_and, WOf_need, i64w, u64w, at_getD, idxR_slD, and_true, Nat.zero_add, Nat.mul_one, Nat.add_zero, idxS_one, get_setN, get_setS, get_appL, List.length_set, ↓ibin_shlD, ↓ibin_shrD, bld1_true, plan_buildD, natSucc, hm', hget]
      refine hr.app _ hf.pur (Nat.le_refl _) (by rw [List.length_map, thoseL]; omega) fun r v' m'' hr' => ?_
      simp -implicitDefEqProofs -dsimp (disch := (first | omega | (simp only [List.length_set, List.length_append, List.length_cons, List.length_nil]; omega))) only [go_sem, Nat.reduceAdd, Nat.reduceSub, Nat.reduceLT, Nat.reduceLeDiff, Int.reduceToNat, Int.reduceLE, Int.reduceLT, Int.reduceAdd, Int.reduceSub, Int.reduceEq, Int.reduceNe, Int.reduceMul, Nat.reduceMul, Int.reduceNeg, Int.toNat_natCast, Nat.reduceEqDiff, X.exit.injEq, if_true, if_false, reduceIte, Bool.not_true, Bool.not_false, Bool.false_eq_true, Bool.true_eq_false, true_and,  need_of, need_true, need_and, WOf_need, i64w, u64w, at_getD, idxR_slD, and_true, Nat.zero_add, Nat.mul_one, Nat.add_zero, idxS_one, get_setN, get_setS, get_appL, List.length_set, ↓ibin_shlD, ↓ibin_shrD, bld1_true, plan_buildD, natSucc, ]
      refine ⟨bs.length - (i + 1), by omega, i + 1, v', ?_⟩
      and_intros <;> (first | with_reducible rfl | omega | with_reducible assumption | exact True.intro | skip)
      rw [show thoseL bs (i + 1) = thoseL bs i ++ [i] by rw [thoseL, thoseL, hfs, hbit]; simp, List.map_append]; exact hr'
    | false =>
      rw [hbit] at hget
      simp -implicitDefEqProofs -dsimp (disch := (first | omega | (simp only [List.length_set, List.length_append, List.length_cons, List.length_nil]; omega))) only [go_sem, Nat.reduceAdd, Nat.reduceSub, Nat.reduceLT, Nat.reduceLeDiff, Int.reduceToNat, Int.reduceLE, Int.reduceLT, Int.reduceAdd, Int.reduceSub, Int.reduceEq, Int.reduceNe, Int.reduceMul, Nat.reduceMul, Int.reduceNeg, Int.toNat_natCast, Nat.reduceEqDiff, X.exit.injEq, if_true, if_false, reduceIte, Bool.not_true, Bool.not_false, Bool.false_eq_true, Bool.true_eq_false, true_and,  need_of, need_true, need_and, WOf_need, i64w, u64w, at_getD, idxR_slD, and_true, Nat.zero_add, Nat.mul_one, Nat.add_zero, idxS_one, get_setN, get_setS, get_appL, List.length_set, ↓ibin_shlD, ↓ibin_shrD, bld1_true, plan_buildD, natSucc, hm', hget]
      refine ⟨bs.length - (i + 1), by omega, i + 1, v, ?_⟩
      and_intros <;> (first | with_reducible rfl | omega | with_reducible assumption | exact True.intro | skip)
      rw [show thoseL bs (i + 1) = thoseL bs i by rw [thoseL, thoseL, hfs, hbit]; simp]; exact hr
  · rename_i hlt
    refine hr.frz clean_I (fun a t u => by simp) _ _ fun y hy => ⟨rfl, y, rfl, ?_⟩
    rw [hy, show i = bs.length by omega]
/-- What a number brings in: itself, and all ahead of it. -/
def cmD (D : List (List Int)) (i : Nat) : Nat := 2 ^ i ||| (aheadD D).getD i 0
theorem ahead_at {D : List (List Int)} {i : Nat} (hi : i < D.length) : (aheadD D).getD i 0 = allR ((aheadD D).take i) D[i] := by
  have h := ahead_take D i hi
  have hl := ahead_len D
  have := congrArg (·[i]?) h
  simp only [List.getElem?_take] at this
  rw [if_pos (by omega), List.getElem?_append_right (by rw [List.length_take]; omega), List.length_take, show i - min i (aheadD D).length = 0 by omega, List.getElem?_cons_zero] at this
  rw [List.getD_eq_getElem?_getD, this]; rfl
theorem ahead_bit {D : List (List Int)} (hR : rightB D = true) {i : Nat} (hi : i < D.length) (j : Nat) : ((aheadD D).getD i 0).testBit j = true ↔ ∃ d ∈ D[i], (cmD D d.toNat).testBit j = true := by
  rw [ahead_at hi]
  unfold allR
  rw [fold_or_bit, Nat.zero_testBit, Bool.false_or, List.any_eq_true]
  refine exists_congr fun d => and_congr_right fun hd => ?_
  have hrow := row_ok hR hi d hd
  unfold cmD
  have : ((aheadD D).take i).getD d.toNat 0 = (aheadD D).getD d.toNat 0 := by
    rw [List.getD_eq_getElem?_getD, List.getD_eq_getElem?_getD, List.getElem?_take, if_pos (by omega)]
  rw [this]
/-- The least closed marks. -/
theorem cm_least {D : List (List Int)} (hR : rightB D = true) (q : Nat → Prop) (hq : ∀ i (h : i < D.length), q i → ∀ d ∈ D[i], q d.toNat) : ∀ i, i < D.length → q i → ∀ j, (cmD D i).testBit j = true → q j := by
  intro i
  induction i using Nat.strongRecOn with
  | ind i ih =>
    intro hi hqi j hj
    unfold cmD at hj
    rw [Nat.testBit_or, Bool.or_eq_true, Nat.testBit_two_pow] at hj
    rcases hj with hj | hj
    · have : i = j := by simpa using hj
      rwa [← this]
    · obtain ⟨d, hd, hdj⟩ := (ahead_bit hR hi j).1 hj
      have hrow := row_ok hR hi d hd
      exact ih d.toNat (by omega) (by omega) (hq i hi hqi d hd) j hdj
theorem cm_self (D : List (List Int)) (i : Nat) : (cmD D i).testBit i = true := by
  unfold cmD; rw [Nat.testBit_or, Nat.testBit_two_pow]; simp
theorem cm_step {D : List (List Int)} (hR : rightB D = true) {i : Nat} : ∀ j, (h : j < D.length) → (cmD D i).testBit j = true → i < D.length → ∀ d ∈ D[j], (cmD D i).testBit d.toNat = true := by
  induction i using Nat.strongRecOn with
  | ind i ih =>
    intro j hj hij hi d hd
    unfold cmD at hij ⊢
    rw [Nat.testBit_or, Bool.or_eq_true, Nat.testBit_two_pow] at hij
    rw [Nat.testBit_or, Bool.or_eq_true]
    right
    rcases hij with h | h
    · obtain rfl : i = j := by simpa using h
      exact (ahead_bit hR hi _).2 ⟨d, hd, cm_self D _⟩
    · obtain ⟨e, he, hej⟩ := (ahead_bit hR hi j).1 h
      have hrow := row_ok hR hi e he
      exact (ahead_bit hR hi _).2 ⟨e, he, ih e.toNat (by omega) j hj hej (by omega) d hd⟩
/-- Marks under way: 'i' is marked, what is marked is needed, from 't' on all is brought in. -/
structure CInv (D : List (List Int)) (i t : Nat) (bs : List Bool) : Prop where
  len : bs.length = D.length
  self : bs[i]? = some true
  snd : ∀ j, bs[j]? = some true → (cmD D i).testBit j = true
  cls : ∀ j (h : j < D.length), t ≤ j → bs[j]? = some true → ∀ d ∈ D[j], bs[d.toNat]? = some true
theorem CInv.fin {D : List (List Int)} (hR : rightB D = true) {i : Nat} (hi : i < D.length) {bs : List Bool} (h : CInv D i 0 bs) (j : Nat) : bs[j]? = some true ↔ (cmD D i).testBit j = true :=
  ⟨h.snd j, cm_least hR (fun j => bs[j]? = some true) (fun j hj hq => h.cls j hj (Nat.zero_le _) hq) i hi h.self j⟩
theorem set_true {bs : List Bool} {a j : Nat} (h : bs[j]? = some true) : (bs.set a true)[j]? = some true := by
  rw [List.getElem?_set]
  split
  · rename_i e; subst e
    have := (List.getElem?_eq_some_iff.1 h).1
    rw [if_pos this]
  · exact h
theorem close39_ok (x : LL) (hR : rightB x.of = true) (h14 : x.l.length ≤ 14) (hxl : ∀ a ∈ x.l, a.l.length < 2 ^ 62) (y : Sl Int) (i : Nat) (hy : y.l = [(i : Int)]) (hi : i < x.l.length) (hf : Fits en m.length) :
    WC Tryd.prog pol en (.func 39) [sl (sl I) x, sl I y] m fun v m' => m' = m ∧ ∃ (z : Sl Int) (bs : List Bool), v = sl I z ∧ z.l = (thoseL bs x.l.length).map Int.ofNat ∧ bs.length = x.l.length ∧ ∀ j, bs[j]? = some true ↔ (cmD x.of i).testBit j = true := by
  have hlen : x.of.length = x.l.length := by simp [LL.of]
  have hyl : y.l.length = 1 := by rw [hy]; rfl
  have hokT := fun {id : Nat} {low : Nat → Bool} => @okTo_purT en m.length id hf low
  refine callPur Tryd.func39 rfl rfl Tryd.ntmps39 Tryd.results39 ?_
  simp -implicitDefEqProofs -dsimp (disch := (first | omega | (simp only [List.length_set, List.length_append, List.length_cons, List.length_nil]; omega))) only [go_sem, Nat.reduceAdd, Nat.reduceSub, Nat.reduceLT, Nat.reduceLeDiff, Int.reduceToNat, Int.reduceLE, Int.reduceLT, Int.reduceAdd, Int.reduceSub, Int.reduceEq, Int.reduceNe, Int.reduceMul, Nat.reduceMul, Int.reduceNeg, Int.toNat_natCast, Nat.reduceEqDiff, X.exit.injEq, if_true, if_false, reduceIte, Bool.not_true, Bool.not_false, Bool.false_eq_true, Bool.true_eq_false, true_and,  need_of, need_true, need_and, WOf_need, i64w, u64w, at_getD, idxR_slD, and_true, Nat.zero_add, Nat.mul_one, Nat.add_zero, idxS_one, get_setN, get_setS, get_appL, List.length_set, ↓ibin_shlD, ↓ibin_shrD, bld1_true, plan_buildD, natSucc, ]
  refine (refRight_ok x (by omega) hxl hf.pur).mono ?_
  rintro v m' ⟨rfl, rfl⟩
  simp -implicitDefEqProofs -dsimp (disch := (first | omega | (simp only [List.length_set, List.length_append, List.length_cons, List.length_nil]; omega))) only [go_sem, Nat.reduceAdd, Nat.reduceSub, Nat.reduceLT, Nat.reduceLeDiff, Int.reduceToNat, Int.reduceLE, Int.reduceLT, Int.reduceAdd, Int.reduceSub, Int.reduceEq, Int.reduceNe, Int.reduceMul, Nat.reduceMul, Int.reduceNeg, Int.toNat_natCast, Nat.reduceEqDiff, X.exit.injEq, if_true, if_false, reduceIte, Bool.not_true, Bool.not_false, Bool.false_eq_true, Bool.true_eq_false, true_and,  need_of, need_true, need_and, WOf_need, i64w, u64w, at_getD, idxR_slD, and_true, Nat.zero_add, Nat.mul_one, Nat.add_zero, idxS_one, get_setN, get_setS, get_appL, List.length_set, ↓ibin_shlD, ↓ibin_shrD, bld1_true, plan_buildD, natSucc, hR, flat_rep]
  refine ⟨by rw [List.all_eq_true]; intro v hv; rw [List.mem_replicate] at hv; rw [hv.2]; rfl, ?_⟩
  refine loopF (fun k ts m2 => ∃ (j : Nat) (bs : List Bool), ts.length = 72 ∧ tg ts 0 = sl (sl I) x ∧ tg ts 1 = sl I y ∧ tg ts 5 = .own m'.length 0 0 x.l.length 1 ∧ tg ts 6 = I j ∧ j ≤ 1 ∧ m2 = m' ++ [.cells 0 (bs.map Bo)] ∧ bs = (if j = 0 then List.replicate x.l.length false else (List.replicate x.l.length false).set i true) ∧ k = 1 - j) 1 ⟨0, List.replicate x.l.length false, rfl, rfl, rfl, rfl, rfl, by omega, by simp, rfl, by omega⟩ ?_
  rintro k ts m2 ⟨j, bs, hl, h0, h1, h5, h6, hj, rfl, hbs, hk⟩
  rw [expandT hl]
  simp -implicitDefEqProofs -dsimp (disch := (first | omega | (simp only [List.length_set, List.length_append, List.length_cons, List.length_nil]; omega))) only [go_sem, Nat.reduceAdd, Nat.reduceSub, Nat.reduceLT, Nat.reduceLeDiff, Int.reduceToNat, Int.reduceLE, Int.reduceLT, Int.reduceAdd, Int.reduceSub, Int.reduceEq, Int.reduceNe, Int.reduceMul, Nat.reduceMul, Int.reduceNeg, Int.toNat_natCast, Nat.reduceEqDiff, X.exit.injEq, if_true, if_false, reduceIte, Bool.not_true, Bool.not_false, Bool.false_eq_true, Bool.true_eq_false, true_and,  need_of, need_true, need_and, WOf_need, i64w, u64w, at_getD, idxR_slD, and_true, Nat.zero_add, Nat.mul_one, Nat.add_zero, idxS_one, get_setN, get_setS, get_appL, List.length_set, ↓ibin_shlD, ↓ibin_shrD, bld1_true, plan_buildD, natSucc, h0, h1, h5, h6, hyl]
  split
  · rename_i hlt
    have hj0 : j = 0 := by omega
    subst hj0
    have hyi : y.l[0] = (i : Int) := by simp [hy]
    have hbl : bs.length = x.l.length := by rw [hbs]; simp
    have c1 : (0 : Int) ≤ (i : Int) := by omega
    have c2 : (i : Int) < (x.l.length : Int) := by omega
    simp -implicitDefEqProofs -dsimp (disch := (first | omega | (simp only [List.length_set, List.length_append, List.length_cons, List.length_nil]; omega))) only [go_sem, Nat.reduceAdd, Nat.reduceSub, Nat.reduceLT, Nat.reduceLeDiff, Int.reduceToNat, Int.reduceLE, Int.reduceLT, Int.reduceAdd, Int.reduceSub, Int.reduceEq, Int.reduceNe, Int.reduceMul, Nat.reduceMul, Int.reduceNeg, Int.toNat_natCast, Nat.reduceEqDiff, X.exit.injEq, if_true, if_false, reduceIte, Bool.not_true, Bool.not_false, Bool.false_eq_true, Bool.true_eq_false, true_and,  need_of, need_true, need_and, WOf_need, i64w, u64w, at_getD, idxR_slD, and_true, Nat.zero_add, Nat.mul_one, Nat.add_zero, idxS_one, get_setN, get_setS, get_appL, List.length_set, ↓ibin_shlD, ↓ibin_shrD, bld1_true, plan_buildD, natSucc, hyi, c1, c2, hokT, List.length_map]
    refine ⟨by omega, 0, by omega, 1, bs.set i true, ?_⟩
    and_intros <;> (first | with_reducible rfl | omega | with_reducible assumption | exact True.intro | skip)
    · rw [List.map_set]
    · rw [hbs]; simp
  · rename_i hlt
    have hj1 : j = 1 := by omega
    subst hj1
    rw [if_neg (by omega)] at hbs
    have hcinv : CInv x.of i x.l.length bs := by
      refine ⟨by rw [hbs]; simp [hlen], by rw [hbs, List.getElem?_set_self (by simpa using hi)], fun j hj => ?_, fun j h1 h2 => by omega⟩
      rw [hbs, List.getElem?_set] at hj
      split at hj
      · rename_i e; subst e; exact cm_self _ _
      · rw [List.getElem?_replicate] at hj; split at hj <;> simp at hj
    clear hbs
    refine loopF (fun k ts m2 => ∃ (t : Nat) (bs : List Bool), ts.length = 72 ∧ tg ts 0 = sl (sl I) x ∧ tg ts 5 = .own m'.length 0 0 x.l.length 1 ∧ tg ts 7 = I ((t : Int) - 1) ∧ t ≤ x.l.length ∧ m2 = m' ++ [.cells 0 (bs.map Bo)] ∧ CInv x.of i t bs ∧ k = t) x.l.length ⟨x.l.length, bs, rfl, rfl, rfl, rfl, by omega, rfl, hcinv, rfl⟩ ?_
    rintro k ts m2 ⟨t, bs, hl, h0, h5, h7, ht, rfl, hcinv, rfl⟩
    have hbl : bs.length = x.l.length := by rw [hcinv.len, hlen]
    rw [expandT hl]
    simp -implicitDefEqProofs -dsimp (disch := (first | omega | (simp only [List.length_set, List.length_append, List.length_cons, List.length_nil]; omega))) only [go_sem, Nat.reduceAdd, Nat.reduceSub, Nat.reduceLT, Nat.reduceLeDiff, Int.reduceToNat, Int.reduceLE, Int.reduceLT, Int.reduceAdd, Int.reduceSub, Int.reduceEq, Int.reduceNe, Int.reduceMul, Nat.reduceMul, Int.reduceNeg, Int.toNat_natCast, Nat.reduceEqDiff, X.exit.injEq, if_true, if_false, reduceIte, Bool.not_true, Bool.not_false, Bool.false_eq_true, Bool.true_eq_false, true_and,  need_of, need_true, need_and, WOf_need, i64w, u64w, at_getD, idxR_slD, and_true, Nat.zero_add, Nat.mul_one, Nat.add_zero, idxS_one, get_setN, get_setS, get_appL, List.length_set, ↓ibin_shlD, ↓ibin_shrD, bld1_true, plan_buildD, natSucc, h0, h5, h7]
    split
    · rename_i hge
      obtain ⟨t', rfl⟩ : ∃ t', k = t' + 1 := ⟨k - 1, by omega⟩
      have ht' : t' < x.l.length := by omega
      have hto : t' < x.of.length := by omega
      have hg : x.of[t'] = x.l[t'].l := by simp [LL.of]
      have hrow := row_ok hR hto
      rw [hg] at hrow
      have ht1 : ((t' + 1 : Nat) : Int) - 1 = (t' : Int) := by omega
      have hll := hxl _ (List.getElem_mem ht')
      rw [ht1]
      refine loopF (fun k ts m2 => ∃ (j : Nat) (bs : List Bool), ts.length = 72 ∧ tg ts 0 = sl (sl I) x ∧ tg ts 5 = .own m'.length 0 0 x.l.length 1 ∧ tg ts 7 = I t' ∧ tg ts 8 = I j ∧ j ≤ x.l[t'].l.length ∧ m2 = m' ++ [.cells 0 (bs.map Bo)] ∧ CInv x.of i (t' + 1) bs ∧ (bs[t']? = some true → ∀ d ∈ x.l[t'].l.take j, bs[d.toNat]? = some true) ∧ k = x.l[t'].l.length - j) x.l[t'].l.length ⟨0, bs, rfl, rfl, rfl, rfl, rfl, by omega, rfl, hcinv, by simp, by omega⟩ ?_
      rintro k2 ts m2 ⟨j, bs, hl, h0, h5, h7, h8, hj, rfl, hcinv, hpart, hk2⟩
      have hbl : bs.length = x.l.length := by rw [hcinv.len, hlen]
      rw [expandT hl]
      simp -implicitDefEqProofs -dsimp (disch := (first | omega | (simp only [List.length_set, List.length_append, List.length_cons, List.length_nil]; omega))) only [go_sem, Nat.reduceAdd, Nat.reduceSub, Nat.reduceLT, Nat.reduceLeDiff, Int.reduceToNat, Int.reduceLE, Int.reduceLT, Int.reduceAdd, Int.reduceSub, Int.reduceEq, Int.reduceNe, Int.reduceMul, Nat.reduceMul, Int.reduceNeg, Int.toNat_natCast, Nat.reduceEqDiff, X.exit.injEq, if_true, if_false, reduceIte, Bool.not_true, Bool.not_false, Bool.false_eq_true, Bool.true_eq_false, true_and,  need_of, need_true, need_and, WOf_need, i64w, u64w, at_getD, idxR_slD, and_true, Nat.zero_add, Nat.mul_one, Nat.add_zero, idxS_one, get_setN, get_setS, get_appL, List.length_set, ↓ibin_shlD, ↓ibin_shrD, bld1_true, plan_buildD, natSucc, h0, h5, h7, h8]
      split
      · rename_i hlt
        have hj' : j < x.l[t'].l.length := by omega
        have hrj := hrow _ (List.getElem_mem hj')
        have hbt : t' < bs.length := by omega
        have hget : (bs.map Bo)[t']? = some (Bo bs[t']) := by rw [List.getElem?_map, List.getElem?_eq_getElem hbt]; rfl
        have htk : x.l[t'].l.take (j + 1) = x.l[t'].l.take j ++ [x.l[t'].l[j]] := by rw [List.take_add_one, List.getElem?_eq_getElem hj']; rfl
        have hdm : x.l[t'].l[j] ∈ x.of[t'] := by rw [hg]; exact List.getElem_mem hj'
        cases hbit : bs[t'] with
        | true =>
          rw [hbit] at hget
          have hbts : bs[t']? = some true := by rw [List.getElem?_eq_getElem hbt, hbit]
          simp -implicitDefEqProofs -dsimp (disch := (first | omega | (simp only [List.length_set, List.length_append, List.length_cons, List.length_nil]; omega))) only [go_sem, Nat.reduceAdd, Nat.reduceSub, Nat.reduceLT, Nat.reduceLeDiff, Int.reduceToNat, Int.reduceLE, Int.reduceLT, Int.reduceAdd, Int.reduceSub, Int.reduceEq, Int.reduceNe, Int.reduceMul, Nat.reduceMul, Int.reduceNeg, Int.toNat_natCast, Nat.reduceEqDiff, X.exit.injEq, if_true, if_false, reduceIte, Bool.not_true, Bool.not_false, Bool.false_eq_true, Bool.true_eq_false, true_and,  need_of, need_true, need_and, WOf_need, i64w, u64w, at_getD, idxR_slD, and_true, Nat.zero_add, Nat.mul_one, Nat.add_zero, idxS_one, get_setN, get_setS, get_appL, List.length_set, ↓ibin_shlD, ↓ibin_shrD, bld1_true, plan_buildD, natSucc, hget, hokT, List.length_map]
          refine ⟨by omega, x.l[t'].l.length - (j + 1), by omega, j + 1, bs.set x.l[t'].l[j].toNat true, ?_⟩
          and_intros <;> (first | with_reducible rfl | omega | with_reducible assumption | exact True.intro | skip)
          · rw [List.map_set]
          · refine ⟨by rw [List.length_set, hcinv.len], set_true hcinv.self, fun a ha => ?_, fun a h1 h2 h3 d hd => ?_⟩
            · rw [List.getElem?_set] at ha
              split at ha
              · rename_i e; subst e
                exact cm_step hR t' hto (hcinv.snd _ hbts) (by omega) _ hdm
              · exact hcinv.snd _ ha
            · rw [List.getElem?_set_ne (by omega)] at h3
              exact set_true (hcinv.cls a h1 h2 h3 d hd)
          · intro _ d hd
            rw [htk, List.mem_append] at hd
            rcases hd with hd | hd
            · exact set_true (hpart hbts d hd)
            · simp only [List.mem_singleton] at hd
              subst hd
              rw [List.getElem?_set_self (by omega)]
        | false =>
          rw [hbit] at hget
          simp -implicitDefEqProofs -dsimp (disch := (first | omega | (simp only [List.length_set, List.length_append, List.length_cons, List.length_nil]; omega))) only [go_sem, Nat.reduceAdd, Nat.reduceSub, Nat.reduceLT, Nat.reduceLeDiff, Int.reduceToNat, Int.reduceLE, Int.reduceLT, Int.reduceAdd, Int.reduceSub, Int.reduceEq, Int.reduceNe, Int.reduceMul, Nat.reduceMul, Int.reduceNeg, Int.toNat_natCast, Nat.reduceEqDiff, X.exit.injEq, if_true, if_false, reduceIte, Bool.not_true, Bool.not_false, Bool.false_eq_true, Bool.true_eq_false, true_and,  need_of, need_true, need_and, WOf_need, i64w, u64w, at_getD, idxR_slD, and_true, Nat.zero_add, Nat.mul_one, Nat.add_zero, idxS_one, get_setN, get_setS, get_appL, List.length_set, ↓ibin_shlD, ↓ibin_shrD, bld1_true, plan_buildD, natSucc, hget]
          refine ⟨x.l[t'].l.length - (j + 1), by omega, j + 1, bs, ?_⟩
          and_intros <;> (first | with_reducible rfl | omega | with_reducible assumption | exact True.intro | skip)
          intro h
          rw [List.getElem?_eq_getElem hbt, hbit] at h
          simp at h
      · rename_i hlt
        try simp -implicitDefEqProofs -dsimp (disch := (first | omega | (simp only [List.length_set, List.length_append, List.length_cons, List.length_nil]; omega))) only [go_sem, Nat.reduceAdd, Nat.reduceSub, Nat.reduceLT, Nat.reduceLeDiff, Int.reduceToNat, Int.reduceLE, Int.reduceLT, Int.reduceAdd, Int.reduceSub, Int.reduceEq, Int.reduceNe, Int.reduceMul, Nat.reduceMul, Int.reduceNeg, Int.toNat_natCast, Nat.reduceEqDiff, X.exit.injEq, if_true, if_false, reduceIte, Bool.not_true, Bool.not_false, Bool.false_eq_true, Bool.true_eq_false, true_and,  need_of, need_true, need_and, WOf_need, i64w, u64w, at_getD, idxR_slD, and_true, Nat.zero_add, Nat.mul_one, Nat.add_zero, idxS_one, get_setN, get_setS, get_appL, List.length_set, ↓ibin_shlD, ↓ibin_shrD, bld1_true, plan_buildD, natSucc, ]
        refine ⟨t', by omega, t', bs, ?_⟩
        and_intros <;> (first | with_reducible rfl | omega | with_reducible assumption | exact True.intro | skip)
        refine ⟨hcinv.len, hcinv.self, hcinv.snd, fun a h1 h2 h3 => ?_⟩
        rcases Nat.lt_or_ge t' a with h4 | h4
        · exact hcinv.cls a h1 h4 h3
        · obtain rfl : t' = a := by omega
          intro d hd
          rw [hg] at hd
          refine hpart h3 d ?_
          rw [List.take_of_length_le (by omega)]; exact hd
    · rename_i hge
      have ht0 : k = 0 := by omega
      subst ht0
      rw [← hbl]
      refine (those47_ok bs m'.length (by rw [getM0]; rfl) (by omega) (hf.pur.mono (by simp))).mono ?_
      rintro v m3 ⟨rfl, z, rfl, hz⟩
      simp -implicitDefEqProofs -dsimp (disch := (first | omega | (simp only [List.length_set, List.length_append, List.length_cons, List.length_nil]; omega))) only [go_sem, Nat.reduceAdd, Nat.reduceSub, Nat.reduceLT, Nat.reduceLeDiff, Int.reduceToNat, Int.reduceLE, Int.reduceLT, Int.reduceAdd, Int.reduceSub, Int.reduceEq, Int.reduceNe, Int.reduceMul, Nat.reduceMul, Int.reduceNeg, Int.toNat_natCast, Nat.reduceEqDiff, X.exit.injEq, if_true, if_false, reduceIte, Bool.not_true, Bool.not_false, Bool.false_eq_true, Bool.true_eq_false, true_and,  need_of, need_true, need_and, WOf_need, i64w, u64w, at_getD, idxR_slD, and_true, Nat.zero_add, Nat.mul_one, Nat.add_zero, idxS_one, get_setN, get_setS, get_appL, List.length_set, ↓ibin_shlD, ↓ibin_shrD, bld1_true, plan_buildD, natSucc, ]
      rw [frzQ_sl clean_I]
      simp -implicitDefEqProofs -dsimp (disch := (first | omega | (simp only [List.length_set, List.length_append, List.length_cons, List.length_nil]; omega))) only [go_sem, Nat.reduceAdd, Nat.reduceSub, Nat.reduceLT, Nat.reduceLeDiff, Int.reduceToNat, Int.reduceLE, Int.reduceLT, Int.reduceAdd, Int.reduceSub, Int.reduceEq, Int.reduceNe, Int.reduceMul, Nat.reduceMul, Int.reduceNeg, Int.toNat_natCast, Nat.reduceEqDiff, X.exit.injEq, if_true, if_false, reduceIte, Bool.not_true, Bool.not_false, Bool.false_eq_true, Bool.true_eq_false, true_and,  need_of, need_true, need_and, WOf_need, i64w, u64w, at_getD, idxR_slD, and_true, Nat.zero_add, Nat.mul_one, Nat.add_zero, idxS_one, get_setN, get_setS, get_appL, List.length_set, ↓ibin_shlD, ↓ibin_shrD, bld1_true, plan_buildD, natSucc, ]
      exact ⟨z, bs, rfl, hz, rfl, hcinv.fin hR (by omega)⟩
end
end Go.Proofs.YtfbamjlednbdhaaDoor.V
/- The reference's Ups; no condition. -/
namespace Go.Proofs.YtfbamjlednbdhaaDoor.V
open Go
set_option linter.unusedVariables false
set_option linter.unusedSimpArgs false
set_option maxHeartbeats 4000000
noncomputable section
variable {en : Env} {m : Mem}
theorem frz_own1 {m : Mem} {b d id ver : Nat} (bs : List Bool) (hm : m[id]? = some (.cells ver (bs.map Bo))) (hb : b ≤ id) : frz m b (d + 2) (.own id ver 0 bs.length 1) = some (sl Bo ⟨false, false, bs⟩) := by
  have h := frzQ_own clean_B (fun a t u => by simp) (d := d) bs hm hb (fun v => v = sl Bo ⟨false, false, bs⟩)
  have h2 : frzQ m b (d + 2) (.own id ver 0 bs.length 1) (fun v => v = sl Bo ⟨false, false, bs⟩) := by rw [h]
  obtain ⟨v, h3, rfl⟩ := h2
  exact h3
theorem frzQ_rows {m : Mem} {b d n rid ver : Nat} (l : List (Nat × List Bool)) (hm : m[rid]? = some (.cells ver (l.map fun p => .own p.1 0 0 n 1))) (hb : b ≤ rid) (hl : ∀ p ∈ l, m[p.1]? = some (.cells 0 (p.2.map Bo)) ∧ b ≤ p.1 ∧ p.2.length = n) (k : AV → Prop) :
    frzQ m b (d + 3) (.own rid ver 0 l.length 1) k = k (sl (sl Bo) ⟨false, false, l.map fun p => ⟨false, false, p.2⟩⟩) := by
  have h1 : ∀ l : List (Nat × List Bool), (∀ p ∈ l, m[p.1]? = some (.cells 0 (p.2.map Bo)) ∧ b ≤ p.1 ∧ p.2.length = n) → (l.map fun p => AV.own p.1 0 0 n 1).mapM (frz m b (d + 2)) = some (l.map fun p => sl Bo ⟨false, false, p.2⟩) := by
    intro l
    induction l with
    | nil => intro _; rfl
    | cons p l ih =>
      intro hl
      obtain ⟨a1, a2, a3⟩ := hl p (by simp)
      have e := frz_own1 (d := d) p.2 a1 a2
      rw [a3] at e
      simp only [List.map_cons, List.mapM_cons, e, ih fun q hq => hl q (by simp [hq])]
      rfl
  unfold frzQ
  have : frz m b (d + 3) (.own rid ver 0 l.length 1) = some (sl (sl Bo) ⟨false, false, l.map fun p => ⟨false, false, p.2⟩⟩) := by
    rw [frz]
    rw [if_neg (by omega), lget_eq, hm]
    simp only [true_and, Nat.mul_one, Nat.zero_add, List.length_map, Nat.le_refl, if_true, List.drop_zero]
    rw [List.take_of_length_le (by simp), h1 l hl]
    have h2 : (l.map fun p => sl Bo ⟨false, false, p.2⟩).all AV.leaf = true := by
      simp only [List.all_map, List.all_eq_true]; intro a _; exact leaf_sl _ _
    have e3 : sl (sl Bo) (⟨false, false, l.map fun p => ⟨false, false, p.2⟩⟩ : Sl (Sl Bool)) = .lst l.length (l.map fun p => sl Bo ⟨false, false, p.2⟩) false := by simp [sl, Function.comp_def]
    rw [e3]
    simp only [h2, if_true]
  rw [this]; simp
/-- The rows that it grows. -/
structure Rows2 (b n : Nat) (l : List (Nat × List Bool)) (v : AV) (mm : Mem) : Prop where
  lo : b ≤ mm.length
  el : ∀ p ∈ l, mm[p.1]? = some (.cells 0 (p.2.map Bo)) ∧ b ≤ p.1 ∧ p.2.length = n
  row : ((l = [] ∧ v = .nilS) ∨ ∃ rid ver, v = .own rid ver 0 l.length 1 ∧ mm[rid]? = some (.cells ver (l.map fun p => .own p.1 0 0 n 1)) ∧ b ≤ rid ∧ ∀ p ∈ l, p.1 ≠ rid)
theorem lt_of_get {α : Type} {l : List α} {i : Nat} {a : α} (h : l[i]? = some a) : i < l.length := (List.getElem?_eq_some_iff.1 h).1
theorem Rows2.app {b n : Nat} {l : List (Nat × List Bool)} {v : AV} {mm : Mem} (h : Rows2 b n l v mm) (bs : List Bool) (hbs : bs.length = n) {en : Env} (hfit : Fits en b) (hb : en.bar ≤ b) (hn : l.length < 2 ^ 31) {k : Req → AV → Mem → Prop}
    (hk : ∀ r v' m', Rows2 b n (l ++ [(mm.length, bs)]) v' m' → k r (kv v') m') : WOf Tryd.prog pol en (appR 1 (some (kv v)) (some (.lst 1 [.own mm.length 0 0 n 1]))) (mm ++ [.cells 0 (bs.map Bo)]) k := by
  obtain ⟨hbm, hl, h⟩ := h
  unfold kv at *
  rcases h with ⟨rfl, rfl⟩ | ⟨rid, ver, rfl, hm, hid, hne⟩
  · rw [appR_nil, WOf_appnew]
    refine ⟨⟨rfl, rfl, rfl, by omega⟩, hk _ _ _ ⟨by simp; omega, fun p hp => ?_, Or.inr ⟨_, 0, rfl, ?_, ?_, ?_⟩⟩⟩
    · simp only [List.nil_append, List.mem_singleton] at hp
      subst hp
      refine ⟨?_, hbm, hbs⟩
      rw [List.append_assoc, getM0]; rfl
    · rw [getM0]; rfl
    · simp; omega
    · intro p hp
      simp only [List.nil_append, List.mem_singleton] at hp
      subst hp; simp
  · have hrl := lt_of_get hm
    rw [appR_own, WOf_app, List.getElem?_append_left hrl, hm, cellsQ_some]
    refine ⟨rfl, ⟨rfl, by simp, ?_, by omega⟩, okTo_fits hfit hb hid _, ?_⟩
    · simp only [roomOk, Bool.and_eq_true, decide_eq_true_eq]; omega
    · rw [take_map]
      refine hk _ _ _ ⟨by simp; omega, fun p hp => ?_, Or.inr ⟨rid, ver + 1, by simp, ?_, hid, ?_⟩⟩
      · rw [List.mem_append] at hp
        rcases hp with hp | hp
        · obtain ⟨a1, a2, a3⟩ := hl p hp
          refine ⟨?_, a2, a3⟩
          rw [List.getElem?_set_ne (fun e => hne p hp e.symm), List.getElem?_append_left (lt_of_get a1)]; exact a1
        · simp only [List.mem_singleton] at hp
          subst hp
          refine ⟨?_, hbm, hbs⟩
          rw [List.getElem?_set_ne (by omega), getM0]; rfl
      · rw [List.getElem?_set_self (by simp; omega)]; simp
      · intro p hp
        rw [List.mem_append] at hp
        rcases hp with hp | hp
        · exact hne p hp
        · simp only [List.mem_singleton] at hp
          subst hp; omega
theorem Rows2.frz {b n : Nat} {l : List (Nat × List Bool)} {v : AV} {mm : Mem} (h : Rows2 b n l v mm) (d : Nat) (k : AV → Prop) (hk : ∀ x : Sl (Sl Bool), x.l.map (·.l) = l.map (·.2) → k (sl (sl Bo) x)) : frzQ mm b (d + 3) (kv v) k := by
  obtain ⟨hbm, hl, h⟩ := h
  unfold kv
  rcases h with ⟨rfl, rfl⟩ | ⟨rid, ver, rfl, hm, hid, hne⟩
  · rw [frzQ_nilS]; exact hk ⟨true, false, []⟩ rfl
  · rw [frzQ_rows l hm hid hl]; exact hk _ (by simp [Function.comp_def])
/-- The row of a number: which are ahead of it. -/
def upsRow (D : List (List Int)) (n i : Nat) : List Bool := (List.range n).map ((aheadD D).getD i 0).testBit
theorem ahead_lt2 {D : List (List Int)} (hR : rightB D = true) : ∀ i, (aheadD D).getD i 0 < 2 ^ i := by
  intro i
  induction i using Nat.strongRecOn with
  | ind i ih =>
    rcases Nat.lt_or_ge i D.length with hi | hi
    · rw [ahead_at hi]
      unfold allR
      refine fold_or_lt _ _ (Nat.pow_pos (by omega)) fun d hd => ?_
      have hrow := row_ok hR hi d hd
      have : ((aheadD D).take i).getD d.toNat 0 = (aheadD D).getD d.toNat 0 := by
        rw [List.getD_eq_getElem?_getD, List.getD_eq_getElem?_getD, List.getElem?_take, if_pos (by omega)]
      rw [this]
      have h1 := ih d.toNat (by omega)
      exact Nat.or_lt_two_pow (Nat.pow_lt_pow_right (by omega) (by omega)) (Nat.lt_of_lt_of_le h1 (Nat.pow_le_pow_right (by omega) (by omega)))
    · rw [List.getD_eq_getElem?_getD, List.getElem?_eq_none (by rw [ahead_len]; exact hi)]
      exact Nat.pow_pos (by omega)
theorem cm_ahead {D : List (List Int)} (hR : rightB D = true) (i j : Nat) : ((cmD D i).testBit j && decide (j ≠ i)) = ((aheadD D).getD i 0).testBit j := by
  unfold cmD
  rw [Nat.testBit_or, Nat.testBit_two_pow]
  by_cases h : j = i
  · subst h
    have := Nat.testBit_lt_two_pow (ahead_lt2 hR j)
    rw [this]; simp
  · have h' : ¬ i = j := fun e => h e.symm
    simp [h, h']
theorem ups29_ok (x : LL) (hR : rightB x.of = true) (h14 : x.l.length ≤ 14) (hxl : ∀ a ∈ x.l, a.l.length < 2 ^ 62) (hf : Fits en m.length) :
    WC Tryd.prog pol en (.func 29) [sl (sl I) x] m fun v m' => m' = m ∧ ∃ z : Sl (Sl Bool), v = sl (sl Bo) z ∧ z.l.map (·.l) = (List.range x.l.length).map (upsRow x.of x.l.length) := by
  have hlen : x.of.length = x.l.length := by simp [LL.of]
  have hokT := fun {id : Nat} {low : Nat → Bool} => @okTo_purT en m.length id hf low
  refine callPur Tryd.func29 rfl rfl Tryd.ntmps29 Tryd.results29 ?_
  simp -implicitDefEqProofs -dsimp (disch := (first | omega | (simp only [List.length_set, List.length_append, List.length_cons, List.length_nil]; omega))) only [go_sem, Nat.reduceAdd, Nat.reduceSub, Nat.reduceLT, Nat.reduceLeDiff, Int.reduceToNat, Int.reduceLE, Int.reduceLT, Int.reduceAdd, Int.reduceSub, Int.reduceEq, Int.reduceNe, Int.reduceMul, Nat.reduceMul, Int.reduceNeg, Int.toNat_natCast, Nat.reduceEqDiff, X.exit.injEq, if_true, if_false, reduceIte, Bool.not_true, Bool.not_false, Bool.false_eq_true, Bool.true_eq_false, true_and,  need_of, need_true, need_and, WOf_need, i64w, u64w, at_getD, idxR_slD, and_true, Nat.zero_add, Nat.mul_one, Nat.add_zero, idxS_one, get_setN, get_setS, get_appL, List.length_set, ↓ibin_shlD, ↓ibin_shrD, bld1_true, plan_buildD, natSucc, ]
  refine loopF (fun k ts m' => ∃ (i : Nat) (v : AV) (l : List (Nat × List Bool)), ts.length = 44 ∧ tg ts 0 = sl (sl I) x ∧ tg ts 3 = kv v ∧ tg ts 4 = I i ∧ i ≤ x.l.length ∧ Rows2 m.length x.l.length l v m' ∧ l.map (·.2) = (List.range i).map (upsRow x.of x.l.length) ∧ k = x.l.length - i) x.l.length ⟨0, _, [], rfl, rfl, rfl, rfl, by omega, ⟨Nat.le_refl _, by simp, Or.inl ⟨rfl, rfl⟩⟩, rfl, by omega⟩ ?_
  rintro k ts m' ⟨i, v, l, hl, h0, h3, h4, hi, hr, hll, hk⟩
  have hlb := hr.1
  have hlen2 : l.length = i := by have := congrArg List.length hll; simpa using this
  rw [expandT hl]
  simp -implicitDefEqProofs -dsimp (disch := (first | omega | (simp only [List.length_set, List.length_append, List.length_cons, List.length_nil]; omega))) only [go_sem, Nat.reduceAdd, Nat.reduceSub, Nat.reduceLT, Nat.reduceLeDiff, Int.reduceToNat, Int.reduceLE, Int.reduceLT, Int.reduceAdd, Int.reduceSub, Int.reduceEq, Int.reduceNe, Int.reduceMul, Nat.reduceMul, Int.reduceNeg, Int.toNat_natCast, Nat.reduceEqDiff, X.exit.injEq, if_true, if_false, reduceIte, Bool.not_true, Bool.not_false, Bool.false_eq_true, Bool.true_eq_false, true_and,  need_of, need_true, need_and, WOf_need, i64w, u64w, at_getD, idxR_slD, and_true, Nat.zero_add, Nat.mul_one, Nat.add_zero, idxS_one, get_setN, get_setS, get_appL, List.length_set, ↓ibin_shlD, ↓ibin_shrD, bld1_true, plan_buildD, natSucc, h0, h3, h4]
  split
  · rename_i hlt
    have hi' : i < x.l.length := by omega
    simp -implicitDefEqProofs -dsimp (disch := (first | omega | (simp only [List.length_set, List.length_append, List.length_cons, List.length_nil]; omega))) only [go_sem, Nat.reduceAdd, Nat.reduceSub, Nat.reduceLT, Nat.reduceLeDiff, Int.reduceToNat, Int.reduceLE, Int.reduceLT, Int.reduceAdd, Int.reduceSub, Int.reduceEq, Int.reduceNe, Int.reduceMul, Nat.reduceMul, Int.reduceNeg, Int.toNat_natCast, Nat.reduceEqDiff, X.exit.injEq, if_true, if_false, reduceIte, Bool.not_true, Bool.not_false, Bool.false_eq_true, Bool.true_eq_false, true_and,  need_of, need_true, need_and, WOf_need, i64w, u64w, at_getD, idxR_slD, and_true, Nat.zero_add, Nat.mul_one, Nat.add_zero, idxS_one, get_setN, get_setS, get_appL, List.length_set, ↓ibin_shlD, ↓ibin_shrD, bld1_true, plan_buildD, natSucc, flat_rep]
    refine ⟨by rw [List.all_eq_true]; intro v hv; rw [List.mem_replicate] at hv; rw [hv.2]; rfl, ?_⟩
    refine (close39_ok x hR h14 hxl ⟨false, true, [(i : Int)]⟩ i rfl hi' (hf.pur.mono (by simp; omega))).mono ?_
    rintro v1 m1 ⟨rfl, z, bs0, rfl, hz, hbl, hbits⟩
    simp -implicitDefEqProofs -dsimp (disch := (first | omega | (simp only [List.length_set, List.length_append, List.length_cons, List.length_nil]; omega))) only [go_sem, Nat.reduceAdd, Nat.reduceSub, Nat.reduceLT, Nat.reduceLeDiff, Int.reduceToNat, Int.reduceLE, Int.reduceLT, Int.reduceAdd, Int.reduceSub, Int.reduceEq, Int.reduceNe, Int.reduceMul, Nat.reduceMul, Int.reduceNeg, Int.toNat_natCast, Nat.reduceEqDiff, X.exit.injEq, if_true, if_false, reduceIte, Bool.not_true, Bool.not_false, Bool.false_eq_true, Bool.true_eq_false, true_and,  need_of, need_true, need_and, WOf_need, i64w, u64w, at_getD, idxR_slD, and_true, Nat.zero_add, Nat.mul_one, Nat.add_zero, idxS_one, get_setN, get_setS, get_appL, List.length_set, ↓ibin_shlD, ↓ibin_shrD, bld1_true, plan_buildD, natSucc, ]
    have hzl : z.l.length ≤ 14 := by
      rw [hz, List.length_map]
      have := List.length_filter_le (fun i => bs0.getD i false) (List.range x.l.length)
      rw [List.length_range] at this
      exact Nat.le_trans this h14
    have hzm : ∀ (j : Nat) (hj : j < z.l.length), ∃ e : Nat, z.l[j] = (e : Int) ∧ e < x.l.length := by
      intro j hj
      have hm : z.l[j] ∈ z.l := List.getElem_mem hj
      generalize z.l[j] = q at hm
      rw [hz, List.mem_map] at hm
      obtain ⟨e, he, rfl⟩ := hm
      exact ⟨e, rfl, by have := (List.mem_filter.1 he).1; simpa using this⟩
    refine loopF (fun k ts m2 => ∃ (j : Nat) (bs : List Bool), ts.length = 44 ∧ tg ts 0 = sl (sl I) x ∧ tg ts 3 = kv v ∧ tg ts 4 = I i ∧ tg ts 5 = .own m'.length 0 0 x.l.length 1 ∧ tg ts 6 = sl I z ∧ tg ts 7 = I j ∧ j ≤ z.l.length ∧ m2 = m' ++ [.cells 0 (bs.map Bo)] ∧ bs.length = x.l.length ∧ (∀ a, a < x.l.length → bs[a]? = some (decide ((a : Int) ∈ z.l.take j) && decide (a ≠ i))) ∧ k = z.l.length - j) z.l.length ⟨0, List.replicate x.l.length false, rfl, rfl, rfl, rfl, rfl, rfl, rfl, by omega, by simp, by simp, fun a ha => by simp [List.getElem?_replicate, ha], by omega⟩ ?_
    rintro k2 ts m2 ⟨j, bs, hl, h0, h3, h4, h5, h6, h7, hj, rfl, hbs, hba, hk2⟩
    rw [expandT hl]
    simp -implicitDefEqProofs -dsimp (disch := (first | omega | (simp only [List.length_set, List.length_append, List.length_cons, List.length_nil]; omega))) only [go_sem, Nat.reduceAdd, Nat.reduceSub, Nat.reduceLT, Nat.reduceLeDiff, Int.reduceToNat, Int.reduceLE, Int.reduceLT, Int.reduceAdd, Int.reduceSub, Int.reduceEq, Int.reduceNe, Int.reduceMul, Nat.reduceMul, Int.reduceNeg, Int.toNat_natCast, Nat.reduceEqDiff, X.exit.injEq, if_true, if_false, reduceIte, Bool.not_true, Bool.not_false, Bool.false_eq_true, Bool.true_eq_false, true_and,  need_of, need_true, need_and, WOf_need, i64w, u64w, at_getD, idxR_slD, and_true, Nat.zero_add, Nat.mul_one, Nat.add_zero, idxS_one, get_setN, get_setS, get_appL, List.length_set, ↓ibin_shlD, ↓ibin_shrD, bld1_true, plan_buildD, natSucc, h0, h3, h4, h5, h6, h7]
    split
    · rename_i hltj
      have hj' : j < z.l.length := by omega
      obtain ⟨e, he, hel⟩ := hzm j hj'
      have htk : z.l.take (j + 1) = z.l.take j ++ [z.l[j]] := by rw [List.take_add_one, List.getElem?_eq_getElem hj']; rfl
      simp -implicitDefEqProofs -dsimp (disch := (first | omega | (simp only [List.length_set, List.length_append, List.length_cons, List.length_nil]; omega))) only [go_sem, Nat.reduceAdd, Nat.reduceSub, Nat.reduceLT, Nat.reduceLeDiff, Int.reduceToNat, Int.reduceLE, Int.reduceLT, Int.reduceAdd, Int.reduceSub, Int.reduceEq, Int.reduceNe, Int.reduceMul, Nat.reduceMul, Int.reduceNeg, Int.toNat_natCast, Nat.reduceEqDiff, X.exit.injEq, if_true, if_false, reduceIte, Bool.not_true, Bool.not_false, Bool.false_eq_true, Bool.true_eq_false, true_and,  need_of, need_true, need_and, WOf_need, i64w, u64w, at_getD, idxR_slD, and_true, Nat.zero_add, Nat.mul_one, Nat.add_zero, idxS_one, get_setN, get_setS, get_appL, List.length_set, ↓ibin_shlD, ↓ibin_shrD, bld1_true, plan_buildD, natSucc, he, hokT, List.length_map]
      refine ⟨by kernel_rfl, by omega, peace_of (L := []) (by kernel_rfl) (by simp), z.l.length - (j + 1), by omega, j + 1, bs.set e (decide ((e : Int) ≠ (i : Int))), ?_⟩
      and_intros <;> (first | with_reducible rfl | omega | with_reducible assumption | exact True.intro | skip)
      · rw [List.map_set]
      · rw [List.length_set]; exact hbs
      · intro a ha
        rw [htk, he, List.getElem?_set]
        by_cases hea : e = a
        · subst hea
          rw [if_pos rfl, if_pos (by omega)]
          simp
          omega
        · rw [if_neg hea, hba a ha]
          congr 2
          have : ((a : Int) ∈ z.l.take j ++ [(e : Int)]) ↔ (a : Int) ∈ z.l.take j := by
            rw [List.mem_append, List.mem_singleton]
            constructor
            · rintro (h | h)
              · exact h
              · omega
            · exact Or.inl
          rw [decide_eq_decide]; exact this.symm
    · rename_i hltj
      try simp -implicitDefEqProofs -dsimp (disch := (first | omega | (simp only [List.length_set, List.length_append, List.length_cons, List.length_nil]; omega))) only [go_sem, Nat.reduceAdd, Nat.reduceSub, Nat.reduceLT, Nat.reduceLeDiff, Int.reduceToNat, Int.reduceLE, Int.reduceLT, Int.reduceAdd, Int.reduceSub, Int.reduceEq, Int.reduceNe, Int.reduceMul, Nat.reduceMul, Int.reduceNeg, Int.toNat_natCast, Nat.reduceEqDiff, X.exit.injEq, if_true, if_false, reduceIte, Bool.not_true, Bool.not_false, Bool.false_eq_true, Bool.true_eq_false, true_and,  need_of, need_true, need_and, WOf_need, i64w, u64w, at_getD, idxR_slD, and_true, Nat.zero_add, Nat.mul_one, Nat.add_zero, idxS_one, get_setN, get_setS, get_appL, List.length_set, ↓ibin_shlD, ↓ibin_shrD, bld1_true, plan_buildD, natSucc, ]
      have hje : j = z.l.length := by omega
      subst hje
      rw [List.take_length] at hba
      have hrow : bs = upsRow x.of x.l.length i := by
        apply List.ext_getElem?
        intro a
        rcases Nat.lt_or_ge a x.l.length with ha | ha
        · rw [hba a ha]
          simp only [upsRow, List.getElem?_map, List.getElem?_range ha, Option.map_some, Option.some.injEq]
          rw [← cm_ahead hR]
          congr 1
          rw [Bool.eq_iff_iff, decide_eq_true_eq, ← hbits a, hz]
          constructor
          · intro h
            obtain ⟨b, hb, hba⟩ := List.mem_map.1 h
            have : b = a := Int.ofNat.inj hba
            subst this
            have := (List.mem_filter.1 hb).2
            rw [List.getD_eq_getElem?_getD] at this
            cases hq : bs0[b]? with
            | none => rw [hq] at this; simp at this
            | some c => rw [hq] at this; simpa using this
          · intro h
            refine List.mem_map.2 ⟨a, List.mem_filter.2 ⟨List.mem_range.2 ha, ?_⟩, rfl⟩
            rw [List.getD_eq_getElem?_getD, h]; rfl
        · rw [List.getElem?_eq_none (by omega), List.getElem?_eq_none (by simp [upsRow]; exact ha)]
      refine hr.app bs hbs hf.pur (Nat.le_refl _) (by omega) fun r v' m'' hr' => ?_
      simp -implicitDefEqProofs -dsimp (disch := (first | omega | (simp only [List.length_set, List.length_append, List.length_cons, List.length_nil]; omega))) only [go_sem, Nat.reduceAdd, Nat.reduceSub, Nat.reduceLT, Nat.reduceLeDiff, Int.reduceToNat, Int.reduceLE, Int.reduceLT, Int.reduceAdd, Int.reduceSub, Int.reduceEq, Int.reduceNe, Int.reduceMul, Nat.reduceMul, Int.reduceNeg, Int.toNat_natCast, Nat.reduceEqDiff, X.exit.injEq, if_true, if_false, reduceIte, Bool.not_true, Bool.not_false, Bool.false_eq_true, Bool.true_eq_false, true_and,  need_of, need_true, need_and, WOf_need, i64w, u64w, at_getD, idxR_slD, and_true, Nat.zero_add, Nat.mul_one, Nat.add_zero, idxS_one, get_setN, get_setS, get_appL, List.length_set, ↓ibin_shlD, ↓ibin_shrD, bld1_true, plan_buildD, natSucc, ]
      refine ⟨x.l.length - (i + 1), by omega, i + 1, v', l ++ [(m'.length, bs)], ?_⟩
      and_intros <;> (first | with_reducible rfl | omega | with_reducible assumption | exact True.intro | skip)
      rw [List.map_append, hll, List.range_succ, List.map_append, hrow]; rfl
  · rename_i hlt
    try simp -implicitDefEqProofs -dsimp (disch := (first | omega | (simp only [List.length_set, List.length_append, List.length_cons, List.length_nil]; omega))) only [go_sem, Nat.reduceAdd, Nat.reduceSub, Nat.reduceLT, Nat.reduceLeDiff, Int.reduceToNat, Int.reduceLE, Int.reduceLT, Int.reduceAdd, Int.reduceSub, Int.reduceEq, Int.reduceNe, Int.reduceMul, Nat.reduceMul, Int.reduceNeg, Int.toNat_natCast, Nat.reduceEqDiff, X.exit.injEq, if_true, if_false, reduceIte, Bool.not_true, Bool.not_false, Bool.false_eq_true, Bool.true_eq_false, true_and,  need_of, need_true, need_and, WOf_need, i64w, u64w, at_getD, idxR_slD, and_true, Nat.zero_add, Nat.mul_one, Nat.add_zero, idxS_one, get_setN, get_setS, get_appL, List.length_set, ↓ibin_shlD, ↓ibin_shrD, bld1_true, plan_buildD, natSucc, ]
    refine hr.frz _ _ fun z hz => ?_
    simp -implicitDefEqProofs -dsimp (disch := (first | omega | (simp only [List.length_set, List.length_append, List.length_cons, List.length_nil]; omega))) only [go_sem, Nat.reduceAdd, Nat.reduceSub, Nat.reduceLT, Nat.reduceLeDiff, Int.reduceToNat, Int.reduceLE, Int.reduceLT, Int.reduceAdd, Int.reduceSub, Int.reduceEq, Int.reduceNe, Int.reduceMul, Nat.reduceMul, Int.reduceNeg, Int.toNat_natCast, Nat.reduceEqDiff, X.exit.injEq, if_true, if_false, reduceIte, Bool.not_true, Bool.not_false, Bool.false_eq_true, Bool.true_eq_false, true_and,  need_of, need_true, need_and, WOf_need, i64w, u64w, at_getD, idxR_slD, and_true, Nat.zero_add, Nat.mul_one, Nat.add_zero, idxS_one, get_setN, get_setS, get_appL, List.length_set, ↓ibin_shlD, ↓ibin_shrD, bld1_true, plan_buildD, natSucc, ]
    exact ⟨z, rfl, by rw [hz, hll, show i = x.l.length by omega]⟩
end
end Go.Proofs.YtfbamjlednbdhaaDoor.V
/- The reference's Widest; no condition. -/
namespace Go.Proofs.YtfbamjlednbdhaaDoor.V
open Go
set_option linter.unusedVariables false
set_option linter.unusedSimpArgs false
set_option maxHeartbeats 8000000
noncomputable section
variable {en : Env} {m : Mem}
def okPair (A L : List Nat) (a b : Nat) : Bool := !(A.getD (L.getD a 0) 0).testBit (L.getD b 0)
def goodR (A L : List Nat) (a : Nat) : Bool := (List.range a).all (okPair A L a)
def antiB (A : List Nat) (s : Nat) : Bool := (List.range (listB s).length).all (goodR A (listB s))
def wideStep (A : List Nat) (b s : Nat) : Nat := if b < (listB s).length ∧ antiB A s = true then (listB s).length else b
def wide13 (A : List Nat) (n : Nat) : Nat := (List.range (2 ^ n)).foldl (wideStep A) 0
theorem wideStep_le (A : List Nat) (b s : Nat) (hb : b ≤ 14) : wideStep A b s ≤ 14 := by
  unfold wideStep
  split
  · have := List.length_filter_le s.testBit (List.range 14); simpa [listB] using this
  · exact hb
theorem all_range_mono {n k : Nat} {q : Nat → Bool} (h : (List.range k).all q = false) (hk : k ≤ n) : (List.range n).all q = false := by
  rw [List.all_eq_false] at h ⊢
  obtain ⟨a, ha, hq⟩ := h
  exact ⟨a, List.mem_range.2 (by have := List.mem_range.1 ha; omega), hq⟩
theorem wide_end (A : List Nat) (best s i : Nat) (ok : Bool) (hi : i ≤ (listB s).length) (hok : ok = (decide (best < (listB s).length) && (List.range i).all (goodR A (listB s)))) (h : i = (listB s).length ∨ ok = false) : wideStep A best s = if ok = true then (listB s).length else best := by
  unfold wideStep
  rcases h with rfl | rfl
  · rw [hok, antiB]
    by_cases h1 : best < (listB s).length <;> simp [h1]
  · have hn : ¬ (best < (listB s).length ∧ antiB A s = true) := by
      rintro ⟨h1, h2⟩
      rw [decide_eq_true h1, Bool.true_and] at hok
      rw [antiB, all_range_mono hok.symm hi] at h2
      cases h2
    rw [if_neg hn]; simp
theorem widest13_ok (x : LL) (hx : x.l.length < 2 ^ 62) (hxl : ∀ a ∈ x.l, a.l.length < 2 ^ 62) (hf : Fits en m.length) : WC Tryd.prog pol en (.func 13) [sl (sl I) x] m fun v m' => m' = m ∧
    v = if fitsD x.of = true then .tup [I (wide13 (aheadD x.of) x.of.length : Nat), I 0] else .tup [I 0, I 3] := by
  refine callPur Tryd.func13 rfl rfl Tryd.ntmps13 Tryd.results13 ?_
  simp -implicitDefEqProofs -dsimp (disch := (first | omega | (simp only [List.length_set, List.length_append, List.length_cons, List.length_nil]; omega))) only [go_sem, Nat.reduceAdd, Nat.reduceSub, Nat.reduceLT, Nat.reduceLeDiff, Int.reduceToNat, Int.reduceLE, Int.reduceLT, Int.reduceAdd, Int.reduceSub, Int.reduceEq, Int.reduceNe, Int.reduceMul, Nat.reduceMul, Int.reduceNeg, Int.toNat_natCast, Nat.reduceEqDiff, X.exit.injEq, if_true, if_false, reduceIte, Bool.not_true, Bool.not_false, Bool.false_eq_true, Bool.true_eq_false, true_and,  need_of, need_true, need_and, WOf_need, i64w, u64w, at_getD, idxR_slD, and_true, Nat.zero_add, Nat.mul_one, Nat.add_zero, idxS_one, get_setN, get_setS, get_appL, List.length_set, ↓ibin_shlD, ↓ibin_shrD, bld1_true, plan_buildD, natSucc, ]
  refine (fits_ok x hx hxl hf.pur).mono ?_
  rintro v m' ⟨rfl, rfl⟩
  cases hfit : fitsD x.of with
  | false => simp -implicitDefEqProofs -dsimp (disch := (first | omega | (simp only [List.length_set, List.length_append, List.length_cons, List.length_nil]; omega))) only [go_sem, Nat.reduceAdd, Nat.reduceSub, Nat.reduceLT, Nat.reduceLeDiff, Int.reduceToNat, Int.reduceLE, Int.reduceLT, Int.reduceAdd, Int.reduceSub, Int.reduceEq, Int.reduceNe, Int.reduceMul, Nat.reduceMul, Int.reduceNeg, Int.toNat_natCast, Nat.reduceEqDiff, X.exit.injEq, if_true, if_false, reduceIte, Bool.not_true, Bool.not_false, Bool.false_eq_true, Bool.true_eq_false, true_and,  need_of, need_true, need_and, WOf_need, i64w, u64w, at_getD, idxR_slD, and_true, Nat.zero_add, Nat.mul_one, Nat.add_zero, idxS_one, get_setN, get_setS, get_appL, List.length_set, ↓ibin_shlD, ↓ibin_shrD, bld1_true, plan_buildD, natSucc, ]
  | true =>
    have hR : rightB x.of = true := by simp only [fitsD, Bool.and_eq_true] at hfit; exact hfit.2
    have hlen : x.of.length = x.l.length := by simp [LL.of]
    have h14 := fits_len hfit
    simp -implicitDefEqProofs -dsimp (disch := (first | omega | (simp only [List.length_set, List.length_append, List.length_cons, List.length_nil]; omega))) only [go_sem, Nat.reduceAdd, Nat.reduceSub, Nat.reduceLT, Nat.reduceLeDiff, Int.reduceToNat, Int.reduceLE, Int.reduceLT, Int.reduceAdd, Int.reduceSub, Int.reduceEq, Int.reduceNe, Int.reduceMul, Nat.reduceMul, Int.reduceNeg, Int.toNat_natCast, Nat.reduceEqDiff, X.exit.injEq, if_true, if_false, reduceIte, Bool.not_true, Bool.not_false, Bool.false_eq_true, Bool.true_eq_false, true_and,  need_of, need_true, need_and, WOf_need, i64w, u64w, at_getD, idxR_slD, and_true, Nat.zero_add, Nat.mul_one, Nat.add_zero, idxS_one, get_setN, get_setS, get_appL, List.length_set, ↓ibin_shlD, ↓ibin_shrD, bld1_true, plan_buildD, natSucc, ]
    refine (ups29_ok x hR (by omega) hxl hf.pur).mono ?_
    rintro v m' ⟨rfl, y, rfl, hy⟩
    have hyl : y.l.length = x.l.length := by have := congrArg List.length hy; simpa using this
    have hyr : ∀ (i : Nat) (h : i < y.l.length), y.l[i].l = upsRow x.of x.l.length i := by
      intro i h
      have h1 : (y.l.map (·.l))[i]? = some y.l[i].l := by rw [List.getElem?_map, List.getElem?_eq_getElem h]; rfl
      rw [hy, List.getElem?_map, List.getElem?_range (by omega)] at h1
      exact (Option.some.inj h1).symm
    have hsh : shlK .i64 1 (x.l.length : Int) = ((2 ^ x.of.length : Nat) : Int) := by rw [← hlen]; exact i64_shl (by omega)
    have hp : 2 ^ x.of.length ≤ 2 ^ 14 := Nat.pow_le_pow_right (by omega) h14
    obtain ⟨N, hN⟩ : ∃ N, 2 ^ x.of.length = N := ⟨_, rfl⟩
    have hw13 : wide13 (aheadD x.of) x.of.length = (List.range N).foldl (wideStep (aheadD x.of)) 0 := by rw [wide13, hN]
    rw [hN] at hsh hp
    have hfold : ∀ i, (List.range i).foldl (wideStep (aheadD x.of)) 0 ≤ 14 := by
      intro i
      induction i with
      | zero => simp
      | succ i ih => rw [List.range_succ, List.foldl_append]; exact wideStep_le _ _ _ ih
    simp -implicitDefEqProofs -dsimp (disch := (first | omega | (simp only [List.length_set, List.length_append, List.length_cons, List.length_nil]; omega))) only [go_sem, Nat.reduceAdd, Nat.reduceSub, Nat.reduceLT, Nat.reduceLeDiff, Int.reduceToNat, Int.reduceLE, Int.reduceLT, Int.reduceAdd, Int.reduceSub, Int.reduceEq, Int.reduceNe, Int.reduceMul, Nat.reduceMul, Int.reduceNeg, Int.toNat_natCast, Nat.reduceEqDiff, X.exit.injEq, if_true, if_false, reduceIte, Bool.not_true, Bool.not_false, Bool.false_eq_true, Bool.true_eq_false, true_and,  need_of, need_true, need_and, WOf_need, i64w, u64w, at_getD, idxR_slD, and_true, Nat.zero_add, Nat.mul_one, Nat.add_zero, idxS_one, get_setN, get_setS, get_appL, List.length_set, ↓ibin_shlD, ↓ibin_shrD, bld1_true, plan_buildD, natSucc, ]
    refine loopF (fun k ts m2 => ∃ (s : Nat), ts.length = 64 ∧ tg ts 0 = sl (sl I) x ∧ tg ts 4 = sl (sl Bo) y ∧ tg ts 5 = I ((List.range s).foldl (wideStep (aheadD x.of)) 0 : Nat) ∧ tg ts 6 = I s ∧ s ≤ N ∧ m2 = m' ∧ k = N - s) N ⟨0, rfl, rfl, rfl, rfl, rfl, by omega, rfl, by omega⟩ ?_
    rintro k ts m2 ⟨s, hl, h0, h4, h5, h6, hs, rfl, hk⟩
    have hb14 := hfold s
    have hnext : (List.range (s + 1)).foldl (wideStep (aheadD x.of)) 0 = wideStep (aheadD x.of) ((List.range s).foldl (wideStep (aheadD x.of)) 0) s := by rw [List.range_succ, List.foldl_append]; rfl
    obtain ⟨best, hbest⟩ : ∃ b, (List.range s).foldl (wideStep (aheadD x.of)) 0 = b := ⟨_, rfl⟩
    rw [hbest] at h5 hb14 hnext
    rw [expandT hl]
    simp -implicitDefEqProofs -dsimp (disch := (first | omega | (simp only [List.length_set, List.length_append, List.length_cons, List.length_nil]; omega))) only [go_sem, Nat.reduceAdd, Nat.reduceSub, Nat.reduceLT, Nat.reduceLeDiff, Int.reduceToNat, Int.reduceLE, Int.reduceLT, Int.reduceAdd, Int.reduceSub, Int.reduceEq, Int.reduceNe, Int.reduceMul, Nat.reduceMul, Int.reduceNeg, Int.toNat_natCast, Nat.reduceEqDiff, X.exit.injEq, if_true, if_false, reduceIte, Bool.not_true, Bool.not_false, Bool.false_eq_true, Bool.true_eq_false, true_and,  need_of, need_true, need_and, WOf_need, i64w, u64w, at_getD, idxR_slD, and_true, Nat.zero_add, Nat.mul_one, Nat.add_zero, idxS_one, get_setN, get_setS, get_appL, List.length_set, ↓ibin_shlD, ↓ibin_shrD, bld1_true, plan_buildD, natSucc, h0, h4, h5, h6, hsh]
    split
    · rename_i hlt
      refine (list30_ok s (by omega) hf.pur).mono ?_
      rintro v m3 ⟨rfl, z, rfl, hz⟩
      have hzl : z.l.length = (listB s).length := by rw [hz]; simp
      have hL14 : (listB s).length ≤ 14 := by have := List.length_filter_le s.testBit (List.range 14); simpa [listB] using this
      have hLn : ∀ (a : Nat) (h : a < z.l.length), z.l[a] = ((listB s).getD a 0 : Int) ∧ (listB s).getD a 0 < x.l.length := by
        intro a h
        refine ⟨getI hz h, ?_⟩
        have h2 : a < (listB s).length := by omega
        rw [List.getD_eq_getElem?_getD, List.getElem?_eq_getElem h2]
        have hm := List.getElem_mem h2
        have hb := (List.mem_filter.1 hm).2
        have h1 := lt_bit hb
        have : 2 ^ (listB s)[a] < 2 ^ x.of.length := by omega
        have := (Nat.pow_lt_pow_iff_right (a := 2) (by omega)).1 this
        simp only [Option.getD_some]; omega
      simp -implicitDefEqProofs -dsimp (disch := (first | omega | (simp only [List.length_set, List.length_append, List.length_cons, List.length_nil]; omega))) only [go_sem, Nat.reduceAdd, Nat.reduceSub, Nat.reduceLT, Nat.reduceLeDiff, Int.reduceToNat, Int.reduceLE, Int.reduceLT, Int.reduceAdd, Int.reduceSub, Int.reduceEq, Int.reduceNe, Int.reduceMul, Nat.reduceMul, Int.reduceNeg, Int.toNat_natCast, Nat.reduceEqDiff, X.exit.injEq, if_true, if_false, reduceIte, Bool.not_true, Bool.not_false, Bool.false_eq_true, Bool.true_eq_false, true_and,  need_of, need_true, need_and, WOf_need, i64w, u64w, at_getD, idxR_slD, and_true, Nat.zero_add, Nat.mul_one, Nat.add_zero, idxS_one, get_setN, get_setS, get_appL, List.length_set, ↓ibin_shlD, ↓ibin_shrD, bld1_true, plan_buildD, natSucc, ]
      refine loopF (fun k ts m2 => ∃ (i : Nat) (ok : Bool), ts.length = 64 ∧ tg ts 0 = sl (sl I) x ∧ tg ts 4 = sl (sl Bo) y ∧ tg ts 5 = I best ∧ tg ts 6 = I s ∧ tg ts 7 = sl I z ∧ tg ts 8 = Bo ok ∧ tg ts 9 = I i ∧ i ≤ z.l.length ∧ m2 = m3 ∧ ok = (decide (best < (listB s).length) && (List.range i).all (goodR (aheadD x.of) (listB s))) ∧ k = z.l.length - i) z.l.length ⟨0, _, rfl, rfl, rfl, rfl, rfl, rfl, rfl, rfl, by omega, rfl, by simp [hzl], by omega⟩ ?_
      rintro k ts m2 ⟨i, ok, hl, h0, h4, h5, h6, h7, h8, h9, hi, rfl, hok, hk⟩
      have hend := wide_end (aheadD x.of) best s i ok (by omega) hok
      rw [← hzl] at hend
      rw [expandT hl]
      by_cases hc : i < z.l.length ∧ ok = true
      · obtain ⟨hi', rfl⟩ := hc
        have hci : (i : Int) < z.l.length := by omega
        simp -implicitDefEqProofs -dsimp (disch := (first | omega | (simp only [List.length_set, List.length_append, List.length_cons, List.length_nil]; omega))) only [go_sem, Nat.reduceAdd, Nat.reduceSub, Nat.reduceLT, Nat.reduceLeDiff, Int.reduceToNat, Int.reduceLE, Int.reduceLT, Int.reduceAdd, Int.reduceSub, Int.reduceEq, Int.reduceNe, Int.reduceMul, Nat.reduceMul, Int.reduceNeg, Int.toNat_natCast, Nat.reduceEqDiff, X.exit.injEq, if_true, if_false, reduceIte, Bool.not_true, Bool.not_false, Bool.false_eq_true, Bool.true_eq_false, true_and,  need_of, need_true, need_and, WOf_need, i64w, u64w, at_getD, idxR_slD, and_true, Nat.zero_add, Nat.mul_one, Nat.add_zero, idxS_one, get_setN, get_setS, get_appL, List.length_set, ↓ibin_shlD, ↓ibin_shrD, bld1_true, plan_buildD, natSucc, h0, h4, h5, h6, h7, h8, h9, hci]
        refine loopF (fun k ts m4 => ∃ (j : Nat) (ok : Bool), ts.length = 64 ∧ tg ts 0 = sl (sl I) x ∧ tg ts 4 = sl (sl Bo) y ∧ tg ts 5 = I best ∧ tg ts 6 = I s ∧ tg ts 7 = sl I z ∧ tg ts 8 = Bo ok ∧ tg ts 9 = I i ∧ tg ts 10 = I j ∧ j ≤ i ∧ m4 = m2 ∧ ok = (List.range j).all (okPair (aheadD x.of) (listB s) i) ∧ k = i - j) i ⟨0, _, rfl, rfl, rfl, rfl, rfl, rfl, rfl, rfl, rfl, by omega, rfl, rfl, by omega⟩ ?_
        rintro k2 ts m4 ⟨j, ok, hl, h0, h4, h5, h6, h7, h8, h9, h10, hj, rfl, hok2, hk2⟩
        rw [expandT hl]
        simp -implicitDefEqProofs -dsimp (disch := (first | omega | (simp only [List.length_set, List.length_append, List.length_cons, List.length_nil]; omega))) only [go_sem, Nat.reduceAdd, Nat.reduceSub, Nat.reduceLT, Nat.reduceLeDiff, Int.reduceToNat, Int.reduceLE, Int.reduceLT, Int.reduceAdd, Int.reduceSub, Int.reduceEq, Int.reduceNe, Int.reduceMul, Nat.reduceMul, Int.reduceNeg, Int.toNat_natCast, Nat.reduceEqDiff, X.exit.injEq, if_true, if_false, reduceIte, Bool.not_true, Bool.not_false, Bool.false_eq_true, Bool.true_eq_false, true_and,  need_of, need_true, need_and, WOf_need, i64w, u64w, at_getD, idxR_slD, and_true, Nat.zero_add, Nat.mul_one, Nat.add_zero, idxS_one, get_setN, get_setS, get_appL, List.length_set, ↓ibin_shlD, ↓ibin_shrD, bld1_true, plan_buildD, natSucc, h0, h4, h5, h6, h7, h8, h9, h10]
        split
        · rename_i hltj
          have hrs := all_range_succ j (okPair (aheadD x.of) (listB s) i)
          cases ok with
          | false =>
            simp -implicitDefEqProofs -dsimp (disch := (first | omega | (simp only [List.length_set, List.length_append, List.length_cons, List.length_nil]; omega))) only [go_sem, Nat.reduceAdd, Nat.reduceSub, Nat.reduceLT, Nat.reduceLeDiff, Int.reduceToNat, Int.reduceLE, Int.reduceLT, Int.reduceAdd, Int.reduceSub, Int.reduceEq, Int.reduceNe, Int.reduceMul, Nat.reduceMul, Int.reduceNeg, Int.toNat_natCast, Nat.reduceEqDiff, X.exit.injEq, if_true, if_false, reduceIte, Bool.not_true, Bool.not_false, Bool.false_eq_true, Bool.true_eq_false, true_and,  need_of, need_true, need_and, WOf_need, i64w, u64w, at_getD, idxR_slD, and_true, Nat.zero_add, Nat.mul_one, Nat.add_zero, idxS_one, get_setN, get_setS, get_appL, List.length_set, ↓ibin_shlD, ↓ibin_shrD, bld1_true, plan_buildD, natSucc, ]
            refine ⟨by kernel_rfl, by kernel_rfl, i - (j + 1), by omega, j + 1, false, ?_⟩
            and_intros <;> (first | with_reducible rfl | omega | with_reducible assumption | exact True.intro | skip)
            rw [hrs, ← hok2]; rfl
          | true =>
            obtain ⟨e1, f1⟩ := hLn i hi'
            obtain ⟨e2, f2⟩ := hLn j (by omega)
            have hg : okPair (aheadD x.of) (listB s) i j = !((aheadD x.of).getD ((listB s).getD i 0) 0).testBit ((listB s).getD j 0) := rfl
            generalize (listB s).getD i 0 = u at *
            generalize (listB s).getD j 0 = w at *
            have hyu := hyr u (by omega)
            have hrow : y.l[u].l[w]? = some (((aheadD x.of).getD u 0).testBit w) := by
              rw [hyu, upsRow, List.getElem?_map, List.getElem?_range f2]; rfl
            have hrl : y.l[u].l.length = x.l.length := by rw [hyu, upsRow]; simp
            have hb1 : (0 : Int) ≤ (u : Int) := by omega
            have hb2 : (u : Int) < (y.l.length : Int) := by omega
            have hb3 : (0 : Int) ≤ (w : Int) := by omega
            have hb4 : (w : Int) < (y.l[u].l.length : Int) := by omega
            simp -implicitDefEqProofs -dsimp (disch := (first | omega | (simp only [List.length_set, List.length_append, List.length_cons, List.length_nil]; omega))) only [go_sem, Nat.reduceAdd, Nat.reduceSub, Nat.reduceLT, Nat.reduceLeDiff, Int.reduceToNat, Int.reduceLE, Int.reduceLT, Int.reduceAdd, Int.reduceSub, Int.reduceEq, Int.reduceNe, Int.reduceMul, Nat.reduceMul, Int.reduceNeg, Int.toNat_natCast, Nat.reduceEqDiff, X.exit.injEq, if_true, if_false, reduceIte, Bool.not_true, Bool.not_false, Bool.false_eq_true, Bool.true_eq_false, true_and,  need_of, need_true, need_and, WOf_need, i64w, u64w, at_getD, idxR_slD, and_true, Nat.zero_add, Nat.mul_one, Nat.add_zero, idxS_one, get_setN, get_setS, get_appL, List.length_set, ↓ibin_shlD, ↓ibin_shrD, bld1_true, plan_buildD, natSucc, e1, e2, hb1, hb2, hb3, hb4, hrow]
            refine ⟨by kernel_rfl, by kernel_rfl, i - (j + 1), by omega, j + 1, !((aheadD x.of).getD u 0).testBit w, ?_⟩
            and_intros <;> (first | with_reducible rfl | omega | with_reducible assumption | exact True.intro | skip)
            rw [hrs, ← hok2, hg]; rfl
        · rename_i hltj
          have hji : j = i := by omega
          subst hji
          try simp -implicitDefEqProofs -dsimp (disch := (first | omega | (simp only [List.length_set, List.length_append, List.length_cons, List.length_nil]; omega))) only [go_sem, Nat.reduceAdd, Nat.reduceSub, Nat.reduceLT, Nat.reduceLeDiff, Int.reduceToNat, Int.reduceLE, Int.reduceLT, Int.reduceAdd, Int.reduceSub, Int.reduceEq, Int.reduceNe, Int.reduceMul, Nat.reduceMul, Int.reduceNeg, Int.toNat_natCast, Nat.reduceEqDiff, X.exit.injEq, if_true, if_false, reduceIte, Bool.not_true, Bool.not_false, Bool.false_eq_true, Bool.true_eq_false, true_and,  need_of, need_true, need_and, WOf_need, i64w, u64w, at_getD, idxR_slD, and_true, Nat.zero_add, Nat.mul_one, Nat.add_zero, idxS_one, get_setN, get_setS, get_appL, List.length_set, ↓ibin_shlD, ↓ibin_shrD, bld1_true, plan_buildD, natSucc, ]
          refine ⟨z.l.length - (j + 1), by omega, j + 1, ok, ?_⟩
          and_intros <;> (first | with_reducible rfl | omega | with_reducible assumption | exact True.intro | skip)
          rw [all_range_succ, ← Bool.and_assoc, ← hok, Bool.true_and, goodR]; exact hok2
      · have hq : i = z.l.length ∨ ok = false := by
          rcases Nat.lt_or_ge i z.l.length with h1 | h1
          · right
            cases ok with
            | false => rfl
            | true => exact (hc ⟨h1, rfl⟩).elim
          · left; omega
        have hnx := hend hq
        cases ok with
        | false =>
          by_cases hci : (i : Int) < z.l.length
          · simp -implicitDefEqProofs -dsimp (disch := (first | omega | (simp only [List.length_set, List.length_append, List.length_cons, List.length_nil]; omega))) only [go_sem, Nat.reduceAdd, Nat.reduceSub, Nat.reduceLT, Nat.reduceLeDiff, Int.reduceToNat, Int.reduceLE, Int.reduceLT, Int.reduceAdd, Int.reduceSub, Int.reduceEq, Int.reduceNe, Int.reduceMul, Nat.reduceMul, Int.reduceNeg, Int.toNat_natCast, Nat.reduceEqDiff, X.exit.injEq, if_true, if_false, reduceIte, Bool.not_true, Bool.not_false, Bool.false_eq_true, Bool.true_eq_false, true_and,  need_of, need_true, need_and, WOf_need, i64w, u64w, at_getD, idxR_slD, and_true, Nat.zero_add, Nat.mul_one, Nat.add_zero, idxS_one, get_setN, get_setS, get_appL, List.length_set, ↓ibin_shlD, ↓ibin_shrD, bld1_true, plan_buildD, natSucc, h0, h4, h5, h6, h7, h8, h9, hci]
            refine ⟨N - (s + 1), by omega, s + 1, ?_⟩
            rw [hnext, hnx, if_neg (by simp)]
            and_intros <;> (first | with_reducible rfl | omega | with_reducible assumption | exact True.intro | skip)
          · simp -implicitDefEqProofs -dsimp (disch := (first | omega | (simp only [List.length_set, List.length_append, List.length_cons, List.length_nil]; omega))) only [go_sem, Nat.reduceAdd, Nat.reduceSub, Nat.reduceLT, Nat.reduceLeDiff, Int.reduceToNat, Int.reduceLE, Int.reduceLT, Int.reduceAdd, Int.reduceSub, Int.reduceEq, Int.reduceNe, Int.reduceMul, Nat.reduceMul, Int.reduceNeg, Int.toNat_natCast, Nat.reduceEqDiff, X.exit.injEq, if_true, if_false, reduceIte, Bool.not_true, Bool.not_false, Bool.false_eq_true, Bool.true_eq_false, true_and,  need_of, need_true, need_and, WOf_need, i64w, u64w, at_getD, idxR_slD, and_true, Nat.zero_add, Nat.mul_one, Nat.add_zero, idxS_one, get_setN, get_setS, get_appL, List.length_set, ↓ibin_shlD, ↓ibin_shrD, bld1_true, plan_buildD, natSucc, h0, h4, h5, h6, h7, h8, h9, hci]
            refine ⟨N - (s + 1), by omega, s + 1, ?_⟩
            rw [hnext, hnx, if_neg (by simp)]
            and_intros <;> (first | with_reducible rfl | omega | with_reducible assumption | exact True.intro | skip)
        | true =>
          have hci : ¬ (i : Int) < z.l.length := by
            rcases hq with h | h
            · omega
            · cases h
          simp -implicitDefEqProofs -dsimp (disch := (first | omega | (simp only [List.length_set, List.length_append, List.length_cons, List.length_nil]; omega))) only [go_sem, Nat.reduceAdd, Nat.reduceSub, Nat.reduceLT, Nat.reduceLeDiff, Int.reduceToNat, Int.reduceLE, Int.reduceLT, Int.reduceAdd, Int.reduceSub, Int.reduceEq, Int.reduceNe, Int.reduceMul, Nat.reduceMul, Int.reduceNeg, Int.toNat_natCast, Nat.reduceEqDiff, X.exit.injEq, if_true, if_false, reduceIte, Bool.not_true, Bool.not_false, Bool.false_eq_true, Bool.true_eq_false, true_and,  need_of, need_true, need_and, WOf_need, i64w, u64w, at_getD, idxR_slD, and_true, Nat.zero_add, Nat.mul_one, Nat.add_zero, idxS_one, get_setN, get_setS, get_appL, List.length_set, ↓ibin_shlD, ↓ibin_shrD, bld1_true, plan_buildD, natSucc, h0, h4, h5, h6, h7, h8, h9, hci]
          refine ⟨N - (s + 1), by omega, s + 1, ?_⟩
          rw [hnext, hnx, if_pos rfl]
          and_intros <;> (first | with_reducible rfl | omega | with_reducible assumption | exact True.intro | skip)
    · rename_i hlt
      have : s = N := by omega
      subst this
      rw [hw13, hbest]
end
end Go.Proofs.YtfbamjlednbdhaaDoor.V
/- The widest by choosing from the top is the widest of all sets; no condition. -/
namespace Go.Proofs.YtfbamjlednbdhaaDoor.V
open Go
set_option linter.unusedVariables false
set_option linter.unusedSimpArgs false
def Anti (A : List Nat) (s : Nat) : Prop := ∀ i j, s.testBit i = true → s.testBit j = true → j < i → (A.getD i 0).testBit j = false
theorem list_sorted (s : Nat) : (listB s).Pairwise (· < ·) := List.Pairwise.filter _ List.pairwise_lt_range
theorem antiB_iff {A : List Nat} {s : Nat} (hs : s < 2 ^ 14) : antiB A s = true ↔ Anti A s := by
  have hg : ∀ a (h : a < (listB s).length), (listB s).getD a 0 = (listB s)[a] := fun a h => by rw [List.getD_eq_getElem?_getD, List.getElem?_eq_getElem h]; rfl
  simp only [antiB, goodR, okPair, List.all_eq_true, List.mem_range, Bool.not_eq_true']
  constructor
  · intro h i j hi hj hji
    obtain ⟨a, ha, rfl⟩ := List.getElem_of_mem ((list_mem hs).2 hi)
    obtain ⟨b, hb, rfl⟩ := List.getElem_of_mem ((list_mem hs).2 hj)
    have hba : b < a := by
      rcases Nat.lt_trichotomy a b with h1 | h1 | h1
      · have := List.pairwise_iff_getElem.1 (list_sorted s) a b ha hb h1; omega
      · subst h1; omega
      · exact h1
    have := h a ha b hba
    rwa [hg a ha, hg b hb] at this
  · intro h a ha b hba
    rw [hg a ha, hg b (by omega)]
    exact h _ _ ((list_mem hs).1 (List.getElem_mem ha)) ((list_mem hs).1 (List.getElem_mem (by omega))) (List.pairwise_iff_getElem.1 (list_sorted s) b a (by omega) ha hba)
theorem bit_top {k t : Nat} (ht : t < 2 ^ k) : (2 ^ k + t).testBit k = true := by
  rw [Nat.testBit_two_pow_add_eq, Nat.testBit_lt_two_pow ht]; rfl
theorem bit_low {k t j : Nat} (hj : j < k) : (2 ^ k + t).testBit j = t.testBit j := Nat.testBit_two_pow_add_gt hj _
theorem bit_high {k t j : Nat} (ht : t < 2 ^ k) (hj : k < j) : (2 ^ k + t).testBit j = false := by
  apply Nat.testBit_lt_two_pow
  have : 2 ^ (k + 1) ≤ 2 ^ j := Nat.pow_le_pow_right (by omega) hj
  omega
theorem list_add {k t : Nat} (hk : k < 14) (ht : t < 2 ^ k) : listB (2 ^ k + t) = listB t ++ [k] := by
  have hr : List.range 14 = List.range k ++ k :: List.range' (k + 1) (13 - k) := by
    have h1 := List.range'_append_1 (s := 0) (m := k) (n := (13 - k) + 1)
    rw [List.range'_succ, Nat.zero_add, show k + (13 - k + 1) = 14 by omega] at h1
    rw [List.range_eq_range', List.range_eq_range', ← h1]
  have hh : ∀ u, u < 2 ^ (k + 1) → (List.range' (k + 1) (13 - k)).filter u.testBit = [] := by
    intro u hu
    rw [List.filter_eq_nil_iff]
    intro j hj
    have := (List.mem_range'_1.1 hj).1
    rw [Nat.testBit_lt_two_pow (Nat.lt_of_lt_of_le hu (Nat.pow_le_pow_right (by omega) this))]; simp
  unfold listB
  rw [hr, List.filter_append, List.filter_append, List.filter_cons, List.filter_cons, if_pos (bit_top ht), if_neg (by rw [Nat.testBit_lt_two_pow ht]; simp), hh _ (by omega), hh _ (by omega), List.append_nil]
  congr 1
  apply List.filter_congr
  intro j hj
  exact bit_low (List.mem_range.1 hj)
theorem wid_ge (A : List Nat) : ∀ k, k ≤ 14 → ∀ b t, t < 2 ^ k → Anti A t → (∀ i, t.testBit i = true → b.testBit i = false) → (listB t).length ≤ wid A k b
  | 0, _, b, t, ht, _, _ => by
    obtain rfl : t = 0 := by omega
    simp [wid, listB]
  | k + 1, hk, b, t, ht, ha, hb => by
    have hp : 2 ^ (k + 1) = 2 ^ k + 2 ^ k := by omega
    rcases Nat.lt_or_ge t (2 ^ k) with h | h
    · have := wid_ge A k (by omega) b t h ha hb
      unfold wid
      split <;> omega
    · obtain ⟨t', rfl⟩ : ∃ t', t = 2 ^ k + t' := ⟨t - 2 ^ k, by omega⟩
      have ht' : t' < 2 ^ k := by omega
      have hlow : ∀ i, t'.testBit i = true → i < k := fun i hi => by
        have h1 := lt_bit hi
        have : 2 ^ i < 2 ^ k := by omega
        exact (Nat.pow_lt_pow_iff_right (by omega)).1 this
      have hbk := hb k (bit_top ht')
      have ha' : Anti A t' := fun i j hi hj hji => ha i j (by rw [bit_low (hlow i hi)]; exact hi) (by rw [bit_low (hlow j hj)]; exact hj) hji
      have := wid_ge A k (by omega) (b ||| A.getD k 0) t' ht' ha' fun i hi => by
        have hik := hlow i hi
        rw [Nat.testBit_or, hb i (by rw [bit_low hik]; exact hi), Bool.false_or]
        exact ha k i (bit_top ht') (by rw [bit_low hik]; exact hi) hik
      rw [list_add (by omega) ht', List.length_append, List.length_singleton]
      unfold wid
      rw [hbk, if_neg (by simp)]
      omega
theorem wid_ex (A : List Nat) : ∀ k, k ≤ 14 → ∀ b, ∃ t, t < 2 ^ k ∧ Anti A t ∧ (∀ i, t.testBit i = true → b.testBit i = false) ∧ (listB t).length = wid A k b
  | 0, _, b => ⟨0, by simp, fun i j h => by simp at h, fun i h => by simp at h, by simp [wid, listB]⟩
  | k + 1, hk, b => by
    have hp : 2 ^ (k + 1) = 2 ^ k + 2 ^ k := by omega
    obtain ⟨t, h1, h2, h3, h4⟩ := wid_ex A k (by omega) b
    unfold wid
    cases hbk : b.testBit k with
    | true => rw [if_pos rfl]; exact ⟨t, by omega, h2, h3, h4⟩
    | false =>
      rw [if_neg (by simp)]
      obtain ⟨u, g1, g2, g3, g4⟩ := wid_ex A k (by omega) (b ||| A.getD k 0)
      rcases Nat.lt_or_ge (wid A k b) (1 + wid A k (b ||| A.getD k 0)) with hlt | hge
      · rw [Nat.max_eq_right (by omega)]
        have hlow : ∀ i, u.testBit i = true → i < k := fun i hi => by
          have h1 := lt_bit hi
          have : 2 ^ i < 2 ^ k := by omega
          exact (Nat.pow_lt_pow_iff_right (by omega)).1 this
        have hcase : ∀ i, (2 ^ k + u).testBit i = true → i = k ∨ (i < k ∧ u.testBit i = true) := fun i hi => by
          rcases Nat.lt_trichotomy i k with h | h | h
          · right; rw [bit_low h] at hi; exact ⟨h, hi⟩
          · exact Or.inl h
          · rw [bit_high g1 h] at hi; cases hi
        refine ⟨2 ^ k + u, by omega, fun i j hi hj hji => ?_, fun i hi => ?_, ?_⟩
        · rcases hcase i hi with rfl | ⟨hik, hi'⟩
          · rcases hcase j hj with rfl | ⟨hjk, hj'⟩
            · omega
            · have := g3 j hj'
              rw [Nat.testBit_or, Bool.or_eq_false_iff] at this
              exact this.2
          · rcases hcase j hj with rfl | ⟨hjk, hj'⟩
            · omega
            · exact g2 i j hi' hj' hji
        · rcases hcase i hi with rfl | ⟨hik, hi'⟩
          · exact hbk
          · have := g3 i hi'
            rw [Nat.testBit_or, Bool.or_eq_false_iff] at this
            exact this.1
        · rw [list_add (by omega) g1, List.length_append, List.length_singleton, g4]; omega
      · rw [Nat.max_eq_left (by omega)]
        exact ⟨t, by omega, h2, h3, h4⟩
theorem wide_spec (A : List Nat) : ∀ n, (∀ s, s < n → antiB A s = true → (listB s).length ≤ (List.range n).foldl (wideStep A) 0) ∧ ((List.range n).foldl (wideStep A) 0 = 0 ∨ ∃ s, s < n ∧ antiB A s = true ∧ (listB s).length = (List.range n).foldl (wideStep A) 0)
  | 0 => ⟨fun s hs => by omega, Or.inl rfl⟩
  | n + 1 => by
    obtain ⟨h1, h2⟩ := wide_spec A n
    rw [List.range_succ, List.foldl_append]
    simp only [List.foldl_cons, List.foldl_nil]
    generalize (List.range n).foldl (wideStep A) 0 = r at *
    unfold wideStep
    split
    · rename_i hc
      refine ⟨fun s hs ha => ?_, Or.inr ⟨n, by omega, hc.2, rfl⟩⟩
      rcases Nat.lt_or_ge s n with h | h
      · have := h1 s h ha; omega
      · obtain rfl : s = n := by omega
        exact Nat.le_refl _
    · rename_i hc
      refine ⟨fun s hs ha => ?_, ?_⟩
      · rcases Nat.lt_or_ge s n with h | h
        · exact h1 s h ha
        · obtain rfl : s = n := by omega
          rcases Nat.lt_or_ge r (listB s).length with h3 | h3
          · exact (hc ⟨h3, ha⟩).elim
          · exact h3
      · rcases h2 with h2 | ⟨s, hs, ha, he⟩
        · exact Or.inl h2
        · exact Or.inr ⟨s, by omega, ha, he⟩
theorem wide_eq (A : List Nat) (n : Nat) (hn : n ≤ 14) : wid A n 0 = wide13 A n := by
  obtain ⟨h1, h2⟩ := wide_spec A (2 ^ n)
  have hp : 2 ^ n ≤ 2 ^ 14 := Nat.pow_le_pow_right (by omega) hn
  unfold wide13
  apply Nat.le_antisymm
  · obtain ⟨t, g1, g2, _, g4⟩ := wid_ex A n hn 0
    rw [← g4]
    exact h1 t g1 ((antiB_iff (by omega)).2 g2)
  · rcases h2 with h2 | ⟨s, hs, ha, he⟩
    · rw [h2]; exact Nat.zero_le _
    · rw [← he]
      exact wid_ge A n hn 0 s hs ((antiB_iff (by omega)).1 ha) fun i _ => by simp
end Go.Proofs.YtfbamjlednbdhaaDoor.V
